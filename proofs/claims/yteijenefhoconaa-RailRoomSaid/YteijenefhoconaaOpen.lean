/- What arguments read as; the last step of a law that returns true. -/
import Derived.Test.YteijenefhoconaaPost
import Derived.Test.YteijenefhoconaaTr
import Derived.Deep.SlicePairs
import Derived.SizedLaws
import Derived.Carry
import Derived.ChangeSlices
open Go Go.RowKit Go.YteijenefhoconaaIt
namespace Go.Proofs
namespace Yteijenefhoconaa
open Go.ChangeShapes Go.WideShapes Go.ChangeAt
section
variable {H : Type} {enc : TypeId × Value → H} {P : Program}
theorem spot_none {W : World} {a : Addr} {u : Value} (h : W.cell? (a.add 0) = some u) : a = ⟨a.block, a.off, none⟩ := by
  obtain ⟨b, o, s⟩ := a
  simp only [Addr.add, if_true] at h
  unfold World.cell? at h
  split at h
  · simp only at h
    cases s with
    | none => rfl
    | some x => simp at h
  · cases h
theorem add_at {b o i : Nat} : (⟨b, o, none⟩ : Addr).add i = ⟨b, o + i, none⟩ := by cases i <;> simp [Addr.add]
theorem opened_ints {W : World} {base : Nat} {t e : TypeId} {v : Value} {d : DataW H} {ps : List MemPlace} (ht : P.underlying t = some (.slice e)) (he : P.underlying e = some (.int .i64)) (hc : P.cellsOf e = 1) (hby : P.bytesOf e = 8)
    (hval : Value.okWide P W .any base t v) (hd : DataW.Trod enc P W 0 (fun _ => true) true t v d ps) (hblk : ∀ x ∈ ps, x.block < W.heap.size)
    (hreach : ∀ el sp, d = .slice el sp → (el.length + sp.length) * P.bytesOf e ≤ reachBytes) : ∃ xs : List Int, SlI W v xs ∧ ∀ n ∈ xs, (Lit.int .i64 n).wf = true := by
  obtain ⟨a0, len, cap, rfl⟩ := okWide_slice ht hval
  obtain ⟨fuel, hf⟩ := hd
  rcases open_ints ht he hc hf with ⟨hcs, hx⟩ | ⟨a, len', cap', zs, hcs, _, hl, hm, hz, hx, hcell, hwz⟩
  · simp [Value.cells] at hcs
    obtain ⟨rfl, rfl, rfl⟩ := hcs
    exact ⟨[], ⟨none, 0, rfl, by simp, fun h => by simp at h⟩, by simp⟩
  · simp [Value.cells] at hcs
    obtain ⟨rfl, rfl, rfl⟩ := hcs
    simp only [Prod.mk.injEq] at hx
    obtain ⟨rfl, rfl⟩ := hx
    simp only [if_true] at hz
    have hr := hreach _ _ rfl
    have hlen : (zs.take len).length = len := by simp; omega
    refine ⟨zs.take len, ⟨some a, cap, by rw [hlen], ?_, fun h0 => ?_⟩, fun n hn => hwz n (List.mem_of_mem_take hn)⟩
    · rw [hby] at hr
      simp only [lits, List.length_map, reachBytes] at hr
      rw [hlen] at hr ⊢
      omega
    · rw [hlen] at h0
      have hz0 : 0 < zs.length := by omega
      have hsp := spot_none (hcell 0 hz0)
      refine ⟨a.block, a.off, by rw [← hsp], ?_, fun i hi => ?_⟩
      · exact hblk (.cell a.block a.off) (MemPlace.mem_row.2 ⟨0, by omega, by simp⟩)
      · rw [hlen] at hi
        have h := hcell i (by omega)
        rw [hsp, add_at] at h
        rw [h]
        unfold at0
        simp [List.getD_eq_getElem?_getD, hi]
theorem opened_pairs {W : World} {base : Nat} {t e : TypeId} {f0 f1 : Field} {v : Value} {d : DataW H} {ps : List MemPlace} (ht : P.underlying t = some (.slice e)) (he : P.underlying e = some (.struct #[f0, f1]))
    (ce : P.cellsOf e = 2) (o0 : f0.offset = 0) (o1 : f1.offset = 1) (c0 : P.cellsOf f0.type = 1) (c1 : P.cellsOf f1.type = 1) (hf0 : P.underlying f0.type = some (.int .i64)) (hf1 : P.underlying f1.type = some (.int .i64)) (hby : P.bytesOf e = 16)
    (hval : Value.okWide P W .any base t v) (hd : DataW.Trod enc P W 0 (fun _ => true) true t v d ps) (hblk : ∀ x ∈ ps, x.block < W.heap.size)
    (hreach : ∀ el sp, d = .slice el sp → (el.length + sp.length) * P.bytesOf e ≤ reachBytes) : ∃ ts : List Tn, SlT W v ts := by
  obtain ⟨a0, len, cap, rfl⟩ := okWide_slice ht hval
  obtain ⟨fuel, hf⟩ := hd
  rcases Deep.open_slice_pairs ht he ce o0 o1 c0 c1 hf with ⟨hcs, hx⟩ | ⟨a, len', cap', m, n, V0, V1, D0, D1, P0, P1, hcs, _, hl, hm, hmm, hx, hcell⟩
  · simp [Value.cells] at hcs
    obtain ⟨rfl, rfl, rfl⟩ := hcs
    exact ⟨[], none, 0, rfl, by simp, fun h => by simp at h⟩
  · simp [Value.cells] at hcs
    obtain ⟨rfl, rfl, rfl⟩ := hcs
    simp only [Prod.mk.injEq] at hx
    obtain ⟨rfl, rfl⟩ := hx
    simp only [if_true] at hmm
    have hr := hreach _ _ rfl
    have hints : ∀ i, i < m → ∃ q : Int × Int, V0 i = .int .i64 q.1 ∧ V1 i = .int .i64 q.2 := fun i hi => by
      obtain ⟨_, _, g0, g1⟩ := hcell i hi
      obtain ⟨x0, h0, _⟩ := DataW.trod_int hf0 g0
      obtain ⟨x1, h1, _⟩ := DataW.trod_int hf1 g1
      exact ⟨(x0, x1), by simpa using h0, by simpa using h1⟩
    obtain ⟨q, hq⟩ := Deep.choose_lt hints
    refine ⟨(List.range len).map q, some a, cap, by simp, ?_, fun h0 => ?_⟩
    · rw [hby] at hr
      simp only [List.length_map, List.length_range, reachBytes] at hr ⊢
      omega
    · simp only [List.length_map, List.length_range] at h0 ⊢
      have hsp := spot_none (a := a) (by simpa using (hcell 0 (by omega)).1)
      refine ⟨a.block, a.off, by rw [← hsp], ?_, fun i hi => ?_⟩
      · exact hblk (.cell a.block a.off) (List.mem_append_left _ (MemPlace.mem_row.2 ⟨0, by omega, by simp⟩))
      · have h := hcell i (by omega)
        rw [hsp, add_at, add_at] at h
        rw [← Nat.add_assoc] at h
        have e1 : tAt ((List.range len).map q) i = (q i).1 := by simp [tAt, hi]
        have e2 : tTo ((List.range len).map q) i = (q i).2 := by simp [tTo, hi]
        rw [e1, e2, h.1, h.2.1, (hq i (by omega)).1, (hq i (by omega)).2]
        exact ⟨rfl, rfl⟩
/-- All arguments read behind the call as they did before. -/
theorem trodAll_stays (hl : laidOutB P = true) {W W' : World} (hb : Below W.heap.size W W') {sp : Nat → Bool} : ∀ {ts : List TypeId} {vs : List Value} {ds : List (DataW H)} {ps : List MemPlace},
    (∀ t ∈ ts, P.readableRec t = true ∧ t < P.types.size) → DataW.TrodAll enc P W 0 (fun _ => true) true ts vs ds ps → (∀ x ∈ ps, x.block < W.heap.size) → (∀ x ∈ ps, sp x.block = true) → DataW.TrodAll enc P W' 0 sp true ts vs ds ps
  | [], vs, ds, ps, _, h, _, _ => by
    obtain ⟨rfl, rfl, rfl⟩ := trodAll_nil h
    rfl
  | t :: ts, vs, ds, ps, hr, h, hlt, hs => by
    obtain ⟨v, vs', d, ds', p, q, rfl, rfl, rfl, h1, h2⟩ := trodAll_cons h
    have ht := hr t (by simp)
    refine trodAll_cons_mk (WideElems.Trod_stays hl ht.1 ht.2 h1 (fun x hx => hb.same (hlt x (by simp [hx]))) (fun x hx => hs x (by simp [hx]))) ?_
    exact trodAll_stays hl hb (fun t' h' => hr t' (by simp [h'])) h2 (fun x hx => hlt x (by simp [hx])) (fun x hx => hs x (by simp [hx]))
end
end Yteijenefhoconaa
end Go.Proofs
