/- What the arguments of TopHauled read as. -/
import Derived.Test.YtnihopdglkhbnaaAsk
import Derived.Deep.SlicePairs
import Derived.SizedLaws
import Derived.Carry
import Derived.ChangeSlices
import Derived.Deep.Strs
import Derived.Laws.IdiomArrays
open Go Go.RowKit Go.YtnihopdglkhbnaaIt
namespace Go.Proofs
namespace Ytnihopdglkhbnaa
open Go.ChangeShapes Go.WideShapes Go.ChangeAt
theorem wf_u8 {n : Int} (h : (Lit.int .u8 n).wf = true) : 0 ≤ n ∧ n < 256 := by
  simp [Lit.wf, IntKind.min, IntKind.max, IntKind.signed, IntKind.bits] at h
  omega
section
variable {H : Type} {enc : TypeId × Value → H}
theorem spot_none {W : World} {a : Addr} {u : Value} (h : W.cell? (a.add 0) = some u) : a = ⟨a.block, a.off, none⟩ := by
  obtain ⟨b, o, s⟩ := a
  simp only [Addr.add, if_true] at h
  unfold World.cell? at h
  split at h
  · simp only at h
    cases s with
    | none => rfl
    | some x => simp at h
  · cases h
theorem trodAll_stays {P : Program} (hl : laidOutB P = true) {W W' : World} (hb : Below W.heap.size W W') {sp : Nat → Bool} : ∀ {ts : List TypeId} {vs : List Value} {ds : List (DataW H)} {ps : List MemPlace},
    (∀ t ∈ ts, P.readableRec t = true ∧ t < P.types.size) → DataW.TrodAll enc P W 0 (fun _ => true) true ts vs ds ps → (∀ x ∈ ps, x.block < W.heap.size) → (∀ x ∈ ps, sp x.block = true) → DataW.TrodAll enc P W' 0 sp true ts vs ds ps
  | [], vs, ds, ps, _, h, _, _ => by
    obtain ⟨rfl, rfl, rfl⟩ := trodAll_nil h
    rfl
  | t :: ts, vs, ds, ps, hr, h, hlt, hs => by
    obtain ⟨v, vs', d, ds', p, q, rfl, rfl, rfl, h1, h2⟩ := trodAll_cons h
    have ht := hr t (by simp)
    refine trodAll_cons_mk (WideElems.Trod_stays hl ht.1 ht.2 h1 (fun x hx => hb.same (hlt x (by simp [hx]))) (fun x hx => hs x (by simp [hx]))) ?_
    exact trodAll_stays hl hb (fun t' h' => hr t' (by simp [h'])) h2 (fun x hx => hlt x (by simp [hx])) (fun x hx => hs x (by simp [hx]))
theorem one5 : Try.prog.cellsOf 5 = 1 := by kernel_rfl
set_option maxRecDepth 100000 in
theorem opened_u8s {W : World} {base : Nat} {v : Value} {d : DataW H} {ps : List MemPlace} (hval : Value.okWide Try.prog W .any base 24 v) (hd : DataW.Trod enc Try.prog W 0 (fun _ => true) true 24 v d ps) (hblk : ∀ x ∈ ps, x.block < W.heap.size) :
    ∃ os : List Int, SlY W v os := by
  obtain ⟨a0, len, cap, rfl⟩ := okWide_slice Try.underlying24 hval
  obtain ⟨fuel, hf⟩ := hd
  rcases open_ints Try.underlying24 Try.underlying5 one5 hf with ⟨hcs, hx⟩ | ⟨a, len', cap', zs, hcs, _, hl, hm, hz, hx, hcell, hwz⟩
  · simp [Value.cells] at hcs
    obtain ⟨rfl, rfl, rfl⟩ := hcs
    exact ⟨[], ⟨none, 0, rfl, by simp, fun h => by simp at h⟩, fun i hi => by simp at hi⟩
  · simp [Value.cells] at hcs
    obtain ⟨rfl, rfl, rfl⟩ := hcs
    simp only [Prod.mk.injEq] at hx
    obtain ⟨rfl, rfl⟩ := hx
    simp only [if_true] at hz
    have hlen : (zs.take len).length = len := by simp; omega
    have hat : ∀ i, i < len → at0 (zs.take len) i = zs.getD i 0 := fun i hi => by
      unfold at0
      simp [List.getD_eq_getElem?_getD, hi]
    refine ⟨zs.take len, ⟨some a, cap, by rw [hlen], ?_, fun h0 => ?_⟩, fun i hi => ?_⟩
    · rw [hlen]
      have : maxLen = 9223372036854775807 := by decide
      omega
    · rw [hlen] at h0
      have hz0 : 0 < zs.length := by omega
      have hsp := spot_none (hcell 0 hz0)
      refine ⟨a.block, a.off, by rw [← hsp], ?_, fun i hi => ?_⟩
      · exact hblk (.cell a.block a.off) (MemPlace.mem_row.2 ⟨0, by omega, by simp⟩)
      · rw [hlen] at hi
        have h := hcell i (by omega)
        rw [hsp, add_at] at h
        rw [h, hat i hi]
    · rw [hlen] at hi
      rw [hat i hi]
      have h := hwz (zs.getD i 0) (by rw [List.getD_eq_getElem?_getD, List.getElem?_eq_getElem (by omega)]; exact List.getElem_mem _)
      exact wf_u8 h
theorem three43 : Try.prog.cellsOf 43 = 3 := by kernel_rfl
theorem trod_t3 {W : World} {fuel : Nat} {cs : List Value} {x : DataW H × List MemPlace} (hc : cs.length = 3) (h : DataW.trod enc Try.prog W 0 (fun _ => true) true fuel 43 cs = some x) : ∃ q : T3, cs = encT3 q ∧ q.ok := by
  match cs, hc with
  | [a, b, c], _ =>
    obtain ⟨y0, y1, y2, n, _, h0, h1, h2⟩ := trod_array3 Try.underlying43 one5 h
    obtain ⟨p0, e0, _, w0⟩ := DataW.trod_int Try.underlying5 h0
    obtain ⟨p1, e1, _, w1⟩ := DataW.trod_int Try.underlying5 h1
    obtain ⟨p2, e2, _, w2⟩ := DataW.trod_int Try.underlying5 h2
    simp at e0 e1 e2
    subst e0 e1 e2
    exact ⟨⟨p0, p1, p2⟩, rfl, wf_u8 w0, wf_u8 w1, wf_u8 w2⟩
set_option maxRecDepth 100000 in
theorem trod_ts {W : World} {fuel : Nat} {cs : List Value} {x : DataW H × List MemPlace} (h : DataW.trod enc Try.prog W 0 (fun _ => true) true fuel 22 cs = some x) (hblk : ∀ y ∈ x.2, y.block < W.heap.size) : ∃ v qs, cs = [v] ∧ (∀ q ∈ qs, q.ok) ∧ SlT3 W v qs := by
  rcases Deep.open_slice Try.underlying22 h with ⟨rfl, rfl⟩ | ⟨a, len, cap, m, n, D, Pl, rfl, _, hl, hm, hmm, rfl, hx⟩
  · exact ⟨_, [], rfl, by simp, none, 0, rfl, by simp, fun h => by simp at h⟩
  · simp only [if_true] at hmm
    have each : ∀ i, i < m → ∃ q : T3, q.ok ∧ W.cell? (a.add (i * 3)) = some (.int .u8 q.a) ∧ W.cell? (a.add (i * 3 + 1)) = some (.int .u8 q.b) ∧ W.cell? (a.add (i * 3 + 2)) = some (.int .u8 q.c) := by
      intro i hi
      obtain ⟨cs', h1, h2⟩ := hx i hi
      rw [three43] at h1
      obtain ⟨_, hcl, hcell⟩ := World.cells?_some h1
      obtain ⟨q, rfl, hq⟩ := trod_t3 hcl h2
      have k0 := hcell 0 (by omega)
      have k1 := hcell 1 (by omega)
      have k2 := hcell 2 (by omega)
      rw [Deep.add_add] at k0 k1 k2
      exact ⟨q, hq, by simpa [encT3] using k0, by simpa [encT3] using k1, by simpa [encT3] using k2⟩
    obtain ⟨q, hq⟩ := Deep.choose_lt each
    have hmx : maxLen = 9223372036854775807 := by decide
    refine ⟨_, (List.range len).map q, rfl, ?_, some a, cap, by simp, by simp only [List.length_map, List.length_range]; omega, fun h0 => ?_⟩
    · intro z hz
      obtain ⟨i, hi, rfl⟩ := List.mem_map.1 hz
      exact (hq i (by have := List.mem_range.1 hi; omega)).1
    · simp only [List.length_map, List.length_range] at h0 ⊢
      have hsp := spot_none (a := a) (by simpa using (hq 0 (by omega)).2.1)
      refine ⟨a.block, a.off, by rw [← hsp], ?_, fun i hi f u hu => ?_⟩
      · refine hblk (.cell a.block a.off) (List.mem_append_left _ ?_)
        rw [three43]
        exact MemPlace.mem_row.2 ⟨0, by omega, by simp⟩
      · have h := (hq i (by omega)).2
        rw [hsp, add_at, add_at, add_at] at h
        rw [List.getElem_map, List.getElem_range] at hu
        obtain ⟨g0, g1, g2⟩ := h
        match f, hu with
        | 0, hu => simp [encT3] at hu; subst hu; exact g0
        | 1, hu => simp [encT3] at hu; subst hu; rw [Nat.add_assoc]; exact g1
        | 2, hu => simp [encT3] at hu; subst hu; rw [Nat.add_assoc]; exact g2
        | f + 3, hu => simp [encT3] at hu
set_option maxRecDepth 100000 in
theorem opened_triples {W : World} {base : Nat} {v : Value} {d : DataW H} {ps : List MemPlace} (hval : Value.okWide Try.prog W .any base 22 v) (hd : DataW.Trod enc Try.prog W 0 (fun _ => true) true 22 v d ps) (hblk : ∀ x ∈ ps, x.block < W.heap.size) :
    ∃ os : List T3, (∀ q ∈ os, q.ok) ∧ SlT3 W v os := by
  obtain ⟨a0, len, cap, rfl⟩ := okWide_slice Try.underlying22 hval
  obtain ⟨fuel, hf⟩ := hd
  obtain ⟨v, os, hv, h⟩ := trod_ts hf hblk
  simp [Value.cells] at hv
  subst hv
  exact ⟨os, h⟩
theorem okWide_arr {P : Program} {w : World} {r : Reach} {base : Nat} {t e : TypeId} {n : Nat} {v : Value} (ht : P.underlying t = some (.array n e)) (h : Value.okWide P w r base t v) : ∃ cs, v = .agg cs ∧ cs.size = P.cellsOf t := by
  simp only [Value.okWide, ht] at h
  obtain ⟨cs, h1, h2, _⟩ := h
  exact ⟨cs, h1, h2⟩
set_option maxRecDepth 100000 in
theorem opened_six {W : World} {base : Nat} {v : Value} {d : DataW H} {ps : List MemPlace} (hval : Value.okWide Try.prog W .any base 23 v) (hd : DataW.Trod enc Try.prog W 0 (fun _ => true) true 23 v d ps) :
    ∃ r1 r2 r3 r4 r5 r6 : Int, v = .agg #[.int .u8 r1, .int .u8 r2, .int .u8 r3, .int .u8 r4, .int .u8 r5, .int .u8 r6] ∧ ∀ x ∈ [r1, r2, r3, r4, r5, r6], 0 ≤ x ∧ x < 256 := by
  obtain ⟨cs, rfl, hcs⟩ := okWide_arr Try.underlying23 hval
  have hc23 : Try.prog.cellsOf 23 = 6 := by kernel_rfl
  rw [hc23] at hcs
  obtain ⟨fuel, hf⟩ := hd
  obtain ⟨l⟩ := cs
  simp only [Value.cells, List.size_toArray] at hcs hf
  match l, hcs with
  | [c0, c1, c2, c3, c4, c5], _ =>
    obtain ⟨zs, k, _, _, _, hzl, hz⟩ := DataW.trod_array Try.underlying23 hf
    have each : ∀ i, i < 6 → ∃ (r : Int), ([c0, c1, c2, c3, c4, c5].drop i).take 1 = [.int .u8 r] ∧ (0 ≤ r ∧ r < 256) := fun i hi => by
      have g := hz i hi
      rw [one5, Nat.mul_one, List.getElem?_eq_getElem (by omega)] at g
      obtain ⟨r, e, _, w⟩ := DataW.trod_int Try.underlying5 g
      exact ⟨r, e, wf_u8 w⟩
    obtain ⟨r0, e0, b0⟩ := each 0 (by omega)
    obtain ⟨r1, e1, b1⟩ := each 1 (by omega)
    obtain ⟨r2, e2, b2⟩ := each 2 (by omega)
    obtain ⟨r3, e3, b3⟩ := each 3 (by omega)
    obtain ⟨r4, e4, b4⟩ := each 4 (by omega)
    obtain ⟨r5, e5, b5⟩ := each 5 (by omega)
    simp at e0 e1 e2 e3 e4 e5
    subst e0 e1 e2 e3 e4 e5
    refine ⟨r0, r1, r2, r3, r4, r5, rfl, fun x hx => ?_⟩
    simp at hx
    rcases hx with rfl | rfl | rfl | rfl | rfl | rfl <;> assumption
end
end Ytnihopdglkhbnaa
end Go.Proofs
