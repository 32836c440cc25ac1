/- The trains of a state. -/
import Derived.Test.YteijenefhoconaaMove
open Go Go.RowKit Go.YteijenefhoconaaIt
namespace Go.Proofs
namespace Yteijenefhoconaa

def tsOf (A T : List Int) : List Tn := (List.range T.length).map fun i => (at0 A i, at0 T i)
theorem tsOf_len (A T : List Int) : (tsOf A T).length = T.length := by simp [tsOf]
def flat (ts : List Tn) : List Value := ts.flatMap fun x => [.int .i64 x.1, .int .i64 x.2]
theorem flat_len (ts : List Tn) : (flat ts).length = ts.length * 2 := by
  induction ts with
  | nil => rfl
  | cons x ts ih => simp [flat] at ih ⊢; omega
theorem flat_at (ts : List Tn) : ∀ i, i < ts.length → (flat ts)[i * 2]? = some (.int .i64 (tAt ts i)) ∧ (flat ts)[i * 2 + 1]? = some (.int .i64 (tTo ts i)) := by
  induction ts with
  | nil => intro i hi; simp at hi
  | cons x ts ih =>
    intro i hi
    cases i with
    | zero => simp [flat, tAt, tTo]
    | succ i =>
      have h := ih i (by simpa using hi)
      have e1 : (i + 1) * 2 = i * 2 + 2 := by omega
      rw [e1]
      simpa [flat, tAt, tTo] using h
theorem flat_take {ts : List Tn} {k : Nat} (hk : k < ts.length) : flat (ts.take k) ++ [.int .i64 (tAt ts k), .int .i64 (tTo ts k)] = flat (ts.take (k + 1)) := by
  rw [List.take_succ_eq_append_getElem hk, tAt_lt hk, tTo_lt hk]
  simp only [flat, List.flatMap_append, List.flatMap_cons, List.flatMap_nil, List.append_nil]
theorem slT_own {W : World} {base : Nat} {v : Value} {ts : List Tn} (h : W.ownsRow base 69 2 v ts.length (flat ts)) (hm : ts.length ≤ 8796093022208) : SlT W v ts := by
  rcases Joins.ownsRow_forms h with ⟨rfl, h0⟩ | ⟨g, cap, rfl⟩
  · exact ⟨none, 0, by rw [h0], hm, fun h1 => by omega⟩
  · have hl := h.lt g rfl
    refine ⟨_, cap, rfl, hm, fun _ => ⟨g, 0, rfl, hl.2, fun i hi => ?_⟩⟩
    have f := flat_at ts i hi
    have c1 := h.cellAt (i * 2) (by omega)
    have c2 := h.cellAt (i * 2 + 1) (by omega)
    rw [Nat.zero_add]
    exact ⟨c1.trans f.1, c2.trans f.2⟩
theorem cell_new2 {W : World} {x y : Value} {t : TypeId} {g : Nat} (hg : g = W.heap.size) : ∀ j u, [x, y][j]? = some u → (W.alloc (.cells #[x, y] t)).cell? ((⟨g, 0, none⟩ : Addr).add j) = some u := by
  subst hg
  intro j u h
  match j with
  | 0 => simp at h; subst h; simp [Addr.add]
  | 1 => simp at h; subst h; simp [Addr.add]
  | j + 2 => simp at h
theorem grown_below1 {W W' X : World} {o : Obj} {v : Value} {B n m : Nat} {xs : List Value} {e : TypeId} {sz : Nat} (h : (W.alloc o).grownBy W' v.ownBlock) (ho : W.ownsRow B e sz v n xs) (hb : m ≤ B) (hB : B ≤ W.heap.size) (hx : Below m X W) : Below m X W' := by
  have hsz : (W.alloc o).heap.size = W.heap.size + 1 := by rw [World.size_alloc]
  refine ⟨h.os.trans hx.os, h.tape.trans hx.tape, h.output.trans hx.output, Nat.le_trans hx.size (Nat.le_trans (by omega) h.size), fun k hk => ?_⟩
  rw [h.block k (by omega) (fun h2 => by have := (ho.lt k h2.symm).1; omega), heap_oldI (by omega)]
  exact hx.block k hk
theorem info69 : (Try.prog.info? 69).map (fun i => (i.zero, i.size, i.bytes)) = some (some (.agg #[.int .i64 0, .int .i64 0]), 2, 16) := by kernel_rfl

set_option maxRecDepth 100000 in
set_option maxHeartbeats 4000000 in
theorem trains_any (bx bm : Nat) (vL vT : Value) (L T A : List Int) (w : World) (hA : A.length = 5) (hT5 : T.length ≤ 5) (hT : Tk w bx bm vL vT L T) :
    Calls Try.prog 60 #[.pointer (some ⟨bx, 0, none⟩), .agg (arr A)] w fun e w' => ∃ v, e = .returned v ∧ SlT w' v (tsOf A T) ∧ Below w.heap.size w w' := by
  obtain ⟨ad, capT, rfl, hmT, hcT⟩ := hT.st
  have c1 := cell_blk (i := 1) hT.blk
  simp at c1
  have hbx := lt_blk hT.blk
  obtain ⟨n, hn⟩ : ∃ n, n = T.length := ⟨_, rfl⟩
  rw [← hn] at c1 hcT hT5
  have HN := Lib.hid hn
  clear hT hmT
  clear hn
  obtain ⟨i6, hi6, hz1, hz2, hz3⟩ := info_parts info69
  go_enter Try.func60, Try.ntmps60
  iterate 2
    refine wp_seq_k (fun K hK => ?_)
    have HK := Lib.hid hK; clear hK
    go_wp2
    refine HK.out _ _ ?_; clear HK K
  generalize hw1 : World.alloc _ _ = w1
  have bA : w1.heap[w.heap.size]? = some (.cells (arr A) 84 (0, 0)) := by rw [← hw1]; exact heap_newI rfl
  have hb1 : Below w.heap.size w w1 := by rw [← hw1]; go_grown
  have hs1 : w.heap.size + 1 ≤ w1.heap.size := by rw [← hw1]; simp
  clear hw1
  have d1 := (hb1.cell (p := ⟨bx, 1, none⟩) hbx).trans c1
  refine wp_seq_k (fun K hK => ?_)
  have HK := Lib.hid hK; clear hK
  go_wp2
  go_loopw [5, 13] (fun v i wr => ∃ k : Nat, k ≤ n ∧ i = .int .i64 k ∧ Below w1.heap.size w1 wr ∧ wr.ownsRow w1.heap.size 69 2 v k (flat ((tsOf A T).take k))) (fun _ i _ => n - (intOf i).toNat)
  case atStart => exact ⟨0, Nat.zero_le _, rfl, Below.refl _ _, World.ownsRow_nil _ _ _ _⟩
  case round =>
    obtain ⟨k, hk, rfl, hb, ho⟩ := hrel
    have hsz := hb.size
    by_cases hkn : k < n
    · obtain ⟨b, off, rfl, hlt, hcell⟩ := hcT (by omega)
      have d3 := (hb.cell (p := ⟨b, off + k, none⟩) (Nat.lt_of_lt_of_le hlt hb1.size)).trans ((hb1.cell (p := ⟨b, off + k, none⟩) hlt).trans (hcell k hkn))
      have dA := (hb.cell (p := ⟨w.heap.size, k, none⟩) (lt_blk bA)).trans ((cell_blk (i := k) bA).trans (arr_get (by omega)))
      have hk5 : k < 5 := by omega
      have hkt : k < (tsOf A T).length := by rw [tsOf_len, ← HN.out]; exact hkn
      have hft := flat_take hkt
      have ht1 : tAt (tsOf A T) k = at0 A k := by rw [tAt_lt hkt]; simp [tsOf]
      have ht2 : tTo (tsOf A T) k = at0 T k := by rw [tTo_lt hkt]; simp [tsOf]
      rw [ht1, ht2] at hft
      have HF := Lib.hid hft
      clear hft ht1 ht2 hcell hcT hkt
      go_wp2_with (at_builtin; refine wpList_append_own _ rfl _ _ 24 rfl w1.heap.size 69 i6 (.agg #[.int .i64 0, .int .i64 0]) 2 16 Try.underlying24 hi6 hz1 hz2 hz3 rfl (by decide) _ _ _ rfl (ho.alloc _) ⟨wr.heap.size, 0, none⟩ 1 1 [.int .i64 (at0 A k), .int .i64 (at0 T k)] rfl rfl (cell_new2 rfl) (fun x hx => by simp at hx; rcases hx with rfl | rfl <;> rfl) (Nat.le_trans (by omega : k + 1 ≤ 6) (by decide)) (by omega) (by rw [World.size_alloc]; omega) ?_; intro v' w6 r1 r2 _)
      go_roundw
      case rel => exact ⟨k + 1, by omega, by go_num, grown_below1 r2 ho (Nat.le_refl _) hsz hb, by rw [← HF.out]; exact r1⟩
      case measure => simp [intOf]; omega
    · have hkn2 : k = n := by omega
      go_wp2
      refine HK.out _ _ ?_
      go_wp2
      go_ret
      refine ⟨_, rfl, ?_, hb1.trans (hb.mono (by omega))⟩
      rw [hkn2, HN.out, ← tsOf_len A T, List.take_of_length_le (Nat.le_refl _)] at ho
      exact slT_own ho (by rw [tsOf_len, ← HN.out]; omega)
end Yteijenefhoconaa
end Go.Proofs
