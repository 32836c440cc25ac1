/- A state that can be kept for ever with some room: the closure of YardRoom. -/
import Derived.Test.YtndmjginmomfiaaWorks
import Derived.Test.YtndmjginmomfiaaGenE
open Go Go.RowKit Go.YtndmjginmomfiaaIt
namespace Go.Proofs
namespace Ytndmjginmomfiaa
/-- The yard with another room. -/
def wrI (y : Yd) (r : Int) : Yd := ⟨r, y.most, y.lots, y.ws⟩
def everI (y : Yd) (s m r : Int) : Bool := decide (stE (wrI y r) s m = 0) && decide (termE (wrI y r) s m = 1125899906842624)
set_option maxRecDepth 100000 in
set_option maxHeartbeats 2000000 in
theorem ever38_any (y : Yd) (v : Value) (r s m : Int) (bY bs bm : Nat) (w : World) (hw : SlW w v y.ws) (h1 : w.heap[bY]? = some (.cells (encY y v) 24 (0, 0))) (h2 : w.heap[bs]? = some (.cells #[.int .i64 s] 3 (0, 0))) (h3 : w.heap[bm]? = some (.cells #[.int .i64 m] 3 (0, 0))) :
    Calls Try.prog 38 #[.int .i64 r, .pointer (some ⟨bY, 0, none⟩), .pointer (some ⟨bs, 0, none⟩), .pointer (some ⟨bm, 0, none⟩)] w fun e w' => e = .returned (.bool (everI y s m r)) ∧ Below w.heap.size w w' := by
  have hy4 : (encY y v).size = 4 := rfl
  have hr4 : (encY (wrI y r) v).size = 4 := rfl
  have HT := Lib.hid (fun W (hW : Below w.heap.size w W) => termX_any (wrI y r) v s m W (hw.below (w' := W) hW (Nat.le_refl _)))
  have ho1 : (encY y v).all (·.oneCell') = true := by obtain ⟨ad, cap, rfl, -⟩ := hw; simp [encY, Value.oneCell']
  unfold everI
  go_enter Try.func38, Try.ntmps38
  refine wp_seq_k (fun K hK => ?_)
  have HK := Lib.hid hK; clear hK
  go_wp2
  refine HK.out _ _ ?_; clear HK K
  refine wp_seq_k (fun K hK => ?_)
  have HK := Lib.hid hK; clear hK
  go_wp2_with (first | (refine wpList_load_blk rfl 24 _ rfl _ rfl h1 Try.underlying24 rfl size24 hy4 ?_) | (refine wpList_store_blk rfl 24 _ _ rfl _ rfl rfl (heap_newI rfl) size24 hy4 rfl ho1 ?_))
  refine HK.out _ _ ?_; clear HK K
  generalize hwA : World.putObj _ _ _ = wA
  have bz : wA.heap[w.heap.size]? = some (.cells (encY y v) 24 (0, 0)) := by rw [← hwA]; exact World.putObj_heap_same (by rw [World.size_alloc]; omega)
  have hB : Below w.heap.size w wA := by rw [← hwA]; exact below_putObj ((Below.refl _ _).alloc (Nat.le_refl _) _) (Nat.le_refl _)
  clear hwA
  have cz := cell_blk (i := 0) bz
  have fz := free_blk (i := 0) bz
  simp only [encY, List.getElem?_toArray, List.getElem?_cons_zero] at cz
  have hlz := lt_blk bz
  refine wp_seq_k (fun K hK => ?_)
  have HK := Lib.hid hK; clear hK
  go_wp2
  refine HK.out _ _ ?_; clear HK K
  generalize hwB : World.setCell _ _ _ = wB
  have bz2 : wB.heap[w.heap.size]? = some (.cells (encY (wrI y r) v) 24 (0, 0)) := by rw [← hwB, heap_set_blk bz]; rfl
  have hB2 : Below w.heap.size w wB := by rw [← hwB]; exact hB.setCell (by simp) _
  clear hwB cz fz bz hB hlz wA
  have h2' := cell_blk (i := 0) (blk_keep h2 hB2)
  have h3' := cell_blk (i := 0) (blk_keep h3 hB2)
  simp only [List.getElem?_toArray, List.getElem?_cons_zero] at h2' h3'
  have ht := HT.out wB hB2
  generalize stE (wrI y r) s m = E at *
  generalize termE (wrI y r) s m = T at *
  refine wp_seq_k (fun K hK => ?_)
  have HK := Lib.hid hK; clear hK
  go_wp2_with (first | (refine wpList_load_blk rfl 24 _ rfl _ rfl bz2 Try.underlying24 rfl size24 hr4 ?_) | (go_at_call 18; refine ht.mono ?_; rintro e w3 ⟨rfl, hb3⟩))
  refine HK.out _ _ ?_; clear HK K
  have hB3 := btr hB2 hb3 (Nat.le_refl _)
  clear ht h2' h3' bz2
  by_cases hE : E = 0
  · subst hE
    go_wp2
    go_ret
    exact ⟨by by_cases hT : T = 1125899906842624 <;> simp [hT], hB3⟩
  · have hE2 : (E == 0) = false := by simp [hE]
    go_wp2
    go_ret
    exact ⟨by simp [hE], hB3⟩
end Ytndmjginmomfiaa
end Go.Proofs
