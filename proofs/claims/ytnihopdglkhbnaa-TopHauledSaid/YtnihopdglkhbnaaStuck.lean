/- Safe and Stuck. -/
import Derived.Test.YtnihopdglkhbnaaMv
open Go Go.RowKit Go.YtnihopdglkhbnaaIt
namespace Go.Proofs
namespace Ytnihopdglkhbnaa
set_option maxRecDepth 100000 in
set_option maxHeartbeats 4000000 in
theorem safeX_any (vL vt : Value) (L : List Int) (ts : List Tn) (w : World) (hL : SlI w vL L) (ht : SlT w vt ts) :
    Calls Try.prog 6 #[vL, vt] w fun e w' => e = .returned (.tuple #[.bool (if lineE L ts ≠ 0 then false else safeB L (tos ts) (pos ts)), .int .i64 (lineE L ts)]) ∧ Below w.heap.size w w' := by
  have h48 := track_any vL vt L ts w hL ht
  have H := Lib.hid h48
  clear h48
  have hP : (arr (pos ts)).size = 5 := by rw [arr_size]; exact posK_len _ _
  go_enter Try.func6, Try.ntmps6
  iterate 2
    refine wp_seq_k (fun K hK => ?_)
    have HK := Lib.hid hK; clear hK
    go_wp2_with (first | (refine wpList_store_blk rfl 49 _ _ rfl _ rfl rfl (heap_newI rfl) size84 (by first | exact (arr_size _).trans hA | exact hP) rfl (arr_one _) ?_) | (go_at_call 11; refine H.out.mono ?_; rintro e w2 ⟨hb2, hcs⟩; rcases hcs with ⟨hne, A, hA, rfl⟩ | ⟨he, bx, bm, vT, rfl, hT2, hM2, hbm⟩))
    all_goals refine HK.out _ _ ?_; clear HK K
  · have hneb : (lineE L ts != 0) = true := bne_iff_ne.2 hne
    rw [if_pos hne]
    go_wp2
    go_ret2
    exact ⟨rfl, below_putObj (hb2.alloc hb2.size _) hb2.size⟩
  generalize hw3 : World.putObj _ _ _ = w3
  have b7 : w3.heap[w2.heap.size]? = some (.cells (arr (pos ts)) 49 (0, 0)) := by rw [← hw3]; exact World.putObj_heap_same (by rw [World.size_alloc]; omega)
  have hbf : Below w2.heap.size w2 w3 := by rw [← hw3]; exact below_putObj ((Below.refl _ _).alloc (Nat.le_refl _) _) (Nat.le_refl _)
  have hB3 : Below w.heap.size w w3 := hb2.trans (hbf.mono hb2.size)
  have hT3 : Tk w3 bx bm vL vT L (tos ts) := hT2.below hbf (Nat.le_refl _)
  have hM3 : Memo w3 bm (GSafe L (tos ts)) := hM2.below hbf hM2.lt
  clear hw3
  have h49 := safe_any bx bm vL vT L (tos ts) (pos ts) w3 (okt_of he) hT3 hM3
  rw [if_neg (by rw [he]; decide)]
  rw [he]
  obtain ⟨sb, hsb⟩ : ∃ sb, sb = safeB L (tos ts) (pos ts) := ⟨_, rfl⟩
  rw [← hsb] at h49 ⊢
  clear hsb
  go_wp2_with (first
    | (go_at_call 12; refine h49.mono ?_; rintro e w4 ⟨rfl, -, hb4⟩)
    | (refine wpList_load_blk rfl 49 _ rfl _ rfl b7 Try.underlying49 rfl size84 hP ?_))
  go_ret2
  exact ⟨rfl, hB3.trans ⟨hb4.os, hb4.tape, hb4.output, hb4.size, fun k hk => hb4.block k (Nat.lt_of_lt_of_le hk hB3.size) (by omega)⟩⟩
end Ytnihopdglkhbnaa
end Go.Proofs

