/- Fields: the greatest one of two fractions, by a comparison. -/
import Derived.Test.YtgnjeefanbcbkaaA3
open Go Go.RowKit Go.YtgnjeefanbcbkaaIt
namespace Go.Proofs
namespace Ytgnjeefanbcbkaa
/-- A slice with one fraction. -/
theorem cmp_pos (x y : Fr) : (cmpI x y > 0) ↔ y.o * x.u < x.o * y.u := by
  unfold cmpI; split <;> (try split) <;> omega
theorem cmp_neg (x y : Fr) : (cmpI x y < 0) ↔ x.o * y.u < y.o * x.u := by
  unfold cmpI; split <;> (try split) <;> omega
set_option maxRecDepth 100000 in
set_option maxHeartbeats 4000000 in
theorem best_any (x y : Fr) (g c : Nat) (w : World) (hx : Big x) (hy : Big y) (hg : w.rangeAt g 0 [.int .i64 y.o, .int .i64 y.u]) (hl : g < w.heap.size) :
    Calls Try.prog 73 #[.func (.func 63) #[] #[], enc x, .slice (some ⟨g, 0, none⟩) 1 c] w fun e w' => e = .returned (enc (most x y)) ∧ Below w.heap.size w w' := by
  have h63 := fun W => compare_any y x W hy hx
  have hc : decide (cmpI y x > 0) = x.lt y := by unfold Fr.lt; rw [decide_eq_decide]; exact cmp_pos y x
  unfold most
  obtain ⟨t, ht⟩ : ∃ t, t = x.lt y := ⟨_, rfl⟩
  rw [← ht] at hc ⊢
  generalize cmpI y x = cc at *
  have HC := Lib.hid hc
  have H63 := Lib.hid h63
  clear ht h63 hx hy hc
  go_enter Try.func73, Try.ntmps73
  refine wp_seq_k (fun K hK => ?_)
  have HK := Lib.hid hK; clear hK
  go_wp2
  refine HK.out _ _ ?_; clear HK K
  generalize hw1 : World.alloc _ _ = w1
  obtain ⟨b1, b2, hB, hs1⟩ := blk2 hw1
  clear hw1
  have hGG : Hid (∀ W, Below w.heap.size w W → W.rangeAt g 0 [.int .i64 y.o, .int .i64 y.u]) := Lib.hid fun W hW j v hv => (hW.cell (p := ⟨g, 0 + j, none⟩) hl).trans (hg j v hv)
  have hl3 := lt_blk b2
  clear hg
  go_wp2
  go_loopw [11] (fun i wr => ∃ k : Nat, k ≤ 1 ∧ i = .int .i64 k ∧ wr.heap[w.heap.size]? = some (.cells #[.int .i64 (if k = 0 then x else if t then y else x).o, .int .i64 (if k = 0 then x else if t then y else x).u] 93 (0, 0)) ∧ wr.heap[w.heap.size + 1]? = some (.cells #[.int .i64 0, .int .i64 0] 93 (0, 0)) ∧ Below w.heap.size w wr) (fun i _ => 1 - (intOf i).toNat)
  case atStart => exact ⟨0, by omega, rfl, b1, b2, hB⟩
  case round =>
    clear b1 b2
    obtain ⟨k, hk, rfl, b1, b2, hBr⟩ := hrel
    by_cases hk0 : k = 0
    · subst hk0
      simp only [if_true] at b1
      have hg' := hGG.out wr hBr
      have b1o := fun o => (heap_oldI (w := wr) (o := o) (lt_blk b1)).trans b1
      have hc := HC.out
      have hBn := fun o => (Below.refl wr.heap.size wr).alloc (Nat.le_refl _) o
      cases t
      · simp only [Bool.false_eq_true, if_false]
        go_wp2_with (first | (refine wpList_load_mid rfl 93 _ rfl _ _ rfl _ _ hg' Try.underlying93 rfl size93 ?_) | (refine wpList_load_blk rfl 93 _ rfl _ rfl (b1o _) Try.underlying93 rfl size93 rfl ?_) | (refine wpList_load_blk rfl 93 _ rfl _ rfl (heap_newI rfl) Try.underlying93 rfl size93 rfl ?_) | (go_at_call 63; refine (H63.out _).mono ?_; rintro e w2 ⟨rfl, hb2⟩; have hb3 := (hBn _).trans (hb2.mono (hBn _).size)))
        have b13 := blk_keep b1 hb3
        have b23 := blk_keep b2 hb3
        have hB3 := btr hBr hb3 (Nat.le_refl _)
        clear b1o hBn hb2 hb3 hBr b1 b2 hg' hc
        go_roundw
        case rel => exact ⟨1, by omega, by go_num, b13, b23, hB3⟩
        case measure => simp [intOf]
      · simp only [if_true]
        go_wp2_with (first | (refine wpList_load_mid rfl 93 _ rfl _ _ rfl _ _ hg' Try.underlying93 rfl size93 ?_) | (refine wpList_load_blk rfl 93 _ rfl _ rfl (b1o _) Try.underlying93 rfl size93 rfl ?_) | (refine wpList_load_blk rfl 93 _ rfl _ rfl (heap_newI rfl) Try.underlying93 rfl size93 rfl ?_) | (go_at_call 63; refine (H63.out _).mono ?_; rintro e w2 ⟨rfl, hb2⟩; have hb3 := (hBn _).trans (hb2.mono (hBn _).size); have b13 := blk_keep b1 hb3; have b33 := blk_keep (heap_newI rfl) hb2) | (refine wpList_load_blk rfl 93 _ rfl _ rfl b33 Try.underlying93 rfl size93 rfl ?_) | (refine wpList_store_blk rfl 93 _ _ rfl _ rfl rfl b13 size93 rfl rfl (by simp [Value.oneCell']) ?_))
        have b23 := blk_keep b2 hb3
        have hB3 := btr hBr hb3 (Nat.le_refl _)
        have hl13 := lt_blk b13
        clear b1o hBn hb2 hb3 hBr b1 b2 hg' hc b33
        go_roundw
        case rel => exact ⟨1, by omega, by go_num, World.putObj_heap_same hl13, (World.putObj_heap_other (by omega)).trans b23, below_putObj hB3 (Nat.le_refl _)⟩
        case measure => simp [intOf]
    · have hk1 : k = 1 := by omega
      subst hk1
      simp only [Nat.one_ne_zero, if_false] at b1
      have hl2 := lt_blk b2
      go_wp2_with (first | (refine wpList_load_blk rfl 93 _ rfl _ rfl b1 Try.underlying93 rfl size93 rfl ?_) | (refine wpList_store_blk rfl 93 _ _ rfl _ rfl rfl b2 size93 rfl rfl (by simp [Value.oneCell']) ?_))
      all_goals exact bodyPost_ret (results_blk rfl _ _ _ rfl (World.putObj_heap_same hl2) Try.underlying93 rfl size93 rfl) rfl ⟨by simp, below_putObj hBr (by omega)⟩
end Ytgnjeefanbcbkaa
end Go.Proofs
