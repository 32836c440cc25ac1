/- Fields: the examples' fields. -/
import Derived.Test.YtgnjeefanbcbkaaC2
open Go Go.RowKit Go.YtgnjeefanbcbkaaIt
namespace Go.Proofs
namespace Ytgnjeefanbcbkaa
theorem slS_blk {W : World} {g : Nat} {ss : List Smp} {t : TypeId} {cap : Nat} (h : W.heap[g]? = some (.cells (ss.flatMap encS).toArray t (0, 0))) (hl : ss.length ≤ 1000) (hc : ss.length ≤ cap) : SlS W (.slice (some ⟨g, 0, none⟩) ss.length cap) ss := slG_new encS_len (by omega) hc h
set_option maxRecDepth 100000 in
set_option maxHeartbeats 4000000 in
theorem F_any (w : World) : Calls Try.prog 38 #[] w fun e w' => ∃ g, e = .returned (.agg #[.int .i64 5, .int .i64 0, .int .i64 2000, .slice (some ⟨g, 0, none⟩) 3 3]) ∧ w'.heap[g]? = some (.cells (exF.flatMap encS).toArray 82 (0, 0)) ∧ Below w.heap.size w w' ∧ w.heap.size ≤ g := by
  have h37 := fun W => span_any 0 2000 W
  have H37 := Lib.hid h37
  clear h37
  go_enter Try.func38, Try.ntmps38
  refine wp_seq_k (fun K hK => ?_)
  have HK := Lib.hid hK; clear hK
  go_wp2
  refine HK.out _ _ ?_; clear HK K
  generalize hw1 : World.alloc _ _ = w1
  obtain ⟨b0, hB, hs1⟩ := blk1 hw1
  clear hw1
  go_wp2_with (first | (go_at_call 37; refine (H37.out _).mono ?_; rintro e w2 ⟨rfl, hb2⟩; have b02 := blk_keep b0 hb2; have b02o := fun o => (heap_oldI (w := w2) (o := o) (lt_blk b02)).trans b02) | (refine wpList_store_blk rfl 26 _ _ rfl _ rfl rfl (b02o _) size26 rfl rfl (by simp [Value.oneCell']) ?_))
  have hB2 := btr hB hb2 (Nat.le_refl _)
  have hl0 : w.heap.size < w2.heap.size := lt_blk b02
  refine bodyPost_ret (results_blk rfl _ _ _ rfl (World.putObj_heap_same (lt_blk (b02o _))) Try.underlying26 rfl size26 rfl) rfl ⟨w2.heap.size, by simp, ?_, below_putObj (hB2.alloc hB2.size _) (Nat.le_refl _), Nat.le_of_lt hl0⟩
  exact (World.putObj_heap_other (by omega)).trans (heap_newI rfl)
theorem setCells3 {W : World} {b o : Nat} {c : Array Value} {t : TypeId} {x y z : Value} (h : W.heap[b]? = some (.cells c t (0, 0))) : (W.setCells b o [x, y, z]).heap[b]? = some (.cells (((c.setIfInBounds o x).setIfInBounds (o + 1) y).setIfInBounds (o + 1 + 1) z) t (0, 0)) := by
  show (((W.setCell ⟨b, o, none⟩ x).setCell ⟨b, o + 1, none⟩ y).setCell ⟨b, o + 1 + 1, none⟩ z).heap[b]? = _
  exact heap_set_blk (heap_set_blk (heap_set_blk h))
theorem setCells3_other {W : World} {b b' o : Nat} {x y z : Value} (h : b' ≠ b) : (W.setCells b o [x, y, z]).heap[b']? = W.heap[b']? := by
  show (((W.setCell ⟨b, o, none⟩ x).setCell ⟨b, o + 1, none⟩ y).setCell ⟨b, o + 1 + 1, none⟩ z).heap[b']? = _
  rw [heap_set_other h, heap_set_other h, heap_set_other h]
theorem setCells3_below {B : Nat} {X W : World} {b o : Nat} {x y z : Value} (h : Below B X W) (hb : B ≤ b) : Below B X (W.setCells b o [x, y, z]) := by
  show Below B X (((W.setCell ⟨b, o, none⟩ x).setCell ⟨b, o + 1, none⟩ y).setCell ⟨b, o + 1 + 1, none⟩ z)
  exact ((h.setCell (p := ⟨b, o, none⟩) hb _).setCell (p := ⟨b, o + 1, none⟩) hb _).setCell (p := ⟨b, o + 1 + 1, none⟩) hb _
theorem size82 : (Try.prog.info? 82).map (·.size) = some 3 := by kernel_rfl
set_option maxRecDepth 100000 in
set_option maxHeartbeats 4000000 in
theorem Z_any (w : World) : Calls Try.prog 39 #[] w fun e w' => ∃ g, e = .returned (.agg #[.int .i64 5, .int .i64 0, .int .i64 2000, .slice (some ⟨g, 0, none⟩) 3 3]) ∧ w'.heap[g]? = some (.cells (exZ.flatMap encS).toArray 82 (0, 0)) ∧ Below w.heap.size w w' ∧ w.heap.size ≤ g := by
  go_enter Try.func39, Try.ntmps39
  refine wp_seq_k (fun K hK => ?_)
  have HK := Lib.hid hK; clear hK
  go_wp2
  refine HK.out _ _ ?_; clear HK K
  generalize hw1 : World.alloc _ _ = w1
  obtain ⟨b0, hB, hs1⟩ := blk1 hw1
  clear hw1
  have h38 := F_any w1
  refine wp_seq_k (fun K hK => ?_)
  have HK := Lib.hid hK; clear hK
  go_wp2_with (go_at_call 38; refine h38.mono ?_; rintro e w2 ⟨g, rfl, hg, hb2, hgl⟩)
  refine HK.out _ _ ?_; clear HK K h38
  replace b0 := blk_keep b0 hb2
  replace hB := btr hB hb2 (Nat.le_refl _)
  generalize hw3 : World.alloc _ _ = w3
  obtain ⟨b1, hB3, hs3⟩ := blk1 hw3
  clear hw3
  replace b0 := blk_keep b0 hB3
  replace hB := btr hB hB3 (Nat.le_refl _)
  have hgw : g < w2.heap.size := lt_blk hg
  replace hg := blk_keep hg hB3
  have h0g : w.heap.size < g := by omega
  generalize hp : w2.heap.size = p at *
  clear hp hb2 hB3 hs3 w2
  have c2 := cell_blk (i := 3) b1
  simp only [List.getElem?_toArray, List.getElem?_cons_zero, List.getElem?_cons_succ] at c2
  have hth : w3.there g 3 3 := fun j hj => ⟨by
    rw [cell_blk hg]
    match j, hj with
    | 0, _ => rfl
    | 1, _ => rfl
    | 2, _ => rfl, free_blk hg⟩
  refine wp_seq_k (fun K hK => ?_)
  have HK := Lib.hid hK; clear hK
  go_wp2_with (refine wpList_store_mid rfl 82 _ _ rfl _ _ _ rfl rfl hth size82 (by simp [Value.oneCell']) ?_)
  refine HK.out _ _ ?_; clear HK K
  change Code.wp _ _ _ _ (w3.setCells g 3 [.int .i64 2, .int .i64 900, .int .i64 10])
  replace b0 := (setCells3_other (o := 3) (x := .int .i64 2) (y := .int .i64 900) (z := .int .i64 10) (show w.heap.size ≠ g by omega)).trans b0
  replace b1 := (setCells3_other (o := 3) (x := .int .i64 2) (y := .int .i64 900) (z := .int .i64 10) (show p ≠ g by omega)).trans b1
  replace hB := setCells3_below (o := 3) (x := .int .i64 2) (y := .int .i64 900) (z := .int .i64 10) hB (show w.heap.size ≤ g by omega)
  replace hg := setCells3 (o := 3) (x := .int .i64 2) (y := .int .i64 900) (z := .int .i64 10) hg
  generalize World.setCells _ _ _ _ = w4 at *
  go_wp2_with (first | (refine wpList_load_blk rfl 26 _ rfl _ rfl b1 Try.underlying26 rfl size26 rfl ?_) | (refine wpList_store_blk rfl 26 _ _ rfl _ rfl rfl b0 size26 rfl rfl (by simp [Value.oneCell']) ?_))
  refine bodyPost_ret (results_blk rfl _ _ _ rfl (World.putObj_heap_same (lt_blk b0)) Try.underlying26 rfl size26 rfl) rfl ⟨g, rfl, ?_, below_putObj hB (Nat.le_refl _), by omega⟩
  exact (World.putObj_heap_other (by omega)).trans hg
end Ytgnjeefanbcbkaa
end Go.Proofs
