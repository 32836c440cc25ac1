/- Pans: the works of the chapter's examples. -/
import Derived.Test.YteileadcmekkoaaQ20
open Go Go.RowKit Go.YteileadcmekkoaaIt
namespace Go.Proofs
namespace Yteileadcmekkoaa
/-- The waits of the examples. -/
def exW : List Wa := [⟨0, 1, 30, 40, 0⟩, ⟨1, 2, 20, 20, 0⟩, ⟨2, 0, 10, 15, 1⟩, ⟨1, 1, 50, 50, 1⟩, ⟨2, 1, 60, 70, 2⟩]
def exU : List Wa := [⟨0, 1, 30, 40, 0⟩, ⟨1, 2, 20, 20, 0⟩, ⟨1, 1, 50, 50, 1⟩, ⟨2, 1, 60, 70, 2⟩]
set_option maxRecDepth 100000 in
set_option maxHeartbeats 4000000 in
theorem W_any (w : World) : Calls Try.prog 49 #[] w fun e w' => ∃ g, e = .returned (.agg #[.int .i64 3, .slice (some ⟨g, 0, none⟩) 5 5]) ∧ w'.heap[g]? = some (.cells (exW.flatMap encA).toArray 82 (0, 0)) ∧ w.heap.size ≤ g ∧ Below w.heap.size w w' := by
  go_enter Try.func49, Try.ntmps49
  refine wp_seq_k (fun K hK => ?_)
  have HK := Lib.hid hK; clear hK
  go_wp2
  refine HK.out _ _ ?_; clear HK K
  generalize hw1 : World.alloc _ _ = w1
  obtain ⟨b0, hB, hs1⟩ := blk1 hw1
  clear hw1
  have hlt := lt_blk b0
  go_wp2_with (first | (go_at_call 45; refine (span_any _ _ _).mono ?_; rintro e w2 ⟨rfl, hb⟩; replace b0 := blk_keep b0 hb; replace hB := btr hB hb (Nat.le_refl _); clear hb) | (go_at_call 51; refine (point_any _ _).mono ?_; rintro e w2 ⟨rfl, hb⟩; replace b0 := blk_keep b0 hb; replace hB := btr hB hb (Nat.le_refl _); clear hb) | (refine wpList_store_blk rfl 24 _ _ rfl _ rfl rfl ((heap_oldI (lt_blk b0)).trans b0) size24 rfl rfl (by simp [Value.oneCell']) ?_))
  have hl2 := lt_blk b0
  exact bodyPost_ret (results_blk rfl _ _ w.heap.size rfl (World.putObj_heap_same (by rw [World.size_alloc]; omega)) Try.underlying24 rfl size24 rfl) rfl ⟨w2.heap.size, rfl, (World.putObj_heap_other (by omega)).trans (heap_newI rfl), hB.size, below_putObj (hB.alloc hB.size _) (Nat.le_refl _)⟩
theorem info82 : (Try.prog.info? 82).map (fun i => (i.zero, i.size, i.bytes)) = some (some (.agg #[.int .i64 0, .int .i64 0, .int .i64 0, .int .i64 0, .int .i64 0]), 5, 40) := by kernel_rfl
set_option maxRecDepth 100000 in
set_option maxHeartbeats 4000000 in
theorem U_any (w : World) : Calls Try.prog 50 #[] w fun e w' => ∃ v, e = .returned (.agg #[.int .i64 3, v]) ∧ SlA w' v exU ∧ Below w.heap.size w w' := by
  go_enter Try.func50, Try.ntmps50
  refine wp_seq_k (fun K hK => ?_)
  have HK := Lib.hid hK; clear hK
  go_wp2
  refine HK.out _ _ ?_; clear HK K
  generalize hw1 : World.alloc _ _ = w1
  obtain ⟨b0, hB, hs1⟩ := blk1 hw1
  clear hw1
  refine wp_seq_k (fun K hK => ?_)
  have HK := Lib.hid hK; clear hK
  go_wp2_with (first | (go_at_call 49; refine (W_any _).mono ?_; rintro e w2 ⟨g, rfl, hg, hgl, hb⟩; replace b0 := blk_keep b0 hb; replace hB := btr hB hb (Nat.le_refl _)))
  refine HK.out _ _ ?_; clear HK K
  have hE : Below w2.heap.size w2 (w2.alloc (Obj.cells #[Value.int IntKind.i64 3, Value.slice (some ⟨g, 0, none⟩) 5 5] 24)) := (Below.refl _ _).alloc (Nat.le_refl _) _
  have b1 : (w2.alloc (Obj.cells #[Value.int IntKind.i64 3, Value.slice (some ⟨g, 0, none⟩) 5 5] 24)).heap[w2.heap.size]? = some (.cells #[.int .i64 3, .slice (some ⟨g, 0, none⟩) 5 5] 24 (0, 0)) := heap_newI rfl
  have hz2 := lt_blk b0
  have hzg := lt_blk hg
  replace b0 := blk_keep b0 hE
  replace hg := blk_keep hg hE
  replace hB := btr hB hE (Nat.le_refl _)
  obtain ⟨bx, hbx⟩ : ∃ bx, bx = w2.heap.size := ⟨_, rfl⟩
  rw [← hbx] at b1 hz2 hzg ⊢
  clear hbx
  generalize World.alloc w2 _ = w3 at *
  have c1 := cell_blk (i := 1) b1
  have f1 := free_blk (i := 1) b1
  simp only [List.getElem?_toArray, List.getElem?_cons_zero, List.getElem?_cons_succ] at c1
  have hsz : w.heap.size < w3.heap.size := lt_blk b0
  obtain ⟨i82, hi82, hz1, hz2', hz3⟩ := info_parts info82
  have HI := Lib.hid (And.intro hi82 (And.intro hz1 (And.intro hz2' hz3)))
  clear hi82 hz1 hz2' hz3
  have hown : (World.drew w3).ownsRow (w.heap.size + 1) 82 5 (.slice (some ⟨g, 0, none⟩) 2 5) 2 ((exW.take 2).flatMap encA) := ⟨rfl, .inr ⟨g, 5, _, rfl, by omega, hg, by decide, by decide, by decide, rfl⟩⟩
  have hnews : ∀ j u, ((exW.drop 3).flatMap encA)[j]? = some u → (World.drew w3).cell? ((⟨g, 15, none⟩ : Addr).add j) = some u := fun j u hj => by
    rw [add_at]
    have h1 : (World.drew w3).cell? ⟨g, 15 + j, none⟩ = (exW.flatMap encA).toArray[15 + j]? := cell_blk (W := World.drew w3) hg
    rw [h1, List.getElem?_toArray]
    have e : exW.flatMap encA = (exW.take 3).flatMap encA ++ (exW.drop 3).flatMap encA := rfl
    rw [e, List.getElem?_append_right (by show 15 ≤ 15 + j; omega)]
    show ((exW.drop 3).flatMap encA)[15 + j - 15]? = _
    rw [Nat.add_sub_cancel_left]; exact hj
  have HO := Lib.hid (And.intro hown hnews)
  clear hown hnews
  refine wp_seq_k (fun K hK => ?_)
  have HK := Lib.hid hK; clear hK
  refine wp_region_still_tail 6 (by kernel_rfl) (by kernel_rfl) ?_
  simp only [List.take_succ_cons, List.take_zero, List.drop_succ_cons, List.drop_zero]
  change wpStill _ _ (World.drew w3) _ _ _
  repeat still_step
  refine wpStill_nil ?_
  change wpList _ _ _ _ _ (World.drew w3)
  refine wpList_append_own _ rfl _ _ 22 rfl (w.heap.size + 1) 82 i82 (.agg #[.int .i64 0, .int .i64 0, .int .i64 0, .int .i64 0, .int .i64 0]) 5 40 Try.underlying22 HI.out.1 HI.out.2.1 HI.out.2.2.1 HI.out.2.2.2 rfl (by decide) _ _ _ rfl HO.out.1 ⟨g, 15, none⟩ 2 2 ((exW.drop 3).flatMap encA) rfl rfl HO.out.2 (by decide) (by decide) (by decide) (by show _ ≤ w3.heap.size; omega) ?_
  intro v' w6 r1 r2 _
  have r2' : (World.drew w3).grownBy w6 (some g) := r2
  obtain ⟨av, cv, hv⟩ := form_of r1
  change v' = .slice av 4 cv at hv
  subst hv
  have hk6 : ∀ b, b < w3.heap.size → b ≠ g → w6.heap[b]? = w3.heap[b]? := fun b h1 h2 => r2'.block b h1 (fun e => h2 (Eq.symm (by simpa using e.symm)))
  have b6 := (hk6 bx (lt_blk b1) (by omega)).trans b1
  have b06 := (hk6 _ hsz (by omega)).trans b0
  have c6 := cell_blk (i := 1) b6
  have f6 := free_blk (i := 1) b6
  simp only [List.getElem?_toArray, List.getElem?_cons_zero, List.getElem?_cons_succ] at c6
  simp only [Act.put, List.setIfInBounds_toArray, List.set_cons_zero, List.set_cons_succ]
  go_wp2
  refine HK.out _ _ ?_; clear HK
  have hB6 : Below w.heap.size w w6 := ⟨r2'.os.trans hB.os, r2'.tape.trans hB.tape, r2'.output.trans hB.output, Nat.le_trans hB.size r2'.size, fun b hb => (hk6 b (by omega) (by omega)).trans (hB.block b hb)⟩
  have b7 : (w6.setCell ⟨bx, 1, none⟩ (.slice av 4 cv)).heap[bx]? = some (.cells #[.int .i64 3, .slice av 4 cv] 24 (0, 0)) := (heap_set_blk b6).trans rfl
  have b07 := (heap_set_other (b' := bx) (i := 1) (v := .slice av 4 cv) (show w.heap.size ≠ bx by omega)).trans b06
  have hB7 := hB6.setCell (p := ⟨bx, 1, none⟩) (show w.heap.size ≤ bx by omega) (.slice av 4 cv)
  have r7 := row_set_other (b := bx) (i := 1) (x := .slice av 4 cv) r1 (own_ne r1 b6 (by decide))
  go_wp2_with (first | (refine wpList_load_blk rfl 24 _ rfl _ rfl b7 Try.underlying24 rfl size24 rfl ?_) | (refine wpList_store_blk rfl 24 _ _ rfl _ rfl rfl b07 size24 rfl rfl (by simp [Value.oneCell']) ?_))
  refine bodyPost_ret (results_blk rfl _ _ w.heap.size rfl (World.putObj_heap_same (lt_blk b07)) Try.underlying24 rfl size24 rfl) rfl ⟨.slice av 4 cv, rfl, ?_, below_putObj hB7 (Nat.le_refl _)⟩
  have h8 := row_putO (o := Obj.cells #[.int .i64 3, .slice av 4 cv] 24) r7 (show w.heap.size < w.heap.size + 1 by omega)
  exact slG_own encA_len (xs := exU) h8 rfl (by decide)
end Yteileadcmekkoaa
end Go.Proofs
