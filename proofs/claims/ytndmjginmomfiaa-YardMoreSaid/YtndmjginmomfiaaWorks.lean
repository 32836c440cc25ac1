/- The chapter's examples hold: works. -/
import Derived.Test.YtndmjginmomfiaaW20
open Go Go.RowKit Go.YtndmjginmomfiaaIt
namespace Go.Proofs
namespace Ytndmjginmomfiaa
theorem E3_any (w : World) : Calls Try.prog 39 #[.int .i64 3] w fun e w' => ∃ v, e = .returned (.agg (encY (eY 3) v)) ∧ SlW w' v (eY 3).ws ∧ Below w.heap.size w w' := E_any 3 w
theorem E4_any (w : World) : Calls Try.prog 39 #[.int .i64 4] w fun e w' => ∃ v, e = .returned (.agg (encY (eY 4) v)) ∧ SlW w' v (eY 4).ws ∧ Below w.heap.size w w' := E_any 4 w
def t3 : List (List Int) := [[1, 0, 1, 1], [1, 0, 1, 1]]
def t4 : List (List Int) := [[1125899906842624, 1125899906842624, 1125899906842624, 1125899906842624, 1125899906842624], [1125899906842624, 1125899906842624, 1125899906842624, 1125899906842624, 1125899906842624]]
theorem x16_3 (v : Value) (w : World) (hw : SlW w v (eY 3).ws) : Calls Try.prog 16 #[.agg (encY (eY 3) v)] w fun e w' => ∃ u, e = .returned (.tuple #[u, .int .i64 0]) ∧ SlII w' u t3 ∧ Below w.heap.size w w' := by
  refine (table_any (eY 3) v w hw).mono ?_
  rintro e w' ⟨hb, ⟨h, -⟩ | ⟨-, u, rfl, hu⟩⟩
  · exact absurd e3_chk h
  · rw [e3_tab] at hu; exact ⟨u, rfl, hu, hb⟩
theorem x16_4 (v : Value) (w : World) (hw : SlW w v (eY 4).ws) : Calls Try.prog 16 #[.agg (encY (eY 4) v)] w fun e w' => ∃ u, e = .returned (.tuple #[u, .int .i64 0]) ∧ SlII w' u t4 ∧ Below w.heap.size w w' := by
  refine (table_any (eY 4) v w hw).mono ?_
  rintro e w' ⟨hb, ⟨h, -⟩ | ⟨-, u, rfl, hu⟩⟩
  · exact absurd e4_chk h
  · rw [e4_tab] at hu; exact ⟨u, rfl, hu, hb⟩
theorem x25_1 (v : Value) (w : World) (hw : SlW w v (eY 3).ws) : Calls Try.prog 25 #[.agg (encY (eY 3) v), .int .i64 2, .int .i64 1, .int .i64 1] w fun e w' => ∃ u, e = .returned (.tuple #[u, .int .i64 0]) ∧ SlI w' u [3] ∧ Below w.heap.size w w' := by
  refine (ordersX_any (eY 3) v 2 1 1 w hw).mono ?_
  rintro e w' ⟨hb, ⟨h, -⟩ | ⟨-, u, rfl, hu⟩⟩
  · exact absurd e3_o1.1 h
  · rw [e3_o1.2] at hu; exact ⟨u, rfl, hu, hb⟩
theorem x25_2 (v : Value) (w : World) (hw : SlW w v (eY 3).ws) : Calls Try.prog 25 #[.agg (encY (eY 3) v), .int .i64 2, .int .i64 1, .int .i64 2] w fun e w' => ∃ ad cap, e = .returned (.tuple #[.slice ad 0 cap, .int .i64 0]) ∧ Below w.heap.size w w' := by
  refine (ordersX_any (eY 3) v 2 1 2 w hw).mono ?_
  rintro e w' ⟨hb, ⟨h, -⟩ | ⟨-, u, rfl, hu⟩⟩
  · exact absurd e3_o2.1 h
  · rw [e3_o2.2] at hu
    obtain ⟨ad, cap, rfl, -⟩ := hu
    exact ⟨ad, cap, rfl, hb⟩
theorem x18_1 (v : Value) (w : World) (hw : SlW w v (eY 3).ws) : Calls Try.prog 18 #[.agg (encY (eY 3) v), .int .i64 2, .int .i64 0] w fun e w' => e = .returned (.tuple #[.int .i64 1, .int .i64 0]) ∧ Below w.heap.size w w' := by
  refine (termX_any (eY 3) v 2 0 w hw).mono ?_
  rintro e w' ⟨rfl, hb⟩
  rw [show termE (eY 3) 2 0 = 1 by unfold termE; rw [if_pos e3_t.1]; exact e3_t.2, e3_t.1]; exact ⟨rfl, hb⟩
theorem x28_1 (v : Value) (w : World) (hw : SlW w v (eY 3).ws) : Calls Try.prog 28 #[.agg (encY (eY 3) v), .int .i64 1, .int .i64 0, .int .i64 3, .int .i64 1] w fun e w' => e = .returned (.tuple #[.int .i64 1, .int .i64 3, .int .i64 0]) ∧ Below w.heap.size w w' := by
  refine (break_any (eY 3) v 1 0 3 1 w hw).mono ?_
  rintro e w' ⟨hb, rfl⟩
  rw [e3_b1.1, e3_b1.2.1, e3_b1.2.2]; exact ⟨rfl, hb⟩
theorem x28_2 (v : Value) (w : World) (hw : SlW w v (eY 3).ws) : Calls Try.prog 28 #[.agg (encY (eY 3) v), .int .i64 2, .int .i64 0, .int .i64 3, .int .i64 2] w fun e w' => e = .returned (.tuple #[.int .i64 0, .int .i64 4, .int .i64 0]) ∧ Below w.heap.size w w' := by
  refine (break_any (eY 3) v 2 0 3 2 w hw).mono ?_
  rintro e w' ⟨hb, rfl⟩
  rw [e3_b2.1, e3_b2.2.1, e3_b2.2.2]; exact ⟨rfl, hb⟩
theorem x28_3 (v : Value) (w : World) (hw : SlW w v (eY 3).ws) : Calls Try.prog 28 #[.agg (encY (eY 3) v), .int .i64 2, .int .i64 0, .int .i64 3, .int .i64 1] w fun e w' => (∃ m c : Int, e = .returned (.tuple #[.int .i64 m, .int .i64 c, .int .i64 5])) ∧ Below w.heap.size w w' := by
  refine (break_any (eY 3) v 2 0 3 1 w hw).mono ?_
  rintro e w' ⟨hb, rfl⟩
  rw [e3_b3]; exact ⟨⟨_, _, rfl⟩, hb⟩
theorem x30_1 (v : Value) (w : World) (hw : SlW w v (eY 3).ws) : Calls Try.prog 30 #[.agg (encY (eY 3) v), .int .i64 0, .int .i64 0] w fun e w' => e = .returned (.tuple #[.int .i64 4, .int .i64 0]) ∧ Below w.heap.size w w' := by
  refine (need_any (eY 3) v 0 0 w hw).mono ?_
  rintro e w' ⟨rfl, hb⟩
  rw [e3_n1.1, e3_n1.2]; exact ⟨rfl, hb⟩
theorem x30_2 (v : Value) (w : World) (hw : SlW w v (eY 3).ws) : Calls Try.prog 30 #[.agg (encY (eY 3) v), .int .i64 7, .int .i64 0] w fun e w' => e = .returned (.tuple #[.int .i64 7, .int .i64 0]) ∧ Below w.heap.size w w' := by
  refine (need_any (eY 3) v 7 0 w hw).mono ?_
  rintro e w' ⟨rfl, hb⟩
  rw [e3_n2.1, e3_n2.2]; exact ⟨rfl, hb⟩
theorem x23_1 (v u : Value) (w : World) (hw : SlW w v (eY 3).ws) (hu : SlII w u t3) : Calls Try.prog 23 #[.agg (encY (eY 3) v), u] w fun e w' => e = .returned (.int .i64 0) ∧ Below w.heap.size w w' := by
  refine (verify_any (eY 3) v t3 u w hw hu).mono ?_
  rintro e w' ⟨rfl, hb⟩
  exact ⟨by rw [show verE (eY 3) t3 = 0 from e3_v1], hb⟩
theorem x23_2 (v u : Value) (w : World) (hw : SlW w v (eY 3).ws) (hu : SlII w u [[1, 0, 1, 1], [1, 0, 1, 0]]) : Calls Try.prog 23 #[.agg (encY (eY 3) v), u] w fun e w' => e = .returned (.int .i64 11) ∧ Below w.heap.size w w' := by
  refine (verify_any (eY 3) v _ u w hw hu).mono ?_
  rintro e w' ⟨rfl, hb⟩
  exact ⟨by rw [e3_v2], hb⟩
theorem slII_two {W : World} {k1 k2 k : Nat} {r1 r2 : List Int} {t1 t2 t : TypeId} {f1 f2 f : Nat × Nat} (m1 : r1.length ≤ 100) (m2 : r2.length ≤ 100)
    (h1 : W.heap[k1]? = some (.cells (r1.map (Value.int .i64)).toArray t1 f1)) (h2 : W.heap[k2]? = some (.cells (r2.map (Value.int .i64)).toArray t2 f2))
    (h : W.heap[k]? = some (.cells #[.slice (some ⟨k1, 0, none⟩) r1.length r1.length, .slice (some ⟨k2, 0, none⟩) r2.length r2.length] t f)) : SlII W (.slice (some ⟨k, 0, none⟩) 2 2) [r1, r2] := by
  refine ⟨[.slice (some ⟨k1, 0, none⟩) r1.length r1.length, .slice (some ⟨k2, 0, none⟩) r2.length r2.length], slV_new (xs := [_, _]) (by simp) (by simp) h, rfl, fun i hi hi' => ?_⟩
  match i, hi' with
  | 0, _ => exact slI_new (by omega) (Nat.le_refl _) h1
  | 1, _ => exact slI_new (by omega) (Nat.le_refl _) h2
set_option maxRecDepth 100000 in
set_option maxHeartbeats 4000000 in
theorem works_any (w : World) : Calls Try.prog 14 #[] w fun e w' => e = .returned (.bool true) ∧ Below w.heap.size w w' := by
  go_enter Try.func14, Try.ntmps14
  refine wp_seq_k (fun K hK => ?_)
  have HK := Lib.hid hK; clear hK
  go_wp2
  refine HK.out _ _ ?_; clear HK K
  have B0 : Below w.heap.size w w := Below.refl _ _
  refine wp_seq_k (fun K hK => ?_)
  have HK := Lib.hid hK; clear hK
  go_wp2_with (first | (go_at_call 39; refine (E3_any _).mono ?_; rintro e wa1 ⟨va, rfl, ha, hba⟩) | (go_at_call 16; refine (x16_3 _ _ ha).mono ?_; rintro e wc1 ⟨u1, rfl, H1, hbc⟩))
  refine HK.out _ _ ?_; clear HK K
  replace B0 := btr (btr B0 hba (Nat.le_refl _)) hbc (Nat.le_refl _)
  clear hba hbc ha
  refine wp_seq_k (fun K hK => ?_)
  have HK := Lib.hid hK; clear hK
  go_wp2_with (first | (go_at_call 39; refine (E4_any _).mono ?_; rintro e wa2 ⟨va, rfl, ha, hba⟩) | (go_at_call 16; refine (x16_4 _ _ ha).mono ?_; rintro e wc2 ⟨u2, rfl, H2, hbc⟩))
  refine HK.out _ _ ?_; clear HK K
  replace H1 := (H1.below hba (Nat.le_refl _)).below hbc (Nat.le_refl _)
  replace B0 := btr (btr B0 hba (Nat.le_refl _)) hbc (Nat.le_refl _)
  clear hba hbc ha
  refine wp_seq_k (fun K hK => ?_)
  have HK := Lib.hid hK; clear hK
  go_wp2_with (first | (go_at_call 39; refine (E3_any _).mono ?_; rintro e wa3 ⟨va, rfl, ha, hba⟩) | (go_at_call 25; refine (x25_1 _ _ ha).mono ?_; rintro e wc3 ⟨u3, rfl, H3, hbc⟩))
  refine HK.out _ _ ?_; clear HK K
  replace H1 := (H1.below hba (Nat.le_refl _)).below hbc (Nat.le_refl _)
  replace H2 := (H2.below hba (Nat.le_refl _)).below hbc (Nat.le_refl _)
  replace B0 := btr (btr B0 hba (Nat.le_refl _)) hbc (Nat.le_refl _)
  clear hba hbc ha
  refine wp_seq_k (fun K hK => ?_)
  have HK := Lib.hid hK; clear hK
  go_wp2_with (first | (go_at_call 39; refine (E3_any _).mono ?_; rintro e wa4 ⟨va, rfl, ha, hba⟩) | (go_at_call 25; refine (x25_2 _ _ ha).mono ?_; rintro e wc4 ⟨ad4, cap4, rfl, hbc⟩))
  refine HK.out _ _ ?_; clear HK K
  replace H1 := (H1.below hba (Nat.le_refl _)).below hbc (Nat.le_refl _)
  replace H2 := (H2.below hba (Nat.le_refl _)).below hbc (Nat.le_refl _)
  replace H3 := (H3.below hba (Nat.le_refl _)).below hbc (Nat.le_refl _)
  replace B0 := btr (btr B0 hba (Nat.le_refl _)) hbc (Nat.le_refl _)
  clear hba hbc ha
  refine wp_seq_k (fun K hK => ?_)
  have HK := Lib.hid hK; clear hK
  go_wp2_with (first | (go_at_call 39; refine (E3_any _).mono ?_; rintro e wa5 ⟨va, rfl, ha, hba⟩) | (go_at_call 18; refine (x18_1 _ _ ha).mono ?_; rintro e wc5 ⟨rfl, hbc⟩))
  refine HK.out _ _ ?_; clear HK K
  replace H1 := (H1.below hba (Nat.le_refl _)).below hbc (Nat.le_refl _)
  replace H2 := (H2.below hba (Nat.le_refl _)).below hbc (Nat.le_refl _)
  replace H3 := (H3.below hba (Nat.le_refl _)).below hbc (Nat.le_refl _)
  replace B0 := btr (btr B0 hba (Nat.le_refl _)) hbc (Nat.le_refl _)
  clear hba hbc ha
  have hl1 := fun (W : World) => (show SlII (((W.alloc (.cells #[.int .i64 1, .int .i64 0, .int .i64 1, .int .i64 1] 3)).alloc (.cells #[.int .i64 1, .int .i64 0, .int .i64 1, .int .i64 1] 3)).alloc (.cells #[.slice (some ⟨W.heap.size, 0, none⟩) 4 4, .slice (some ⟨W.heap.size + 1, 0, none⟩) 4 4] 28)) (.slice (some ⟨W.heap.size + 1 + 1, 0, none⟩) 2 2) [[1, 0, 1, 1], [1, 0, 1, 1]] from by
    obtain ⟨q1, q2, q3, -, -⟩ := blk3 (w := W) (a := .cells #[.int .i64 1, .int .i64 0, .int .i64 1, .int .i64 1] 3) (b := .cells #[.int .i64 1, .int .i64 0, .int .i64 1, .int .i64 1] 3) (c := .cells #[.slice (some ⟨W.heap.size, 0, none⟩) 4 4, .slice (some ⟨W.heap.size + 1, 0, none⟩) 4 4] 28) rfl
    exact slII_two (r1 := [1, 0, 1, 1]) (r2 := [1, 0, 1, 1]) (by decide) (by decide) q1 q2 q3)
  have hl2 := fun (W : World) => (show SlII (((W.alloc (.cells #[.int .i64 1125899906842624, .int .i64 1125899906842624, .int .i64 1125899906842624, .int .i64 1125899906842624, .int .i64 1125899906842624] 3)).alloc (.cells #[.int .i64 1125899906842624, .int .i64 1125899906842624, .int .i64 1125899906842624, .int .i64 1125899906842624, .int .i64 1125899906842624] 3)).alloc (.cells #[.slice (some ⟨W.heap.size, 0, none⟩) 5 5, .slice (some ⟨W.heap.size + 1, 0, none⟩) 5 5] 28)) (.slice (some ⟨W.heap.size + 1 + 1, 0, none⟩) 2 2) [[1125899906842624, 1125899906842624, 1125899906842624, 1125899906842624, 1125899906842624], [1125899906842624, 1125899906842624, 1125899906842624, 1125899906842624, 1125899906842624]] from by
    obtain ⟨q1, q2, q3, -, -⟩ := blk3 (w := W) (a := .cells #[.int .i64 1125899906842624, .int .i64 1125899906842624, .int .i64 1125899906842624, .int .i64 1125899906842624, .int .i64 1125899906842624] 3) (b := .cells #[.int .i64 1125899906842624, .int .i64 1125899906842624, .int .i64 1125899906842624, .int .i64 1125899906842624, .int .i64 1125899906842624] 3) (c := .cells #[.slice (some ⟨W.heap.size, 0, none⟩) 5 5, .slice (some ⟨W.heap.size + 1, 0, none⟩) 5 5] 28) rfl
    exact slII_two (r1 := [1125899906842624, 1125899906842624, 1125899906842624, 1125899906842624, 1125899906842624]) (r2 := [1125899906842624, 1125899906842624, 1125899906842624, 1125899906842624, 1125899906842624]) (by decide) (by decide) q1 q2 q3)
  have hal : ∀ (W : World) (a b c : Obj), Below W.heap.size W (((W.alloc a).alloc b).alloc c) := fun W a b c => (blk3 rfl).2.2.2.1
  have hal1 : ∀ (W : World) (a : Obj), Below W.heap.size W (W.alloc a) := fun W a => (blk1 rfl).2.1
  refine wp_seq_k (fun K hK => ?_)
  have HK := Lib.hid hK; clear hK
  have HLIT := Lib.hid (And.intro hl1 (And.intro hl2 (And.intro hal hal1)))
  clear hl1 hl2 hal hal1
  go_wp2_with fail
  refine (tables_any _ _ t3 t3 _ (H1.below (HLIT.out.2.2.1 _ _ _ _) (Nat.le_refl _)) (HLIT.out.1 _)).mono ?_
  rintro e wd ⟨rfl, hbd⟩
  replace B0 := btr (btr B0 (HLIT.out.2.2.1 _ _ _ _) (Nat.le_refl _)) hbd (Nat.le_refl _)
  replace H1 := (H1.below (HLIT.out.2.2.1 _ _ _ _) (Nat.le_refl _)).below hbd (Nat.le_refl _)
  replace H2 := (H2.below (HLIT.out.2.2.1 _ _ _ _) (Nat.le_refl _)).below hbd (Nat.le_refl _)
  replace H3 := (H3.below (HLIT.out.2.2.1 _ _ _ _) (Nat.le_refl _)).below hbd (Nat.le_refl _)
  clear hbd
  rw [show decide (t3 = t3) = true from by simp]
  go_wp2_with fail
  refine (tables_any _ _ t4 t4 _ (H2.below (HLIT.out.2.2.1 _ _ _ _) (Nat.le_refl _)) (HLIT.out.2.1 _)).mono ?_
  rintro e we ⟨rfl, hbd⟩
  replace B0 := btr (btr B0 (HLIT.out.2.2.1 _ _ _ _) (Nat.le_refl _)) hbd (Nat.le_refl _)
  replace H1 := (H1.below (HLIT.out.2.2.1 _ _ _ _) (Nat.le_refl _)).below hbd (Nat.le_refl _)
  replace H3 := (H3.below (HLIT.out.2.2.1 _ _ _ _) (Nat.le_refl _)).below hbd (Nat.le_refl _)
  clear hbd H2
  rw [show decide (t4 = t4) = true from by simp]
  go_wp2_with fail
  refine (numbers_any _ _ [3] [3] _ (H3.below (HLIT.out.2.2.2 _ _) (Nat.le_refl _)) (slI_new (xs := [3]) (by decide) (Nat.le_refl _) (heap_newI rfl))).mono ?_
  rintro e wf ⟨rfl, hbd⟩
  replace B0 := btr (btr B0 (HLIT.out.2.2.2 _ _) (Nat.le_refl _)) hbd (Nat.le_refl _)
  replace H1 := (H1.below (HLIT.out.2.2.2 _ _) (Nat.le_refl _)).below hbd (Nat.le_refl _)
  clear hbd H3
  rw [show decide (([3] : List Int) = [3]) = true from by decide]
  go_wp2
  refine HK.out _ _ ?_; clear HK K
  refine wp_seq_k (fun K hK => ?_)
  have HK := Lib.hid hK; clear hK
  go_wp2_with (first | (go_at_call 39; refine (E3_any _).mono ?_; rintro e wa8 ⟨va, rfl, ha, hba⟩) | (go_at_call 28; refine (x28_1 _ _ ha).mono ?_; rintro e wc8 ⟨rfl, hbc⟩))
  refine HK.out _ _ ?_; clear HK K
  replace H1 := (H1.below hba (Nat.le_refl _)).below hbc (Nat.le_refl _)
  replace B0 := btr (btr B0 hba (Nat.le_refl _)) hbc (Nat.le_refl _)
  clear hba hbc ha
  refine wp_seq_k (fun K hK => ?_)
  have HK := Lib.hid hK; clear hK
  go_wp2_with (first | (go_at_call 39; refine (E3_any _).mono ?_; rintro e wa9 ⟨va, rfl, ha, hba⟩) | (go_at_call 28; refine (x28_2 _ _ ha).mono ?_; rintro e wc9 ⟨rfl, hbc⟩))
  refine HK.out _ _ ?_; clear HK K
  replace H1 := (H1.below hba (Nat.le_refl _)).below hbc (Nat.le_refl _)
  replace B0 := btr (btr B0 hba (Nat.le_refl _)) hbc (Nat.le_refl _)
  clear hba hbc ha
  refine wp_seq_k (fun K hK => ?_)
  have HK := Lib.hid hK; clear hK
  go_wp2_with (first | (go_at_call 39; refine (E3_any _).mono ?_; rintro e wa10 ⟨va, rfl, ha, hba⟩) | (go_at_call 28; refine (x28_3 _ _ ha).mono ?_; rintro e wc10 ⟨⟨m10, c10, rfl⟩, hbc⟩))
  refine HK.out _ _ ?_; clear HK K
  replace H1 := (H1.below hba (Nat.le_refl _)).below hbc (Nat.le_refl _)
  replace B0 := btr (btr B0 hba (Nat.le_refl _)) hbc (Nat.le_refl _)
  clear hba hbc ha
  refine wp_seq_k (fun K hK => ?_)
  have HK := Lib.hid hK; clear hK
  go_wp2_with (first | (go_at_call 39; refine (E3_any _).mono ?_; rintro e wa11 ⟨va, rfl, ha, hba⟩) | (go_at_call 30; refine (x30_1 _ _ ha).mono ?_; rintro e wc11 ⟨rfl, hbc⟩))
  refine HK.out _ _ ?_; clear HK K
  replace H1 := (H1.below hba (Nat.le_refl _)).below hbc (Nat.le_refl _)
  replace B0 := btr (btr B0 hba (Nat.le_refl _)) hbc (Nat.le_refl _)
  clear hba hbc ha
  refine wp_seq_k (fun K hK => ?_)
  have HK := Lib.hid hK; clear hK
  go_wp2_with (first | (go_at_call 39; refine (E3_any _).mono ?_; rintro e wa12 ⟨va, rfl, ha, hba⟩) | (go_at_call 30; refine (x30_2 _ _ ha).mono ?_; rintro e wc12 ⟨rfl, hbc⟩))
  refine HK.out _ _ ?_; clear HK K
  replace H1 := (H1.below hba (Nat.le_refl _)).below hbc (Nat.le_refl _)
  replace B0 := btr (btr B0 hba (Nat.le_refl _)) hbc (Nat.le_refl _)
  clear hba hbc ha
  have hl3 := fun (W : World) => (show SlII (((W.alloc (.cells #[.int .i64 1, .int .i64 0, .int .i64 1, .int .i64 1] 3)).alloc (.cells #[.int .i64 1, .int .i64 0, .int .i64 1, .int .i64 0] 3)).alloc (.cells #[.slice (some ⟨W.heap.size, 0, none⟩) 4 4, .slice (some ⟨W.heap.size + 1, 0, none⟩) 4 4] 28)) (.slice (some ⟨W.heap.size + 1 + 1, 0, none⟩) 2 2) [[1, 0, 1, 1], [1, 0, 1, 0]] from by
    obtain ⟨q1, q2, q3, -, -⟩ := blk3 (w := W) (a := .cells #[.int .i64 1, .int .i64 0, .int .i64 1, .int .i64 1] 3) (b := .cells #[.int .i64 1, .int .i64 0, .int .i64 1, .int .i64 0] 3) (c := .cells #[.slice (some ⟨W.heap.size, 0, none⟩) 4 4, .slice (some ⟨W.heap.size + 1, 0, none⟩) 4 4] 28) rfl
    exact slII_two (r1 := [1, 0, 1, 1]) (r2 := [1, 0, 1, 0]) (by decide) (by decide) q1 q2 q3)
  have HL3 := Lib.hid hl3
  clear hl3
  go_wp2_with fail
  refine (E3_any _).mono ?_
  rintro e wg ⟨vg, rfl, hg, hbg⟩
  replace B0 := btr B0 hbg (Nat.le_refl _)
  replace H1 := H1.below hbg (Nat.le_refl _)
  clear hbg
  go_wp2_with fail
  refine (x23_1 _ _ _ hg H1).mono ?_
  rintro e wh ⟨rfl, hbd⟩
  replace B0 := btr B0 hbd (Nat.le_refl _)
  clear hbd H1 hg
  go_wp2_with fail
  refine (E3_any _).mono ?_
  rintro e wi ⟨vi, rfl, hi, hbi⟩
  replace B0 := btr B0 hbi (Nat.le_refl _)
  clear hbi
  go_wp2_with fail
  refine (x23_2 _ _ _ (hi.below (HLIT.out.2.2.1 _ _ _ _) (Nat.le_refl _)) (HL3.out _)).mono ?_
  rintro e wj ⟨rfl, hbd⟩
  replace B0 := btr (btr B0 (HLIT.out.2.2.1 _ _ _ _) (Nat.le_refl _)) hbd (Nat.le_refl _)
  clear hbd hi
  go_wp2
  go_ret
  exact ⟨rfl, B0⟩
end Ytndmjginmomfiaa
end Go.Proofs
