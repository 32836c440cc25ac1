/- Pans: the chapter's examples hold: works. -/
import Derived.Test.YteileadcmekkoaaQ24
open Go Go.RowKit Go.YteileadcmekkoaaIt
namespace Go.Proofs
namespace Yteileadcmekkoaa
set_option maxRecDepth 100000 in
set_option maxHeartbeats 4000000 in
theorem works_any (w : World) : Calls Try.prog 16 #[] w fun e w' => e = .returned (.bool true) ∧ Below w.heap.size w w' := by
  go_enter Try.func16, Try.ntmps16
  refine wp_seq_k (fun K hK => ?_)
  have HK := Lib.hid hK; clear hK
  go_wp2
  refine HK.out _ _ ?_; clear HK K
  have B0 : Below w.heap.size w w := Below.refl _ _
  refine wp_seq_k (fun K hK => ?_)
  have HK := Lib.hid hK; clear hK
  go_wp2_with (first | (go_at_call 49; refine (W2_any _).mono ?_; rintro e wa1 ⟨va, rfl, ha, hba⟩) | (go_at_call 18; refine (x18W _ _ ha).mono ?_; rintro e wc1 ⟨rfl, hbc⟩))
  refine HK.out _ _ ?_; clear HK K
  replace B0 := btr B0 hba (Nat.le_refl _)
  replace B0 := btr B0 hbc (Nat.le_refl _)
  have hbx : Below wc1.heap.size wc1 (wc1.alloc (.cells #[.int .i64 75, .int .i64 1] 26)) := (Below.refl _ _).alloc (Nat.le_refl _) _
  have P1 : (wc1.alloc (.cells #[.int .i64 75, .int .i64 1] 26)).heap[wc1.heap.size]? = some (.cells #[.int .i64 75, .int .i64 1] 26 (0, 0)) := heap_newI rfl
  replace B0 := btr B0 hbx (Nat.le_refl _)
  obtain ⟨p1, hp1⟩ : ∃ x, x = wc1.heap.size := ⟨_, rfl⟩
  rw [← hp1] at P1 ⊢
  generalize World.alloc wc1 _ = wd1 at *
  clear hp1 hbx
  clear hba hbc ha
  refine wp_seq_k (fun K hK => ?_)
  have HK := Lib.hid hK; clear hK
  go_wp2_with (first | (go_at_call 50; refine (U_any _).mono ?_; rintro e wa2 ⟨va, rfl, ha, hba⟩) | (go_at_call 18; refine (x18U _ _ ha).mono ?_; rintro e wc2 ⟨rfl, hbc⟩))
  refine HK.out _ _ ?_; clear HK K
  replace P1 := blk_keep P1 hba
  replace B0 := btr B0 hba (Nat.le_refl _)
  replace P1 := blk_keep P1 hbc
  replace B0 := btr B0 hbc (Nat.le_refl _)
  have hbx : Below wc2.heap.size wc2 (wc2.alloc (.cells #[.int .i64 50, .int .i64 1] 26)) := (Below.refl _ _).alloc (Nat.le_refl _) _
  have P3 : (wc2.alloc (.cells #[.int .i64 50, .int .i64 1] 26)).heap[wc2.heap.size]? = some (.cells #[.int .i64 50, .int .i64 1] 26 (0, 0)) := heap_newI rfl
  replace P1 := blk_keep P1 hbx
  replace B0 := btr B0 hbx (Nat.le_refl _)
  obtain ⟨p3, hp3⟩ : ∃ x, x = wc2.heap.size := ⟨_, rfl⟩
  rw [← hp3] at P3 ⊢
  generalize World.alloc wc2 _ = wd2 at *
  clear hp3 hbx
  clear hba hbc ha
  refine wp_seq_k (fun K hK => ?_)
  have HK := Lib.hid hK; clear hK
  go_wp2_with (first | (go_at_call 50; refine (U_any _).mono ?_; rintro e wa3 ⟨va, rfl, ha, hba⟩) | (go_at_call 24; refine (x24U _ _ ha).mono ?_; rintro e wc3 ⟨u5, rfl, H5, hbc⟩))
  refine HK.out _ _ ?_; clear HK K
  replace P1 := blk_keep P1 hba
  replace P3 := blk_keep P3 hba
  replace B0 := btr B0 hba (Nat.le_refl _)
  replace P1 := blk_keep P1 hbc
  replace P3 := blk_keep P3 hbc
  replace B0 := btr B0 hbc (Nat.le_refl _)
  clear hba hbc ha
  refine wp_seq_k (fun K hK => ?_)
  have HK := Lib.hid hK; clear hK
  go_wp2_with (first | (go_at_call 49; refine (W2_any _).mono ?_; rintro e wa4 ⟨va, rfl, ha, hba⟩) | (go_at_call 24; refine (x24W _ _ ha).mono ?_; rintro e wc4 ⟨ad7, cap7, rfl, hbc⟩))
  refine HK.out _ _ ?_; clear HK K
  replace P1 := blk_keep P1 hba
  replace P3 := blk_keep P3 hba
  replace H5 := H5.below hba (Nat.le_refl _)
  replace B0 := btr B0 hba (Nat.le_refl _)
  replace P1 := blk_keep P1 hbc
  replace P3 := blk_keep P3 hbc
  replace H5 := H5.below hbc (Nat.le_refl _)
  replace B0 := btr B0 hbc (Nat.le_refl _)
  clear hba hbc ha
  have hlit : ∀ (W : World) (a b : Int), SlI (W.alloc (.cells #[.int .i64 a, .int .i64 b] 3)) (.slice (some ⟨W.heap.size, 0, none⟩) 2 2) [a, b] := fun W a b => slI_new (xs := [a, b]) (by simp) (Nat.le_refl _) (heap_newI rfl)
  have hlit1 : ∀ (W : World) (a : Int), SlI (W.alloc (.cells #[.int .i64 a] 3)) (.slice (some ⟨W.heap.size, 0, none⟩) 1 1) [a] := fun W a => slI_new (xs := [a]) (by simp) (Nat.le_refl _) (heap_newI rfl)
  have hlit3 : ∀ (W : World) (a b c : Int), SlI (W.alloc (.cells #[.int .i64 a, .int .i64 b, .int .i64 c] 3)) (.slice (some ⟨W.heap.size, 0, none⟩) 3 3) [a, b, c] := fun W a b c => slI_new (xs := [a, b, c]) (by simp) (Nat.le_refl _) (heap_newI rfl)
  have hal : ∀ (W : World) (o : Obj), Below W.heap.size W (W.alloc o) := fun W o => (blk1 rfl).2.1
  have HL := Lib.hid (And.intro hlit (And.intro hlit1 (And.intro hlit3 hal)))
  clear hlit hlit1 hlit3 hal
  refine wp_seq_k (fun K hK => ?_)
  have HK := Lib.hid hK; clear hK
  go_wp2_with (first | (go_at_call 49; refine (W2_any _).mono ?_; rintro e wa5 ⟨va, rfl, ha, hba⟩) | (go_at_call 26; refine (x26W _ _ _ (ha.below (HL.out.2.2.2 _ _) (Nat.le_refl _)) (HL.out.1 _ 1 4)).mono ?_; rintro e wc5 ⟨rfl, hbc⟩))
  refine HK.out _ _ ?_; clear HK K
  replace P1 := blk_keep P1 hba
  replace P3 := blk_keep P3 hba
  replace H5 := H5.below hba (Nat.le_refl _)
  replace B0 := btr B0 hba (Nat.le_refl _)
  replace P1 := blk_keep P1 (HL.out.2.2.2 _ (.cells #[.int .i64 1, .int .i64 4] 3))
  replace P1 := blk_keep P1 hbc
  replace P3 := blk_keep P3 (HL.out.2.2.2 _ (.cells #[.int .i64 1, .int .i64 4] 3))
  replace P3 := blk_keep P3 hbc
  replace H5 := H5.below (HL.out.2.2.2 _ (.cells #[.int .i64 1, .int .i64 4] 3)) (Nat.le_refl _)
  replace H5 := H5.below hbc (Nat.le_refl _)
  replace B0 := btr B0 (HL.out.2.2.2 _ (.cells #[.int .i64 1, .int .i64 4] 3)) (Nat.le_refl _)
  replace B0 := btr B0 hbc (Nat.le_refl _)
  have hbx : Below wc5.heap.size wc5 (wc5.alloc (.cells #[.int .i64 45, .int .i64 1] 26)) := (Below.refl _ _).alloc (Nat.le_refl _) _
  have P9 : (wc5.alloc (.cells #[.int .i64 45, .int .i64 1] 26)).heap[wc5.heap.size]? = some (.cells #[.int .i64 45, .int .i64 1] 26 (0, 0)) := heap_newI rfl
  replace P1 := blk_keep P1 hbx
  replace P3 := blk_keep P3 hbx
  replace H5 := H5.below hbx (Nat.le_refl _)
  replace B0 := btr B0 hbx (Nat.le_refl _)
  obtain ⟨p9, hp9⟩ : ∃ x, x = wc5.heap.size := ⟨_, rfl⟩
  rw [← hp9] at P9 ⊢
  generalize World.alloc wc5 _ = wd5 at *
  clear hp9 hbx
  clear hba hbc ha
  refine wp_seq_k (fun K hK => ?_)
  have HK := Lib.hid hK; clear hK
  refine wp_seq_k (fun K2 hK2 => ?_)
  have HK2 := Lib.hid hK2; clear hK2
  have hS0 : (World.drew wd5).heap[p1]? = some (.cells #[.int .i64 75, .int .i64 1] 26 (0, 0)) ∧ (World.drew wd5).heap[p3]? = some (.cells #[.int .i64 50, .int .i64 1] 26 (0, 0)) ∧ (World.drew wd5).heap[p9]? = some (.cells #[.int .i64 45, .int .i64 1] 26 (0, 0)) := ⟨P1, P3, P9⟩
  replace B0 := B0.drew
  replace H5 : SlI (World.drew wd5) u5 [2] := H5
  refine wp_region_held (S := fun U => U.heap[p1]? = some (.cells #[.int .i64 75, .int .i64 1] 26 (0, 0)) ∧ U.heap[p3]? = some (.cells #[.int .i64 50, .int .i64 1] 26 (0, 0)) ∧ U.heap[p9]? = some (.cells #[.int .i64 45, .int .i64 1] 26 (0, 0))) (by kernel_rfl) ?_
  change wpAnyH _ _ _ _ _ _ _ _ (World.drew wd5)
  generalize World.drew wd5 = wq at *
  clear P1 P3 P9
  refine wpAnyH_take (i := 0) (oi := { dst := some 41, op := _, type := _, pos := _, after := _, guard := _ }) (v := ?_) rfl (by kernel_rfl) (by kernel_rfl) (by kernel_rfl) (fun _ _ _ h => h) (Or.inl ⟨by rfl, ?_⟩) hS0 ?_
  rotate_left
  · intro U hU
    go_simp
    all_goals with_reducible rfl
  simp only [Act.put, List.setIfInBounds_toArray, List.set_cons_zero, List.set_cons_succ]
  refine wpAnyH_take (i := 1) (oi := { dst := some 42, op := _, type := _, pos := _, after := _, guard := _ }) (v := ?_) rfl (by kernel_rfl) (by kernel_rfl) (by kernel_rfl) (fun _ _ _ h => h) (Or.inl ⟨by rfl, ?_⟩) hS0 ?_
  rotate_left
  · intro U hU
    go_simp
    all_goals with_reducible rfl
  simp only [Act.put, List.setIfInBounds_toArray, List.set_cons_zero, List.set_cons_succ]
  refine wpAnyH_take (i := 2) (oi := { dst := some 43, op := _, type := _, pos := _, after := _, guard := _ }) (v := ?_) rfl (by kernel_rfl) (by kernel_rfl) (by kernel_rfl) (fun _ _ _ h => h) (Or.inl ⟨by rfl, ?_⟩) hS0 ?_
  rotate_left
  · intro U hU
    go_simp
    all_goals with_reducible rfl
  simp only [Act.put, List.setIfInBounds_toArray, List.set_cons_zero, List.set_cons_succ]
  refine wpAnyH_take (i := 3) (oi := { dst := some 44, op := _, type := _, pos := _, after := _, guard := _ }) (v := ?_) rfl (by kernel_rfl) (by kernel_rfl) (by kernel_rfl) (fun _ _ _ h => h) (Or.inl ⟨by rfl, ?_⟩) hS0 ?_
  rotate_left
  · intro U hU
    go_simp
    all_goals with_reducible rfl
  simp only [Act.put, List.setIfInBounds_toArray, List.set_cons_zero, List.set_cons_succ]
  refine wpAnyH_take (i := 4) (oi := { dst := some 45, op := _, type := _, pos := _, after := _, guard := _ }) (v := ?_) rfl (by kernel_rfl) (by kernel_rfl) (by kernel_rfl) (fun _ _ _ h => h) (Or.inl ⟨by rfl, ?_⟩) hS0 ?_
  rotate_left
  · intro U hU
    go_simp
    all_goals with_reducible rfl
  simp only [Act.put, List.setIfInBounds_toArray, List.set_cons_zero, List.set_cons_succ]
  refine wpAnyH_take (i := 5) (oi := { dst := some 46, op := _, type := _, pos := _, after := _, guard := _ }) (v := ?_) rfl (by kernel_rfl) (by kernel_rfl) (by kernel_rfl) (fun _ _ _ h => h) (Or.inl ⟨by rfl, ?_⟩) hS0 ?_
  rotate_left
  · intro U hU
    go_simp
    all_goals with_reducible rfl
  simp only [Act.put, List.setIfInBounds_toArray, List.set_cons_zero, List.set_cons_succ]
  refine wpAnyH_take (i := 6) (oi := { dst := some 47, op := _, type := _, pos := _, after := _, guard := _ }) (v := ?_) rfl (by kernel_rfl) (by kernel_rfl) (by kernel_rfl) (fun _ _ _ h => h) (Or.inl ⟨by rfl, ?_⟩) hS0 ?_
  rotate_left
  · intro U hU
    go_simp
    all_goals with_reducible rfl
  simp only [Act.put, List.setIfInBounds_toArray, List.set_cons_zero, List.set_cons_succ]
  refine wpAnyH_take (i := 7) (oi := { dst := some 48, op := _, type := _, pos := _, after := _, guard := _ }) (v := ?_) rfl (by kernel_rfl) (by kernel_rfl) (by kernel_rfl) (fun _ _ _ h => h) (Or.inl ⟨by rfl, ?_⟩) hS0 ?_
  rotate_left
  · intro U hU
    go_simp
    all_goals with_reducible rfl
  simp only [Act.put, List.setIfInBounds_toArray, List.set_cons_zero, List.set_cons_succ]
  refine wpAnyH_take (i := 8) (oi := { dst := some 49, op := _, type := _, pos := _, after := _, guard := _ }) (v := ?_) rfl (by kernel_rfl) (by kernel_rfl) (by kernel_rfl) (fun _ _ _ h => h) (Or.inl ⟨by rfl, ?_⟩) hS0 ?_
  rotate_left
  · intro U hU
    go_simp
    all_goals with_reducible rfl
  simp only [Act.put, List.setIfInBounds_toArray, List.set_cons_zero, List.set_cons_succ]
  refine wpAnyH_take (i := 9) (oi := { dst := some 50, op := _, type := _, pos := _, after := _, guard := _ }) (v := ?_) rfl (by kernel_rfl) (by kernel_rfl) (by kernel_rfl) (fun _ _ _ h => h) (Or.inl ⟨by rfl, ?_⟩) hS0 ?_
  rotate_left
  · intro U hU
    go_simp
    all_goals with_reducible rfl
  simp only [Act.put, List.setIfInBounds_toArray, List.set_cons_zero, List.set_cons_succ]
  refine wpAnyH_take (i := 10) (oi := { dst := some 51, op := _, type := _, pos := _, after := _, guard := _ }) (v := ?_) rfl (by kernel_rfl) (by kernel_rfl) (by kernel_rfl) (fun _ _ _ h => h) (Or.inl ⟨by rfl, ?_⟩) hS0 ?_
  rotate_left
  · intro U hU
    go_simp
    all_goals with_reducible rfl
  simp only [Act.put, List.setIfInBounds_toArray, List.set_cons_zero, List.set_cons_succ]
  refine wpAnyH_take (i := 11) (oi := { dst := some 52, op := _, type := _, pos := _, after := _, guard := _ }) (v := ?_) rfl (by kernel_rfl) (by kernel_rfl) (by kernel_rfl) (fun _ _ _ h => h) (Or.inl ⟨by rfl, ?_⟩) hS0 ?_
  rotate_left
  · intro U hU
    go_simp
    all_goals with_reducible rfl
  simp only [Act.put, List.setIfInBounds_toArray, List.set_cons_zero, List.set_cons_succ]
  refine wpAnyH_take (i := 12) (oi := { dst := some 53, op := _, type := _, pos := _, after := _, guard := _ }) (v := ?_) rfl (by kernel_rfl) (by kernel_rfl) (by kernel_rfl) (fun _ _ _ h => h) (Or.inl ⟨by rfl, ?_⟩) hS0 ?_
  rotate_left
  · intro U hU
    go_simp
    all_goals with_reducible rfl
  simp only [Act.put, List.setIfInBounds_toArray, List.set_cons_zero, List.set_cons_succ]
  refine wpAnyH_take (i := 13) (oi := { dst := some 54, op := _, type := _, pos := _, after := _, guard := _ }) (v := ?_) rfl (by kernel_rfl) (by kernel_rfl) (by kernel_rfl) (fun _ _ _ h => h) (Or.inl ⟨by rfl, ?_⟩) hS0 ?_
  rotate_left
  · intro U hU
    go_simp
    all_goals with_reducible rfl
  simp only [Act.put, List.setIfInBounds_toArray, List.set_cons_zero, List.set_cons_succ]
  refine wpAnyH_take (i := 14) (oi := { dst := some 55, op := _, type := _, pos := _, after := _, guard := _ }) (v := ?_) rfl (by kernel_rfl) (by kernel_rfl) (by kernel_rfl) (fun _ _ _ h => h) (Or.inl ⟨by rfl, ?_⟩) hS0 ?_
  rotate_left
  · intro U hU
    go_simp
    all_goals with_reducible rfl
  simp only [Act.put, List.setIfInBounds_toArray, List.set_cons_zero, List.set_cons_succ]
  refine wpAnyH_take (i := 15) (oi := { dst := some 56, op := _, type := _, pos := _, after := _, guard := _ }) (v := ?_) rfl (by kernel_rfl) (by kernel_rfl) (by kernel_rfl) (fun _ _ _ h => h) (Or.inl ⟨by rfl, ?_⟩) hS0 ?_
  rotate_left
  · intro U hU
    go_simp
    all_goals with_reducible rfl
  simp only [Act.put, List.setIfInBounds_toArray, List.set_cons_zero, List.set_cons_succ]
  refine wpAnyH_take (i := 16) (oi := { dst := some 57, op := _, type := _, pos := _, after := _, guard := _ }) (v := ?_) rfl (by kernel_rfl) (by kernel_rfl) (by kernel_rfl) (fun _ _ _ h => h) (Or.inl ⟨by rfl, ?_⟩) hS0 ?_
  rotate_left
  · intro U hU
    go_simp
    all_goals with_reducible rfl
  simp only [Act.put, List.setIfInBounds_toArray, List.set_cons_zero, List.set_cons_succ]
  refine wpAnyH_take (i := 17) (oi := { dst := some 58, op := _, type := _, pos := _, after := _, guard := _ }) (v := ?_) rfl (by kernel_rfl) (by kernel_rfl) (by kernel_rfl) (fun _ _ _ h => h) (Or.inl ⟨by rfl, ?_⟩) hS0 ?_
  rotate_left
  · intro U hU
    go_simp
    all_goals with_reducible rfl
  simp only [Act.put, List.setIfInBounds_toArray, List.set_cons_zero, List.set_cons_succ]
  refine wpAnyH_take (i := 18) (oi := { dst := some 59, op := _, type := _, pos := _, after := _, guard := _ }) (v := ?_) rfl (by kernel_rfl) (by kernel_rfl) (by kernel_rfl) (fun _ _ _ h => h) (Or.inl ⟨by rfl, ?_⟩) hS0 ?_
  rotate_left
  · intro U hU
    go_simp
    all_goals with_reducible rfl
  simp only [Act.put, List.setIfInBounds_toArray, List.set_cons_zero, List.set_cons_succ]
  refine wpAnyH_take (i := 19) (oi := { dst := some 60, op := _, type := _, pos := _, after := _, guard := _ }) (v := ?_) rfl (by kernel_rfl) (by kernel_rfl) (by kernel_rfl) (fun _ _ _ h => h) (Or.inl ⟨by rfl, ?_⟩) hS0 ?_
  rotate_left
  · intro U hU
    obtain ⟨hU1, hU3, hU9⟩ := hU
    have c0 := cell_blk (i := 0) hU1
    have c1 := cell_blk (i := 1) hU1
    simp only [List.getElem?_toArray, List.getElem?_cons_zero, List.getElem?_cons_succ] at c0 c1
    go_simp
    all_goals with_reducible rfl
  simp only [Act.put, List.setIfInBounds_toArray, List.set_cons_zero, List.set_cons_succ]
  refine wpAnyH_one (i := 20) (o := { dst := some 61, op := _, type := _, pos := _, after := _, guard := _ }) (by kernel_rfl) rfl (by rfl) (fun K1 hK1 => ?_)
  have HK1 := Lib.hid hK1; clear hK1
  go_simp
  refine (per_any 75 1 _).mono ?_
  rintro e wn ⟨rfl, hbn⟩
  replace B0 := btr B0 hbn (Nat.le_refl _)
  replace H5 := H5.below hbn (Nat.le_refl _)
  have hS1 := And.intro (blk_keep hS0.1 hbn) (And.intro (blk_keep hS0.2.1 hbn) (blk_keep hS0.2.2 hbn))
  clear hS0
  have hS0 := hS1
  clear hS1
  refine HK1.out _ _ hS0 ?_
  clear HK1 K1
  try simp only [Act.put, List.setIfInBounds_toArray, List.set_cons_zero, List.set_cons_succ]
  refine wpAnyH_take (i := 21) (oi := { dst := some 62, op := _, type := _, pos := _, after := _, guard := _ }) (v := ?_) rfl (by kernel_rfl) (by kernel_rfl) (by kernel_rfl) (fun _ _ _ h => h) (Or.inl ⟨by rfl, ?_⟩) hS0 ?_
  rotate_left
  · intro U hU
    go_simp
    all_goals with_reducible rfl
  simp only [Act.put, List.setIfInBounds_toArray, List.set_cons_zero, List.set_cons_succ]
  refine wpAnyH_take (i := 22) (oi := { dst := some 63, op := _, type := _, pos := _, after := _, guard := _ }) (v := ?_) rfl (by kernel_rfl) (by kernel_rfl) (by kernel_rfl) (fun _ _ _ h => h) (Or.inl ⟨by rfl, ?_⟩) hS0 ?_
  rotate_left
  · intro U hU
    go_simp
    all_goals with_reducible rfl
  simp only [Act.put, List.setIfInBounds_toArray, List.set_cons_zero, List.set_cons_succ]
  refine wpAnyH_take (i := 23) (oi := { dst := some 64, op := _, type := _, pos := _, after := _, guard := _ }) (v := ?_) rfl (by kernel_rfl) (by kernel_rfl) (by kernel_rfl) (fun _ _ _ h => h) (Or.inl ⟨by rfl, ?_⟩) hS0 ?_
  rotate_left
  · intro U hU
    go_simp
    all_goals with_reducible rfl
  simp only [Act.put, List.setIfInBounds_toArray, List.set_cons_zero, List.set_cons_succ]
  refine wpAnyH_take (i := 24) (oi := { dst := some 65, op := _, type := _, pos := _, after := _, guard := _ }) (v := ?_) rfl (by kernel_rfl) (by kernel_rfl) (by kernel_rfl) (fun _ _ _ h => h) (Or.inl ⟨by rfl, ?_⟩) hS0 ?_
  rotate_left
  · intro U hU
    obtain ⟨hU1, hU3, hU9⟩ := hU
    have c0 := cell_blk (i := 0) hU3
    have c1 := cell_blk (i := 1) hU3
    simp only [List.getElem?_toArray, List.getElem?_cons_zero, List.getElem?_cons_succ] at c0 c1
    go_simp
    all_goals with_reducible rfl
  simp only [Act.put, List.setIfInBounds_toArray, List.set_cons_zero, List.set_cons_succ]
  refine wpAnyH_one (i := 25) (o := { dst := some 66, op := _, type := _, pos := _, after := _, guard := _ }) (by kernel_rfl) rfl (by rfl) (fun K1 hK1 => ?_)
  have HK1 := Lib.hid hK1; clear hK1
  go_simp
  refine (per_any 50 1 _).mono ?_
  rintro e wn ⟨rfl, hbn⟩
  replace B0 := btr B0 hbn (Nat.le_refl _)
  replace H5 := H5.below hbn (Nat.le_refl _)
  have hS1 := And.intro (blk_keep hS0.1 hbn) (And.intro (blk_keep hS0.2.1 hbn) (blk_keep hS0.2.2 hbn))
  clear hS0
  have hS0 := hS1
  clear hS1
  refine HK1.out _ _ hS0 ?_
  clear HK1 K1
  try simp only [Act.put, List.setIfInBounds_toArray, List.set_cons_zero, List.set_cons_succ]
  refine wpAnyH_take (i := 26) (oi := { dst := some 67, op := _, type := _, pos := _, after := _, guard := _ }) (v := ?_) rfl (by kernel_rfl) (by kernel_rfl) (by kernel_rfl) (fun _ _ _ h => h) (Or.inl ⟨by rfl, ?_⟩) hS0 ?_
  rotate_left
  · intro U hU
    go_simp
    all_goals with_reducible rfl
  simp only [Act.put, List.setIfInBounds_toArray, List.set_cons_zero, List.set_cons_succ]
  refine wpAnyH_take (i := 27) (oi := { dst := some 68, op := _, type := _, pos := _, after := _, guard := _ }) (v := ?_) rfl (by kernel_rfl) (by kernel_rfl) (by kernel_rfl) (fun _ _ _ h => h) (Or.inl ⟨by rfl, ?_⟩) hS0 ?_
  rotate_left
  · intro U hU
    go_simp
    all_goals with_reducible rfl
  simp only [Act.put, List.setIfInBounds_toArray, List.set_cons_zero, List.set_cons_succ]
  refine wpAnyH_take (i := 28) (oi := { dst := some 69, op := _, type := _, pos := _, after := _, guard := _ }) (v := ?_) rfl (by kernel_rfl) (by kernel_rfl) (by kernel_rfl) (fun _ _ _ h => h) (Or.inl ⟨by rfl, ?_⟩) hS0 ?_
  rotate_left
  · intro U hU
    go_simp
    all_goals with_reducible rfl
  simp only [Act.put, List.setIfInBounds_toArray, List.set_cons_zero, List.set_cons_succ]
  refine wpAnyH_take (i := 29) (oi := { dst := some 70, op := _, type := _, pos := _, after := _, guard := _ }) (v := ?_) rfl (by kernel_rfl) (by kernel_rfl) (by kernel_rfl) (fun _ _ _ h => h) (Or.inl ⟨by rfl, ?_⟩) hS0 ?_
  rotate_left
  · intro U hU
    go_simp
    all_goals with_reducible rfl
  simp only [Act.put, List.setIfInBounds_toArray, List.set_cons_zero, List.set_cons_succ]
  refine wpAnyH_one (i := 30) (o := { dst := some 71, op := _, type := _, pos := _, after := _, guard := _ }) (by kernel_rfl) rfl (by rfl) (fun K1 hK1 => ?_)
  have HK1 := Lib.hid hK1; clear hK1
  go_simp
  have hbl := HL.out.2.2.2 wn (.cells #[.int .i64 2] 3)
  replace B0 := btr B0 hbl (Nat.le_refl _)
  have hS1 := And.intro (blk_keep hS0.1 hbl) (And.intro (blk_keep hS0.2.1 hbl) (blk_keep hS0.2.2 hbl))
  clear hS0
  have hS0 := hS1
  clear hS1
  replace H5 := H5.below hbl (Nat.le_refl _)
  have hl2 := HL.out.2.1 wn 2
  refine HK1.out _ _ hS0 ?_
  clear HK1 K1
  try simp only [Act.put, List.setIfInBounds_toArray, List.set_cons_zero, List.set_cons_succ]
  refine wpAnyH_one (i := 31) (o := { dst := some 72, op := _, type := _, pos := _, after := _, guard := _ }) (by kernel_rfl) rfl (by rfl) (fun K1 hK1 => ?_)
  have HK1 := Lib.hid hK1; clear hK1
  go_simp
  refine (numbers_any _ _ [2] [2] _ H5 hl2).mono ?_
  rintro e wm ⟨rfl, hbn⟩
  replace B0 := btr B0 hbn (Nat.le_refl _)
  have hS1 := And.intro (blk_keep hS0.1 hbn) (And.intro (blk_keep hS0.2.1 hbn) (blk_keep hS0.2.2 hbn))
  clear hS0
  have hS0 := hS1
  clear hS1
  rw [show decide (([2] : List Int) = [2]) = true from by decide]
  clear hl2 H5 hbl hbn
  refine HK1.out _ _ hS0 ?_
  clear HK1 K1
  try simp only [Act.put, List.setIfInBounds_toArray, List.set_cons_zero, List.set_cons_succ]
  refine wpAnyH_take (i := 32) (oi := { dst := some 73, op := _, type := _, pos := _, after := _, guard := _ }) (v := ?_) rfl (by kernel_rfl) (by kernel_rfl) (by kernel_rfl) (fun _ _ _ h => h) (Or.inl ⟨by rfl, ?_⟩) hS0 ?_
  rotate_left
  · intro U hU
    go_simp
    all_goals with_reducible rfl
  simp only [Act.put, List.setIfInBounds_toArray, List.set_cons_zero, List.set_cons_succ]
  refine wpAnyH_take (i := 33) (oi := { dst := some 74, op := _, type := _, pos := _, after := _, guard := _ }) (v := ?_) rfl (by kernel_rfl) (by kernel_rfl) (by kernel_rfl) (fun _ _ _ h => h) (Or.inl ⟨by rfl, ?_⟩) hS0 ?_
  rotate_left
  · intro U hU
    go_simp
    all_goals with_reducible rfl
  simp only [Act.put, List.setIfInBounds_toArray, List.set_cons_zero, List.set_cons_succ]
  refine wpAnyH_take (i := 34) (oi := { dst := some 75, op := _, type := _, pos := _, after := _, guard := _ }) (v := ?_) rfl (by kernel_rfl) (by kernel_rfl) (by kernel_rfl) (fun _ _ _ h => h) (Or.inl ⟨by rfl, ?_⟩) hS0 ?_
  rotate_left
  · intro U hU
    go_simp
    all_goals with_reducible rfl
  simp only [Act.put, List.setIfInBounds_toArray, List.set_cons_zero, List.set_cons_succ]
  refine wpAnyH_take (i := 35) (oi := { dst := some 76, op := _, type := _, pos := _, after := _, guard := _ }) (v := ?_) rfl (by kernel_rfl) (by kernel_rfl) (by kernel_rfl) (fun _ _ _ h => h) (Or.inl ⟨by rfl, ?_⟩) hS0 ?_
  rotate_left
  · intro U hU
    obtain ⟨hU1, hU3, hU9⟩ := hU
    have c0 := cell_blk (i := 0) hU9
    have c1 := cell_blk (i := 1) hU9
    simp only [List.getElem?_toArray, List.getElem?_cons_zero, List.getElem?_cons_succ] at c0 c1
    go_simp
    all_goals with_reducible rfl
  simp only [Act.put, List.setIfInBounds_toArray, List.set_cons_zero, List.set_cons_succ]
  refine wpAnyH_one (i := 36) (o := { dst := some 77, op := _, type := _, pos := _, after := _, guard := _ }) (by kernel_rfl) rfl (by rfl) (fun K1 hK1 => ?_)
  have HK1 := Lib.hid hK1; clear hK1
  go_simp
  refine (per_any 45 1 _).mono ?_
  rintro e wn ⟨rfl, hbn⟩
  replace B0 := btr B0 hbn (Nat.le_refl _)
  have hS1 := And.intro (blk_keep hS0.1 hbn) (And.intro (blk_keep hS0.2.1 hbn) (blk_keep hS0.2.2 hbn))
  clear hS0
  have hS0 := hS1
  clear hS1
  refine HK1.out _ _ hS0 ?_
  clear HK1 K1
  try simp only [Act.put, List.setIfInBounds_toArray, List.set_cons_zero, List.set_cons_succ]
  refine wpAnyH_take (i := 37) (oi := { dst := some 78, op := _, type := _, pos := _, after := _, guard := _ }) (v := ?_) rfl (by kernel_rfl) (by kernel_rfl) (by kernel_rfl) (fun _ _ _ h => h) (Or.inl ⟨by rfl, ?_⟩) hS0 ?_
  rotate_left
  · intro U hU
    go_simp
    all_goals with_reducible rfl
  simp only [Act.put, List.setIfInBounds_toArray, List.set_cons_zero, List.set_cons_succ]
  refine wpAnyH_take (i := 38) (oi := { dst := some 79, op := _, type := _, pos := _, after := _, guard := _ }) (v := ?_) rfl (by kernel_rfl) (by kernel_rfl) (by kernel_rfl) (fun _ _ _ h => h) (Or.inl ⟨by rfl, ?_⟩) hS0 ?_
  rotate_left
  · intro U hU
    go_simp
    all_goals with_reducible rfl
  simp only [Act.put, List.setIfInBounds_toArray, List.set_cons_zero, List.set_cons_succ]
  refine wpAnyH_take (i := 39) (oi := { dst := some 80, op := _, type := _, pos := _, after := _, guard := _ }) (v := ?_) rfl (by kernel_rfl) (by kernel_rfl) (by kernel_rfl) (fun _ _ _ h => h) (Or.inl ⟨by rfl, ?_⟩) hS0 ?_
  rotate_left
  · intro U hU
    go_simp
    all_goals with_reducible rfl
  simp only [Act.put, List.setIfInBounds_toArray, List.set_cons_zero, List.set_cons_succ]
  refine wpAnyH_take (i := 40) (oi := { dst := some 81, op := _, type := _, pos := _, after := _, guard := _ }) (v := ?_) rfl (by kernel_rfl) (by kernel_rfl) (by kernel_rfl) (fun _ _ _ h => h) (Or.inl ⟨by rfl, ?_⟩) hS0 ?_
  rotate_left
  · intro U hU
    go_simp
    all_goals with_reducible rfl
  simp only [Act.put, List.setIfInBounds_toArray, List.set_cons_zero, List.set_cons_succ]
  refine wpAnyH_take (i := 41) (oi := { dst := some 82, op := _, type := _, pos := _, after := _, guard := _ }) (v := ?_) rfl (by kernel_rfl) (by kernel_rfl) (by kernel_rfl) (fun _ _ _ h => h) (Or.inl ⟨by rfl, ?_⟩) hS0 ?_
  rotate_left
  · intro U hU
    go_simp
    all_goals with_reducible rfl
  simp only [Act.put, List.setIfInBounds_toArray, List.set_cons_zero, List.set_cons_succ]
  refine wpAnyH_take (i := 42) (oi := { dst := some 83, op := _, type := _, pos := _, after := _, guard := _ }) (v := ?_) rfl (by kernel_rfl) (by kernel_rfl) (by kernel_rfl) (fun _ _ _ h => h) (Or.inl ⟨by rfl, ?_⟩) hS0 ?_
  rotate_left
  · intro U hU
    go_simp
    all_goals with_reducible rfl
  simp only [Act.put, List.setIfInBounds_toArray, List.set_cons_zero, List.set_cons_succ]
  refine wpAnyH_take (i := 43) (oi := { dst := some 84, op := _, type := _, pos := _, after := _, guard := _ }) (v := ?_) rfl (by kernel_rfl) (by kernel_rfl) (by kernel_rfl) (fun _ _ _ h => h) (Or.inl ⟨by rfl, ?_⟩) hS0 ?_
  rotate_left
  · intro U hU
    go_simp
    all_goals with_reducible rfl
  simp only [Act.put, List.setIfInBounds_toArray, List.set_cons_zero, List.set_cons_succ]
  refine wpAnyH_done (by kernel_rfl) ?_ _
  simp only [Exit.then]
  refine HK2.out _ _ ?_; clear HK2
  go_wp2
  refine HK.out _ _ ?_; clear HK
  clear hS0
  refine wp_seq_k (fun K hK => ?_)
  have HK := Lib.hid hK; clear hK
  go_wp2_with (first | (go_at_call 49; refine (W2_any _).mono ?_; rintro e wa8 ⟨va, rfl, ha, hba⟩) | (go_at_call 28; refine (x28W _ _ ha).mono ?_; rintro e wc8 ⟨t11, rfl, H11, hbc⟩))
  refine HK.out _ _ ?_; clear HK K
  replace B0 := btr B0 hba (Nat.le_refl _)
  replace B0 := btr B0 hbc (Nat.le_refl _)
  clear hba hbc ha
  refine wp_seq_k (fun K hK => ?_)
  have HK := Lib.hid hK; clear hK
  go_wp2_with (first | (go_at_call 49; refine (W2_any _).mono ?_; rintro e wa9 ⟨va, rfl, ha, hba⟩) | (go_at_call 33; refine (x33W _ _ ha).mono ?_; rintro e wc9 ⟨b12, o12, c12, v0, v1, rfl, hb12, k0, k1, R0, R1, hbc⟩))
  refine HK.out _ _ ?_; clear HK K
  replace H11 := H11.below hba (Nat.le_refl _)
  replace B0 := btr B0 hba (Nat.le_refl _)
  replace H11 := H11.below hbc (Nat.le_refl _)
  replace B0 := btr B0 hbc (Nat.le_refl _)
  clear hba hbc ha
  refine wp_seq_k (fun K hK => ?_)
  have HK := Lib.hid hK; clear hK
  go_wp2_with (first | (go_at_call 49; refine (W2_any _).mono ?_; rintro e wa10 ⟨va, rfl, ha, hba⟩) | (go_at_call 40; refine (per_any 149 2 _).mono ?_; rintro e wp10 ⟨rfl, hbp⟩) | (go_at_call 20; refine (x20a _ _ (ha.below hbp (Nat.le_refl _))).mono ?_; rintro e wc10 ⟨rfl, hbc⟩))
  refine HK.out _ _ ?_; clear HK K
  replace H11 := H11.below hba (Nat.le_refl _)
  replace R0 := R0.below hba (Nat.le_refl _)
  replace R1 := R1.below hba (Nat.le_refl _)
  replace k0 := (hba.cell (p := ⟨b12, o12, none⟩) hb12).trans k0
  replace k1 := (hba.cell (p := ⟨b12, o12 + 1, none⟩) hb12).trans k1
  replace hb12 := Nat.lt_of_lt_of_le hb12 hba.size
  replace B0 := btr B0 hba (Nat.le_refl _)
  replace H11 := H11.below hbp (Nat.le_refl _)
  replace R0 := R0.below hbp (Nat.le_refl _)
  replace R1 := R1.below hbp (Nat.le_refl _)
  replace k0 := (hbp.cell (p := ⟨b12, o12, none⟩) hb12).trans k0
  replace k1 := (hbp.cell (p := ⟨b12, o12 + 1, none⟩) hb12).trans k1
  replace hb12 := Nat.lt_of_lt_of_le hb12 hbp.size
  replace B0 := btr B0 hbp (Nat.le_refl _)
  replace H11 := H11.below hbc (Nat.le_refl _)
  replace R0 := R0.below hbc (Nat.le_refl _)
  replace R1 := R1.below hbc (Nat.le_refl _)
  replace k0 := (hbc.cell (p := ⟨b12, o12, none⟩) hb12).trans k0
  replace k1 := (hbc.cell (p := ⟨b12, o12 + 1, none⟩) hb12).trans k1
  replace hb12 := Nat.lt_of_lt_of_le hb12 hbc.size
  replace B0 := btr B0 hbc (Nat.le_refl _)
  clear hba hbp hbc ha
  go_wp2_with (first | (go_at_call 49; refine (W2_any _).mono ?_; rintro e wa11 ⟨va, rfl, ha, hba⟩) | (go_at_call 40; refine (per_any 150 2 _).mono ?_; rintro e wp11 ⟨rfl, hbp⟩) | (go_at_call 20; refine (x20b _ _ (ha.below hbp (Nat.le_refl _))).mono ?_; rintro e wc11 ⟨rfl, hbc⟩))
  replace H11 := H11.below hba (Nat.le_refl _)
  replace R0 := R0.below hba (Nat.le_refl _)
  replace R1 := R1.below hba (Nat.le_refl _)
  replace k0 := (hba.cell (p := ⟨b12, o12, none⟩) hb12).trans k0
  replace k1 := (hba.cell (p := ⟨b12, o12 + 1, none⟩) hb12).trans k1
  replace hb12 := Nat.lt_of_lt_of_le hb12 hba.size
  replace B0 := btr B0 hba (Nat.le_refl _)
  replace H11 := H11.below hbp (Nat.le_refl _)
  replace R0 := R0.below hbp (Nat.le_refl _)
  replace R1 := R1.below hbp (Nat.le_refl _)
  replace k0 := (hbp.cell (p := ⟨b12, o12, none⟩) hb12).trans k0
  replace k1 := (hbp.cell (p := ⟨b12, o12 + 1, none⟩) hb12).trans k1
  replace hb12 := Nat.lt_of_lt_of_le hb12 hbp.size
  replace B0 := btr B0 hbp (Nat.le_refl _)
  replace H11 := H11.below hbc (Nat.le_refl _)
  replace R0 := R0.below hbc (Nat.le_refl _)
  replace R1 := R1.below hbc (Nat.le_refl _)
  replace k0 := (hbc.cell (p := ⟨b12, o12, none⟩) hb12).trans k0
  replace k1 := (hbc.cell (p := ⟨b12, o12 + 1, none⟩) hb12).trans k1
  replace hb12 := Nat.lt_of_lt_of_le hb12 hbc.size
  replace B0 := btr B0 hbc (Nat.le_refl _)
  clear hba hbp hbc ha
  rename_i K hK
  have HK := Lib.hid hK; clear hK
  simp only [List.append_eq, List.cons_append, List.nil_append]
  have hS0 : (World.drew wc11).cell? ⟨b12, o12, none⟩ = some v0 ∧ (World.drew wc11).cell? ⟨b12, o12 + 1, none⟩ = some v1 := ⟨k0, k1⟩
  replace B0 := B0.drew
  replace H11 : SlI (World.drew wc11) t11 [0, 40, 60] := H11
  replace R0 : SlP (World.drew wc11) v0 exR0 := R0
  replace R1 : SlP (World.drew wc11) v1 exR1 := R1
  replace hb12 : b12 < (World.drew wc11).heap.size := hb12
  refine wp_region_held (S := fun U => U.cell? ⟨b12, o12, none⟩ = some v0 ∧ U.cell? ⟨b12, o12 + 1, none⟩ = some v1) (by kernel_rfl) ?_
  change wpAnyH _ _ _ _ _ _ _ _ (World.drew wc11)
  generalize World.drew wc11 = wq at *
  clear k0 k1
  refine wpAnyH_take (i := 0) (oi := { dst := some 107, op := _, type := _, pos := _, after := _, guard := _ }) (v := ?_) rfl (by kernel_rfl) (by kernel_rfl) (by kernel_rfl) (fun _ _ _ h => h) (Or.inl ⟨by rfl, ?_⟩) hS0 ?_
  rotate_left
  · intro U hU
    go_simp
    all_goals with_reducible rfl
  simp only [Act.put, List.setIfInBounds_toArray, List.set_cons_zero, List.set_cons_succ]
  refine wpAnyH_take (i := 1) (oi := { dst := some 108, op := _, type := _, pos := _, after := _, guard := _ }) (v := ?_) rfl (by kernel_rfl) (by kernel_rfl) (by kernel_rfl) (fun _ _ _ h => h) (Or.inl ⟨by rfl, ?_⟩) hS0 ?_
  rotate_left
  · intro U hU
    go_simp
    all_goals with_reducible rfl
  simp only [Act.put, List.setIfInBounds_toArray, List.set_cons_zero, List.set_cons_succ]
  refine wpAnyH_take (i := 2) (oi := { dst := some 109, op := _, type := _, pos := _, after := _, guard := _ }) (v := ?_) rfl (by kernel_rfl) (by kernel_rfl) (by kernel_rfl) (fun _ _ _ h => h) (Or.inl ⟨by rfl, ?_⟩) hS0 ?_
  rotate_left
  · intro U hU
    go_simp
    all_goals with_reducible rfl
  simp only [Act.put, List.setIfInBounds_toArray, List.set_cons_zero, List.set_cons_succ]
  refine wpAnyH_take (i := 3) (oi := { dst := some 110, op := _, type := _, pos := _, after := _, guard := _ }) (v := ?_) rfl (by kernel_rfl) (by kernel_rfl) (by kernel_rfl) (fun _ _ _ h => h) (Or.inl ⟨by rfl, ?_⟩) hS0 ?_
  rotate_left
  · intro U hU
    go_simp
    all_goals with_reducible rfl
  simp only [Act.put, List.setIfInBounds_toArray, List.set_cons_zero, List.set_cons_succ]
  refine wpAnyH_take (i := 4) (oi := { dst := some 111, op := _, type := _, pos := _, after := _, guard := _ }) (v := ?_) rfl (by kernel_rfl) (by kernel_rfl) (by kernel_rfl) (fun _ _ _ h => h) (Or.inl ⟨by rfl, ?_⟩) hS0 ?_
  rotate_left
  · intro U hU
    go_simp
    all_goals with_reducible rfl
  simp only [Act.put, List.setIfInBounds_toArray, List.set_cons_zero, List.set_cons_succ]
  refine wpAnyH_take (i := 5) (oi := { dst := some 112, op := _, type := _, pos := _, after := _, guard := _ }) (v := ?_) rfl (by kernel_rfl) (by kernel_rfl) (by kernel_rfl) (fun _ _ _ h => h) (Or.inl ⟨by rfl, ?_⟩) hS0 ?_
  rotate_left
  · intro U hU
    go_simp
    all_goals with_reducible rfl
  simp only [Act.put, List.setIfInBounds_toArray, List.set_cons_zero, List.set_cons_succ]
  refine wpAnyH_take (i := 6) (oi := { dst := some 113, op := _, type := _, pos := _, after := _, guard := _ }) (v := ?_) rfl (by kernel_rfl) (by kernel_rfl) (by kernel_rfl) (fun _ _ _ h => h) (Or.inl ⟨by rfl, ?_⟩) hS0 ?_
  rotate_left
  · intro U hU
    go_simp
    all_goals with_reducible rfl
  simp only [Act.put, List.setIfInBounds_toArray, List.set_cons_zero, List.set_cons_succ]
  refine wpAnyH_take (i := 7) (oi := { dst := some 114, op := _, type := _, pos := _, after := _, guard := _ }) (v := ?_) rfl (by kernel_rfl) (by kernel_rfl) (by kernel_rfl) (fun _ _ _ h => h) (Or.inl ⟨by rfl, ?_⟩) hS0 ?_
  rotate_left
  · intro U hU
    go_simp
    all_goals with_reducible rfl
  simp only [Act.put, List.setIfInBounds_toArray, List.set_cons_zero, List.set_cons_succ]
  refine wpAnyH_take (i := 8) (oi := { dst := some 115, op := _, type := _, pos := _, after := _, guard := _ }) (v := ?_) rfl (by kernel_rfl) (by kernel_rfl) (by kernel_rfl) (fun _ _ _ h => h) (Or.inl ⟨by rfl, ?_⟩) hS0 ?_
  rotate_left
  · intro U hU
    go_simp
    all_goals with_reducible rfl
  simp only [Act.put, List.setIfInBounds_toArray, List.set_cons_zero, List.set_cons_succ]
  refine wpAnyH_take (i := 9) (oi := { dst := some 116, op := _, type := _, pos := _, after := _, guard := _ }) (v := ?_) rfl (by kernel_rfl) (by kernel_rfl) (by kernel_rfl) (fun _ _ _ h => h) (Or.inl ⟨by rfl, ?_⟩) hS0 ?_
  rotate_left
  · intro U hU
    go_simp
    all_goals with_reducible rfl
  simp only [Act.put, List.setIfInBounds_toArray, List.set_cons_zero, List.set_cons_succ]
  refine wpAnyH_take (i := 10) (oi := { dst := some 117, op := _, type := _, pos := _, after := _, guard := _ }) (v := ?_) rfl (by kernel_rfl) (by kernel_rfl) (by kernel_rfl) (fun _ _ _ h => h) (Or.inl ⟨by rfl, ?_⟩) hS0 ?_
  rotate_left
  · intro U hU
    go_simp
    all_goals with_reducible rfl
  simp only [Act.put, List.setIfInBounds_toArray, List.set_cons_zero, List.set_cons_succ]
  refine wpAnyH_take (i := 11) (oi := { dst := some 118, op := _, type := _, pos := _, after := _, guard := _ }) (v := ?_) rfl (by kernel_rfl) (by kernel_rfl) (by kernel_rfl) (fun _ _ _ h => h) (Or.inl ⟨by rfl, ?_⟩) hS0 ?_
  rotate_left
  · intro U hU
    go_simp
    all_goals with_reducible rfl
  simp only [Act.put, List.setIfInBounds_toArray, List.set_cons_zero, List.set_cons_succ]
  refine wpAnyH_take (i := 12) (oi := { dst := some 119, op := _, type := _, pos := _, after := _, guard := _ }) (v := ?_) rfl (by kernel_rfl) (by kernel_rfl) (by kernel_rfl) (fun _ _ _ h => h) (Or.inl ⟨by rfl, ?_⟩) hS0 ?_
  rotate_left
  · intro U hU
    go_simp
    all_goals with_reducible rfl
  simp only [Act.put, List.setIfInBounds_toArray, List.set_cons_zero, List.set_cons_succ]
  refine wpAnyH_take (i := 13) (oi := { dst := some 120, op := _, type := _, pos := _, after := _, guard := _ }) (v := ?_) rfl (by kernel_rfl) (by kernel_rfl) (by kernel_rfl) (fun _ _ _ h => h) (Or.inl ⟨by rfl, ?_⟩) hS0 ?_
  rotate_left
  · intro U hU
    go_simp
    all_goals with_reducible rfl
  simp only [Act.put, List.setIfInBounds_toArray, List.set_cons_zero, List.set_cons_succ]
  refine wpAnyH_take (i := 14) (oi := { dst := some 121, op := _, type := _, pos := _, after := _, guard := _ }) (v := ?_) rfl (by kernel_rfl) (by kernel_rfl) (by kernel_rfl) (fun _ _ _ h => h) (Or.inl ⟨by rfl, ?_⟩) hS0 ?_
  rotate_left
  · intro U hU
    go_simp
    all_goals with_reducible rfl
  simp only [Act.put, List.setIfInBounds_toArray, List.set_cons_zero, List.set_cons_succ]
  refine wpAnyH_take (i := 15) (oi := { dst := some 122, op := _, type := _, pos := _, after := _, guard := _ }) (v := ?_) rfl (by kernel_rfl) (by kernel_rfl) (by kernel_rfl) (fun _ _ _ h => h) (Or.inl ⟨by rfl, ?_⟩) hS0 ?_
  rotate_left
  · intro U hU
    go_simp
    all_goals with_reducible rfl
  simp only [Act.put, List.setIfInBounds_toArray, List.set_cons_zero, List.set_cons_succ]
  refine wpAnyH_one (i := 16) (o := { dst := some 123, op := _, type := _, pos := _, after := _, guard := _ }) (by kernel_rfl) rfl (by rfl) (fun K1 hK1 => ?_)
  have HK1 := Lib.hid hK1; clear hK1
  go_simp
  have hbn := HL.out.2.2.2 wq (.cells #[.int .i64 0, .int .i64 40, .int .i64 60] 3)
  replace B0 := btr B0 hbn (Nat.le_refl _)
  replace H11 := H11.below hbn (Nat.le_refl _)
  replace R0 := R0.below hbn (Nat.le_refl _)
  replace R1 := R1.below hbn (Nat.le_refl _)
  have hS1 := And.intro ((hbn.cell (p := ⟨b12, o12, none⟩) hb12).trans hS0.1) ((hbn.cell (p := ⟨b12, o12 + 1, none⟩) hb12).trans hS0.2)
  clear hS0
  have hS0 := hS1
  clear hS1
  replace hb12 := Nat.lt_of_lt_of_le hb12 hbn.size
  have hlt := HL.out.2.2.1 wq 0 40 60
  clear hbn
  refine HK1.out _ _ hS0 ?_
  clear HK1 K1
  try simp only [Act.put, List.setIfInBounds_toArray, List.set_cons_zero, List.set_cons_succ]
  generalize World.alloc wq _ = wn at *
  refine wpAnyH_one (i := 17) (o := { dst := some 124, op := _, type := _, pos := _, after := _, guard := _ }) (by kernel_rfl) rfl (by rfl) (fun K1 hK1 => ?_)
  have HK1 := Lib.hid hK1; clear hK1
  go_simp
  refine (numbers_any _ _ [0, 40, 60] [0, 40, 60] _ H11 hlt).mono ?_
  rintro e wn ⟨rfl, hbn⟩
  replace B0 := btr B0 hbn (Nat.le_refl _)
  replace H11 := H11.below hbn (Nat.le_refl _)
  replace R0 := R0.below hbn (Nat.le_refl _)
  replace R1 := R1.below hbn (Nat.le_refl _)
  have hS1 := And.intro ((hbn.cell (p := ⟨b12, o12, none⟩) hb12).trans hS0.1) ((hbn.cell (p := ⟨b12, o12 + 1, none⟩) hb12).trans hS0.2)
  clear hS0
  have hS0 := hS1
  clear hS1
  replace hb12 := Nat.lt_of_lt_of_le hb12 hbn.size
  clear hbn
  refine HK1.out _ _ hS0 ?_
  clear HK1 K1
  try simp only []
  try rw [show decide (([0, 40, 60] : List Int) = [0, 40, 60]) = true from by decide]
  clear hlt
  refine wpAnyH_take (i := 18) (oi := { dst := some 125, op := _, type := _, pos := _, after := _, guard := _ }) (v := ?_) rfl (by kernel_rfl) (by kernel_rfl) (by kernel_rfl) (fun _ _ _ h => h) (Or.inl ⟨by rfl, ?_⟩) hS0 ?_
  rotate_left
  · intro U hU
    go_simp
    all_goals with_reducible rfl
  simp only [Act.put, List.setIfInBounds_toArray, List.set_cons_zero, List.set_cons_succ]
  refine wpAnyH_take (i := 19) (oi := { dst := some 126, op := _, type := _, pos := _, after := _, guard := _ }) (v := ?_) rfl (by kernel_rfl) (by kernel_rfl) (by kernel_rfl) (fun _ _ _ h => h) (Or.inl ⟨by rfl, ?_⟩) hS0 ?_
  rotate_left
  · intro U hU
    go_simp
    all_goals with_reducible rfl
  simp only [Act.put, List.setIfInBounds_toArray, List.set_cons_zero, List.set_cons_succ]
  refine wpAnyH_take (i := 20) (oi := { dst := some 127, op := _, type := _, pos := _, after := _, guard := _ }) (v := ?_) rfl (by kernel_rfl) (by kernel_rfl) (by kernel_rfl) (fun _ _ _ h => h) (Or.inl ⟨by rfl, ?_⟩) hS0 ?_
  rotate_left
  · intro U hU
    go_simp
    all_goals with_reducible rfl
  simp only [Act.put, List.setIfInBounds_toArray, List.set_cons_zero, List.set_cons_succ]
  refine wpAnyH_take (i := 21) (oi := { dst := some 128, op := _, type := _, pos := _, after := _, guard := _ }) (v := ?_) rfl (by kernel_rfl) (by kernel_rfl) (by kernel_rfl) (fun _ _ _ h => h) (Or.inl ⟨by rfl, ?_⟩) hS0 ?_
  rotate_left
  · intro U hU
    go_simp
    all_goals with_reducible rfl
  simp only [Act.put, List.setIfInBounds_toArray, List.set_cons_zero, List.set_cons_succ]
  refine wpAnyH_take (i := 22) (oi := { dst := some 129, op := _, type := _, pos := _, after := _, guard := _ }) (v := ?_) rfl (by kernel_rfl) (by kernel_rfl) (by kernel_rfl) (fun _ _ _ h => h) (Or.inl ⟨by rfl, ?_⟩) hS0 ?_
  rotate_left
  · intro U hU
    go_simp
    all_goals with_reducible rfl
  simp only [Act.put, List.setIfInBounds_toArray, List.set_cons_zero, List.set_cons_succ]
  refine wpAnyH_take (i := 23) (oi := { dst := some 130, op := _, type := _, pos := _, after := _, guard := _ }) (v := ?_) rfl (by kernel_rfl) (by kernel_rfl) (by kernel_rfl) (fun _ _ _ h => h) (Or.inl ⟨by rfl, ?_⟩) hS0 ?_
  rotate_left
  · intro U hU
    go_simp
    all_goals with_reducible rfl
  simp only [Act.put, List.setIfInBounds_toArray, List.set_cons_zero, List.set_cons_succ]
  refine wpAnyH_take (i := 24) (oi := { dst := some 131, op := _, type := _, pos := _, after := _, guard := _ }) (v := ?_) rfl (by kernel_rfl) (by kernel_rfl) (by kernel_rfl) (fun _ _ _ h => h) (Or.inl ⟨by rfl, ?_⟩) hS0 ?_
  rotate_left
  · intro U hU
    go_simp
    all_goals with_reducible rfl
  simp only [Act.put, List.setIfInBounds_toArray, List.set_cons_zero, List.set_cons_succ]
  refine wpAnyH_take (i := 25) (oi := { dst := some 132, op := _, type := _, pos := _, after := _, guard := _ }) (v := ?_) rfl (by kernel_rfl) (by kernel_rfl) (by kernel_rfl) (fun _ _ _ h => h) (Or.inl ⟨by rfl, ?_⟩) hS0 ?_
  rotate_left
  · intro U hU
    go_simp
    all_goals with_reducible rfl
  simp only [Act.put, List.setIfInBounds_toArray, List.set_cons_zero, List.set_cons_succ]
  refine wpAnyH_take (i := 26) (oi := { dst := some 133, op := _, type := _, pos := _, after := _, guard := _ }) (v := ?_) rfl (by kernel_rfl) (by kernel_rfl) (by kernel_rfl) (fun _ _ _ h => h) (Or.inl ⟨by rfl, ?_⟩) hS0 ?_
  rotate_left
  · intro U hU
    go_simp
    all_goals with_reducible rfl
  simp only [Act.put, List.setIfInBounds_toArray, List.set_cons_zero, List.set_cons_succ]
  refine wpAnyH_take (i := 27) (oi := { dst := some 134, op := _, type := _, pos := _, after := _, guard := _ }) (v := ?_) rfl (by kernel_rfl) (by kernel_rfl) (by kernel_rfl) (fun _ _ _ h => h) (Or.inl ⟨by rfl, ?_⟩) hS0 ?_
  rotate_left
  · intro U hU
    obtain ⟨hU0, hU1⟩ := hU
    go_simp
    all_goals with_reducible rfl
  simp only [Act.put, List.setIfInBounds_toArray, List.set_cons_zero, List.set_cons_succ]
  refine wpAnyH_one (i := 28) (o := { dst := some 135, op := _, type := _, pos := _, after := _, guard := _ }) (by kernel_rfl) rfl (by rfl) (fun K1 hK1 => ?_)
  have HK1 := Lib.hid hK1; clear hK1
  go_simp
  refine (point_any 0 _).mono ?_
  rintro e wn ⟨rfl, hbn⟩
  replace B0 := btr B0 hbn (Nat.le_refl _)
  replace H11 := H11.below hbn (Nat.le_refl _)
  replace R0 := R0.below hbn (Nat.le_refl _)
  replace R1 := R1.below hbn (Nat.le_refl _)
  have hS1 := And.intro ((hbn.cell (p := ⟨b12, o12, none⟩) hb12).trans hS0.1) ((hbn.cell (p := ⟨b12, o12 + 1, none⟩) hb12).trans hS0.2)
  clear hS0
  have hS0 := hS1
  clear hS1
  replace hb12 := Nat.lt_of_lt_of_le hb12 hbn.size
  clear hbn
  refine HK1.out _ _ hS0 ?_
  clear HK1 K1
  try simp only [Act.put, List.setIfInBounds_toArray, List.set_cons_zero, List.set_cons_succ]
  refine wpAnyH_one (i := 29) (o := { dst := some 136, op := _, type := _, pos := _, after := _, guard := _ }) (by kernel_rfl) rfl (by rfl) (fun K1 hK1 => ?_)
  have HK1 := Lib.hid hK1; clear hK1
  go_simp
  refine (span_any 30 40 _).mono ?_
  rintro e wn ⟨rfl, hbn⟩
  replace B0 := btr B0 hbn (Nat.le_refl _)
  replace H11 := H11.below hbn (Nat.le_refl _)
  replace R0 := R0.below hbn (Nat.le_refl _)
  replace R1 := R1.below hbn (Nat.le_refl _)
  have hS1 := And.intro ((hbn.cell (p := ⟨b12, o12, none⟩) hb12).trans hS0.1) ((hbn.cell (p := ⟨b12, o12 + 1, none⟩) hb12).trans hS0.2)
  clear hS0
  have hS0 := hS1
  clear hS1
  replace hb12 := Nat.lt_of_lt_of_le hb12 hbn.size
  clear hbn
  refine HK1.out _ _ hS0 ?_
  clear HK1 K1
  try simp only [Act.put, List.setIfInBounds_toArray, List.set_cons_zero, List.set_cons_succ]
  refine wpAnyH_one (i := 30) (o := { dst := some 137, op := _, type := _, pos := _, after := _, guard := _ }) (by kernel_rfl) rfl (by rfl) (fun K1 hK1 => ?_)
  have HK1 := Lib.hid hK1; clear hK1
  go_simp
  refine (span_any 50 60 _).mono ?_
  rintro e wn ⟨rfl, hbn⟩
  replace B0 := btr B0 hbn (Nat.le_refl _)
  replace H11 := H11.below hbn (Nat.le_refl _)
  replace R0 := R0.below hbn (Nat.le_refl _)
  replace R1 := R1.below hbn (Nat.le_refl _)
  have hS1 := And.intro ((hbn.cell (p := ⟨b12, o12, none⟩) hb12).trans hS0.1) ((hbn.cell (p := ⟨b12, o12 + 1, none⟩) hb12).trans hS0.2)
  clear hS0
  have hS0 := hS1
  clear hS1
  replace hb12 := Nat.lt_of_lt_of_le hb12 hbn.size
  clear hbn
  refine HK1.out _ _ hS0 ?_
  clear HK1 K1
  try simp only [Act.put, List.setIfInBounds_toArray, List.set_cons_zero, List.set_cons_succ]
  refine wpAnyH_one (i := 31) (o := { dst := some 138, op := _, type := _, pos := _, after := _, guard := _ }) (by kernel_rfl) rfl (by rfl) (fun K1 hK1 => ?_)
  have HK1 := Lib.hid hK1; clear hK1
  go_simp
  have hbn := HL.out.2.2.2 wn (.cells #[.int .i64 0, .int .i64 0, .int .i64 30, .int .i64 40, .int .i64 50, .int .i64 60] 80)
  replace B0 := btr B0 hbn (Nat.le_refl _)
  replace H11 := H11.below hbn (Nat.le_refl _)
  replace R0 := R0.below hbn (Nat.le_refl _)
  replace R1 := R1.below hbn (Nat.le_refl _)
  have hS1 := And.intro ((hbn.cell (p := ⟨b12, o12, none⟩) hb12).trans hS0.1) ((hbn.cell (p := ⟨b12, o12 + 1, none⟩) hb12).trans hS0.2)
  clear hS0
  have hS0 := hS1
  clear hS1
  replace hb12 := Nat.lt_of_lt_of_le hb12 hbn.size
  have hlt : SlP (wn.alloc (.cells #[.int .i64 0, .int .i64 0, .int .i64 30, .int .i64 40, .int .i64 50, .int .i64 60] 80)) (.slice (some ⟨wn.heap.size, 0, none⟩) 3 3) exR0 := slG_new encP_len (xs := exR0) (by decide) (by decide) (heap_newI rfl)
  clear hbn
  refine HK1.out _ _ hS0 ?_
  clear HK1 K1
  try simp only [Act.put, List.setIfInBounds_toArray, List.set_cons_zero, List.set_cons_succ]
  generalize World.alloc wn _ = wn at *
  refine wpAnyH_one (i := 32) (o := { dst := some 139, op := _, type := _, pos := _, after := _, guard := _ }) (by kernel_rfl) rfl (by rfl) (fun K1 hK1 => ?_)
  have HK1 := Lib.hid hK1; clear hK1
  go_simp
  refine (spans_any _ _ exR0 exR0 _ R0 hlt).mono ?_
  rintro e wn ⟨rfl, hbn⟩
  replace B0 := btr B0 hbn (Nat.le_refl _)
  replace H11 := H11.below hbn (Nat.le_refl _)
  replace R1 := R1.below hbn (Nat.le_refl _)
  have hS1 := And.intro ((hbn.cell (p := ⟨b12, o12, none⟩) hb12).trans hS0.1) ((hbn.cell (p := ⟨b12, o12 + 1, none⟩) hb12).trans hS0.2)
  clear hS0
  have hS0 := hS1
  clear hS1
  replace hb12 := Nat.lt_of_lt_of_le hb12 hbn.size
  clear hbn
  refine HK1.out _ _ hS0 ?_
  clear HK1 K1
  try simp only []
  try rw [show decide (exR0 = exR0) = true from by simp]
  clear hlt R0
  refine wpAnyH_take (i := 33) (oi := { dst := some 140, op := _, type := _, pos := _, after := _, guard := _ }) (v := ?_) rfl (by kernel_rfl) (by kernel_rfl) (by kernel_rfl) (fun _ _ _ h => h) (Or.inl ⟨by rfl, ?_⟩) hS0 ?_
  rotate_left
  · intro U hU
    go_simp
    all_goals with_reducible rfl
  simp only [Act.put, List.setIfInBounds_toArray, List.set_cons_zero, List.set_cons_succ]
  refine wpAnyH_take (i := 34) (oi := { dst := some 141, op := _, type := _, pos := _, after := _, guard := _ }) (v := ?_) rfl (by kernel_rfl) (by kernel_rfl) (by kernel_rfl) (fun _ _ _ h => h) (Or.inl ⟨by rfl, ?_⟩) hS0 ?_
  rotate_left
  · intro U hU
    go_simp
    all_goals with_reducible rfl
  simp only [Act.put, List.setIfInBounds_toArray, List.set_cons_zero, List.set_cons_succ]
  refine wpAnyH_take (i := 35) (oi := { dst := some 142, op := _, type := _, pos := _, after := _, guard := _ }) (v := ?_) rfl (by kernel_rfl) (by kernel_rfl) (by kernel_rfl) (fun _ _ _ h => h) (Or.inl ⟨by rfl, ?_⟩) hS0 ?_
  rotate_left
  · intro U hU
    go_simp
    all_goals with_reducible rfl
  simp only [Act.put, List.setIfInBounds_toArray, List.set_cons_zero, List.set_cons_succ]
  refine wpAnyH_take (i := 36) (oi := { dst := some 143, op := _, type := _, pos := _, after := _, guard := _ }) (v := ?_) rfl (by kernel_rfl) (by kernel_rfl) (by kernel_rfl) (fun _ _ _ h => h) (Or.inl ⟨by rfl, ?_⟩) hS0 ?_
  rotate_left
  · intro U hU
    go_simp
    all_goals with_reducible rfl
  simp only [Act.put, List.setIfInBounds_toArray, List.set_cons_zero, List.set_cons_succ]
  refine wpAnyH_take (i := 37) (oi := { dst := some 144, op := _, type := _, pos := _, after := _, guard := _ }) (v := ?_) rfl (by kernel_rfl) (by kernel_rfl) (by kernel_rfl) (fun _ _ _ h => h) (Or.inl ⟨by rfl, ?_⟩) hS0 ?_
  rotate_left
  · intro U hU
    obtain ⟨hU0, hU1⟩ := hU
    go_simp
    all_goals with_reducible rfl
  simp only [Act.put, List.setIfInBounds_toArray, List.set_cons_zero, List.set_cons_succ]
  refine wpAnyH_one (i := 38) (o := { dst := some 145, op := _, type := _, pos := _, after := _, guard := _ }) (by kernel_rfl) rfl (by rfl) (fun K1 hK1 => ?_)
  have HK1 := Lib.hid hK1; clear hK1
  go_simp
  refine (span_any 60 75 _).mono ?_
  rintro e wn ⟨rfl, hbn⟩
  replace B0 := btr B0 hbn (Nat.le_refl _)
  replace H11 := H11.below hbn (Nat.le_refl _)
  replace R1 := R1.below hbn (Nat.le_refl _)
  have hS1 := And.intro ((hbn.cell (p := ⟨b12, o12, none⟩) hb12).trans hS0.1) ((hbn.cell (p := ⟨b12, o12 + 1, none⟩) hb12).trans hS0.2)
  clear hS0
  have hS0 := hS1
  clear hS1
  replace hb12 := Nat.lt_of_lt_of_le hb12 hbn.size
  clear hbn
  refine HK1.out _ _ hS0 ?_
  clear HK1 K1
  try simp only [Act.put, List.setIfInBounds_toArray, List.set_cons_zero, List.set_cons_succ]
  refine wpAnyH_one (i := 39) (o := { dst := some 146, op := _, type := _, pos := _, after := _, guard := _ }) (by kernel_rfl) rfl (by rfl) (fun K1 hK1 => ?_)
  have HK1 := Lib.hid hK1; clear hK1
  go_simp
  refine (span_any 90 115 _).mono ?_
  rintro e wn ⟨rfl, hbn⟩
  replace B0 := btr B0 hbn (Nat.le_refl _)
  replace H11 := H11.below hbn (Nat.le_refl _)
  replace R1 := R1.below hbn (Nat.le_refl _)
  have hS1 := And.intro ((hbn.cell (p := ⟨b12, o12, none⟩) hb12).trans hS0.1) ((hbn.cell (p := ⟨b12, o12 + 1, none⟩) hb12).trans hS0.2)
  clear hS0
  have hS0 := hS1
  clear hS1
  replace hb12 := Nat.lt_of_lt_of_le hb12 hbn.size
  clear hbn
  refine HK1.out _ _ hS0 ?_
  clear HK1 K1
  try simp only [Act.put, List.setIfInBounds_toArray, List.set_cons_zero, List.set_cons_succ]
  refine wpAnyH_one (i := 40) (o := { dst := some 147, op := _, type := _, pos := _, after := _, guard := _ }) (by kernel_rfl) rfl (by rfl) (fun K1 hK1 => ?_)
  have HK1 := Lib.hid hK1; clear hK1
  go_simp
  refine (span_any 110 135 _).mono ?_
  rintro e wn ⟨rfl, hbn⟩
  replace B0 := btr B0 hbn (Nat.le_refl _)
  replace H11 := H11.below hbn (Nat.le_refl _)
  replace R1 := R1.below hbn (Nat.le_refl _)
  have hS1 := And.intro ((hbn.cell (p := ⟨b12, o12, none⟩) hb12).trans hS0.1) ((hbn.cell (p := ⟨b12, o12 + 1, none⟩) hb12).trans hS0.2)
  clear hS0
  have hS0 := hS1
  clear hS1
  replace hb12 := Nat.lt_of_lt_of_le hb12 hbn.size
  clear hbn
  refine HK1.out _ _ hS0 ?_
  clear HK1 K1
  try simp only [Act.put, List.setIfInBounds_toArray, List.set_cons_zero, List.set_cons_succ]
  refine wpAnyH_one (i := 41) (o := { dst := some 148, op := _, type := _, pos := _, after := _, guard := _ }) (by kernel_rfl) rfl (by rfl) (fun K1 hK1 => ?_)
  have HK1 := Lib.hid hK1; clear hK1
  go_simp
  have hbn := HL.out.2.2.2 wn (.cells #[.int .i64 60, .int .i64 75, .int .i64 90, .int .i64 115, .int .i64 110, .int .i64 135] 80)
  replace B0 := btr B0 hbn (Nat.le_refl _)
  replace H11 := H11.below hbn (Nat.le_refl _)
  replace R1 := R1.below hbn (Nat.le_refl _)
  have hS1 := And.intro ((hbn.cell (p := ⟨b12, o12, none⟩) hb12).trans hS0.1) ((hbn.cell (p := ⟨b12, o12 + 1, none⟩) hb12).trans hS0.2)
  clear hS0
  have hS0 := hS1
  clear hS1
  replace hb12 := Nat.lt_of_lt_of_le hb12 hbn.size
  have hlt : SlP (wn.alloc (.cells #[.int .i64 60, .int .i64 75, .int .i64 90, .int .i64 115, .int .i64 110, .int .i64 135] 80)) (.slice (some ⟨wn.heap.size, 0, none⟩) 3 3) exR1 := slG_new encP_len (xs := exR1) (by decide) (by decide) (heap_newI rfl)
  clear hbn
  refine HK1.out _ _ hS0 ?_
  clear HK1 K1
  try simp only [Act.put, List.setIfInBounds_toArray, List.set_cons_zero, List.set_cons_succ]
  generalize World.alloc wn _ = wn at *
  refine wpAnyH_one (i := 42) (o := { dst := some 149, op := _, type := _, pos := _, after := _, guard := _ }) (by kernel_rfl) rfl (by rfl) (fun K1 hK1 => ?_)
  have HK1 := Lib.hid hK1; clear hK1
  go_simp
  refine (spans_any _ _ exR1 exR1 _ R1 hlt).mono ?_
  rintro e wn ⟨rfl, hbn⟩
  replace B0 := btr B0 hbn (Nat.le_refl _)
  replace H11 := H11.below hbn (Nat.le_refl _)
  have hS1 := And.intro ((hbn.cell (p := ⟨b12, o12, none⟩) hb12).trans hS0.1) ((hbn.cell (p := ⟨b12, o12 + 1, none⟩) hb12).trans hS0.2)
  clear hS0
  have hS0 := hS1
  clear hS1
  replace hb12 := Nat.lt_of_lt_of_le hb12 hbn.size
  clear hbn
  refine HK1.out _ _ hS0 ?_
  clear HK1 K1
  try simp only []
  try rw [show decide (exR1 = exR1) = true from by simp]
  clear hlt R1
  refine wpAnyH_take (i := 43) (oi := { dst := some 150, op := _, type := _, pos := _, after := _, guard := _ }) (v := ?_) rfl (by kernel_rfl) (by kernel_rfl) (by kernel_rfl) (fun _ _ _ h => h) (Or.inl ⟨by rfl, ?_⟩) hS0 ?_
  rotate_left
  · intro U hU
    go_simp
    all_goals with_reducible rfl
  simp only [Act.put, List.setIfInBounds_toArray, List.set_cons_zero, List.set_cons_succ]
  refine wpAnyH_take (i := 44) (oi := { dst := some 151, op := _, type := _, pos := _, after := _, guard := _ }) (v := ?_) rfl (by kernel_rfl) (by kernel_rfl) (by kernel_rfl) (fun _ _ _ h => h) (Or.inl ⟨by rfl, ?_⟩) hS0 ?_
  rotate_left
  · intro U hU
    go_simp
    all_goals with_reducible rfl
  simp only [Act.put, List.setIfInBounds_toArray, List.set_cons_zero, List.set_cons_succ]
  refine wpAnyH_take (i := 45) (oi := { dst := some 152, op := _, type := _, pos := _, after := _, guard := _ }) (v := ?_) rfl (by kernel_rfl) (by kernel_rfl) (by kernel_rfl) (fun _ _ _ h => h) (Or.inl ⟨by rfl, ?_⟩) hS0 ?_
  rotate_left
  · intro U hU
    go_simp
    all_goals with_reducible rfl
  simp only [Act.put, List.setIfInBounds_toArray, List.set_cons_zero, List.set_cons_succ]
  refine wpAnyH_take (i := 46) (oi := { dst := some 153, op := _, type := _, pos := _, after := _, guard := _ }) (v := ?_) rfl (by kernel_rfl) (by kernel_rfl) (by kernel_rfl) (fun _ _ _ h => h) (Or.inl ⟨by rfl, ?_⟩) hS0 ?_
  rotate_left
  · intro U hU
    go_simp
    all_goals with_reducible rfl
  simp only [Act.put, List.setIfInBounds_toArray, List.set_cons_zero, List.set_cons_succ]
  refine wpAnyH_take (i := 47) (oi := { dst := some 154, op := _, type := _, pos := _, after := _, guard := _ }) (v := ?_) rfl (by kernel_rfl) (by kernel_rfl) (by kernel_rfl) (fun _ _ _ h => h) (Or.inl ⟨by rfl, ?_⟩) hS0 ?_
  rotate_left
  · intro U hU
    go_simp
    all_goals with_reducible rfl
  simp only [Act.put, List.setIfInBounds_toArray, List.set_cons_zero, List.set_cons_succ]
  refine wpAnyH_take (i := 48) (oi := { dst := some 155, op := _, type := _, pos := _, after := _, guard := _ }) (v := ?_) rfl (by kernel_rfl) (by kernel_rfl) (by kernel_rfl) (fun _ _ _ h => h) (Or.inl ⟨by rfl, ?_⟩) hS0 ?_
  rotate_left
  · intro U hU
    go_simp
    all_goals with_reducible rfl
  simp only [Act.put, List.setIfInBounds_toArray, List.set_cons_zero, List.set_cons_succ]
  refine wpAnyH_take (i := 49) (oi := { dst := some 156, op := _, type := _, pos := _, after := _, guard := _ }) (v := ?_) rfl (by kernel_rfl) (by kernel_rfl) (by kernel_rfl) (fun _ _ _ h => h) (Or.inl ⟨by rfl, ?_⟩) hS0 ?_
  rotate_left
  · intro U hU
    go_simp
    all_goals with_reducible rfl
  simp only [Act.put, List.setIfInBounds_toArray, List.set_cons_zero, List.set_cons_succ]
  refine wpAnyH_take (i := 50) (oi := { dst := some 157, op := _, type := _, pos := _, after := _, guard := _ }) (v := ?_) rfl (by kernel_rfl) (by kernel_rfl) (by kernel_rfl) (fun _ _ _ h => h) (Or.inl ⟨by rfl, ?_⟩) hS0 ?_
  rotate_left
  · intro U hU
    go_simp
    all_goals with_reducible rfl
  simp only [Act.put, List.setIfInBounds_toArray, List.set_cons_zero, List.set_cons_succ]
  refine wpAnyH_take (i := 51) (oi := { dst := some 158, op := _, type := _, pos := _, after := _, guard := _ }) (v := ?_) rfl (by kernel_rfl) (by kernel_rfl) (by kernel_rfl) (fun _ _ _ h => h) (Or.inl ⟨by rfl, ?_⟩) hS0 ?_
  rotate_left
  · intro U hU
    go_simp
    all_goals with_reducible rfl
  simp only [Act.put, List.setIfInBounds_toArray, List.set_cons_zero, List.set_cons_succ]
  refine wpAnyH_take (i := 54) (oi := { dst := some 161, op := _, type := _, pos := _, after := _, guard := _ }) (v := ?_) rfl (by kernel_rfl) (by kernel_rfl) (by kernel_rfl) (fun _ _ _ h => h) (Or.inl ⟨by rfl, ?_⟩) hS0 ?_
  rotate_left
  · intro U hU
    go_simp
    all_goals with_reducible rfl
  simp only [Act.put, List.setIfInBounds_toArray, List.set_cons_zero, List.set_cons_succ]
  refine wpAnyH_one (i := 52) (o := { dst := some 159, op := _, type := _, pos := _, after := _, guard := _ }) (by kernel_rfl) rfl (by rfl) (fun K1 hK1 => ?_)
  have HK1 := Lib.hid hK1; clear hK1
  go_simp
  refine (W2_any _).mono ?_
  rintro e wn ⟨vw, rfl, HW, hbn⟩
  replace B0 := btr B0 hbn (Nat.le_refl _)
  replace H11 := H11.below hbn (Nat.le_refl _)
  have hS1 := And.intro ((hbn.cell (p := ⟨b12, o12, none⟩) hb12).trans hS0.1) ((hbn.cell (p := ⟨b12, o12 + 1, none⟩) hb12).trans hS0.2)
  clear hS0
  have hS0 := hS1
  clear hS1
  replace hb12 := Nat.lt_of_lt_of_le hb12 hbn.size
  clear hbn
  refine HK1.out _ _ hS0 ?_
  clear HK1 K1
  try simp only [Act.put, List.setIfInBounds_toArray, List.set_cons_zero, List.set_cons_succ]
  refine wpAnyH_one (i := 53) (o := { dst := some 160, op := _, type := _, pos := _, after := _, guard := _ }) (by kernel_rfl) rfl (by rfl) (fun K1 hK1 => ?_)
  have HK1 := Lib.hid hK1; clear hK1
  go_simp
  refine (per_any 75 1 _).mono ?_
  rintro e wn ⟨rfl, hbn⟩
  replace B0 := btr B0 hbn (Nat.le_refl _)
  replace H11 := H11.below hbn (Nat.le_refl _)
  replace HW := HW.below hbn (Nat.le_refl _)
  have hS1 := And.intro ((hbn.cell (p := ⟨b12, o12, none⟩) hb12).trans hS0.1) ((hbn.cell (p := ⟨b12, o12 + 1, none⟩) hb12).trans hS0.2)
  clear hS0
  have hS0 := hS1
  clear hS1
  replace hb12 := Nat.lt_of_lt_of_le hb12 hbn.size
  clear hbn
  refine HK1.out _ _ hS0 ?_
  clear HK1 K1
  try simp only [Act.put, List.setIfInBounds_toArray, List.set_cons_zero, List.set_cons_succ]
  refine wpAnyH_one (i := 55) (o := { dst := some 162, op := _, type := _, pos := _, after := _, guard := _ }) (by kernel_rfl) rfl (by rfl) (fun K1 hK1 => ?_)
  have HK1 := Lib.hid hK1; clear hK1
  go_simp
  refine (x31a _ _ _ HW H11).mono ?_
  rintro e wn ⟨rfl, hbn⟩
  replace B0 := btr B0 hbn (Nat.le_refl _)
  replace H11 := H11.below hbn (Nat.le_refl _)
  have hS1 := And.intro ((hbn.cell (p := ⟨b12, o12, none⟩) hb12).trans hS0.1) ((hbn.cell (p := ⟨b12, o12 + 1, none⟩) hb12).trans hS0.2)
  clear hS0
  have hS0 := hS1
  clear hS1
  replace hb12 := Nat.lt_of_lt_of_le hb12 hbn.size
  clear hbn
  refine HK1.out _ _ hS0 ?_
  clear HK1 K1
  try simp only [Act.put, List.setIfInBounds_toArray, List.set_cons_zero, List.set_cons_succ]
  clear HW
  refine wpAnyH_take (i := 56) (oi := { dst := some 163, op := _, type := _, pos := _, after := _, guard := _ }) (v := ?_) rfl (by kernel_rfl) (by kernel_rfl) (by kernel_rfl) (fun _ _ _ h => h) (Or.inl ⟨by rfl, ?_⟩) hS0 ?_
  rotate_left
  · intro U hU
    go_simp
    all_goals with_reducible rfl
  simp only [Act.put, List.setIfInBounds_toArray, List.set_cons_zero, List.set_cons_succ]
  refine wpAnyH_take (i := 57) (oi := { dst := some 164, op := _, type := _, pos := _, after := _, guard := _ }) (v := ?_) rfl (by kernel_rfl) (by kernel_rfl) (by kernel_rfl) (fun _ _ _ h => h) (Or.inl ⟨by rfl, ?_⟩) hS0 ?_
  rotate_left
  · intro U hU
    go_simp
    all_goals with_reducible rfl
  simp only [Act.put, List.setIfInBounds_toArray, List.set_cons_zero, List.set_cons_succ]
  refine wpAnyH_take (i := 58) (oi := { dst := some 165, op := _, type := _, pos := _, after := _, guard := _ }) (v := ?_) rfl (by kernel_rfl) (by kernel_rfl) (by kernel_rfl) (fun _ _ _ h => h) (Or.inl ⟨by rfl, ?_⟩) hS0 ?_
  rotate_left
  · intro U hU
    go_simp
    all_goals with_reducible rfl
  simp only [Act.put, List.setIfInBounds_toArray, List.set_cons_zero, List.set_cons_succ]
  refine wpAnyH_take (i := 61) (oi := { dst := some 168, op := _, type := _, pos := _, after := _, guard := _ }) (v := ?_) rfl (by kernel_rfl) (by kernel_rfl) (by kernel_rfl) (fun _ _ _ h => h) (Or.inl ⟨by rfl, ?_⟩) hS0 ?_
  rotate_left
  · intro U hU
    go_simp
    all_goals with_reducible rfl
  simp only [Act.put, List.setIfInBounds_toArray, List.set_cons_zero, List.set_cons_succ]
  refine wpAnyH_one (i := 59) (o := { dst := some 166, op := _, type := _, pos := _, after := _, guard := _ }) (by kernel_rfl) rfl (by rfl) (fun K1 hK1 => ?_)
  have HK1 := Lib.hid hK1; clear hK1
  go_simp
  refine (W2_any _).mono ?_
  rintro e wn ⟨vw, rfl, HW, hbn⟩
  replace B0 := btr B0 hbn (Nat.le_refl _)
  replace H11 := H11.below hbn (Nat.le_refl _)
  have hS1 := And.intro ((hbn.cell (p := ⟨b12, o12, none⟩) hb12).trans hS0.1) ((hbn.cell (p := ⟨b12, o12 + 1, none⟩) hb12).trans hS0.2)
  clear hS0
  have hS0 := hS1
  clear hS1
  replace hb12 := Nat.lt_of_lt_of_le hb12 hbn.size
  clear hbn
  refine HK1.out _ _ hS0 ?_
  clear HK1 K1
  try simp only [Act.put, List.setIfInBounds_toArray, List.set_cons_zero, List.set_cons_succ]
  refine wpAnyH_one (i := 60) (o := { dst := some 167, op := _, type := _, pos := _, after := _, guard := _ }) (by kernel_rfl) rfl (by rfl) (fun K1 hK1 => ?_)
  have HK1 := Lib.hid hK1; clear hK1
  go_simp
  refine (per_any 74 1 _).mono ?_
  rintro e wn ⟨rfl, hbn⟩
  replace B0 := btr B0 hbn (Nat.le_refl _)
  replace H11 := H11.below hbn (Nat.le_refl _)
  replace HW := HW.below hbn (Nat.le_refl _)
  have hS1 := And.intro ((hbn.cell (p := ⟨b12, o12, none⟩) hb12).trans hS0.1) ((hbn.cell (p := ⟨b12, o12 + 1, none⟩) hb12).trans hS0.2)
  clear hS0
  have hS0 := hS1
  clear hS1
  replace hb12 := Nat.lt_of_lt_of_le hb12 hbn.size
  clear hbn
  refine HK1.out _ _ hS0 ?_
  clear HK1 K1
  try simp only [Act.put, List.setIfInBounds_toArray, List.set_cons_zero, List.set_cons_succ]
  refine wpAnyH_one (i := 62) (o := { dst := some 169, op := _, type := _, pos := _, after := _, guard := _ }) (by kernel_rfl) rfl (by rfl) (fun K1 hK1 => ?_)
  have HK1 := Lib.hid hK1; clear hK1
  go_simp
  refine (x31b _ _ _ HW H11).mono ?_
  rintro e wn ⟨rfl, hbn⟩
  replace B0 := btr B0 hbn (Nat.le_refl _)
  have hS1 := And.intro ((hbn.cell (p := ⟨b12, o12, none⟩) hb12).trans hS0.1) ((hbn.cell (p := ⟨b12, o12 + 1, none⟩) hb12).trans hS0.2)
  clear hS0
  have hS0 := hS1
  clear hS1
  replace hb12 := Nat.lt_of_lt_of_le hb12 hbn.size
  clear hbn
  refine HK1.out _ _ hS0 ?_
  clear HK1 K1
  try simp only [Act.put, List.setIfInBounds_toArray, List.set_cons_zero, List.set_cons_succ]
  refine wpAnyH_take (i := 63) (oi := { dst := some 170, op := _, type := _, pos := _, after := _, guard := _ }) (v := ?_) rfl (by kernel_rfl) (by kernel_rfl) (by kernel_rfl) (fun _ _ _ h => h) (Or.inl ⟨by rfl, ?_⟩) hS0 ?_
  rotate_left
  · intro U hU
    go_simp
    all_goals with_reducible rfl
  simp only [Act.put, List.setIfInBounds_toArray, List.set_cons_zero, List.set_cons_succ]
  refine wpAnyH_take (i := 64) (oi := { dst := some 171, op := _, type := _, pos := _, after := _, guard := _ }) (v := ?_) rfl (by kernel_rfl) (by kernel_rfl) (by kernel_rfl) (fun _ _ _ h => h) (Or.inl ⟨by rfl, ?_⟩) hS0 ?_
  rotate_left
  · intro U hU
    go_simp
    all_goals with_reducible rfl
  simp only [Act.put, List.setIfInBounds_toArray, List.set_cons_zero, List.set_cons_succ]
  refine wpAnyH_one (i := 65) (o := { dst := some 0, op := _, type := _, pos := _, after := _, guard := _ }) (by kernel_rfl) rfl (by rfl) (fun K1 hK1 => ?_)
  have HK1 := Lib.hid hK1; clear hK1
  go_simp
  refine HK1.out _ _ hS0 ?_
  clear HK1 K1
  refine wpAnyH_done (by kernel_rfl) ?_ _
  simp only [Exit.then]
  refine HK.out _ _ ?_; clear HK
  go_wp2
  go_ret
  exact ⟨rfl, B0⟩
end Yteileadcmekkoaa
end Go.Proofs
