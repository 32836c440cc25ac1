/- For each field the law RipeFields returns true. -/
import Derived.Test.YtgnjeefanbcbkaaS3
import Derived.Test.YtgnjeefanbcbkaaC4
import Derived.Test.YtgnjeefanbcbkaaR2
open Go Go.RowKit Go.YtgnjeefanbcbkaaIt
namespace Go.Proofs
namespace Ytgnjeefanbcbkaa
set_option maxRecDepth 100000 in
set_option maxHeartbeats 8000000 in
theorem ripefields_any (n lo hi : Int) (v : Value) (ss : List Smp) (w : World) (hv : SlS w v ss) :
    Calls Try.prog 3 #[.agg #[.int .i64 n, .int .i64 lo, .int .i64 hi, v]] w fun e w' => e = .returned (.bool true) ∧ Below w.heap.size w w' := by
  have HV := Lib.hid hv
  obtain ⟨ad, cap, rfl, -, -, -⟩ := hv
  go_enter Try.func3, Try.ntmps3
  refine wp_seq_k (fun K hK => ?_)
  have HK := Lib.hid hK; clear hK
  go_wp2
  refine HK.out _ _ ?_; clear HK K
  generalize hw1 : World.alloc _ _ = w1
  obtain ⟨b1, B, hs1⟩ := blk1 hw1
  clear hw1
  have c3 := cell_blk (i := 3) b1
  simp only [List.getElem?_toArray, List.getElem?_cons_zero, List.getElem?_cons_succ] at c3
  replace HV := Lib.hid (HV.out.below B (Nat.le_refl _))
  by_cases h200 : (ss.length : Int) > 200
  · go_wp2_with (go_at_call 13; refine (works_any _).mono ?_; rintro e w9 ⟨rfl, hb9⟩)
    go_ret
    exact ⟨rfl, btr B hb9 (Nat.le_refl _)⟩
  · have hl2 : ss.length ≤ 200 := by omega
    refine wp_seq_k (fun K hK => ?_)
    have HK := Lib.hid hK; clear hK
    go_wp2
    refine HK.out _ _ ?_; clear HK K
    clear c3
    obtain ⟨E, hE⟩ : ∃ E, E = posE n lo hi ss := ⟨_, rfl⟩
    have h14 := known_any n lo hi _ ss w1 HV.out
    rw [← hE] at h14
    have H14 := Lib.hid h14
    clear h14
    refine wp_seq_k (fun K hK => ?_)
    have HK := Lib.hid hK; clear hK
    go_wp2_with (first | (refine wpList_load_blk rfl 26 _ rfl _ rfl b1 Try.underlying26 rfl size26 rfl ?_) | (go_at_call 14; refine H14.out.mono ?_; rintro e w2 ⟨p1, rfl, hp1, hb⟩))
    refine HK.out _ _ ?_; clear HK K H14
    replace b1 := blk_keep b1 hb
    replace HV := Lib.hid (HV.out.below hb (Nat.le_refl _))
    replace B := btr B hb (Nat.le_refl _)
    clear hb
    have HP := Lib.hid hp1
    clear hp1
    have H16 := Lib.hid (givenF_any n lo hi _ ss _ HV.out hl2)
    refine wp_seq_k (fun K hK => ?_)
    have HK := Lib.hid hK; clear hK
    go_wp2_with (first | (refine wpList_load_blk rfl 26 _ rfl _ rfl b1 Try.underlying26 rfl size26 rfl ?_) | (go_at_call 16; refine H16.out.mono ?_; rintro e w3 ⟨⟨v3, rfl, hv3⟩, hb⟩; obtain ⟨ag, cg, hvg, -, -, -⟩ := id hv3; subst hvg; have h15 := rknown_any n lo hi _ ss _ hv3; rw [← hE] at h15) | (go_at_call 15; refine h15.mono ?_; rintro e w4 ⟨p2, rfl, hp2, hb2⟩))
    refine HK.out _ _ ?_; clear HK K H16 h15 hv3
    replace hb := btr hb hb2 (Nat.le_refl _)
    replace b1 := blk_keep b1 hb
    replace HV := Lib.hid (HV.out.below hb (Nat.le_refl _))
    replace HP := Lib.hid (HP.out.below hb (Nat.le_refl _))
    replace B := btr B hb (Nat.le_refl _)
    clear hb hb2 hE
    have HQ := Lib.hid hp2
    clear hp2
    obtain ⟨C, hCE⟩ : ∃ C, C = chkE n lo hi ss := ⟨_, rfl⟩
    have h17 := fun W (hW : Below w4.heap.size w4 W) => spans_any _ _ _ _ W (HP.out.below hW (Nat.le_refl _)) (HQ.out.below hW (Nat.le_refl _))
    have h18 := fun W (hW : Below w4.heap.size w4 W) => check_any n lo hi _ ss W (HV.out.below hW (Nat.le_refl _))
    have h16 := fun W (hW : Below w4.heap.size w4 W) => givenF_any n lo hi _ ss W (HV.out.below hW (Nat.le_refl _)) hl2
    simp only [decide_true] at h17
    rw [← hCE] at h18
    have H17 := Lib.hid h17
    have H18 := Lib.hid h18
    have H16 := Lib.hid h16
    clear h16 h17 h18
    go_wp2
    have hS0 : Below w4.heap.size w4 w4.drew := (Below.refl _ _).drew
    refine wp_region_held (S := fun U => Below w4.heap.size w4 U) (by kernel_rfl) ?_
    change wpAnyH _ _ _ _ _ _ _ _ (World.drew w4)
    have hBwq := hS0
    generalize World.drew w4 = wq at *
    refine wpAnyH_take (i := 0) (oi := { dst := some 23, op := _, type := _, pos := _, after := _, guard := none }) (v := ?_) rfl (by kernel_rfl) (by kernel_rfl) (by kernel_rfl) (fun _ _ _ h => h) (Or.inl ⟨by rfl, ?_⟩) (by first | exact hS0 | assumption) ?_
    rotate_left
    · intro U hU
      go_simp
      all_goals with_reducible rfl
    simp only [Act.put, List.setIfInBounds_toArray, List.set_cons_zero, List.set_cons_succ]
    refine wpAnyH_take (i := 1) (oi := { dst := some 24, op := _, type := _, pos := _, after := _, guard := none }) (v := ?_) rfl (by kernel_rfl) (by kernel_rfl) (by kernel_rfl) (fun _ _ _ h => h) (Or.inl ⟨by rfl, ?_⟩) (by first | exact hS0 | assumption) ?_
    rotate_left
    · intro U hU
      go_simp
      all_goals with_reducible rfl
    simp only [Act.put, List.setIfInBounds_toArray, List.set_cons_zero, List.set_cons_succ]
    refine wpAnyH_one (i := 2) (o := { dst := some 25, op := _, type := _, pos := _, after := _, guard := none }) (by kernel_rfl) rfl (by rfl) (fun K1 hK1 => ?_)
    have HK1 := Lib.hid hK1; clear hK1
    refine oper_call (f := 17) (xs := #[.tmp 23, .tmp 24]) (ts := _) rfl (enters_of Try.func17 (by kernel_rfl) rfl) rfl (H17.out _ hBwq) ?_
    intro v1 hbv1
    have hBv1 := btr hBwq hbv1 (Nat.le_refl _)
    refine HK1.out _ _ (hBv1) ?_
    clear HK1 K1
    try simp only [Act.put, List.setIfInBounds_toArray, List.set_cons_zero, List.set_cons_succ]
    refine wpAnyH_take (i := 3) (oi := { dst := some 26, op := _, type := _, pos := _, after := _, guard := none }) (v := ?_) rfl (by kernel_rfl) (by kernel_rfl) (by kernel_rfl) (fun _ _ _ h => h) (Or.inl ⟨by rfl, ?_⟩) (by first | exact hS0 | assumption) ?_
    rotate_left
    · intro U hU
      go_simp
      all_goals with_reducible rfl
    simp only [Act.put, List.setIfInBounds_toArray, List.set_cons_zero, List.set_cons_succ]
    refine wpAnyH_take (i := 4) (oi := { dst := some 27, op := _, type := _, pos := _, after := _, guard := some (3, true) }) (v := ?_) rfl (by kernel_rfl) (by kernel_rfl) (by kernel_rfl) (fun _ _ _ h => h) (Or.inl ⟨by rfl, ?_⟩) (by first | exact hS0 | assumption) ?_
    rotate_left
    · intro U hU
      go_simp
      all_goals with_reducible rfl
    simp only [Act.put, List.setIfInBounds_toArray, List.set_cons_zero, List.set_cons_succ]
    refine wpAnyH_take (i := 5) (oi := { dst := some 28, op := _, type := _, pos := _, after := _, guard := some (3, true) }) (v := ?_) rfl (by kernel_rfl) (by kernel_rfl) (by kernel_rfl) (fun _ _ _ h => h) (Or.inl ⟨by rfl, ?_⟩) (by first | exact hS0 | assumption) ?_
    rotate_left
    · intro U hU
      go_simp
      all_goals with_reducible rfl
    simp only [Act.put, List.setIfInBounds_toArray, List.set_cons_zero, List.set_cons_succ]
    refine wpAnyH_take (i := 6) (oi := { dst := some 29, op := _, type := _, pos := _, after := _, guard := some (3, true) }) (v := ?_) rfl (by kernel_rfl) (by kernel_rfl) (by kernel_rfl) (fun _ _ _ h => h) (Or.inl ⟨by rfl, ?_⟩) (by first | exact hS0 | assumption) ?_
    rotate_left
    · intro U hU
      
      go_simp
      all_goals with_reducible rfl
    simp only [Act.put, List.setIfInBounds_toArray, List.set_cons_zero, List.set_cons_succ]
    refine wpAnyH_take (i := 7) (oi := { dst := some 30, op := _, type := _, pos := _, after := _, guard := none }) (v := ?_) rfl (by kernel_rfl) (by kernel_rfl) (by kernel_rfl) (fun _ _ _ h => h) (Or.inl ⟨by rfl, ?_⟩) (by first | exact hS0 | assumption) ?_
    rotate_left
    · intro U hU
      go_simp
      all_goals with_reducible rfl
    simp only [Act.put, List.setIfInBounds_toArray, List.set_cons_zero, List.set_cons_succ]
    refine wpAnyH_take (i := 8) (oi := { dst := some 31, op := _, type := _, pos := _, after := _, guard := none }) (v := ?_) rfl (by kernel_rfl) (by kernel_rfl) (by kernel_rfl) (fun _ _ _ h => h) (Or.inl ⟨by rfl, ?_⟩) (by first | exact hS0 | assumption) ?_
    rotate_left
    · intro U hU
      go_simp
      all_goals with_reducible rfl
    simp only [Act.put, List.setIfInBounds_toArray, List.set_cons_zero, List.set_cons_succ]
    refine wpAnyH_take (i := 9) (oi := { dst := some 32, op := _, type := _, pos := _, after := _, guard := some (8, true) }) (v := ?_) rfl (by kernel_rfl) (by kernel_rfl) (by kernel_rfl) (fun _ _ _ h => h) (Or.inl ⟨by rfl, ?_⟩) (by first | exact hS0 | assumption) ?_
    rotate_left
    · refine yields_load_blk 26 (.tmp 1) ?_ _ ?_ (fun U hU => blk_keep b1 hU) Try.underlying26 rfl size26 rfl
      all_goals rfl
    simp only [Act.put, List.setIfInBounds_toArray, List.set_cons_zero, List.set_cons_succ]
    refine wpAnyH_take (i := 11) (oi := { dst := some 34, op := _, type := _, pos := _, after := _, guard := some (8, true) }) (v := ?_) rfl (by kernel_rfl) (by kernel_rfl) (by kernel_rfl) (fun _ _ _ h => h) (Or.inl ⟨by rfl, ?_⟩) (by first | exact hS0 | assumption) ?_
    rotate_left
    · refine yields_load_blk 26 (.tmp 1) ?_ _ ?_ (fun U hU => blk_keep b1 hU) Try.underlying26 rfl size26 rfl
      all_goals rfl
    simp only [Act.put, List.setIfInBounds_toArray, List.set_cons_zero, List.set_cons_succ]
    refine wpAnyH_one (i := 10) (o := { dst := some 33, op := _, type := _, pos := _, after := _, guard := some (8, true) }) (by kernel_rfl) rfl (by rfl) (fun K1 hK1 => ?_)
    have HK1 := Lib.hid hK1; clear hK1
    refine oper_call (f := 18) (xs := #[.tmp 32]) (ts := _) rfl (enters_of Try.func18 (by kernel_rfl) rfl) rfl (H18.out _ hBv1) ?_
    intro v2 hbv2
    have hBv2 := btr hBv1 hbv2 (Nat.le_refl _)
    refine HK1.out _ _ (hBv2) ?_
    clear HK1 K1
    try simp only [Act.put, List.setIfInBounds_toArray, List.set_cons_zero, List.set_cons_succ]
    refine wpAnyH_one (i := 12) (o := { dst := some 35, op := _, type := _, pos := _, after := _, guard := some (8, true) }) (by kernel_rfl) rfl (by rfl) (fun K1 hK1 => ?_)
    have HK1 := Lib.hid hK1; clear hK1
    refine oper_callg (c := .func 16) (f := 16) (lb := #[]) (xs := #[.tmp 34]) (ts := _) rfl rfl (enters_of Try.func16 (by kernel_rfl) rfl) rfl (R := fun v w' => ∃ v', v = .agg #[.int .i64 n, .int .i64 lo, .int .i64 hi, v'] ∧ SlS w' v' ss ∧ Below v2.heap.size v2 w') ((H16.out _ hBv2).mono fun e w' ⟨⟨v', h1, h2⟩, h3⟩ => ⟨_, h1, v', rfl, h2, h3⟩) ?_
    rintro _ v3 ⟨vg, rfl, hvg, hbv3⟩
    have hBv3 := btr hBv2 hbv3 (Nat.le_refl _)
    refine HK1.out _ _ (hBv3) ?_
    clear HK1 K1
    try simp only [Act.put, List.setIfInBounds_toArray, List.set_cons_zero, List.set_cons_succ]
    have h19 := rcheck_any n lo hi vg ss v3 hvg
    rw [← hCE] at h19
    refine wpAnyH_one (i := 13) (o := { dst := some 36, op := _, type := _, pos := _, after := _, guard := some (8, true) }) (by kernel_rfl) rfl (by rfl) (fun K1 hK1 => ?_)
    have HK1 := Lib.hid hK1; clear hK1
    refine oper_call (f := 19) (xs := #[.tmp 35]) (ts := _) rfl (enters_of Try.func19 (by kernel_rfl) rfl) rfl (h19) ?_
    intro v4 hbv4
    have hBv4 := btr hBv3 hbv4 (Nat.le_refl _)
    refine HK1.out _ _ (hBv4) ?_
    clear HK1 K1
    try simp only [Act.put, List.setIfInBounds_toArray, List.set_cons_zero, List.set_cons_succ]
    refine wpAnyH_take (i := 14) (oi := { dst := some 37, op := _, type := _, pos := _, after := _, guard := some (8, true) }) (v := ?_) rfl (by kernel_rfl) (by kernel_rfl) (by kernel_rfl) (fun _ _ _ h => h) (Or.inl ⟨by rfl, ?_⟩) (by first | exact hS0 | assumption) ?_
    rotate_left
    · intro U hU
      go_simp
      all_goals with_reducible rfl
    simp only [Act.put, List.setIfInBounds_toArray, List.set_cons_zero, List.set_cons_succ]
    refine wpAnyH_take (i := 15) (oi := { dst := some 38, op := _, type := _, pos := _, after := _, guard := none }) (v := ?_) rfl (by kernel_rfl) (by kernel_rfl) (by kernel_rfl) (fun _ _ _ h => h) (Or.inl ⟨by rfl, ?_⟩) (by first | exact hS0 | assumption) ?_
    rotate_left
    · intro U hU
      go_simp
      all_goals with_reducible rfl
    simp only [Act.put, List.setIfInBounds_toArray, List.set_cons_zero, List.set_cons_succ]
    refine wpAnyH_take (i := 16) (oi := { dst := some 39, op := _, type := _, pos := _, after := _, guard := none }) (v := ?_) rfl (by kernel_rfl) (by kernel_rfl) (by kernel_rfl) (fun _ _ _ h => h) (Or.inl ⟨by rfl, ?_⟩) (by first | exact hS0 | assumption) ?_
    rotate_left
    · intro U hU
      go_simp
      all_goals with_reducible rfl
    simp only [Act.put, List.setIfInBounds_toArray, List.set_cons_zero, List.set_cons_succ]
    refine wpAnyH_one (i := 17) (o := { dst := some 40, op := _, type := _, pos := _, after := _, guard := some (16, true) }) (by kernel_rfl) rfl (by rfl) (fun K1 hK1 => ?_)
    have HK1 := Lib.hid hK1; clear hK1
    refine oper_call (f := 13) (xs := #[]) (ts := _) rfl (enters_of Try.func13 (by kernel_rfl) rfl) rfl (works_any _) ?_
    intro v5 hbv5
    have hBv5 := btr hBv4 hbv5 (Nat.le_refl _)
    refine HK1.out _ _ (hBv5) ?_
    clear HK1 K1
    try simp only [Act.put, List.setIfInBounds_toArray, List.set_cons_zero, List.set_cons_succ]
    refine wpAnyH_take (i := 18) (oi := { dst := some 41, op := _, type := _, pos := _, after := _, guard := none }) (v := ?_) rfl (by kernel_rfl) (by kernel_rfl) (by kernel_rfl) (fun _ _ _ h => h) (Or.inl ⟨by rfl, ?_⟩) (by first | exact hS0 | assumption) ?_
    rotate_left
    · intro U hU
      go_simp
      all_goals with_reducible rfl
    simp only [Act.put, List.setIfInBounds_toArray, List.set_cons_zero, List.set_cons_succ]
    refine wpAnyH_one (i := 19) (o := { dst := some 2, op := _, type := _, pos := _, after := _, guard := none }) (by kernel_rfl) rfl (by rfl) (fun K1 hK1 => ?_)
    have HK1 := Lib.hid hK1; clear hK1
    go_simp
    refine HK1.out _ _ (hBv5) ?_
    clear HK1 K1
    try simp only [Act.put, List.setIfInBounds_toArray, List.set_cons_zero, List.set_cons_succ]
    refine wpAnyH_done (by kernel_rfl) ?_ _
    go_wp2
    go_ret
    exact ⟨rfl, btr B hBv5 (Nat.le_refl _)⟩
end Ytgnjeefanbcbkaa
end Go.Proofs
