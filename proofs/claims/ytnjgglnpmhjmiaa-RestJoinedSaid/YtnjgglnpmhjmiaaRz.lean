/- Laws of rotation: the reference: two laws. -/
import Derived.Test.YtnjgglnpmhjmiaaRd
import Derived.Test.YtnjgglnpmhjmiaaB3
open Go Go.RowKit Go.YtnjgglnpmhjmiaaIt
open Rest
namespace Go.Proofs
namespace Ytnjgglnpmhjmiaa
set_option maxRecDepth 100000 in
set_option maxHeartbeats 2000000 in
theorem rtwo_any {va vb : Value} {a b : Lw} {w : World} (ha : LawA w va a) (hb : LawA w vb b) : Calls Try.prog 73 #[va, vb] w fun e w' => e = .returned (.int .i64 (chk2E a b)) ∧ Below w.heap.size w w' := by
  obtain ⟨an, ag, rfl, ha1, ha2⟩ := ha
  obtain ⟨bn, bg, rfl, hb1, hb2⟩ := hb
  have hA0 := LawA.box (⟨_, _, rfl, ha1, ha2⟩ : LawA w (.agg #[an, ag]) a) 29
  have hA := hA0.below ((Below.refl _ _).alloc (Nat.le_refl _) (.cells #[bn, bg] 29))
  have hBl : LawA (w.alloc (.cells #[an, ag] 29)) (.agg #[bn, bg]) b := LawA.below (⟨_, _, rfl, hb1, hb2⟩ : LawA w (.agg #[bn, bg]) b) ((Below.refl _ _).alloc (Nat.le_refl _) _) (Nat.le_refl _)
  have hBX := hBl.box 29
  rw [World.size_alloc] at hBX
  obtain ⟨c1, c2, hB1, hz1⟩ := blkE2 (w := w) (a := .cells #[an, ag] 29) (b := .cells #[bn, bg] 29) rfl
  obtain ⟨w1, hw1⟩ : ∃ q, q = (w.alloc (.cells #[an, ag] 29)).alloc (.cells #[bn, bg] 29) := ⟨_, rfl⟩
  obtain ⟨g, hgw⟩ : ∃ q, q = w.heap.size := ⟨_, rfl⟩
  have HW := Lib.hid (And.intro hw1 hgw)
  rw [← hw1] at hA hBX hB1
  rw [← hgw] at hA hBX hB1
  have HA := Lib.hid hA
  have HBX := Lib.hid hBX
  have HB1 := Lib.hid hB1
  have HGW := Lib.hid (show g ≤ w1.heap.size from Nat.le_of_lt (lt_blk HA.out.blk))
  have H53a := Lib.hid (rcheck_any HA.out.law)
  have H53b := Lib.hid (fun W (hW : Below w1.heap.size w1 W) => rcheck_any (HBX.out.below hW).law)
  obtain ⟨E1, hE1⟩ : ∃ E, E = chkL a := ⟨_, rfl⟩
  obtain ⟨E2, hE2⟩ : ∃ E, E = chkL b := ⟨_, rfl⟩
  rw [← hE1] at H53a
  rw [← hE2] at H53b
  have HE := Lib.hid (And.intro hE1 hE2)
  have FIN : Hid (∀ E : Int, E = chk2E a b → ∀ w', Below w1.heap.size w1 w' → (Ending.returned (.int .i64 E) = Ending.returned (.int .i64 (chk2E a b)) ∧ Below g w w')) := Lib.hid fun E h w' hw => ⟨by rw [h], HB1.out.trans (hw.mono HGW.out)⟩
  clear ha1 ha2 hb1 hb2 hA0 hA hBl hBX c1 c2 hz1 hw1 hgw hE1 hE2 hB1
  go_enter Try.func73, Try.ntmps73
  refine wp_seq_k (fun K hK => ?_)
  have HK := Lib.hid hK; clear hK
  go_wp2
  refine HK.out _ _ ?_; clear HK
  rw [← HW.out.1, ← HW.out.2]
  clear HW
  by_cases h1 : E1 = 0
  case neg =>
    have hb0 : (E1 == 0) = false := by simpa using h1
    have HF : Hid (E1 = chk2E a b) := Lib.hid (by unfold chk2E; rw [if_neg (by rw [← HE.out.1]; exact h1), HE.out.1])
    clear h1
    go_wp2_with (first | (refine wpList_load_blk rfl 29 (.tmp 2) rfl _ rfl HA.out.blk Try.underlying29 rfl size29 rfl ?_) | (refine wpList_load_blk rfl 29 (.tmp 3) rfl _ rfl (show _ from blk_keep HBX.out.blk HB2.out) Try.underlying29 rfl size29 rfl ?_) | (have _m := HB2; go_at_call 53; refine (H53b.out _ HB2.out).mono ?_; rintro e w3 ⟨rfl, hb3⟩; have HB3 := Lib.hid (btr HB2.out hb3 (Nat.le_refl _)); clear hb3) | (go_at_call 53; refine H53a.out.mono ?_; rintro e w2 ⟨rfl, hb2⟩; have HB2 := Lib.hid hb2; clear hb2))
    refine wp_region_x (R := fun U => Below w2.heap.size w2 U) (S := fun _ => True) (z := 999) rfl ?_
    change wpAnyX _ _ _ _ _ _ _ _ _ _ w2.drew
    have Hq0 := Lib.hid (show Below w2.heap.size w2 w2.drew from (Below.refl _ _).drew)
    obtain ⟨wq0, hwq⟩ : ∃ q, q = w2.drew := ⟨_, rfl⟩
    rw [← hwq] at Hq0 ⊢
    clear hwq
    refine wpX_kp (i := 0) (oi := { dst := some 12, op := _, type := _, pos := _, after := _, guard := none }) (v := ?_) rfl (fun _ _ _ h => h) ?_ ⟨(by first | exact Hq4.out | exact Hq3.out | exact Hq2.out | exact Hq1.out | exact Hq0.out), fun _ => trivial⟩ ?_
    rotate_left
    · intro U hU
      go_simp
      all_goals with_reducible rfl
    simp only [putE]
    refine wpX_kp (i := 1) (oi := { dst := some 13, op := _, type := _, pos := _, after := _, guard := none }) (v := ?_) rfl (fun _ _ _ h => h) ?_ ⟨(by first | exact Hq4.out | exact Hq3.out | exact Hq2.out | exact Hq1.out | exact Hq0.out), fun _ => trivial⟩ ?_
    rotate_left
    · intro U hU
      go_simp
      all_goals with_reducible rfl
    simp only [putE]
    refine wpX_kp (i := 2) (oi := { dst := some 14, op := _, type := _, pos := _, after := _, guard := none }) (v := ?_) rfl (fun _ _ _ h => h) ?_ ⟨(by first | exact Hq4.out | exact Hq3.out | exact Hq2.out | exact Hq1.out | exact Hq0.out), fun _ => trivial⟩ ?_
    rotate_left
    · intro U hU
      go_simp
      all_goals with_reducible rfl
    simp only [putE]
    refine wpAnyX_keep (i := 3) (oi := { dst := some 15, op := _, type := _, pos := _, after := _, guard := some (2, true) }) (v := undef) rfl (by kernel_rfl) (by kernel_rfl) (by kernel_rfl) (fun _ _ _ h => h) (Or.inr ⟨by rfl, rfl⟩) ⟨(by first | exact Hq4.out | exact Hq3.out | exact Hq2.out | exact Hq1.out | exact Hq0.out), fun _ => trivial⟩ ?_
    simp only [putE]
    refine wpAnyX_keep (i := 4) (oi := { dst := some 16, op := _, type := _, pos := _, after := _, guard := some (2, true) }) (v := undef) rfl (by kernel_rfl) (by kernel_rfl) (by kernel_rfl) (fun _ _ _ h => h) (Or.inr ⟨by rfl, rfl⟩) ⟨(by first | exact Hq4.out | exact Hq3.out | exact Hq2.out | exact Hq1.out | exact Hq0.out), fun _ => trivial⟩ ?_
    simp only [putE]
    refine wpAnyX_keep (i := 5) (oi := { dst := some 17, op := _, type := _, pos := _, after := _, guard := some (2, true) }) (v := undef) rfl (by kernel_rfl) (by kernel_rfl) (by kernel_rfl) (fun _ _ _ h => h) (Or.inr ⟨by rfl, rfl⟩) ⟨(by first | exact Hq4.out | exact Hq3.out | exact Hq2.out | exact Hq1.out | exact Hq0.out), fun _ => trivial⟩ ?_
    simp only [putE]
    refine wpAnyX_keep (i := 6) (oi := { dst := some 18, op := _, type := _, pos := _, after := _, guard := some (2, true) }) (v := undef) rfl (by kernel_rfl) (by kernel_rfl) (by kernel_rfl) (fun _ _ _ h => h) (Or.inr ⟨by rfl, rfl⟩) ⟨(by first | exact Hq4.out | exact Hq3.out | exact Hq2.out | exact Hq1.out | exact Hq0.out), fun _ => trivial⟩ ?_
    simp only [putE]
    refine wpAnyX_keep (i := 7) (oi := { dst := some 19, op := _, type := _, pos := _, after := _, guard := some (2, true) }) (v := undef) rfl (by kernel_rfl) (by kernel_rfl) (by kernel_rfl) (fun _ _ _ h => h) (Or.inr ⟨by rfl, rfl⟩) ⟨(by first | exact Hq4.out | exact Hq3.out | exact Hq2.out | exact Hq1.out | exact Hq0.out), fun _ => trivial⟩ ?_
    simp only [putE]
    refine wpX_kp (i := 8) (oi := { dst := some 20, op := _, type := _, pos := _, after := _, guard := none }) (v := ?_) rfl (fun _ _ _ h => h) ?_ ⟨(by first | exact Hq4.out | exact Hq3.out | exact Hq2.out | exact Hq1.out | exact Hq0.out), fun _ => trivial⟩ ?_
    rotate_left
    · intro U hU
      go_simp
      all_goals with_reducible rfl
    simp only [putE]
    refine wpAnyX_done (by kernel_rfl) ?_ _
    have HQ := Lib.hid (btr HB2.out Hq0.out (Nat.le_refl _))
    clear Hq0
    go_wp2
    go_ret
    exact FIN.out _ HF.out _ HQ.out
  subst h1
  by_cases h2 : E2 = 0
  case neg =>
    have hb0 : (E2 == 0) = false := by simpa using h2
    have HF : Hid (E2 = chk2E a b) := Lib.hid (by unfold chk2E; rw [if_pos HE.out.1.symm, if_neg (by rw [← HE.out.2]; exact h2), HE.out.2])
    clear h2
    go_wp2_with (first | (refine wpList_load_blk rfl 29 (.tmp 2) rfl _ rfl HA.out.blk Try.underlying29 rfl size29 rfl ?_) | (refine wpList_load_blk rfl 29 (.tmp 3) rfl _ rfl (show _ from blk_keep HBX.out.blk HB2.out) Try.underlying29 rfl size29 rfl ?_) | (have _m := HB2; go_at_call 53; refine (H53b.out _ HB2.out).mono ?_; rintro e w3 ⟨rfl, hb3⟩; have HB3 := Lib.hid (btr HB2.out hb3 (Nat.le_refl _)); clear hb3) | (go_at_call 53; refine H53a.out.mono ?_; rintro e w2 ⟨rfl, hb2⟩; have HB2 := Lib.hid hb2; clear hb2))
    refine wp_region_x (R := fun U => Below w3.heap.size w3 U) (S := fun _ => True) (z := 999) rfl ?_
    change wpAnyX _ _ _ _ _ _ _ _ _ _ w3.drew
    have Hq0 := Lib.hid (show Below w3.heap.size w3 w3.drew from (Below.refl _ _).drew)
    obtain ⟨wq0, hwq⟩ : ∃ q, q = w3.drew := ⟨_, rfl⟩
    rw [← hwq] at Hq0 ⊢
    clear hwq
    refine wpX_kp (i := 0) (oi := { dst := some 12, op := _, type := _, pos := _, after := _, guard := none }) (v := ?_) rfl (fun _ _ _ h => h) ?_ ⟨(by first | exact Hq4.out | exact Hq3.out | exact Hq2.out | exact Hq1.out | exact Hq0.out), fun _ => trivial⟩ ?_
    rotate_left
    · intro U hU
      go_simp
      all_goals with_reducible rfl
    simp only [putE]
    refine wpX_kp (i := 1) (oi := { dst := some 13, op := _, type := _, pos := _, after := _, guard := none }) (v := ?_) rfl (fun _ _ _ h => h) ?_ ⟨(by first | exact Hq4.out | exact Hq3.out | exact Hq2.out | exact Hq1.out | exact Hq0.out), fun _ => trivial⟩ ?_
    rotate_left
    · intro U hU
      go_simp
      all_goals with_reducible rfl
    simp only [putE]
    refine wpX_kp (i := 2) (oi := { dst := some 14, op := _, type := _, pos := _, after := _, guard := none }) (v := ?_) rfl (fun _ _ _ h => h) ?_ ⟨(by first | exact Hq4.out | exact Hq3.out | exact Hq2.out | exact Hq1.out | exact Hq0.out), fun _ => trivial⟩ ?_
    rotate_left
    · intro U hU
      go_simp
      all_goals with_reducible rfl
    simp only [putE]
    refine wpAnyX_keep (i := 3) (oi := { dst := some 15, op := _, type := _, pos := _, after := _, guard := some (2, true) }) (v := undef) rfl (by kernel_rfl) (by kernel_rfl) (by kernel_rfl) (fun _ _ _ h => h) (Or.inr ⟨by rfl, rfl⟩) ⟨(by first | exact Hq4.out | exact Hq3.out | exact Hq2.out | exact Hq1.out | exact Hq0.out), fun _ => trivial⟩ ?_
    simp only [putE]
    refine wpAnyX_keep (i := 4) (oi := { dst := some 16, op := _, type := _, pos := _, after := _, guard := some (2, true) }) (v := undef) rfl (by kernel_rfl) (by kernel_rfl) (by kernel_rfl) (fun _ _ _ h => h) (Or.inr ⟨by rfl, rfl⟩) ⟨(by first | exact Hq4.out | exact Hq3.out | exact Hq2.out | exact Hq1.out | exact Hq0.out), fun _ => trivial⟩ ?_
    simp only [putE]
    refine wpAnyX_keep (i := 5) (oi := { dst := some 17, op := _, type := _, pos := _, after := _, guard := some (2, true) }) (v := undef) rfl (by kernel_rfl) (by kernel_rfl) (by kernel_rfl) (fun _ _ _ h => h) (Or.inr ⟨by rfl, rfl⟩) ⟨(by first | exact Hq4.out | exact Hq3.out | exact Hq2.out | exact Hq1.out | exact Hq0.out), fun _ => trivial⟩ ?_
    simp only [putE]
    refine wpAnyX_keep (i := 6) (oi := { dst := some 18, op := _, type := _, pos := _, after := _, guard := some (2, true) }) (v := undef) rfl (by kernel_rfl) (by kernel_rfl) (by kernel_rfl) (fun _ _ _ h => h) (Or.inr ⟨by rfl, rfl⟩) ⟨(by first | exact Hq4.out | exact Hq3.out | exact Hq2.out | exact Hq1.out | exact Hq0.out), fun _ => trivial⟩ ?_
    simp only [putE]
    refine wpAnyX_keep (i := 7) (oi := { dst := some 19, op := _, type := _, pos := _, after := _, guard := some (2, true) }) (v := undef) rfl (by kernel_rfl) (by kernel_rfl) (by kernel_rfl) (fun _ _ _ h => h) (Or.inr ⟨by rfl, rfl⟩) ⟨(by first | exact Hq4.out | exact Hq3.out | exact Hq2.out | exact Hq1.out | exact Hq0.out), fun _ => trivial⟩ ?_
    simp only [putE]
    refine wpX_kp (i := 8) (oi := { dst := some 20, op := _, type := _, pos := _, after := _, guard := none }) (v := ?_) rfl (fun _ _ _ h => h) ?_ ⟨(by first | exact Hq4.out | exact Hq3.out | exact Hq2.out | exact Hq1.out | exact Hq0.out), fun _ => trivial⟩ ?_
    rotate_left
    · intro U hU
      go_simp
      all_goals with_reducible rfl
    simp only [putE]
    refine wpAnyX_done (by kernel_rfl) ?_ _
    have HQ := Lib.hid (btr HB3.out Hq0.out (Nat.le_refl _))
    clear Hq0
    go_wp2
    go_ret
    exact FIN.out _ HF.out _ HQ.out
  subst h2
  have hoA := chkL_ok (l := a) HE.out.1.symm
  have hoB := chkL_ok (l := b) HE.out.2.symm
  have H65a := Lib.hid (fun W (hW : Below w1.heap.size w1 W) => rcrops_any (HA.out.below hW).law hoA.ne)
  have H65b := Lib.hid (fun W (hW : Below w1.heap.size w1 W) => rcrops_any (HBX.out.below hW).law hoB.ne)
  have HF : Hid (chk2E a b = if a.k = b.k then 0 else 3) := Lib.hid (by unfold chk2E; rw [if_pos HE.out.1.symm, if_pos HE.out.2.symm])
  obtain ⟨ka, hka⟩ : ∃ k, k = a.k := ⟨_, rfl⟩
  obtain ⟨kb, hkb⟩ : ∃ k, k = b.k := ⟨_, rfl⟩
  rw [← hka] at H65a HF
  rw [← hkb] at H65b HF
  clear hka hkb hoA hoB
  go_wp2_with (first | (refine wpList_load_blk rfl 29 (.tmp 2) rfl _ rfl HA.out.blk Try.underlying29 rfl size29 rfl ?_) | (refine wpList_load_blk rfl 29 (.tmp 3) rfl _ rfl (show _ from blk_keep HBX.out.blk HB2.out) Try.underlying29 rfl size29 rfl ?_) | (have _m := HB2; go_at_call 53; refine (H53b.out _ HB2.out).mono ?_; rintro e w3 ⟨rfl, hb3⟩; have HB3 := Lib.hid (btr HB2.out hb3 (Nat.le_refl _)); clear hb3) | (go_at_call 53; refine H53a.out.mono ?_; rintro e w2 ⟨rfl, hb2⟩; have HB2 := Lib.hid hb2; clear hb2))
  have HXA := Lib.hid (HA.out.below HB3.out).blk
  have HXB := Lib.hid (HBX.out.below HB3.out).blk
  refine wp_region_x (R := fun U => Below w3.heap.size w3 U) (S := fun _ => True) (z := 999) rfl ?_
  change wpAnyX _ _ _ _ _ _ _ _ _ _ w3.drew
  have Hq0 := Lib.hid (show Below w3.heap.size w3 w3.drew from (Below.refl _ _).drew)
  obtain ⟨wq0, hwq⟩ : ∃ q, q = w3.drew := ⟨_, rfl⟩
  rw [← hwq] at Hq0 ⊢
  clear hwq
  refine wpX_kp (i := 0) (oi := { dst := some 12, op := _, type := _, pos := _, after := _, guard := none }) (v := ?_) rfl (fun _ _ _ h => h) ?_ ⟨(by first | exact Hq4.out | exact Hq3.out | exact Hq2.out | exact Hq1.out | exact Hq0.out), fun _ => trivial⟩ ?_
  rotate_left
  · intro U hU
    go_simp
    all_goals with_reducible rfl
  simp only [putE]
  refine wpX_kp (i := 1) (oi := { dst := some 13, op := _, type := _, pos := _, after := _, guard := none }) (v := ?_) rfl (fun _ _ _ h => h) ?_ ⟨(by first | exact Hq4.out | exact Hq3.out | exact Hq2.out | exact Hq1.out | exact Hq0.out), fun _ => trivial⟩ ?_
  rotate_left
  · intro U hU
    go_simp
    all_goals with_reducible rfl
  simp only [putE]
  refine wpX_kp (i := 2) (oi := { dst := some 14, op := _, type := _, pos := _, after := _, guard := none }) (v := ?_) rfl (fun _ _ _ h => h) ?_ ⟨(by first | exact Hq4.out | exact Hq3.out | exact Hq2.out | exact Hq1.out | exact Hq0.out), fun _ => trivial⟩ ?_
  rotate_left
  · intro U hU
    go_simp
    all_goals with_reducible rfl
  simp only [putE]
  refine wpX_kp (i := 3) (oi := { dst := some 15, op := _, type := _, pos := _, after := _, guard := some (2, true) }) (v := ?_) rfl (fun _ _ _ h => h) ?_ ⟨(by first | exact Hq4.out | exact Hq3.out | exact Hq2.out | exact Hq1.out | exact Hq0.out), fun _ => trivial⟩ ?_
  rotate_left
  · refine yields_load_blk 29 (.tmp 2) ?_ g ?_ (t := 29) (fr := (0, 0)) (cs := #[an, ag]) (fun U hU => ?_) Try.underlying29 rfl size29 rfl
    · rfl
    · rfl
    · exact blk_keep HXA.out hU
  simp only [putE]
  refine wpX_kp (i := 5) (oi := { dst := some 17, op := _, type := _, pos := _, after := _, guard := some (2, true) }) (v := ?_) rfl (fun _ _ _ h => h) ?_ ⟨(by first | exact Hq4.out | exact Hq3.out | exact Hq2.out | exact Hq1.out | exact Hq0.out), fun _ => trivial⟩ ?_
  rotate_left
  · refine yields_load_blk 29 (.tmp 3) ?_ (g + 1) ?_ (t := 29) (fr := (0, 0)) (cs := #[bn, bg]) (fun U hU => ?_) Try.underlying29 rfl size29 rfl
    · rfl
    · rfl
    · exact blk_keep HXB.out hU
  simp only [putE]
  refine wpAnyX_one (i := 4) (o := { dst := some 16, op := _, type := _, pos := _, after := _, guard := some (2, true) }) (by kernel_rfl) rfl (by rfl) (fun K1 hK1 => ?_)
  have HK1 := Lib.hid hK1; clear hK1
  refine oper_call (ts := _) (xs := #[.tmp 15]) (f := 65) rfl (enters_of Try.func65 (by kernel_rfl) rfl) rfl (R := fun w' => Below wq0.heap.size wq0 w') (v := .int .i64 (ka : Nat)) ((H65a.out _ (btr HB3.out Hq0.out (Nat.le_refl _))).mono (by rintro e w' ⟨rfl, h⟩; exact ⟨rfl, h⟩)) ?_
  rintro wq1 hbwq1
  have Hq1 := Lib.hid (btr Hq0.out hbwq1 (Nat.le_refl _))
  refine HK1.out _ _ ⟨Hq1.out, fun _ => trivial⟩ ?_
  clear HK1
  try simp only [putE]
  refine wpAnyX_one (i := 6) (o := { dst := some 18, op := _, type := _, pos := _, after := _, guard := some (2, true) }) (by kernel_rfl) rfl (by rfl) (fun K1 hK1 => ?_)
  have HK1 := Lib.hid hK1; clear hK1
  refine oper_call (ts := _) (xs := #[.tmp 17]) (f := 65) rfl (enters_of Try.func65 (by kernel_rfl) rfl) rfl (R := fun w' => Below wq1.heap.size wq1 w') (v := .int .i64 (kb : Nat)) ((H65b.out _ (btr HB3.out Hq1.out (Nat.le_refl _))).mono (by rintro e w' ⟨rfl, h⟩; exact ⟨rfl, h⟩)) ?_
  rintro wq2 hbwq2
  have Hq2 := Lib.hid (btr Hq1.out hbwq2 (Nat.le_refl _))
  refine HK1.out _ _ ⟨Hq2.out, fun _ => trivial⟩ ?_
  clear HK1
  try simp only [putE]
  refine wpX_kp (i := 7) (oi := { dst := some 19, op := _, type := _, pos := _, after := _, guard := some (2, true) }) (v := ?_) rfl (fun _ _ _ h => h) ?_ ⟨(by first | exact Hq4.out | exact Hq3.out | exact Hq2.out | exact Hq1.out | exact Hq0.out), fun _ => trivial⟩ ?_
  rotate_left
  · intro U hU
    go_simp
    all_goals with_reducible rfl
  simp only [putE]
  refine wpX_kp (i := 8) (oi := { dst := some 20, op := _, type := _, pos := _, after := _, guard := none }) (v := ?_) rfl (fun _ _ _ h => h) ?_ ⟨(by first | exact Hq4.out | exact Hq3.out | exact Hq2.out | exact Hq1.out | exact Hq0.out), fun _ => trivial⟩ ?_
  rotate_left
  · intro U hU
    go_simp
    all_goals with_reducible rfl
  simp only [putE]
  refine wpAnyX_done (by kernel_rfl) ?_ _
  have HQ := Lib.hid (btr HB3.out Hq2.out (Nat.le_refl _))
  clear Hq0 Hq1 Hq2 HXA HXB
  by_cases hk : ka = kb
  · have hn : ((ka : Int) != (kb : Int)) = false := by simp; omega
    have HF2 : Hid ((0 : Int) = chk2E a b) := Lib.hid (by rw [HF.out, if_pos hk])
    clear hk
    rw [hn]
    go_wp2
    go_ret
    exact FIN.out _ HF2.out _ HQ.out
  · have hn : ((ka : Int) != (kb : Int)) = true := by simp; omega
    have HF2 : Hid ((3 : Int) = chk2E a b) := Lib.hid (by rw [HF.out, if_neg hk])
    clear hk
    rw [hn]
    go_wp2
    go_ret
    exact FIN.out _ HF2.out _ HQ.out
end Ytnjgglnpmhjmiaa
end Go.Proofs
