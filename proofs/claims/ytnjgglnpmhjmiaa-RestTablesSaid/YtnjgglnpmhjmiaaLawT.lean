/- Laws of rotation: laws are valid, lists are allowed, and least tables are, as stated. -/
import Derived.Test.YtnjgglnpmhjmiaaRu
import Derived.Test.YtnjgglnpmhjmiaaWk
open Go Go.RowKit Go.YtnjgglnpmhjmiaaIt
open Rest
namespace Go.Proofs
namespace Ytnjgglnpmhjmiaa
set_option maxRecDepth 100000 in
set_option maxHeartbeats 4000000 in
theorem restTables_any {v vy : Value} {l : Lw} {ys : List Int} {w : World} (h : LawA w v l) (hy : SlI w vy ys) : Calls Try.prog 9 #[v, vy] w fun e w' => e = .returned (.bool true) ∧ Below w.heap.size w w' := by
  obtain ⟨vn, vg, rfl, hn, hg⟩ := h
  have hX := LawA.box (⟨_, _, rfl, hn, hg⟩ : LawA w (.agg #[vn, vg]) l) 25
  have hB1 := (Below.refl w.heap.size w).alloc (Nat.le_refl _) (.cells #[vn, vg] 25)
  have hY1 := hy.below hB1 (Nat.le_refl _)
  obtain ⟨ad, cy, rfl⟩ := slI_form hy
  obtain ⟨N, hN⟩ : ∃ N, N = ys.length := ⟨_, rfl⟩
  rw [← hN] at hY1 ⊢
  obtain ⟨w1, hw1⟩ : ∃ q, q = w.alloc (.cells #[vn, vg] 25) := ⟨_, rfl⟩
  obtain ⟨g, hgw⟩ : ∃ q, q = w.heap.size := ⟨_, rfl⟩
  have HW := Lib.hid (And.intro hw1 hgw)
  rw [← hw1] at hX hB1 hY1
  rw [← hgw] at hX
  have HX := Lib.hid hX
  have HY := Lib.hid hY1
  have HB1 := Lib.hid (show Below g w w1 by rw [hgw]; exact hB1)
  have HGW := Lib.hid (show g ≤ w1.heap.size from Nat.le_of_lt (lt_blk HX.out.blk))
  obtain ⟨b, hb⟩ : ∃ b, b = anyB (decide (60 < l.nx.length) || decide (60 < l.gd.length)) 20 l.nx := ⟨_, rfl⟩
  have H21 := Lib.hid (large_any HX.out.law)
  rw [← hb] at H21
  clear hn hg hX hB1 hy hw1 hgw hY1 hb hN
  go_enter Try.func9, Try.ntmps9
  refine wp_seq_k (fun K hK => ?_)
  have HK := Lib.hid hK; clear hK
  go_wp2
  refine HK.out _ _ ?_; clear HK
  rw [← HW.out.1, ← HW.out.2]
  clear HW
  have HWK := Lib.hid works_any
  cases b with
  | true =>
    go_wp2_with (first | (refine wpList_load_blk rfl 25 _ rfl _ rfl HX.out.blk Try.underlying25 rfl size25 rfl ?_) | (go_at_call 21; refine H21.out.mono ?_; rintro e w2 ⟨rfl, hb2⟩; have HB2 := Lib.hid hb2; clear hb2) | (go_at_call 20; refine (HWK.out _).mono ?_; rintro e w3 ⟨rfl, hb3⟩))
    go_ret
    exact ⟨rfl, HB1.out.trans ((btr HB2.out hb3 (Nat.le_refl _)).mono HGW.out)⟩
  | false =>
  by_cases h80 : (80 : Int) < (N : Int)
  · go_wp2_with (first | (refine wpList_load_blk rfl 25 _ rfl _ rfl HX.out.blk Try.underlying25 rfl size25 rfl ?_) | (go_at_call 21; refine H21.out.mono ?_; rintro e w2 ⟨rfl, hb2⟩; have HB2 := Lib.hid hb2; clear hb2) | (go_at_call 20; refine (HWK.out _).mono ?_; rintro e w3 ⟨rfl, hb3⟩))
    go_ret
    exact ⟨rfl, HB1.out.trans ((btr HB2.out hb3 (Nat.le_refl _)).mono HGW.out)⟩
  refine wp_seq_k (fun K hK => ?_)
  have HK := Lib.hid hK; clear hK
  go_wp2_with (first | (refine wpList_load_blk rfl 25 _ rfl _ rfl HX.out.blk Try.underlying25 rfl size25 rfl ?_) | (go_at_call 21; refine H21.out.mono ?_; rintro e w2 ⟨rfl, hb2⟩; have HB2 := Lib.hid hb2; clear hb2))
  refine HK.out _ _ ?_; clear HK
  have HX2 := Lib.hid (HX.out.below HB2.out)
  have HY2 := Lib.hid (HY.out.below HB2.out (Nat.le_refl _))
  have HBw := Lib.hid (HB1.out.trans (HB2.out.mono HGW.out))
  have HG2 := Lib.hid (show g ≤ w2.heap.size from Nat.le_trans HGW.out HB2.out.size)
  clear HX HY HB1 HB2 HGW H21
  refine wp_seq_k (fun K hK => ?_)
  have HK := Lib.hid hK; clear hK
  go_wp2_with (first | (refine wpList_load_blk rfl 25 _ rfl _ rfl HX2.out.blk Try.underlying25 rfl size25 rfl ?_) | (go_at_call 22; refine (given_any HX2.out.law).mono ?_; rintro e w3 ⟨rfl, hb3⟩; have HB3 := Lib.hid hb3; have HL3 := Lib.hid (HX2.out.below hb3).law; clear hb3) | (refine wpList_store_blk rfl 29 _ _ rfl _ rfl rfl (heap_newI rfl) size29 rfl rfl HL3.out.one ?_))
  refine HK.out _ _ ?_; clear HK
  generalize hw4 : World.putObj _ _ _ = w4
  obtain ⟨hx4, hb4⟩ := storedT HL3.out hw4
  obtain ⟨g5, hg5⟩ : ∃ g, g = w3.heap.size := ⟨_, rfl⟩
  rw [← hg5] at hx4 ⊢
  have h24 := btr HB3.out hb4 (Nat.le_refl _)
  have HX4 := Lib.hid (HX2.out.below h24)
  have HZ4 := Lib.hid hx4
  have HY4 := Lib.hid (HY2.out.below h24 (Nat.le_refl _))
  have HBw4 := Lib.hid (HBw.out.trans (h24.mono HG2.out))
  have HG4 := Lib.hid (Nat.le_trans HG2.out h24.size)
  clear hx4 hb4 hw4 hg5 h24 HX2 HY2 HBw HG2 HB3 HL3
  obtain ⟨R, hR⟩ : ∃ R, R = allowsB l ys := ⟨_, rfl⟩
  obtain ⟨F, hF⟩ : ∃ F, F = allowsE l ys := ⟨_, rfl⟩
  obtain ⟨E, hE⟩ : ∃ E, E = chkL l := ⟨_, rfl⟩
  have h38 := allows38_any HX4.out.law HY4.out
  rw [← hR, ← hF] at h38
  have H38 := Lib.hid h38
  have H49 : Hid (∀ W, Below w4.heap.size w4 W → Calls Try.prog 49 #[.agg #[vn, vg], .slice ad N cy] W fun e w' => e = .returned (.tuple #[.bool R, .int .i64 F]) ∧ Below W.heap.size W w') := Lib.hid fun W hW => by rw [hR, hF]; exact rallows_any (HZ4.out.below hW).law (HY4.out.below hW (Nat.le_refl _))
  have H50 : Hid (∀ W, Below w4.heap.size w4 W → Calls Try.prog 50 #[.agg #[vn, vg]] W fun e w' => ∃ vn vg, e = .returned (.tuple #[.agg #[vn, vg], .int .i64 E]) ∧ LawA w' (.agg #[vn, vg]) (resL (leastL l) E) ∧ Below W.heap.size W w') := Lib.hid fun W hW => by rw [hE]; exact least50_any (HX4.out.below hW).law
  have H51 : Hid (∀ W, Below w4.heap.size w4 W → Calls Try.prog 51 #[.agg #[vn, vg]] W fun e w' => ∃ vn vg, e = .returned (.tuple #[.agg #[vn, vg], .int .i64 E]) ∧ LawA w' (.agg #[vn, vg]) (resL (leastL l) E) ∧ Below W.heap.size W w') := Lib.hid fun W hW => by rw [hE]; exact rleast_any (HZ4.out.below hW).law
  have H52 : Hid (∀ W, Below w4.heap.size w4 W → Calls Try.prog 52 #[.agg #[vn, vg]] W fun e w' => e = .returned (.int .i64 E) ∧ Below W.heap.size W w') := Lib.hid fun W hW => by rw [hE]; exact check_any (HX4.out.below hW).law
  have H53 : Hid (∀ W, Below w4.heap.size w4 W → Calls Try.prog 53 #[.agg #[vn, vg]] W fun e w' => e = .returned (.int .i64 E) ∧ Below W.heap.size W w') := Lib.hid fun W hW => by rw [hE]; exact rcheck_any (HZ4.out.below hW).law
  obtain ⟨M, hM⟩ : ∃ M, M = resL (leastL l) E := ⟨_, rfl⟩
  rw [← hM] at H50 H51
  clear hR hF hE h38 hM HY4
  refine wp_seq_k (fun K hK => ?_)
  have HK := Lib.hid hK; clear hK
  go_wp2_with (first | (refine wpList_load_blk rfl 25 _ rfl _ rfl HX4.out.blk Try.underlying25 rfl size25 rfl ?_) | (go_at_call 38; refine H38.out.mono ?_; rintro e w5 ⟨rfl, hb5⟩; have HB5 := Lib.hid hb5; clear hb5))
  refine HK.out _ _ ?_; clear HK
  refine wp_seq_k (fun K hK => ?_)
  have HK := Lib.hid hK; clear hK
  go_wp2_with (first | (refine wpList_load_blk rfl 29 _ rfl _ rfl (blk_keep HZ4.out.blk HB5.out) Try.underlying29 rfl size29 rfl ?_) | (go_at_call 49; refine (H49.out _ HB5.out).mono ?_; rintro e w6 ⟨rfl, hb6⟩; have HB6 := Lib.hid (btr HB5.out hb6 (Nat.le_refl _)); clear hb6))
  refine HK.out _ _ ?_; clear HK
  refine wp_seq_k (fun K hK => ?_)
  have HK := Lib.hid hK; clear hK
  go_wp2_with (first | (refine wpList_load_blk rfl 25 _ rfl _ rfl (blk_keep HX4.out.blk HB6.out) Try.underlying25 rfl size25 rfl ?_) | (go_at_call 50; refine (H50.out _ HB6.out).mono ?_; rintro e w7 ⟨mn, mg, rfl, hl7, hb7⟩; have HL7 := Lib.hid hl7; have HB7 := Lib.hid (btr HB6.out hb7 (Nat.le_refl _)); clear hl7 hb7) | (refine wpList_store_blk rfl 25 _ _ rfl _ rfl rfl (heap_newI rfl) size25 rfl rfl HL7.out.one ?_))
  refine HK.out _ _ ?_; clear HK
  generalize hw8 : World.putObj _ _ _ = w8
  obtain ⟨hx8, hb8⟩ := storedT HL7.out hw8
  obtain ⟨g10, hg10⟩ : ∃ g, g = w7.heap.size := ⟨_, rfl⟩
  rw [← hg10] at hx8 ⊢
  have HX8 := Lib.hid hx8
  have HB8 := Lib.hid (btr HB7.out hb8 (Nat.le_refl _))
  clear hx8 hb8 hw8 hg10 HL7 HB5 HB6 HB7
  refine wp_seq_k (fun K hK => ?_)
  have HK := Lib.hid hK; clear hK
  go_wp2_with (first | (refine wpList_load_blk rfl 29 _ rfl _ rfl (blk_keep HZ4.out.blk HB8.out) Try.underlying29 rfl size29 rfl ?_) | (go_at_call 51; refine (H51.out _ HB8.out).mono ?_; rintro e w9 ⟨un, ug, rfl, hl9, hb9⟩; have HL9 := Lib.hid hl9; have HB9 := Lib.hid hb9; clear hl9 hb9) | (refine wpList_store_blk rfl 29 _ _ rfl _ rfl rfl (heap_newI rfl) size29 rfl rfl HL9.out.one ?_))
  refine HK.out _ _ ?_; clear HK
  generalize hwA : World.putObj _ _ _ = wA
  obtain ⟨hxA, hbA⟩ := storedT HL9.out hwA
  obtain ⟨g12, hg12⟩ : ∃ g, g = w9.heap.size := ⟨_, rfl⟩
  rw [← hg12] at hxA ⊢
  have h8A := btr HB9.out hbA (Nat.le_refl _)
  have HZA := Lib.hid hxA
  have HXA := Lib.hid (HX8.out.below h8A)
  have HBA := Lib.hid (btr HB8.out h8A (Nat.le_refl _))
  have HBX := Lib.hid (HX4.out.below HBA.out)
  have HBZ := Lib.hid (HZ4.out.below HBA.out)
  clear hxA hbA hwA hg12 h8A HL9 HB9 HB8 HX8 HX4 HZ4
  have hRR : (R == R) = true := beq_self_eq_true R
  have hFF : (F == F) = true := beq_self_eq_true F
  have hEE : (E == E) = true := beq_self_eq_true E
  refine wp_seq_k (fun K hK => ?_)
  have HK := Lib.hid hK; clear hK
  refine wp_region_x (R := fun U => Below wA.heap.size wA U) (S := fun _ => True) (z := 999) rfl ?_
  change wpAnyX _ _ _ _ _ _ _ _ _ _ wA.drew
  have Hq0 := Lib.hid (show Below wA.heap.size wA wA.drew from (Below.refl _ _).drew)
  obtain ⟨wq0, hwq⟩ : ∃ q, q = wA.drew := ⟨_, rfl⟩
  rw [← hwq] at Hq0 ⊢
  clear hwq
  refine wpAnyX_keep (i := 0) (oi := { dst := some 46, op := _, type := _, pos := _, after := _, guard := none }) (v := ?_) rfl (by kernel_rfl) (by kernel_rfl) (by kernel_rfl) (fun _ _ _ h => h) (Or.inl ⟨by rfl, ?_⟩) ⟨(by first | exact Hq4.out | exact Hq3.out | exact Hq2.out | exact Hq1.out | exact Hq0.out), fun _ => trivial⟩ ?_
  rotate_left
  · intro U hU
    go_simp
    all_goals with_reducible rfl
  simp only [Act.put, List.setIfInBounds_toArray, List.set_cons_zero, List.set_cons_succ]
  refine wpAnyX_keep (i := 1) (oi := { dst := some 47, op := _, type := _, pos := _, after := _, guard := none }) (v := ?_) rfl (by kernel_rfl) (by kernel_rfl) (by kernel_rfl) (fun _ _ _ h => h) (Or.inl ⟨by rfl, ?_⟩) ⟨(by first | exact Hq4.out | exact Hq3.out | exact Hq2.out | exact Hq1.out | exact Hq0.out), fun _ => trivial⟩ ?_
  rotate_left
  · intro U hU
    go_simp
    all_goals with_reducible rfl
  simp only [Act.put, List.setIfInBounds_toArray, List.set_cons_zero, List.set_cons_succ]
  refine wpAnyX_keep (i := 2) (oi := { dst := some 48, op := _, type := _, pos := _, after := _, guard := none }) (v := ?_) rfl (by kernel_rfl) (by kernel_rfl) (by kernel_rfl) (fun _ _ _ h => h) (Or.inl ⟨by rfl, ?_⟩) ⟨(by first | exact Hq4.out | exact Hq3.out | exact Hq2.out | exact Hq1.out | exact Hq0.out), fun _ => trivial⟩ ?_
  rotate_left
  · intro U hU
    go_simp
    all_goals with_reducible rfl
  simp only [Act.put, List.setIfInBounds_toArray, List.set_cons_zero, List.set_cons_succ]
  refine wpAnyX_keep (i := 3) (oi := { dst := some 49, op := _, type := _, pos := _, after := _, guard := none }) (v := ?_) rfl (by kernel_rfl) (by kernel_rfl) (by kernel_rfl) (fun _ _ _ h => h) (Or.inl ⟨by rfl, ?_⟩) ⟨(by first | exact Hq4.out | exact Hq3.out | exact Hq2.out | exact Hq1.out | exact Hq0.out), fun _ => trivial⟩ ?_
  rotate_left
  · intro U hU
    go_simp
    all_goals with_reducible rfl
  simp only [Act.put, List.setIfInBounds_toArray, List.set_cons_zero, List.set_cons_succ]
  refine wpAnyX_keep (i := 4) (oi := { dst := some 50, op := _, type := _, pos := _, after := _, guard := some (3, true) }) (v := ?_) rfl (by kernel_rfl) (by kernel_rfl) (by kernel_rfl) (fun _ _ _ h => h) (Or.inl ⟨by rfl, ?_⟩) ⟨(by first | exact Hq4.out | exact Hq3.out | exact Hq2.out | exact Hq1.out | exact Hq0.out), fun _ => trivial⟩ ?_
  rotate_left
  · intro U hU
    go_simp
    all_goals with_reducible rfl
  simp only [Act.put, List.setIfInBounds_toArray, List.set_cons_zero, List.set_cons_succ]
  refine wpAnyX_keep (i := 5) (oi := { dst := some 51, op := _, type := _, pos := _, after := _, guard := some (3, true) }) (v := ?_) rfl (by kernel_rfl) (by kernel_rfl) (by kernel_rfl) (fun _ _ _ h => h) (Or.inl ⟨by rfl, ?_⟩) ⟨(by first | exact Hq4.out | exact Hq3.out | exact Hq2.out | exact Hq1.out | exact Hq0.out), fun _ => trivial⟩ ?_
  rotate_left
  · intro U hU
    go_simp
    all_goals with_reducible rfl
  simp only [Act.put, List.setIfInBounds_toArray, List.set_cons_zero, List.set_cons_succ]
  refine wpAnyX_keep (i := 6) (oi := { dst := some 52, op := _, type := _, pos := _, after := _, guard := some (3, true) }) (v := ?_) rfl (by kernel_rfl) (by kernel_rfl) (by kernel_rfl) (fun _ _ _ h => h) (Or.inl ⟨by rfl, ?_⟩) ⟨(by first | exact Hq4.out | exact Hq3.out | exact Hq2.out | exact Hq1.out | exact Hq0.out), fun _ => trivial⟩ ?_
  rotate_left
  · intro U hU
    go_simp
    all_goals with_reducible rfl
  simp only [Act.put, List.setIfInBounds_toArray, List.set_cons_zero, List.set_cons_succ]
  refine wpAnyX_keep (i := 7) (oi := { dst := some 53, op := _, type := _, pos := _, after := _, guard := none }) (v := ?_) rfl (by kernel_rfl) (by kernel_rfl) (by kernel_rfl) (fun _ _ _ h => h) (Or.inl ⟨by rfl, ?_⟩) ⟨(by first | exact Hq4.out | exact Hq3.out | exact Hq2.out | exact Hq1.out | exact Hq0.out), fun _ => trivial⟩ ?_
  rotate_left
  · intro U hU
    go_simp
    all_goals with_reducible rfl
  simp only [Act.put, List.setIfInBounds_toArray, List.set_cons_zero, List.set_cons_succ]
  refine wpAnyX_keep (i := 8) (oi := { dst := some 54, op := _, type := _, pos := _, after := _, guard := none }) (v := ?_) rfl (by kernel_rfl) (by kernel_rfl) (by kernel_rfl) (fun _ _ _ h => h) (Or.inl ⟨by rfl, ?_⟩) ⟨(by first | exact Hq4.out | exact Hq3.out | exact Hq2.out | exact Hq1.out | exact Hq0.out), fun _ => trivial⟩ ?_
  rotate_left
  · intro U hU
    go_simp
    all_goals with_reducible rfl
  simp only [Act.put, List.setIfInBounds_toArray, List.set_cons_zero, List.set_cons_succ]
  refine wpAnyX_keep (i := 9) (oi := { dst := some 55, op := _, type := _, pos := _, after := _, guard := some (8, true) }) (v := ?_) rfl (by kernel_rfl) (by kernel_rfl) (by kernel_rfl) (fun _ _ _ h => h) (Or.inl ⟨by rfl, ?_⟩) ⟨(by first | exact Hq4.out | exact Hq3.out | exact Hq2.out | exact Hq1.out | exact Hq0.out), fun _ => trivial⟩ ?_
  rotate_left
  · refine yields_load_blk 25 (.tmp 10) ?_ g10 ?_ (t := 25) (fr := (0, 0)) (cs := #[mn, mg]) (fun U hU => ?_) Try.underlying25 rfl size25 rfl
    · rfl
    · rfl
    · exact blk_keep HXA.out.blk hU
  simp only [Act.put, List.setIfInBounds_toArray, List.set_cons_zero, List.set_cons_succ]
  refine wpAnyX_keep (i := 10) (oi := { dst := some 56, op := _, type := _, pos := _, after := _, guard := some (8, true) }) (v := ?_) rfl (by kernel_rfl) (by kernel_rfl) (by kernel_rfl) (fun _ _ _ h => h) (Or.inl ⟨by rfl, ?_⟩) ⟨(by first | exact Hq4.out | exact Hq3.out | exact Hq2.out | exact Hq1.out | exact Hq0.out), fun _ => trivial⟩ ?_
  rotate_left
  · refine yields_load_blk 29 (.tmp 12) ?_ g12 ?_ (t := 29) (fr := (0, 0)) (cs := #[un, ug]) (fun U hU => ?_) Try.underlying29 rfl size29 rfl
    · rfl
    · rfl
    · exact blk_keep HZA.out.blk hU
  simp only [Act.put, List.setIfInBounds_toArray, List.set_cons_zero, List.set_cons_succ]
  refine wpAnyX_one (i := 11) (o := { dst := some 57, op := _, type := _, pos := _, after := _, guard := some (8, true) }) (by kernel_rfl) rfl (by rfl) (fun K1 hK1 => ?_)
  have HK1 := Lib.hid hK1; clear hK1
  refine oper_call (ts := _) (xs := #[.tmp 55, .tmp 56]) (f := 19) rfl (enters_of Try.func19 (by kernel_rfl) rfl) rfl (R := fun w' => Below wq0.heap.size wq0 w') (v := .bool (sameL M M)) ((same_any (HXA.out.below Hq0.out).law (HZA.out.below Hq0.out).law).mono (by rintro e w' ⟨rfl, h⟩; exact ⟨rfl, h⟩)) ?_
  rintro wq1 hbwq1
  have Hq1 := Lib.hid (btr Hq0.out hbwq1 (Nat.le_refl _))
  refine HK1.out _ _ ⟨Hq1.out, fun _ => trivial⟩ ?_
  clear HK1
  try simp only [Act.put, List.setIfInBounds_toArray, List.set_cons_zero, List.set_cons_succ]
  rw [same_true]
  refine wpAnyX_keep (i := 12) (oi := { dst := some 58, op := _, type := _, pos := _, after := _, guard := none }) (v := ?_) rfl (by kernel_rfl) (by kernel_rfl) (by kernel_rfl) (fun _ _ _ h => h) (Or.inl ⟨by rfl, ?_⟩) ⟨(by first | exact Hq4.out | exact Hq3.out | exact Hq2.out | exact Hq1.out | exact Hq0.out), fun _ => trivial⟩ ?_
  rotate_left
  · intro U hU
    go_simp
    all_goals with_reducible rfl
  simp only [Act.put, List.setIfInBounds_toArray, List.set_cons_zero, List.set_cons_succ]
  refine wpAnyX_keep (i := 13) (oi := { dst := some 59, op := _, type := _, pos := _, after := _, guard := none }) (v := ?_) rfl (by kernel_rfl) (by kernel_rfl) (by kernel_rfl) (fun _ _ _ h => h) (Or.inl ⟨by rfl, ?_⟩) ⟨(by first | exact Hq4.out | exact Hq3.out | exact Hq2.out | exact Hq1.out | exact Hq0.out), fun _ => trivial⟩ ?_
  rotate_left
  · intro U hU
    go_simp
    all_goals with_reducible rfl
  simp only [Act.put, List.setIfInBounds_toArray, List.set_cons_zero, List.set_cons_succ]
  refine wpAnyX_keep (i := 14) (oi := { dst := some 60, op := _, type := _, pos := _, after := _, guard := some (13, true) }) (v := ?_) rfl (by kernel_rfl) (by kernel_rfl) (by kernel_rfl) (fun _ _ _ h => h) (Or.inl ⟨by rfl, ?_⟩) ⟨(by first | exact Hq4.out | exact Hq3.out | exact Hq2.out | exact Hq1.out | exact Hq0.out), fun _ => trivial⟩ ?_
  rotate_left
  · intro U hU
    go_simp
    all_goals with_reducible rfl
  simp only [Act.put, List.setIfInBounds_toArray, List.set_cons_zero, List.set_cons_succ]
  refine wpAnyX_keep (i := 15) (oi := { dst := some 61, op := _, type := _, pos := _, after := _, guard := some (13, true) }) (v := ?_) rfl (by kernel_rfl) (by kernel_rfl) (by kernel_rfl) (fun _ _ _ h => h) (Or.inl ⟨by rfl, ?_⟩) ⟨(by first | exact Hq4.out | exact Hq3.out | exact Hq2.out | exact Hq1.out | exact Hq0.out), fun _ => trivial⟩ ?_
  rotate_left
  · intro U hU
    go_simp
    all_goals with_reducible rfl
  simp only [Act.put, List.setIfInBounds_toArray, List.set_cons_zero, List.set_cons_succ]
  refine wpAnyX_keep (i := 16) (oi := { dst := some 62, op := _, type := _, pos := _, after := _, guard := some (13, true) }) (v := ?_) rfl (by kernel_rfl) (by kernel_rfl) (by kernel_rfl) (fun _ _ _ h => h) (Or.inl ⟨by rfl, ?_⟩) ⟨(by first | exact Hq4.out | exact Hq3.out | exact Hq2.out | exact Hq1.out | exact Hq0.out), fun _ => trivial⟩ ?_
  rotate_left
  · intro U hU
    go_simp
    all_goals with_reducible rfl
  simp only [Act.put, List.setIfInBounds_toArray, List.set_cons_zero, List.set_cons_succ]
  refine wpAnyX_keep (i := 17) (oi := { dst := some 63, op := _, type := _, pos := _, after := _, guard := none }) (v := ?_) rfl (by kernel_rfl) (by kernel_rfl) (by kernel_rfl) (fun _ _ _ h => h) (Or.inl ⟨by rfl, ?_⟩) ⟨(by first | exact Hq4.out | exact Hq3.out | exact Hq2.out | exact Hq1.out | exact Hq0.out), fun _ => trivial⟩ ?_
  rotate_left
  · intro U hU
    go_simp
    all_goals with_reducible rfl
  simp only [Act.put, List.setIfInBounds_toArray, List.set_cons_zero, List.set_cons_succ]
  refine wpAnyX_keep (i := 18) (oi := { dst := some 64, op := _, type := _, pos := _, after := _, guard := none }) (v := ?_) rfl (by kernel_rfl) (by kernel_rfl) (by kernel_rfl) (fun _ _ _ h => h) (Or.inl ⟨by rfl, ?_⟩) ⟨(by first | exact Hq4.out | exact Hq3.out | exact Hq2.out | exact Hq1.out | exact Hq0.out), fun _ => trivial⟩ ?_
  rotate_left
  · intro U hU
    go_simp
    all_goals with_reducible rfl
  simp only [Act.put, List.setIfInBounds_toArray, List.set_cons_zero, List.set_cons_succ]
  refine wpAnyX_keep (i := 19) (oi := { dst := some 65, op := _, type := _, pos := _, after := _, guard := some (18, true) }) (v := ?_) rfl (by kernel_rfl) (by kernel_rfl) (by kernel_rfl) (fun _ _ _ h => h) (Or.inl ⟨by rfl, ?_⟩) ⟨(by first | exact Hq4.out | exact Hq3.out | exact Hq2.out | exact Hq1.out | exact Hq0.out), fun _ => trivial⟩ ?_
  rotate_left
  · refine yields_load_blk 25 (.tmp 2) ?_ g ?_ (t := 25) (fr := (0, 0)) (cs := #[vn, vg]) (fun U hU => ?_) Try.underlying25 rfl size25 rfl
    · rfl
    · rfl
    · exact blk_keep HBX.out.blk hU
  simp only [Act.put, List.setIfInBounds_toArray, List.set_cons_zero, List.set_cons_succ]
  refine wpAnyX_keep (i := 21) (oi := { dst := some 67, op := _, type := _, pos := _, after := _, guard := some (18, true) }) (v := ?_) rfl (by kernel_rfl) (by kernel_rfl) (by kernel_rfl) (fun _ _ _ h => h) (Or.inl ⟨by rfl, ?_⟩) ⟨(by first | exact Hq4.out | exact Hq3.out | exact Hq2.out | exact Hq1.out | exact Hq0.out), fun _ => trivial⟩ ?_
  rotate_left
  · refine yields_load_blk 29 (.tmp 5) ?_ g5 ?_ (t := 29) (fr := (0, 0)) (cs := #[vn, vg]) (fun U hU => ?_) Try.underlying29 rfl size29 rfl
    · rfl
    · rfl
    · exact blk_keep HBZ.out.blk hU
  simp only [Act.put, List.setIfInBounds_toArray, List.set_cons_zero, List.set_cons_succ]
  refine wpAnyX_one (i := 20) (o := { dst := some 66, op := _, type := _, pos := _, after := _, guard := some (18, true) }) (by kernel_rfl) rfl (by rfl) (fun K1 hK1 => ?_)
  have HK1 := Lib.hid hK1; clear hK1
  refine oper_call (ts := _) (xs := #[.tmp 65]) (f := 52) rfl (enters_of Try.func52 (by kernel_rfl) rfl) rfl (R := fun w' => Below wq1.heap.size wq1 w') (v := .int .i64 E) ((H52.out _ (btr HBA.out Hq1.out (Nat.le_refl _))).mono (by rintro e w' ⟨rfl, h⟩; exact ⟨rfl, h⟩)) ?_
  rintro wq2 hbwq2
  have Hq2 := Lib.hid (btr Hq1.out hbwq2 (Nat.le_refl _))
  refine HK1.out _ _ ⟨Hq2.out, fun _ => trivial⟩ ?_
  clear HK1
  try simp only [Act.put, List.setIfInBounds_toArray, List.set_cons_zero, List.set_cons_succ]
  refine wpAnyX_one (i := 22) (o := { dst := some 68, op := _, type := _, pos := _, after := _, guard := some (18, true) }) (by kernel_rfl) rfl (by rfl) (fun K1 hK1 => ?_)
  have HK1 := Lib.hid hK1; clear hK1
  refine oper_call (ts := _) (xs := #[.tmp 67]) (f := 53) rfl (enters_of Try.func53 (by kernel_rfl) rfl) rfl (R := fun w' => Below wq2.heap.size wq2 w') (v := .int .i64 E) ((H53.out _ (btr HBA.out Hq2.out (Nat.le_refl _))).mono (by rintro e w' ⟨rfl, h⟩; exact ⟨rfl, h⟩)) ?_
  rintro wq3 hbwq3
  have Hq3 := Lib.hid (btr Hq2.out hbwq3 (Nat.le_refl _))
  refine HK1.out _ _ ⟨Hq3.out, fun _ => trivial⟩ ?_
  clear HK1
  try simp only [Act.put, List.setIfInBounds_toArray, List.set_cons_zero, List.set_cons_succ]
  refine wpAnyX_keep (i := 23) (oi := { dst := some 69, op := _, type := _, pos := _, after := _, guard := some (18, true) }) (v := ?_) rfl (by kernel_rfl) (by kernel_rfl) (by kernel_rfl) (fun _ _ _ h => h) (Or.inl ⟨by rfl, ?_⟩) ⟨(by first | exact Hq4.out | exact Hq3.out | exact Hq2.out | exact Hq1.out | exact Hq0.out), fun _ => trivial⟩ ?_
  rotate_left
  · intro U hU
    go_simp
    all_goals with_reducible rfl
  simp only [Act.put, List.setIfInBounds_toArray, List.set_cons_zero, List.set_cons_succ]
  refine wpAnyX_keep (i := 24) (oi := { dst := some 70, op := _, type := _, pos := _, after := _, guard := none }) (v := ?_) rfl (by kernel_rfl) (by kernel_rfl) (by kernel_rfl) (fun _ _ _ h => h) (Or.inl ⟨by rfl, ?_⟩) ⟨(by first | exact Hq4.out | exact Hq3.out | exact Hq2.out | exact Hq1.out | exact Hq0.out), fun _ => trivial⟩ ?_
  rotate_left
  · intro U hU
    go_simp
    all_goals with_reducible rfl
  simp only [Act.put, List.setIfInBounds_toArray, List.set_cons_zero, List.set_cons_succ]
  refine wpAnyX_keep (i := 25) (oi := { dst := some 71, op := _, type := _, pos := _, after := _, guard := none }) (v := ?_) rfl (by kernel_rfl) (by kernel_rfl) (by kernel_rfl) (fun _ _ _ h => h) (Or.inl ⟨by rfl, ?_⟩) ⟨(by first | exact Hq4.out | exact Hq3.out | exact Hq2.out | exact Hq1.out | exact Hq0.out), fun _ => trivial⟩ ?_
  rotate_left
  · intro U hU
    go_simp
    all_goals with_reducible rfl
  simp only [Act.put, List.setIfInBounds_toArray, List.set_cons_zero, List.set_cons_succ]
  refine wpAnyX_one (i := 26) (o := { dst := some 72, op := _, type := _, pos := _, after := _, guard := some (25, true) }) (by kernel_rfl) rfl (by rfl) (fun K1 hK1 => ?_)
  have HK1 := Lib.hid hK1; clear hK1
  refine oper_call (ts := _) (xs := #[]) (f := 20) rfl (enters_of Try.func20 (by kernel_rfl) rfl) rfl (R := fun w' => Below wq3.heap.size wq3 w') (v := .bool true) ((HWK.out _).mono (by rintro e w' ⟨rfl, h⟩; exact ⟨rfl, h⟩)) ?_
  rintro wq4 hbwq4
  have Hq4 := Lib.hid (btr Hq3.out hbwq4 (Nat.le_refl _))
  refine HK1.out _ _ ⟨Hq4.out, fun _ => trivial⟩ ?_
  clear HK1
  try simp only [Act.put, List.setIfInBounds_toArray, List.set_cons_zero, List.set_cons_succ]
  refine wpAnyX_keep (i := 27) (oi := { dst := some 73, op := _, type := _, pos := _, after := _, guard := none }) (v := ?_) rfl (by kernel_rfl) (by kernel_rfl) (by kernel_rfl) (fun _ _ _ h => h) (Or.inl ⟨by rfl, ?_⟩) ⟨(by first | exact Hq4.out | exact Hq3.out | exact Hq2.out | exact Hq1.out | exact Hq0.out), fun _ => trivial⟩ ?_
  rotate_left
  · intro U hU
    go_simp
    all_goals with_reducible rfl
  simp only [Act.put, List.setIfInBounds_toArray, List.set_cons_zero, List.set_cons_succ]
  refine wpAnyX_keep (i := 28) (oi := { dst := some 4, op := _, type := _, pos := _, after := _, guard := none }) (v := ?_) rfl (by kernel_rfl) (by kernel_rfl) (by kernel_rfl) (fun _ _ _ h => h) (Or.inl ⟨by rfl, ?_⟩) ⟨(by first | exact Hq4.out | exact Hq3.out | exact Hq2.out | exact Hq1.out | exact Hq0.out), fun _ => trivial⟩ ?_
  rotate_left
  · intro U hU
    go_simp
    all_goals with_reducible rfl
  simp only [Act.put, List.setIfInBounds_toArray, List.set_cons_zero, List.set_cons_succ]
  refine wpAnyX_done (by kernel_rfl) ?_ _
  refine HK.out _ _ ?_; clear HK
  go_wp2
  go_ret
  exact ⟨rfl, HBw4.out.trans ((btr HBA.out Hq4.out (Nat.le_refl _)).mono HG4.out)⟩
end Ytnjgglnpmhjmiaa
end Go.Proofs

