/- Laws of rotation: starts and ends are as stated, and any of them are accepted as stated. -/
import Derived.Test.YtnjgglnpmhjmiaaSd
import Derived.Test.YtnjgglnpmhjmiaaSe
import Derived.Test.YtnjgglnpmhjmiaaWk
open Go Go.RowKit Go.YtnjgglnpmhjmiaaIt
open Rest
namespace Go.Proofs
namespace Ytnjgglnpmhjmiaa
set_option maxRecDepth 100000 in
set_option maxHeartbeats 4000000 in
theorem restTold_any {v vs vd : Value} {l : Lw} {ss ds : List (List Int)} {w : World} (h : LawA w v l) (hs : SlII w vs ss) (hd : SlII w vd ds) : Calls Try.prog 5 #[v, vs, vd] w fun e w' => e = .returned (.bool true) ∧ Below w.heap.size w w' := by
 obtain ⟨vn, vg, rfl, hn, hg⟩ := h
 obtain ⟨an, cn, rfl, -⟩ := slII_form hn
 have hX := LawA.box (⟨_, _, rfl, hn, hg⟩ : LawA w (.agg #[.slice an l.nx.length cn, vg]) l) 25
 obtain ⟨m, hm⟩ : ∃ m, m = l.nx.length := ⟨_, rfl⟩
 rw [← hm] at hX ⊢
 have hB1 := (Below.refl w.heap.size w).alloc (Nat.le_refl _) (.cells #[.slice an m cn, vg] 25)
 obtain ⟨w1, hw1⟩ : ∃ q, q = w.alloc (.cells #[.slice an m cn, vg] 25) := ⟨_, rfl⟩
 obtain ⟨g, hgw⟩ : ∃ q, q = w.heap.size := ⟨_, rfl⟩
 have HW := Lib.hid (And.intro hw1 hgw)
 rw [← hw1] at hX hB1
 have HS := Lib.hid (hs.below hB1 (Nat.le_refl _))
 have HD := Lib.hid (hd.below hB1 (Nat.le_refl _))
 rw [← hgw] at hX hB1
 have HX := Lib.hid hX
 have HB1 := Lib.hid hB1
 have HGW := Lib.hid (show g ≤ w1.heap.size from Nat.le_of_lt (lt_blk HX.out.blk))
 obtain ⟨p, hp⟩ : ∃ b, b = anyB (decide (60 < l.nx.length) || decide (60 < l.gd.length)) 20 l.nx := ⟨_, rfl⟩
 obtain ⟨q1, hq1⟩ : ∃ b, b = anyB (decide (100 < ss.length)) 80 ss := ⟨_, rfl⟩
 obtain ⟨q2, hq2⟩ : ∃ b, b = anyB (decide (100 < ds.length)) 80 ds := ⟨_, rfl⟩
 have H21 := Lib.hid (large_any HX.out.law)
 have H30a := Lib.hid (fun W (hW : Below w1.heap.size w1 W) => long_any (HS.out.below hW (Nat.le_refl _)))
 have H30b := Lib.hid (fun W (hW : Below w1.heap.size w1 W) => long_any (HD.out.below hW (Nat.le_refl _)))
 rw [← hp] at H21
 rw [← hq1] at H30a
 rw [← hq2] at H30b
 clear hn hg hs hd hX hB1 hm hw1 hgw hp hq1 hq2
 go_enter Try.func5, Try.ntmps5
 refine wp_seq_k (fun K hK => ?_)
 have HK := Lib.hid hK; clear hK
 go_wp2
 refine HK.out _ _ ?_; clear HK
 rw [← HW.out.1, ← HW.out.2]
 clear HW
 have HWK := Lib.hid works_any
 cases p with
 | true =>
  go_wp2_with (first | (refine wpList_load_blk rfl 25 (.tmp 3) rfl _ rfl HX.out.blk Try.underlying25 rfl size25 rfl ?_) | (go_at_call 21; refine H21.out.mono ?_; rintro e w2 ⟨rfl, hb2⟩; have HB2 := Lib.hid hb2; clear hb2; refine cutme ?_))
  refine ⟨?_⟩
  have c0 := cell_blk (i := 0) (blk_keep HX.out.blk HB2.out)
  simp only [List.getElem?_toArray, List.getElem?_cons_zero] at c0
  go_wp2_with (first | (go_at_call 20; refine (HWK.out _).mono ?_; rintro e w5 ⟨rfl, hb5⟩))
  go_ret
  exact ⟨rfl, HB1.out.trans ((btr HB2.out hb5 (Nat.le_refl _)).mono HGW.out)⟩
 | false =>
 by_cases h12 : (12 : Int) < (m : Int)
 ·by_cases h40 : (m : Int) ≤ 40
  ·go_wp2_with (first | (refine wpList_load_blk rfl 25 (.tmp 3) rfl _ rfl HX.out.blk Try.underlying25 rfl size25 rfl ?_) | (go_at_call 21; refine H21.out.mono ?_; rintro e w2 ⟨rfl, hb2⟩; have HB2 := Lib.hid hb2; clear hb2; refine cutme ?_))
   refine ⟨?_⟩
   have c0 := cell_blk (i := 0) (blk_keep HX.out.blk HB2.out)
   simp only [List.getElem?_toArray, List.getElem?_cons_zero] at c0
   go_wp2_with (first | (go_at_call 20; refine (HWK.out _).mono ?_; rintro e w5 ⟨rfl, hb5⟩))
   go_ret
   exact ⟨rfl, HB1.out.trans ((btr HB2.out hb5 (Nat.le_refl _)).mono HGW.out)⟩
  ·cases q1 with
   | true =>
    go_wp2_with (first | (refine wpList_load_blk rfl 25 (.tmp 3) rfl _ rfl HX.out.blk Try.underlying25 rfl size25 rfl ?_) | (go_at_call 21; refine H21.out.mono ?_; rintro e w2 ⟨rfl, hb2⟩; have HB2 := Lib.hid hb2; clear hb2; refine cutme ?_))
    refine ⟨?_⟩
    have c0 := cell_blk (i := 0) (blk_keep HX.out.blk HB2.out)
    simp only [List.getElem?_toArray, List.getElem?_cons_zero] at c0
    go_wp2_with (first | (go_at_call 30; refine (H30a.out _ HB2.out).mono ?_; rintro e w3 ⟨rfl, hb3⟩; have HB3 := Lib.hid (btr HB2.out hb3 (Nat.le_refl _)); clear hb3) | (go_at_call 20; refine (HWK.out _).mono ?_; rintro e w5 ⟨rfl, hb5⟩))
    go_ret
    exact ⟨rfl, HB1.out.trans ((btr HB3.out hb5 (Nat.le_refl _)).mono HGW.out)⟩
   | false =>
   cases q2 with
   | true =>
    go_wp2_with (first | (refine wpList_load_blk rfl 25 (.tmp 3) rfl _ rfl HX.out.blk Try.underlying25 rfl size25 rfl ?_) | (go_at_call 21; refine H21.out.mono ?_; rintro e w2 ⟨rfl, hb2⟩; have HB2 := Lib.hid hb2; clear hb2; refine cutme ?_))
    refine ⟨?_⟩
    have c0 := cell_blk (i := 0) (blk_keep HX.out.blk HB2.out)
    simp only [List.getElem?_toArray, List.getElem?_cons_zero] at c0
    go_wp2_with (first | (have _m := HB3; go_at_call 30; refine (H30b.out _ HB3.out).mono ?_; rintro e w4 ⟨rfl, hb4⟩; have HB4 := Lib.hid (btr HB3.out hb4 (Nat.le_refl _)); clear hb4) | (go_at_call 30; refine (H30a.out _ HB2.out).mono ?_; rintro e w3 ⟨rfl, hb3⟩; have HB3 := Lib.hid (btr HB2.out hb3 (Nat.le_refl _)); clear hb3) | (go_at_call 20; refine (HWK.out _).mono ?_; rintro e w5 ⟨rfl, hb5⟩))
    go_ret
    exact ⟨rfl, HB1.out.trans ((btr HB4.out hb5 (Nat.le_refl _)).mono HGW.out)⟩
   | false =>
   refine wp_seq_k (fun K hK => ?_)
   have HK := Lib.hid hK; clear hK
   go_wp2_with (first | (refine wpList_load_blk rfl 25 (.tmp 3) rfl _ rfl HX.out.blk Try.underlying25 rfl size25 rfl ?_) | (go_at_call 21; refine H21.out.mono ?_; rintro e w2 ⟨rfl, hb2⟩; have HB2 := Lib.hid hb2; clear hb2; refine cutme ?_))
   refine ⟨?_⟩
   have c0 := cell_blk (i := 0) (blk_keep HX.out.blk HB2.out)
   simp only [List.getElem?_toArray, List.getElem?_cons_zero] at c0
   go_wp2_with (first | (have _m := HB3; go_at_call 30; refine (H30b.out _ HB3.out).mono ?_; rintro e w4 ⟨rfl, hb4⟩; have HB4 := Lib.hid (btr HB3.out hb4 (Nat.le_refl _)); clear hb4) | (go_at_call 30; refine (H30a.out _ HB2.out).mono ?_; rintro e w3 ⟨rfl, hb3⟩; have HB3 := Lib.hid (btr HB2.out hb3 (Nat.le_refl _)); clear hb3))
   refine HK.out _ _ ?_; clear HK
   have HX2 := Lib.hid (HX.out.below HB4.out)
   have HS2 := Lib.hid (HS.out.below HB4.out (Nat.le_refl _))
   have HD2 := Lib.hid (HD.out.below HB4.out (Nat.le_refl _))
   have HBw := Lib.hid (HB1.out.trans (HB4.out.mono HGW.out))
   have HG2 := Lib.hid (show g ≤ w4.heap.size from Nat.le_trans HGW.out HB4.out.size)
   clear HX HS HD HB1 HB2 HB3 HB4 HGW H21 H30a H30b c0
   refine wp_seq_k (fun K hK => ?_)
   have HK := Lib.hid hK; clear hK
   go_wp2_with (first | (refine wpList_load_blk rfl 25 _ rfl _ rfl HX2.out.blk Try.underlying25 rfl size25 rfl ?_) | (go_at_call 22; refine (given_any HX2.out.law).mono ?_; rintro e w5 ⟨rfl, hb5⟩; have HB5 := Lib.hid hb5; have HL5 := Lib.hid (HX2.out.below hb5).law; clear hb5) | (refine wpList_store_blk rfl 29 _ _ rfl _ rfl rfl (heap_newI rfl) size29 rfl rfl HL5.out.one ?_))
   refine HK.out _ _ ?_; clear HK
   generalize hw6 : World.putObj _ _ _ = w6
   obtain ⟨hx6, hb6⟩ := storedT HL5.out hw6
   obtain ⟨g7, hg7⟩ : ∃ g, g = w5.heap.size := ⟨_, rfl⟩
   rw [← hg7] at hx6 ⊢
   have h46 := btr HB5.out hb6 (Nat.le_refl _)
   have HX6 := Lib.hid (HX2.out.below h46)
   have HZ6 := Lib.hid hx6
   have HS6 := Lib.hid (HS2.out.below h46 (Nat.le_refl _))
   have HD6 := Lib.hid (HD2.out.below h46 (Nat.le_refl _))
   have HBw6 := Lib.hid (HBw.out.trans (h46.mono HG2.out))
   have HG6 := Lib.hid (Nat.le_trans HG2.out h46.size)
   clear hx6 hb6 hw6 hg7 h46 HX2 HS2 HD2 HBw HG2 HB5 HL5
   obtain ⟨E, hE⟩ : ∃ E, E = chkL l := ⟨_, rfl⟩
   obtain ⟨V, hV⟩ : ∃ V, V = verE l ss ds := ⟨_, rfl⟩
   obtain ⟨ts, hts⟩ : ∃ q, q = (tellS l).map nI := ⟨_, rfl⟩
   obtain ⟨td, htd⟩ : ∃ q, q = (tellD l).map nI := ⟨_, rfl⟩
   have H31 : Hid (Calls Try.prog 31 #[.agg #[.slice an m cn, vg]] w6 fun e w' => ∃ vs ve, e = .returned (.tuple #[vs, ve, .int .i64 E]) ∧ SlII w' vs ts ∧ SlII w' ve td ∧ Below w6.heap.size w6 w') := Lib.hid (by rw [hE, hts, htd]; exact tell31_any HX6.out.law)
   have H32 : Hid (∀ W, Below w6.heap.size w6 W → Calls Try.prog 32 #[.agg #[.slice an m cn, vg]] W fun e w' => ∃ vs ve, e = .returned (.tuple #[vs, ve, .int .i64 E]) ∧ SlII w' vs ts ∧ SlII w' ve td ∧ Below W.heap.size W w') := Lib.hid fun W hW => by rw [hE, hts, htd]; exact rtell_any (HZ6.out.below hW).law
   have H34 : Hid (∀ W, Below w6.heap.size w6 W → Calls Try.prog 34 #[.agg #[.slice an m cn, vg], vs, vd] W fun e w' => e = .returned (.int .i64 V) ∧ Below W.heap.size W w') := Lib.hid fun W hW => by rw [hV]; exact verify34_any (HX6.out.below hW).law (HS6.out.below hW (Nat.le_refl _)) (HD6.out.below hW (Nat.le_refl _))
   have H35 : Hid (∀ W, Below w6.heap.size w6 W → Calls Try.prog 35 #[.agg #[.slice an m cn, vg], vs, vd] W fun e w' => e = .returned (.int .i64 V) ∧ Below W.heap.size W w') := Lib.hid fun W hW => by rw [hV]; exact rverify_any (HZ6.out.below hW).law (HS6.out.below hW (Nat.le_refl _)) (HD6.out.below hW (Nat.le_refl _))
   have H33 : Hid (∀ W u v (xs : List (List Int)), SlII W u xs → SlII W v xs → Calls Try.prog 33 #[u, v] W fun e w' => e = .returned (.bool true) ∧ Below W.heap.size W w') := Lib.hid fun W u v xs hu hv => (lists_any hu hv).mono (by rintro e w' ⟨rfl, hb⟩; exact ⟨by simp, hb⟩)
   clear hE hV hts htd
   refine wp_seq_k (fun K hK => ?_)
   have HK := Lib.hid hK; clear hK
   go_wp2_with (first | (refine wpList_load_blk rfl 25 _ rfl _ rfl HX6.out.blk Try.underlying25 rfl size25 rfl ?_) | (go_at_call 31; refine H31.out.mono ?_; rintro e w7 ⟨s1, e1, rfl, hs7, he7, hb7⟩; have HS7 := Lib.hid hs7; have HE7 := Lib.hid he7; have HB7 := Lib.hid hb7; clear hs7 he7 hb7))
   refine HK.out _ _ ?_; clear HK
   refine wp_seq_k (fun K hK => ?_)
   have HK := Lib.hid hK; clear hK
   go_wp2_with (first | (refine wpList_load_blk rfl 29 _ rfl _ rfl (blk_keep HZ6.out.blk HB7.out) Try.underlying29 rfl size29 rfl ?_) | (go_at_call 32; refine (H32.out _ HB7.out).mono ?_; rintro e w8 ⟨s2, e2, rfl, hs8, he8, hb8⟩; have HS8 := Lib.hid hs8; have HE8 := Lib.hid he8; have HB8 := Lib.hid (btr HB7.out hb8 (Nat.le_refl _)); have HS9 := Lib.hid (HS7.out.below hb8 (Nat.le_refl _)); have HE9 := Lib.hid (HE7.out.below hb8 (Nat.le_refl _)); clear hs8 he8 hb8))
   refine HK.out _ _ ?_; clear HK
   have HX8 := Lib.hid (HX6.out.below HB8.out)
   have HZ8 := Lib.hid (HZ6.out.below HB8.out)
   have H33a := Lib.hid (fun W (hW : Below w8.heap.size w8 W) => H33.out W s1 s2 ts (HS9.out.below hW (Nat.le_refl _)) (HS8.out.below hW (Nat.le_refl _)))
   have H33b := Lib.hid (fun W (hW : Below w8.heap.size w8 W) => H33.out W e1 e2 td (HE9.out.below hW (Nat.le_refl _)) (HE8.out.below hW (Nat.le_refl _)))
   have H34a := Lib.hid (fun W (hW : Below w8.heap.size w8 W) => H34.out W (btr HB8.out hW (Nat.le_refl _)))
   have H35a := Lib.hid (fun W (hW : Below w8.heap.size w8 W) => H35.out W (btr HB8.out hW (Nat.le_refl _)))
   have hEE : (E == E) = true := beq_self_eq_true E
   have hVV : (V == V) = true := beq_self_eq_true V
   clear HS7 HE7 HB7 HS8 HE8 HS9 HE9 H33 H34 H35 H31 H32 HX6 HZ6 HS6 HD6
   refine wp_seq_k (fun K hK => ?_)
   have HK := Lib.hid hK; clear hK
   refine wp_region_x (R := fun U => Below w8.heap.size w8 U) (S := fun _ => True) (z := 999) rfl ?_
   change wpAnyX _ _ _ _ _ _ _ _ _ _ w8.drew
   have Hq0 := Lib.hid (show Below w8.heap.size w8 w8.drew from (Below.refl _ _).drew)
   obtain ⟨wq0, hwq⟩ : ∃ q, q = w8.drew := ⟨_, rfl⟩
   rw [← hwq] at Hq0 ⊢
   clear hwq
   refine wpAnyX_keep (i := 0) (oi := ⟨some 51, _, _, _, _, none⟩) (v := ?_) rfl (by kernel_rfl) (by kernel_rfl) (by kernel_rfl) (fun _ _ _ h => h) (Or.inl ⟨by rfl, ?_⟩) ⟨(by first | exact Hq5.out | exact Hq4.out | exact Hq3.out | exact Hq2.out | exact Hq1.out | exact Hq0.out), fun _ => trivial⟩ ?_
   rotate_left
   ·intro U hU
    go_simp
    all_goals with_reducible rfl
   simp only [Act.put, List.setIfInBounds_toArray, List.set_cons_zero, List.set_cons_succ]
   refine wpAnyX_keep (i := 1) (oi := ⟨some 52, _, _, _, _, none⟩) (v := ?_) rfl (by kernel_rfl) (by kernel_rfl) (by kernel_rfl) (fun _ _ _ h => h) (Or.inl ⟨by rfl, ?_⟩) ⟨(by first | exact Hq5.out | exact Hq4.out | exact Hq3.out | exact Hq2.out | exact Hq1.out | exact Hq0.out), fun _ => trivial⟩ ?_
   rotate_left
   ·intro U hU
    go_simp
    all_goals with_reducible rfl
   simp only [Act.put, List.setIfInBounds_toArray, List.set_cons_zero, List.set_cons_succ]
   refine wpAnyX_one (i := 2) (o := ⟨some 53, _, _, _, _, none⟩) (by kernel_rfl) rfl (by rfl) (fun K1 hK1 => ?_)
   have HK1 := Lib.hid hK1; clear hK1
   refine oper_call (ts := _) (xs := #[.tmp 51, .tmp 52]) (f := 33) rfl (enters_of Try.func33 (by kernel_rfl) rfl) rfl (R := fun w' => Below wq0.heap.size wq0 w') (v := .bool true) ((H33a.out _ Hq0.out).mono (by rintro e w' ⟨rfl, h⟩; exact ⟨rfl, h⟩)) ?_
   rintro wq1 hbwq1
   have Hq1 := Lib.hid (btr Hq0.out hbwq1 (Nat.le_refl _))
   refine HK1.out _ _ ⟨Hq1.out, fun _ => trivial⟩ ?_
   clear HK1
   try simp only [Act.put, List.setIfInBounds_toArray, List.set_cons_zero, List.set_cons_succ]
   refine wpAnyX_keep (i := 3) (oi := ⟨some 54, _, _, _, _, none⟩) (v := ?_) rfl (by kernel_rfl) (by kernel_rfl) (by kernel_rfl) (fun _ _ _ h => h) (Or.inl ⟨by rfl, ?_⟩) ⟨(by first | exact Hq5.out | exact Hq4.out | exact Hq3.out | exact Hq2.out | exact Hq1.out | exact Hq0.out), fun _ => trivial⟩ ?_
   rotate_left
   ·intro U hU
    go_simp
    all_goals with_reducible rfl
   simp only [Act.put, List.setIfInBounds_toArray, List.set_cons_zero, List.set_cons_succ]
   refine wpAnyX_keep (i := 4) (oi := ⟨some 55, _, _, _, _, some (3, true)⟩) (v := ?_) rfl (by kernel_rfl) (by kernel_rfl) (by kernel_rfl) (fun _ _ _ h => h) (Or.inl ⟨by rfl, ?_⟩) ⟨(by first | exact Hq5.out | exact Hq4.out | exact Hq3.out | exact Hq2.out | exact Hq1.out | exact Hq0.out), fun _ => trivial⟩ ?_
   rotate_left
   ·intro U hU
    go_simp
    all_goals with_reducible rfl
   simp only [Act.put, List.setIfInBounds_toArray, List.set_cons_zero, List.set_cons_succ]
   refine wpAnyX_keep (i := 5) (oi := ⟨some 56, _, _, _, _, some (3, true)⟩) (v := ?_) rfl (by kernel_rfl) (by kernel_rfl) (by kernel_rfl) (fun _ _ _ h => h) (Or.inl ⟨by rfl, ?_⟩) ⟨(by first | exact Hq5.out | exact Hq4.out | exact Hq3.out | exact Hq2.out | exact Hq1.out | exact Hq0.out), fun _ => trivial⟩ ?_
   rotate_left
   ·intro U hU
    go_simp
    all_goals with_reducible rfl
   simp only [Act.put, List.setIfInBounds_toArray, List.set_cons_zero, List.set_cons_succ]
   refine wpAnyX_one (i := 6) (o := ⟨some 57, _, _, _, _, some (3, true)⟩) (by kernel_rfl) rfl (by rfl) (fun K1 hK1 => ?_)
   have HK1 := Lib.hid hK1; clear hK1
   refine oper_call (ts := _) (xs := #[.tmp 55, .tmp 56]) (f := 33) rfl (enters_of Try.func33 (by kernel_rfl) rfl) rfl (R := fun w' => Below wq1.heap.size wq1 w') (v := .bool true) ((H33b.out _ Hq1.out).mono (by rintro e w' ⟨rfl, h⟩; exact ⟨rfl, h⟩)) ?_
   rintro wq2 hbwq2
   have Hq2 := Lib.hid (btr Hq1.out hbwq2 (Nat.le_refl _))
   refine HK1.out _ _ ⟨Hq2.out, fun _ => trivial⟩ ?_
   clear HK1
   try simp only [Act.put, List.setIfInBounds_toArray, List.set_cons_zero, List.set_cons_succ]
   refine wpAnyX_keep (i := 7) (oi := ⟨some 58, _, _, _, _, none⟩) (v := ?_) rfl (by kernel_rfl) (by kernel_rfl) (by kernel_rfl) (fun _ _ _ h => h) (Or.inl ⟨by rfl, ?_⟩) ⟨(by first | exact Hq5.out | exact Hq4.out | exact Hq3.out | exact Hq2.out | exact Hq1.out | exact Hq0.out), fun _ => trivial⟩ ?_
   rotate_left
   ·intro U hU
    go_simp
    all_goals with_reducible rfl
   simp only [Act.put, List.setIfInBounds_toArray, List.set_cons_zero, List.set_cons_succ]
   refine wpAnyX_keep (i := 8) (oi := ⟨some 59, _, _, _, _, none⟩) (v := ?_) rfl (by kernel_rfl) (by kernel_rfl) (by kernel_rfl) (fun _ _ _ h => h) (Or.inl ⟨by rfl, ?_⟩) ⟨(by first | exact Hq5.out | exact Hq4.out | exact Hq3.out | exact Hq2.out | exact Hq1.out | exact Hq0.out), fun _ => trivial⟩ ?_
   rotate_left
   ·intro U hU
    go_simp
    all_goals with_reducible rfl
   simp only [Act.put, List.setIfInBounds_toArray, List.set_cons_zero, List.set_cons_succ]
   refine wpAnyX_keep (i := 9) (oi := ⟨some 60, _, _, _, _, some (8, true)⟩) (v := ?_) rfl (by kernel_rfl) (by kernel_rfl) (by kernel_rfl) (fun _ _ _ h => h) (Or.inl ⟨by rfl, ?_⟩) ⟨(by first | exact Hq5.out | exact Hq4.out | exact Hq3.out | exact Hq2.out | exact Hq1.out | exact Hq0.out), fun _ => trivial⟩ ?_
   rotate_left
   ·intro U hU
    go_simp
    all_goals with_reducible rfl
   simp only [Act.put, List.setIfInBounds_toArray, List.set_cons_zero, List.set_cons_succ]
   refine wpAnyX_keep (i := 10) (oi := ⟨some 61, _, _, _, _, some (8, true)⟩) (v := ?_) rfl (by kernel_rfl) (by kernel_rfl) (by kernel_rfl) (fun _ _ _ h => h) (Or.inl ⟨by rfl, ?_⟩) ⟨(by first | exact Hq5.out | exact Hq4.out | exact Hq3.out | exact Hq2.out | exact Hq1.out | exact Hq0.out), fun _ => trivial⟩ ?_
   rotate_left
   ·intro U hU
    go_simp
    all_goals with_reducible rfl
   simp only [Act.put, List.setIfInBounds_toArray, List.set_cons_zero, List.set_cons_succ]
   refine wpAnyX_keep (i := 11) (oi := ⟨some 62, _, _, _, _, some (8, true)⟩) (v := ?_) rfl (by kernel_rfl) (by kernel_rfl) (by kernel_rfl) (fun _ _ _ h => h) (Or.inl ⟨by rfl, ?_⟩) ⟨(by first | exact Hq5.out | exact Hq4.out | exact Hq3.out | exact Hq2.out | exact Hq1.out | exact Hq0.out), fun _ => trivial⟩ ?_
   rotate_left
   ·intro U hU
    go_simp
    all_goals with_reducible rfl
   simp only [Act.put, List.setIfInBounds_toArray, List.set_cons_zero, List.set_cons_succ]
   refine wpAnyX_keep (i := 12) (oi := ⟨some 63, _, _, _, _, none⟩) (v := ?_) rfl (by kernel_rfl) (by kernel_rfl) (by kernel_rfl) (fun _ _ _ h => h) (Or.inl ⟨by rfl, ?_⟩) ⟨(by first | exact Hq5.out | exact Hq4.out | exact Hq3.out | exact Hq2.out | exact Hq1.out | exact Hq0.out), fun _ => trivial⟩ ?_
   rotate_left
   ·intro U hU
    go_simp
    all_goals with_reducible rfl
   simp only [Act.put, List.setIfInBounds_toArray, List.set_cons_zero, List.set_cons_succ]
   refine wpAnyX_keep (i := 13) (oi := ⟨some 64, _, _, _, _, none⟩) (v := ?_) rfl (by kernel_rfl) (by kernel_rfl) (by kernel_rfl) (fun _ _ _ h => h) (Or.inl ⟨by rfl, ?_⟩) ⟨(by first | exact Hq5.out | exact Hq4.out | exact Hq3.out | exact Hq2.out | exact Hq1.out | exact Hq0.out), fun _ => trivial⟩ ?_
   rotate_left
   ·intro U hU
    go_simp
    all_goals with_reducible rfl
   simp only [Act.put, List.setIfInBounds_toArray, List.set_cons_zero, List.set_cons_succ]
   refine wpAnyX_keep (i := 14) (oi := ⟨some 65, _, _, _, _, some (13, true)⟩) (v := ?_) rfl (by kernel_rfl) (by kernel_rfl) (by kernel_rfl) (fun _ _ _ h => h) (Or.inl ⟨by rfl, ?_⟩) ⟨(by first | exact Hq5.out | exact Hq4.out | exact Hq3.out | exact Hq2.out | exact Hq1.out | exact Hq0.out), fun _ => trivial⟩ ?_
   rotate_left
   ·refine yields_load_blk 25 (.tmp 3) ?_ g ?_ (t := 25) (fr := (0, 0)) (cs := #[.slice an m cn, vg]) (fun U hU => ?_) Try.underlying25 rfl size25 rfl
    ·rfl
    ·rfl
    ·exact blk_keep HX8.out.blk hU
   simp only [Act.put, List.setIfInBounds_toArray, List.set_cons_zero, List.set_cons_succ]
   refine wpAnyX_keep (i := 15) (oi := ⟨some 66, _, _, _, _, some (13, true)⟩) (v := ?_) rfl (by kernel_rfl) (by kernel_rfl) (by kernel_rfl) (fun _ _ _ h => h) (Or.inl ⟨by rfl, ?_⟩) ⟨(by first | exact Hq5.out | exact Hq4.out | exact Hq3.out | exact Hq2.out | exact Hq1.out | exact Hq0.out), fun _ => trivial⟩ ?_
   rotate_left
   ·intro U hU
    go_simp
    all_goals with_reducible rfl
   simp only [Act.put, List.setIfInBounds_toArray, List.set_cons_zero, List.set_cons_succ]
   refine wpAnyX_keep (i := 16) (oi := ⟨some 67, _, _, _, _, some (13, true)⟩) (v := ?_) rfl (by kernel_rfl) (by kernel_rfl) (by kernel_rfl) (fun _ _ _ h => h) (Or.inl ⟨by rfl, ?_⟩) ⟨(by first | exact Hq5.out | exact Hq4.out | exact Hq3.out | exact Hq2.out | exact Hq1.out | exact Hq0.out), fun _ => trivial⟩ ?_
   rotate_left
   ·intro U hU
    go_simp
    all_goals with_reducible rfl
   simp only [Act.put, List.setIfInBounds_toArray, List.set_cons_zero, List.set_cons_succ]
   refine wpAnyX_keep (i := 18) (oi := ⟨some 69, _, _, _, _, some (13, true)⟩) (v := ?_) rfl (by kernel_rfl) (by kernel_rfl) (by kernel_rfl) (fun _ _ _ h => h) (Or.inl ⟨by rfl, ?_⟩) ⟨(by first | exact Hq5.out | exact Hq4.out | exact Hq3.out | exact Hq2.out | exact Hq1.out | exact Hq0.out), fun _ => trivial⟩ ?_
   rotate_left
   ·refine yields_load_blk 29 (.tmp 7) ?_ g7 ?_ (t := 29) (fr := (0, 0)) (cs := #[.slice an m cn, vg]) (fun U hU => ?_) Try.underlying29 rfl size29 rfl
    ·rfl
    ·rfl
    ·exact blk_keep HZ8.out.blk hU
   simp only [Act.put, List.setIfInBounds_toArray, List.set_cons_zero, List.set_cons_succ]
   refine wpAnyX_keep (i := 19) (oi := ⟨some 70, _, _, _, _, some (13, true)⟩) (v := ?_) rfl (by kernel_rfl) (by kernel_rfl) (by kernel_rfl) (fun _ _ _ h => h) (Or.inl ⟨by rfl, ?_⟩) ⟨(by first | exact Hq5.out | exact Hq4.out | exact Hq3.out | exact Hq2.out | exact Hq1.out | exact Hq0.out), fun _ => trivial⟩ ?_
   rotate_left
   ·intro U hU
    go_simp
    all_goals with_reducible rfl
   simp only [Act.put, List.setIfInBounds_toArray, List.set_cons_zero, List.set_cons_succ]
   refine wpAnyX_keep (i := 20) (oi := ⟨some 71, _, _, _, _, some (13, true)⟩) (v := ?_) rfl (by kernel_rfl) (by kernel_rfl) (by kernel_rfl) (fun _ _ _ h => h) (Or.inl ⟨by rfl, ?_⟩) ⟨(by first | exact Hq5.out | exact Hq4.out | exact Hq3.out | exact Hq2.out | exact Hq1.out | exact Hq0.out), fun _ => trivial⟩ ?_
   rotate_left
   ·intro U hU
    go_simp
    all_goals with_reducible rfl
   simp only [Act.put, List.setIfInBounds_toArray, List.set_cons_zero, List.set_cons_succ]
   refine wpAnyX_one (i := 17) (o := ⟨some 68, _, _, _, _, some (13, true)⟩) (by kernel_rfl) rfl (by rfl) (fun K1 hK1 => ?_)
   have HK1 := Lib.hid hK1; clear hK1
   refine oper_call (ts := _) (xs := #[.tmp 65, .tmp 66, .tmp 67]) (f := 34) rfl (enters_of Try.func34 (by kernel_rfl) rfl) rfl (R := fun w' => Below wq2.heap.size wq2 w') (v := .int .i64 V) ((H34a.out _ Hq2.out).mono (by rintro e w' ⟨rfl, h⟩; exact ⟨rfl, h⟩)) ?_
   rintro wq3 hbwq3
   have Hq3 := Lib.hid (btr Hq2.out hbwq3 (Nat.le_refl _))
   refine HK1.out _ _ ⟨Hq3.out, fun _ => trivial⟩ ?_
   clear HK1
   try simp only [Act.put, List.setIfInBounds_toArray, List.set_cons_zero, List.set_cons_succ]
   refine wpAnyX_one (i := 21) (o := ⟨some 72, _, _, _, _, some (13, true)⟩) (by kernel_rfl) rfl (by rfl) (fun K1 hK1 => ?_)
   have HK1 := Lib.hid hK1; clear hK1
   refine oper_call (ts := _) (xs := #[.tmp 69, .tmp 70, .tmp 71]) (f := 35) rfl (enters_of Try.func35 (by kernel_rfl) rfl) rfl (R := fun w' => Below wq3.heap.size wq3 w') (v := .int .i64 V) ((H35a.out _ Hq3.out).mono (by rintro e w' ⟨rfl, h⟩; exact ⟨rfl, h⟩)) ?_
   rintro wq4 hbwq4
   have Hq4 := Lib.hid (btr Hq3.out hbwq4 (Nat.le_refl _))
   refine HK1.out _ _ ⟨Hq4.out, fun _ => trivial⟩ ?_
   clear HK1
   try simp only [Act.put, List.setIfInBounds_toArray, List.set_cons_zero, List.set_cons_succ]
   refine wpAnyX_keep (i := 22) (oi := ⟨some 73, _, _, _, _, some (13, true)⟩) (v := ?_) rfl (by kernel_rfl) (by kernel_rfl) (by kernel_rfl) (fun _ _ _ h => h) (Or.inl ⟨by rfl, ?_⟩) ⟨(by first | exact Hq5.out | exact Hq4.out | exact Hq3.out | exact Hq2.out | exact Hq1.out | exact Hq0.out), fun _ => trivial⟩ ?_
   rotate_left
   ·intro U hU
    go_simp
    all_goals with_reducible rfl
   simp only [Act.put, List.setIfInBounds_toArray, List.set_cons_zero, List.set_cons_succ]
   refine wpAnyX_keep (i := 23) (oi := ⟨some 74, _, _, _, _, none⟩) (v := ?_) rfl (by kernel_rfl) (by kernel_rfl) (by kernel_rfl) (fun _ _ _ h => h) (Or.inl ⟨by rfl, ?_⟩) ⟨(by first | exact Hq5.out | exact Hq4.out | exact Hq3.out | exact Hq2.out | exact Hq1.out | exact Hq0.out), fun _ => trivial⟩ ?_
   rotate_left
   ·intro U hU
    go_simp
    all_goals with_reducible rfl
   simp only [Act.put, List.setIfInBounds_toArray, List.set_cons_zero, List.set_cons_succ]
   refine wpAnyX_keep (i := 24) (oi := ⟨some 75, _, _, _, _, none⟩) (v := ?_) rfl (by kernel_rfl) (by kernel_rfl) (by kernel_rfl) (fun _ _ _ h => h) (Or.inl ⟨by rfl, ?_⟩) ⟨(by first | exact Hq5.out | exact Hq4.out | exact Hq3.out | exact Hq2.out | exact Hq1.out | exact Hq0.out), fun _ => trivial⟩ ?_
   rotate_left
   ·intro U hU
    go_simp
    all_goals with_reducible rfl
   simp only [Act.put, List.setIfInBounds_toArray, List.set_cons_zero, List.set_cons_succ]
   refine wpAnyX_one (i := 25) (o := ⟨some 76, _, _, _, _, some (24, true)⟩) (by kernel_rfl) rfl (by rfl) (fun K1 hK1 => ?_)
   have HK1 := Lib.hid hK1; clear hK1
   refine oper_call (ts := _) (xs := #[]) (f := 20) rfl (enters_of Try.func20 (by kernel_rfl) rfl) rfl (R := fun w' => Below wq4.heap.size wq4 w') (v := .bool true) ((HWK.out _).mono (by rintro e w' ⟨rfl, h⟩; exact ⟨rfl, h⟩)) ?_
   rintro wq5 hbwq5
   have Hq5 := Lib.hid (btr Hq4.out hbwq5 (Nat.le_refl _))
   refine HK1.out _ _ ⟨Hq5.out, fun _ => trivial⟩ ?_
   clear HK1
   try simp only [Act.put, List.setIfInBounds_toArray, List.set_cons_zero, List.set_cons_succ]
   refine wpAnyX_keep (i := 26) (oi := ⟨some 77, _, _, _, _, none⟩) (v := ?_) rfl (by kernel_rfl) (by kernel_rfl) (by kernel_rfl) (fun _ _ _ h => h) (Or.inl ⟨by rfl, ?_⟩) ⟨(by first | exact Hq5.out | exact Hq4.out | exact Hq3.out | exact Hq2.out | exact Hq1.out | exact Hq0.out), fun _ => trivial⟩ ?_
   rotate_left
   ·intro U hU
    go_simp
    all_goals with_reducible rfl
   simp only [Act.put, List.setIfInBounds_toArray, List.set_cons_zero, List.set_cons_succ]
   refine wpAnyX_keep (i := 27) (oi := ⟨some 6, _, _, _, _, none⟩) (v := ?_) rfl (by kernel_rfl) (by kernel_rfl) (by kernel_rfl) (fun _ _ _ h => h) (Or.inl ⟨by rfl, ?_⟩) ⟨(by first | exact Hq5.out | exact Hq4.out | exact Hq3.out | exact Hq2.out | exact Hq1.out | exact Hq0.out), fun _ => trivial⟩ ?_
   rotate_left
   ·intro U hU
    go_simp
    all_goals with_reducible rfl
   simp only [Act.put, List.setIfInBounds_toArray, List.set_cons_zero, List.set_cons_succ]
   refine wpAnyX_done (by kernel_rfl) ?_ _
   refine HK.out _ _ ?_; clear HK
   go_wp2
   go_ret
   exact ⟨rfl, HBw6.out.trans ((btr HB8.out Hq5.out (Nat.le_refl _)).mono HG6.out)⟩
 ·cases q1 with
  | true =>
   go_wp2_with (first | (refine wpList_load_blk rfl 25 (.tmp 3) rfl _ rfl HX.out.blk Try.underlying25 rfl size25 rfl ?_) | (go_at_call 21; refine H21.out.mono ?_; rintro e w2 ⟨rfl, hb2⟩; have HB2 := Lib.hid hb2; clear hb2; refine cutme ?_))
   refine ⟨?_⟩
   have c0 := cell_blk (i := 0) (blk_keep HX.out.blk HB2.out)
   simp only [List.getElem?_toArray, List.getElem?_cons_zero] at c0
   go_wp2_with (first | (go_at_call 30; refine (H30a.out _ HB2.out).mono ?_; rintro e w3 ⟨rfl, hb3⟩; have HB3 := Lib.hid (btr HB2.out hb3 (Nat.le_refl _)); clear hb3) | (go_at_call 20; refine (HWK.out _).mono ?_; rintro e w5 ⟨rfl, hb5⟩))
   go_ret
   exact ⟨rfl, HB1.out.trans ((btr HB3.out hb5 (Nat.le_refl _)).mono HGW.out)⟩
  | false =>
  cases q2 with
  | true =>
   go_wp2_with (first | (refine wpList_load_blk rfl 25 (.tmp 3) rfl _ rfl HX.out.blk Try.underlying25 rfl size25 rfl ?_) | (go_at_call 21; refine H21.out.mono ?_; rintro e w2 ⟨rfl, hb2⟩; have HB2 := Lib.hid hb2; clear hb2; refine cutme ?_))
   refine ⟨?_⟩
   have c0 := cell_blk (i := 0) (blk_keep HX.out.blk HB2.out)
   simp only [List.getElem?_toArray, List.getElem?_cons_zero] at c0
   go_wp2_with (first | (have _m := HB3; go_at_call 30; refine (H30b.out _ HB3.out).mono ?_; rintro e w4 ⟨rfl, hb4⟩; have HB4 := Lib.hid (btr HB3.out hb4 (Nat.le_refl _)); clear hb4) | (go_at_call 30; refine (H30a.out _ HB2.out).mono ?_; rintro e w3 ⟨rfl, hb3⟩; have HB3 := Lib.hid (btr HB2.out hb3 (Nat.le_refl _)); clear hb3) | (go_at_call 20; refine (HWK.out _).mono ?_; rintro e w5 ⟨rfl, hb5⟩))
   go_ret
   exact ⟨rfl, HB1.out.trans ((btr HB4.out hb5 (Nat.le_refl _)).mono HGW.out)⟩
  | false =>
  refine wp_seq_k (fun K hK => ?_)
  have HK := Lib.hid hK; clear hK
  go_wp2_with (first | (refine wpList_load_blk rfl 25 (.tmp 3) rfl _ rfl HX.out.blk Try.underlying25 rfl size25 rfl ?_) | (go_at_call 21; refine H21.out.mono ?_; rintro e w2 ⟨rfl, hb2⟩; have HB2 := Lib.hid hb2; clear hb2; refine cutme ?_))
  refine ⟨?_⟩
  have c0 := cell_blk (i := 0) (blk_keep HX.out.blk HB2.out)
  simp only [List.getElem?_toArray, List.getElem?_cons_zero] at c0
  go_wp2_with (first | (have _m := HB3; go_at_call 30; refine (H30b.out _ HB3.out).mono ?_; rintro e w4 ⟨rfl, hb4⟩; have HB4 := Lib.hid (btr HB3.out hb4 (Nat.le_refl _)); clear hb4) | (go_at_call 30; refine (H30a.out _ HB2.out).mono ?_; rintro e w3 ⟨rfl, hb3⟩; have HB3 := Lib.hid (btr HB2.out hb3 (Nat.le_refl _)); clear hb3))
  refine HK.out _ _ ?_; clear HK
  have HX2 := Lib.hid (HX.out.below HB4.out)
  have HS2 := Lib.hid (HS.out.below HB4.out (Nat.le_refl _))
  have HD2 := Lib.hid (HD.out.below HB4.out (Nat.le_refl _))
  have HBw := Lib.hid (HB1.out.trans (HB4.out.mono HGW.out))
  have HG2 := Lib.hid (show g ≤ w4.heap.size from Nat.le_trans HGW.out HB4.out.size)
  clear HX HS HD HB1 HB2 HB3 HB4 HGW H21 H30a H30b c0
  refine wp_seq_k (fun K hK => ?_)
  have HK := Lib.hid hK; clear hK
  go_wp2_with (first | (refine wpList_load_blk rfl 25 _ rfl _ rfl HX2.out.blk Try.underlying25 rfl size25 rfl ?_) | (go_at_call 22; refine (given_any HX2.out.law).mono ?_; rintro e w5 ⟨rfl, hb5⟩; have HB5 := Lib.hid hb5; have HL5 := Lib.hid (HX2.out.below hb5).law; clear hb5) | (refine wpList_store_blk rfl 29 _ _ rfl _ rfl rfl (heap_newI rfl) size29 rfl rfl HL5.out.one ?_))
  refine HK.out _ _ ?_; clear HK
  generalize hw6 : World.putObj _ _ _ = w6
  obtain ⟨hx6, hb6⟩ := storedT HL5.out hw6
  obtain ⟨g7, hg7⟩ : ∃ g, g = w5.heap.size := ⟨_, rfl⟩
  rw [← hg7] at hx6 ⊢
  have h46 := btr HB5.out hb6 (Nat.le_refl _)
  have HX6 := Lib.hid (HX2.out.below h46)
  have HZ6 := Lib.hid hx6
  have HS6 := Lib.hid (HS2.out.below h46 (Nat.le_refl _))
  have HD6 := Lib.hid (HD2.out.below h46 (Nat.le_refl _))
  have HBw6 := Lib.hid (HBw.out.trans (h46.mono HG2.out))
  have HG6 := Lib.hid (Nat.le_trans HG2.out h46.size)
  clear hx6 hb6 hw6 hg7 h46 HX2 HS2 HD2 HBw HG2 HB5 HL5
  obtain ⟨E, hE⟩ : ∃ E, E = chkL l := ⟨_, rfl⟩
  obtain ⟨V, hV⟩ : ∃ V, V = verE l ss ds := ⟨_, rfl⟩
  obtain ⟨ts, hts⟩ : ∃ q, q = (tellS l).map nI := ⟨_, rfl⟩
  obtain ⟨td, htd⟩ : ∃ q, q = (tellD l).map nI := ⟨_, rfl⟩
  have H31 : Hid (Calls Try.prog 31 #[.agg #[.slice an m cn, vg]] w6 fun e w' => ∃ vs ve, e = .returned (.tuple #[vs, ve, .int .i64 E]) ∧ SlII w' vs ts ∧ SlII w' ve td ∧ Below w6.heap.size w6 w') := Lib.hid (by rw [hE, hts, htd]; exact tell31_any HX6.out.law)
  have H32 : Hid (∀ W, Below w6.heap.size w6 W → Calls Try.prog 32 #[.agg #[.slice an m cn, vg]] W fun e w' => ∃ vs ve, e = .returned (.tuple #[vs, ve, .int .i64 E]) ∧ SlII w' vs ts ∧ SlII w' ve td ∧ Below W.heap.size W w') := Lib.hid fun W hW => by rw [hE, hts, htd]; exact rtell_any (HZ6.out.below hW).law
  have H34 : Hid (∀ W, Below w6.heap.size w6 W → Calls Try.prog 34 #[.agg #[.slice an m cn, vg], vs, vd] W fun e w' => e = .returned (.int .i64 V) ∧ Below W.heap.size W w') := Lib.hid fun W hW => by rw [hV]; exact verify34_any (HX6.out.below hW).law (HS6.out.below hW (Nat.le_refl _)) (HD6.out.below hW (Nat.le_refl _))
  have H35 : Hid (∀ W, Below w6.heap.size w6 W → Calls Try.prog 35 #[.agg #[.slice an m cn, vg], vs, vd] W fun e w' => e = .returned (.int .i64 V) ∧ Below W.heap.size W w') := Lib.hid fun W hW => by rw [hV]; exact rverify_any (HZ6.out.below hW).law (HS6.out.below hW (Nat.le_refl _)) (HD6.out.below hW (Nat.le_refl _))
  have H33 : Hid (∀ W u v (xs : List (List Int)), SlII W u xs → SlII W v xs → Calls Try.prog 33 #[u, v] W fun e w' => e = .returned (.bool true) ∧ Below W.heap.size W w') := Lib.hid fun W u v xs hu hv => (lists_any hu hv).mono (by rintro e w' ⟨rfl, hb⟩; exact ⟨by simp, hb⟩)
  clear hE hV hts htd
  refine wp_seq_k (fun K hK => ?_)
  have HK := Lib.hid hK; clear hK
  go_wp2_with (first | (refine wpList_load_blk rfl 25 _ rfl _ rfl HX6.out.blk Try.underlying25 rfl size25 rfl ?_) | (go_at_call 31; refine H31.out.mono ?_; rintro e w7 ⟨s1, e1, rfl, hs7, he7, hb7⟩; have HS7 := Lib.hid hs7; have HE7 := Lib.hid he7; have HB7 := Lib.hid hb7; clear hs7 he7 hb7))
  refine HK.out _ _ ?_; clear HK
  refine wp_seq_k (fun K hK => ?_)
  have HK := Lib.hid hK; clear hK
  go_wp2_with (first | (refine wpList_load_blk rfl 29 _ rfl _ rfl (blk_keep HZ6.out.blk HB7.out) Try.underlying29 rfl size29 rfl ?_) | (go_at_call 32; refine (H32.out _ HB7.out).mono ?_; rintro e w8 ⟨s2, e2, rfl, hs8, he8, hb8⟩; have HS8 := Lib.hid hs8; have HE8 := Lib.hid he8; have HB8 := Lib.hid (btr HB7.out hb8 (Nat.le_refl _)); have HS9 := Lib.hid (HS7.out.below hb8 (Nat.le_refl _)); have HE9 := Lib.hid (HE7.out.below hb8 (Nat.le_refl _)); clear hs8 he8 hb8))
  refine HK.out _ _ ?_; clear HK
  have HX8 := Lib.hid (HX6.out.below HB8.out)
  have HZ8 := Lib.hid (HZ6.out.below HB8.out)
  have H33a := Lib.hid (fun W (hW : Below w8.heap.size w8 W) => H33.out W s1 s2 ts (HS9.out.below hW (Nat.le_refl _)) (HS8.out.below hW (Nat.le_refl _)))
  have H33b := Lib.hid (fun W (hW : Below w8.heap.size w8 W) => H33.out W e1 e2 td (HE9.out.below hW (Nat.le_refl _)) (HE8.out.below hW (Nat.le_refl _)))
  have H34a := Lib.hid (fun W (hW : Below w8.heap.size w8 W) => H34.out W (btr HB8.out hW (Nat.le_refl _)))
  have H35a := Lib.hid (fun W (hW : Below w8.heap.size w8 W) => H35.out W (btr HB8.out hW (Nat.le_refl _)))
  have hEE : (E == E) = true := beq_self_eq_true E
  have hVV : (V == V) = true := beq_self_eq_true V
  clear HS7 HE7 HB7 HS8 HE8 HS9 HE9 H33 H34 H35 H31 H32 HX6 HZ6 HS6 HD6
  refine wp_seq_k (fun K hK => ?_)
  have HK := Lib.hid hK; clear hK
  refine wp_region_x (R := fun U => Below w8.heap.size w8 U) (S := fun _ => True) (z := 999) rfl ?_
  change wpAnyX _ _ _ _ _ _ _ _ _ _ w8.drew
  have Hq0 := Lib.hid (show Below w8.heap.size w8 w8.drew from (Below.refl _ _).drew)
  obtain ⟨wq0, hwq⟩ : ∃ q, q = w8.drew := ⟨_, rfl⟩
  rw [← hwq] at Hq0 ⊢
  clear hwq
  refine wpAnyX_keep (i := 0) (oi := ⟨some 51, _, _, _, _, none⟩) (v := ?_) rfl (by kernel_rfl) (by kernel_rfl) (by kernel_rfl) (fun _ _ _ h => h) (Or.inl ⟨by rfl, ?_⟩) ⟨(by first | exact Hq5.out | exact Hq4.out | exact Hq3.out | exact Hq2.out | exact Hq1.out | exact Hq0.out), fun _ => trivial⟩ ?_
  rotate_left
  ·intro U hU
   go_simp
   all_goals with_reducible rfl
  simp only [Act.put, List.setIfInBounds_toArray, List.set_cons_zero, List.set_cons_succ]
  refine wpAnyX_keep (i := 1) (oi := ⟨some 52, _, _, _, _, none⟩) (v := ?_) rfl (by kernel_rfl) (by kernel_rfl) (by kernel_rfl) (fun _ _ _ h => h) (Or.inl ⟨by rfl, ?_⟩) ⟨(by first | exact Hq5.out | exact Hq4.out | exact Hq3.out | exact Hq2.out | exact Hq1.out | exact Hq0.out), fun _ => trivial⟩ ?_
  rotate_left
  ·intro U hU
   go_simp
   all_goals with_reducible rfl
  simp only [Act.put, List.setIfInBounds_toArray, List.set_cons_zero, List.set_cons_succ]
  refine wpAnyX_one (i := 2) (o := ⟨some 53, _, _, _, _, none⟩) (by kernel_rfl) rfl (by rfl) (fun K1 hK1 => ?_)
  have HK1 := Lib.hid hK1; clear hK1
  refine oper_call (ts := _) (xs := #[.tmp 51, .tmp 52]) (f := 33) rfl (enters_of Try.func33 (by kernel_rfl) rfl) rfl (R := fun w' => Below wq0.heap.size wq0 w') (v := .bool true) ((H33a.out _ Hq0.out).mono (by rintro e w' ⟨rfl, h⟩; exact ⟨rfl, h⟩)) ?_
  rintro wq1 hbwq1
  have Hq1 := Lib.hid (btr Hq0.out hbwq1 (Nat.le_refl _))
  refine HK1.out _ _ ⟨Hq1.out, fun _ => trivial⟩ ?_
  clear HK1
  try simp only [Act.put, List.setIfInBounds_toArray, List.set_cons_zero, List.set_cons_succ]
  refine wpAnyX_keep (i := 3) (oi := ⟨some 54, _, _, _, _, none⟩) (v := ?_) rfl (by kernel_rfl) (by kernel_rfl) (by kernel_rfl) (fun _ _ _ h => h) (Or.inl ⟨by rfl, ?_⟩) ⟨(by first | exact Hq5.out | exact Hq4.out | exact Hq3.out | exact Hq2.out | exact Hq1.out | exact Hq0.out), fun _ => trivial⟩ ?_
  rotate_left
  ·intro U hU
   go_simp
   all_goals with_reducible rfl
  simp only [Act.put, List.setIfInBounds_toArray, List.set_cons_zero, List.set_cons_succ]
  refine wpAnyX_keep (i := 4) (oi := ⟨some 55, _, _, _, _, some (3, true)⟩) (v := ?_) rfl (by kernel_rfl) (by kernel_rfl) (by kernel_rfl) (fun _ _ _ h => h) (Or.inl ⟨by rfl, ?_⟩) ⟨(by first | exact Hq5.out | exact Hq4.out | exact Hq3.out | exact Hq2.out | exact Hq1.out | exact Hq0.out), fun _ => trivial⟩ ?_
  rotate_left
  ·intro U hU
   go_simp
   all_goals with_reducible rfl
  simp only [Act.put, List.setIfInBounds_toArray, List.set_cons_zero, List.set_cons_succ]
  refine wpAnyX_keep (i := 5) (oi := ⟨some 56, _, _, _, _, some (3, true)⟩) (v := ?_) rfl (by kernel_rfl) (by kernel_rfl) (by kernel_rfl) (fun _ _ _ h => h) (Or.inl ⟨by rfl, ?_⟩) ⟨(by first | exact Hq5.out | exact Hq4.out | exact Hq3.out | exact Hq2.out | exact Hq1.out | exact Hq0.out), fun _ => trivial⟩ ?_
  rotate_left
  ·intro U hU
   go_simp
   all_goals with_reducible rfl
  simp only [Act.put, List.setIfInBounds_toArray, List.set_cons_zero, List.set_cons_succ]
  refine wpAnyX_one (i := 6) (o := ⟨some 57, _, _, _, _, some (3, true)⟩) (by kernel_rfl) rfl (by rfl) (fun K1 hK1 => ?_)
  have HK1 := Lib.hid hK1; clear hK1
  refine oper_call (ts := _) (xs := #[.tmp 55, .tmp 56]) (f := 33) rfl (enters_of Try.func33 (by kernel_rfl) rfl) rfl (R := fun w' => Below wq1.heap.size wq1 w') (v := .bool true) ((H33b.out _ Hq1.out).mono (by rintro e w' ⟨rfl, h⟩; exact ⟨rfl, h⟩)) ?_
  rintro wq2 hbwq2
  have Hq2 := Lib.hid (btr Hq1.out hbwq2 (Nat.le_refl _))
  refine HK1.out _ _ ⟨Hq2.out, fun _ => trivial⟩ ?_
  clear HK1
  try simp only [Act.put, List.setIfInBounds_toArray, List.set_cons_zero, List.set_cons_succ]
  refine wpAnyX_keep (i := 7) (oi := ⟨some 58, _, _, _, _, none⟩) (v := ?_) rfl (by kernel_rfl) (by kernel_rfl) (by kernel_rfl) (fun _ _ _ h => h) (Or.inl ⟨by rfl, ?_⟩) ⟨(by first | exact Hq5.out | exact Hq4.out | exact Hq3.out | exact Hq2.out | exact Hq1.out | exact Hq0.out), fun _ => trivial⟩ ?_
  rotate_left
  ·intro U hU
   go_simp
   all_goals with_reducible rfl
  simp only [Act.put, List.setIfInBounds_toArray, List.set_cons_zero, List.set_cons_succ]
  refine wpAnyX_keep (i := 8) (oi := ⟨some 59, _, _, _, _, none⟩) (v := ?_) rfl (by kernel_rfl) (by kernel_rfl) (by kernel_rfl) (fun _ _ _ h => h) (Or.inl ⟨by rfl, ?_⟩) ⟨(by first | exact Hq5.out | exact Hq4.out | exact Hq3.out | exact Hq2.out | exact Hq1.out | exact Hq0.out), fun _ => trivial⟩ ?_
  rotate_left
  ·intro U hU
   go_simp
   all_goals with_reducible rfl
  simp only [Act.put, List.setIfInBounds_toArray, List.set_cons_zero, List.set_cons_succ]
  refine wpAnyX_keep (i := 9) (oi := ⟨some 60, _, _, _, _, some (8, true)⟩) (v := ?_) rfl (by kernel_rfl) (by kernel_rfl) (by kernel_rfl) (fun _ _ _ h => h) (Or.inl ⟨by rfl, ?_⟩) ⟨(by first | exact Hq5.out | exact Hq4.out | exact Hq3.out | exact Hq2.out | exact Hq1.out | exact Hq0.out), fun _ => trivial⟩ ?_
  rotate_left
  ·intro U hU
   go_simp
   all_goals with_reducible rfl
  simp only [Act.put, List.setIfInBounds_toArray, List.set_cons_zero, List.set_cons_succ]
  refine wpAnyX_keep (i := 10) (oi := ⟨some 61, _, _, _, _, some (8, true)⟩) (v := ?_) rfl (by kernel_rfl) (by kernel_rfl) (by kernel_rfl) (fun _ _ _ h => h) (Or.inl ⟨by rfl, ?_⟩) ⟨(by first | exact Hq5.out | exact Hq4.out | exact Hq3.out | exact Hq2.out | exact Hq1.out | exact Hq0.out), fun _ => trivial⟩ ?_
  rotate_left
  ·intro U hU
   go_simp
   all_goals with_reducible rfl
  simp only [Act.put, List.setIfInBounds_toArray, List.set_cons_zero, List.set_cons_succ]
  refine wpAnyX_keep (i := 11) (oi := ⟨some 62, _, _, _, _, some (8, true)⟩) (v := ?_) rfl (by kernel_rfl) (by kernel_rfl) (by kernel_rfl) (fun _ _ _ h => h) (Or.inl ⟨by rfl, ?_⟩) ⟨(by first | exact Hq5.out | exact Hq4.out | exact Hq3.out | exact Hq2.out | exact Hq1.out | exact Hq0.out), fun _ => trivial⟩ ?_
  rotate_left
  ·intro U hU
   go_simp
   all_goals with_reducible rfl
  simp only [Act.put, List.setIfInBounds_toArray, List.set_cons_zero, List.set_cons_succ]
  refine wpAnyX_keep (i := 12) (oi := ⟨some 63, _, _, _, _, none⟩) (v := ?_) rfl (by kernel_rfl) (by kernel_rfl) (by kernel_rfl) (fun _ _ _ h => h) (Or.inl ⟨by rfl, ?_⟩) ⟨(by first | exact Hq5.out | exact Hq4.out | exact Hq3.out | exact Hq2.out | exact Hq1.out | exact Hq0.out), fun _ => trivial⟩ ?_
  rotate_left
  ·intro U hU
   go_simp
   all_goals with_reducible rfl
  simp only [Act.put, List.setIfInBounds_toArray, List.set_cons_zero, List.set_cons_succ]
  refine wpAnyX_keep (i := 13) (oi := ⟨some 64, _, _, _, _, none⟩) (v := ?_) rfl (by kernel_rfl) (by kernel_rfl) (by kernel_rfl) (fun _ _ _ h => h) (Or.inl ⟨by rfl, ?_⟩) ⟨(by first | exact Hq5.out | exact Hq4.out | exact Hq3.out | exact Hq2.out | exact Hq1.out | exact Hq0.out), fun _ => trivial⟩ ?_
  rotate_left
  ·intro U hU
   go_simp
   all_goals with_reducible rfl
  simp only [Act.put, List.setIfInBounds_toArray, List.set_cons_zero, List.set_cons_succ]
  refine wpAnyX_keep (i := 14) (oi := ⟨some 65, _, _, _, _, some (13, true)⟩) (v := ?_) rfl (by kernel_rfl) (by kernel_rfl) (by kernel_rfl) (fun _ _ _ h => h) (Or.inl ⟨by rfl, ?_⟩) ⟨(by first | exact Hq5.out | exact Hq4.out | exact Hq3.out | exact Hq2.out | exact Hq1.out | exact Hq0.out), fun _ => trivial⟩ ?_
  rotate_left
  ·refine yields_load_blk 25 (.tmp 3) ?_ g ?_ (t := 25) (fr := (0, 0)) (cs := #[.slice an m cn, vg]) (fun U hU => ?_) Try.underlying25 rfl size25 rfl
   ·rfl
   ·rfl
   ·exact blk_keep HX8.out.blk hU
  simp only [Act.put, List.setIfInBounds_toArray, List.set_cons_zero, List.set_cons_succ]
  refine wpAnyX_keep (i := 15) (oi := ⟨some 66, _, _, _, _, some (13, true)⟩) (v := ?_) rfl (by kernel_rfl) (by kernel_rfl) (by kernel_rfl) (fun _ _ _ h => h) (Or.inl ⟨by rfl, ?_⟩) ⟨(by first | exact Hq5.out | exact Hq4.out | exact Hq3.out | exact Hq2.out | exact Hq1.out | exact Hq0.out), fun _ => trivial⟩ ?_
  rotate_left
  ·intro U hU
   go_simp
   all_goals with_reducible rfl
  simp only [Act.put, List.setIfInBounds_toArray, List.set_cons_zero, List.set_cons_succ]
  refine wpAnyX_keep (i := 16) (oi := ⟨some 67, _, _, _, _, some (13, true)⟩) (v := ?_) rfl (by kernel_rfl) (by kernel_rfl) (by kernel_rfl) (fun _ _ _ h => h) (Or.inl ⟨by rfl, ?_⟩) ⟨(by first | exact Hq5.out | exact Hq4.out | exact Hq3.out | exact Hq2.out | exact Hq1.out | exact Hq0.out), fun _ => trivial⟩ ?_
  rotate_left
  ·intro U hU
   go_simp
   all_goals with_reducible rfl
  simp only [Act.put, List.setIfInBounds_toArray, List.set_cons_zero, List.set_cons_succ]
  refine wpAnyX_keep (i := 18) (oi := ⟨some 69, _, _, _, _, some (13, true)⟩) (v := ?_) rfl (by kernel_rfl) (by kernel_rfl) (by kernel_rfl) (fun _ _ _ h => h) (Or.inl ⟨by rfl, ?_⟩) ⟨(by first | exact Hq5.out | exact Hq4.out | exact Hq3.out | exact Hq2.out | exact Hq1.out | exact Hq0.out), fun _ => trivial⟩ ?_
  rotate_left
  ·refine yields_load_blk 29 (.tmp 7) ?_ g7 ?_ (t := 29) (fr := (0, 0)) (cs := #[.slice an m cn, vg]) (fun U hU => ?_) Try.underlying29 rfl size29 rfl
   ·rfl
   ·rfl
   ·exact blk_keep HZ8.out.blk hU
  simp only [Act.put, List.setIfInBounds_toArray, List.set_cons_zero, List.set_cons_succ]
  refine wpAnyX_keep (i := 19) (oi := ⟨some 70, _, _, _, _, some (13, true)⟩) (v := ?_) rfl (by kernel_rfl) (by kernel_rfl) (by kernel_rfl) (fun _ _ _ h => h) (Or.inl ⟨by rfl, ?_⟩) ⟨(by first | exact Hq5.out | exact Hq4.out | exact Hq3.out | exact Hq2.out | exact Hq1.out | exact Hq0.out), fun _ => trivial⟩ ?_
  rotate_left
  ·intro U hU
   go_simp
   all_goals with_reducible rfl
  simp only [Act.put, List.setIfInBounds_toArray, List.set_cons_zero, List.set_cons_succ]
  refine wpAnyX_keep (i := 20) (oi := ⟨some 71, _, _, _, _, some (13, true)⟩) (v := ?_) rfl (by kernel_rfl) (by kernel_rfl) (by kernel_rfl) (fun _ _ _ h => h) (Or.inl ⟨by rfl, ?_⟩) ⟨(by first | exact Hq5.out | exact Hq4.out | exact Hq3.out | exact Hq2.out | exact Hq1.out | exact Hq0.out), fun _ => trivial⟩ ?_
  rotate_left
  ·intro U hU
   go_simp
   all_goals with_reducible rfl
  simp only [Act.put, List.setIfInBounds_toArray, List.set_cons_zero, List.set_cons_succ]
  refine wpAnyX_one (i := 17) (o := ⟨some 68, _, _, _, _, some (13, true)⟩) (by kernel_rfl) rfl (by rfl) (fun K1 hK1 => ?_)
  have HK1 := Lib.hid hK1; clear hK1
  refine oper_call (ts := _) (xs := #[.tmp 65, .tmp 66, .tmp 67]) (f := 34) rfl (enters_of Try.func34 (by kernel_rfl) rfl) rfl (R := fun w' => Below wq2.heap.size wq2 w') (v := .int .i64 V) ((H34a.out _ Hq2.out).mono (by rintro e w' ⟨rfl, h⟩; exact ⟨rfl, h⟩)) ?_
  rintro wq3 hbwq3
  have Hq3 := Lib.hid (btr Hq2.out hbwq3 (Nat.le_refl _))
  refine HK1.out _ _ ⟨Hq3.out, fun _ => trivial⟩ ?_
  clear HK1
  try simp only [Act.put, List.setIfInBounds_toArray, List.set_cons_zero, List.set_cons_succ]
  refine wpAnyX_one (i := 21) (o := ⟨some 72, _, _, _, _, some (13, true)⟩) (by kernel_rfl) rfl (by rfl) (fun K1 hK1 => ?_)
  have HK1 := Lib.hid hK1; clear hK1
  refine oper_call (ts := _) (xs := #[.tmp 69, .tmp 70, .tmp 71]) (f := 35) rfl (enters_of Try.func35 (by kernel_rfl) rfl) rfl (R := fun w' => Below wq3.heap.size wq3 w') (v := .int .i64 V) ((H35a.out _ Hq3.out).mono (by rintro e w' ⟨rfl, h⟩; exact ⟨rfl, h⟩)) ?_
  rintro wq4 hbwq4
  have Hq4 := Lib.hid (btr Hq3.out hbwq4 (Nat.le_refl _))
  refine HK1.out _ _ ⟨Hq4.out, fun _ => trivial⟩ ?_
  clear HK1
  try simp only [Act.put, List.setIfInBounds_toArray, List.set_cons_zero, List.set_cons_succ]
  refine wpAnyX_keep (i := 22) (oi := ⟨some 73, _, _, _, _, some (13, true)⟩) (v := ?_) rfl (by kernel_rfl) (by kernel_rfl) (by kernel_rfl) (fun _ _ _ h => h) (Or.inl ⟨by rfl, ?_⟩) ⟨(by first | exact Hq5.out | exact Hq4.out | exact Hq3.out | exact Hq2.out | exact Hq1.out | exact Hq0.out), fun _ => trivial⟩ ?_
  rotate_left
  ·intro U hU
   go_simp
   all_goals with_reducible rfl
  simp only [Act.put, List.setIfInBounds_toArray, List.set_cons_zero, List.set_cons_succ]
  refine wpAnyX_keep (i := 23) (oi := ⟨some 74, _, _, _, _, none⟩) (v := ?_) rfl (by kernel_rfl) (by kernel_rfl) (by kernel_rfl) (fun _ _ _ h => h) (Or.inl ⟨by rfl, ?_⟩) ⟨(by first | exact Hq5.out | exact Hq4.out | exact Hq3.out | exact Hq2.out | exact Hq1.out | exact Hq0.out), fun _ => trivial⟩ ?_
  rotate_left
  ·intro U hU
   go_simp
   all_goals with_reducible rfl
  simp only [Act.put, List.setIfInBounds_toArray, List.set_cons_zero, List.set_cons_succ]
  refine wpAnyX_keep (i := 24) (oi := ⟨some 75, _, _, _, _, none⟩) (v := ?_) rfl (by kernel_rfl) (by kernel_rfl) (by kernel_rfl) (fun _ _ _ h => h) (Or.inl ⟨by rfl, ?_⟩) ⟨(by first | exact Hq5.out | exact Hq4.out | exact Hq3.out | exact Hq2.out | exact Hq1.out | exact Hq0.out), fun _ => trivial⟩ ?_
  rotate_left
  ·intro U hU
   go_simp
   all_goals with_reducible rfl
  simp only [Act.put, List.setIfInBounds_toArray, List.set_cons_zero, List.set_cons_succ]
  refine wpAnyX_one (i := 25) (o := ⟨some 76, _, _, _, _, some (24, true)⟩) (by kernel_rfl) rfl (by rfl) (fun K1 hK1 => ?_)
  have HK1 := Lib.hid hK1; clear hK1
  refine oper_call (ts := _) (xs := #[]) (f := 20) rfl (enters_of Try.func20 (by kernel_rfl) rfl) rfl (R := fun w' => Below wq4.heap.size wq4 w') (v := .bool true) ((HWK.out _).mono (by rintro e w' ⟨rfl, h⟩; exact ⟨rfl, h⟩)) ?_
  rintro wq5 hbwq5
  have Hq5 := Lib.hid (btr Hq4.out hbwq5 (Nat.le_refl _))
  refine HK1.out _ _ ⟨Hq5.out, fun _ => trivial⟩ ?_
  clear HK1
  try simp only [Act.put, List.setIfInBounds_toArray, List.set_cons_zero, List.set_cons_succ]
  refine wpAnyX_keep (i := 26) (oi := ⟨some 77, _, _, _, _, none⟩) (v := ?_) rfl (by kernel_rfl) (by kernel_rfl) (by kernel_rfl) (fun _ _ _ h => h) (Or.inl ⟨by rfl, ?_⟩) ⟨(by first | exact Hq5.out | exact Hq4.out | exact Hq3.out | exact Hq2.out | exact Hq1.out | exact Hq0.out), fun _ => trivial⟩ ?_
  rotate_left
  ·intro U hU
   go_simp
   all_goals with_reducible rfl
  simp only [Act.put, List.setIfInBounds_toArray, List.set_cons_zero, List.set_cons_succ]
  refine wpAnyX_keep (i := 27) (oi := ⟨some 6, _, _, _, _, none⟩) (v := ?_) rfl (by kernel_rfl) (by kernel_rfl) (by kernel_rfl) (fun _ _ _ h => h) (Or.inl ⟨by rfl, ?_⟩) ⟨(by first | exact Hq5.out | exact Hq4.out | exact Hq3.out | exact Hq2.out | exact Hq1.out | exact Hq0.out), fun _ => trivial⟩ ?_
  rotate_left
  ·intro U hU
   go_simp
   all_goals with_reducible rfl
  simp only [Act.put, List.setIfInBounds_toArray, List.set_cons_zero, List.set_cons_succ]
  refine wpAnyX_done (by kernel_rfl) ?_ _
  refine HK.out _ _ ?_; clear HK
  go_wp2
  go_ret
  exact ⟨rfl, HBw6.out.trans ((btr HB8.out Hq5.out (Nat.le_refl _)).mono HG6.out)⟩
end Ytnjgglnpmhjmiaa
end Go.Proofs
