/- Laws of rotation: the reference: Allows, two laws. -/
import Derived.Test.YtnjgglnpmhjmiaaRc
open Go Go.RowKit Go.YtnjgglnpmhjmiaaIt
open Rest
namespace Go.Proofs
namespace Ytnjgglnpmhjmiaa
set_option maxRecDepth 100000 in
set_option maxHeartbeats 4000000 in
theorem rallows_any {v vy : Value} {l : Lw} {ys : List Int} {w : World} (h : LawA w v l) (hy : SlI w vy ys) : Calls Try.prog 49 #[v, vy] w fun e w' => e = .returned (.tuple #[.bool (allowsB l ys), .int .i64 (allowsE l ys)]) ∧ Below w.heap.size w w' := by
 obtain ⟨vn, vg, rfl, hn, hg⟩ := h
 have hX := LawA.box (⟨_, _, rfl, hn, hg⟩ : LawA w (.agg #[vn, vg]) l) 29
 have hB1 := (Below.refl w.heap.size w).alloc (Nat.le_refl _) (.cells #[vn, vg] 29)
 have hY1 := hy.below hB1 (Nat.le_refl _)
 obtain ⟨w1, hw1⟩ : ∃ q, q = w.alloc (.cells #[vn, vg] 29) := ⟨_, rfl⟩
 obtain ⟨g, hgw⟩ : ∃ q, q = w.heap.size := ⟨_, rfl⟩
 have HW := Lib.hid (And.intro hw1 hgw)
 rw [← hw1] at hX hB1 hY1
 rw [← hgw] at hX
 have HX := Lib.hid hX
 have HY := Lib.hid hY1
 have HB1 := Lib.hid (show Below g w w1 by rw [hgw]; exact hB1)
 have HGW := Lib.hid (show g ≤ w1.heap.size from Nat.le_of_lt (lt_blk HX.out.blk))
 have H53 := Lib.hid (rcheck_any HX.out.law)
 obtain ⟨E, hE⟩ : ∃ E, E = chkL l := ⟨_, rfl⟩
 rw [← hE] at H53
 have HE := Lib.hid hE
 have FIN : Hid (∀ (b : Bool) (E : Int), b = allowsB l ys → E = allowsE l ys → ∀ w', Below w1.heap.size w1 w' → (Ending.returned (.tuple #[.bool b, .int .i64 E]) = Ending.returned (.tuple #[.bool (allowsB l ys), .int .i64 (allowsE l ys)]) ∧ Below g w w')) := Lib.hid fun b E hb hE w' hw => ⟨by rw [hb, hE], HB1.out.trans (hw.mono HGW.out)⟩
 clear hn hg hX hB1 hy hw1 hgw hY1 hE
 go_enter Try.func49, Try.ntmps49
 refine wp_seq_k (fun K hK => ?_)
 have HK := Lib.hid hK; clear hK
 go_wp2
 refine HK.out _ _ ?_; clear HK
 rw [← HW.out.1, ← HW.out.2]
 clear HW
 by_cases h0 : E = 0
 case neg =>
  have hb0 : (E != 0) = true := by simpa using h0
  have hb0' : (E == 0) = false := by simpa using h0
  have HF : Hid (false = allowsB l ys ∧ E = allowsE l ys) := Lib.hid (by
   have h1 : allowsE l ys = E := by unfold allowsE; rw [if_neg (by rw [← HE.out]; exact h0), HE.out]
   refine ⟨?_, h1.symm⟩
   unfold allowsB
   rw [h1, decide_eq_false h0]; rfl)
  clear h0
  go_wp2_with (first | (refine wpList_load_blk rfl 29 _ rfl _ rfl HX.out.blk Try.underlying29 rfl size29 rfl ?_) | (go_at_call 53; refine H53.out.mono ?_; rintro e w2 ⟨rfl, hb2⟩))
  refine bodyPost_ret (results_tmp2 rfl _ _ _) rfl ?_
  exact FIN.out _ _ HF.out.1 HF.out.2 _ hb2
 subst h0
 have HOK := Lib.hid (chkL_ok (l := l) HE.out.symm)
 obtain ⟨F, hF⟩ : ∃ F, F = lstE l ys := ⟨_, rfl⟩
 have HEF : Hid (allowsE l ys = F) := Lib.hid (by unfold allowsE; rw [if_pos HE.out.symm, hF])
 have HFF := Lib.hid hF
 clear hF
 by_cases h1 : F = 0
 case neg =>
  have hb1 : (F != 0) = true := by simpa using h1
  have HF : Hid (false = allowsB l ys ∧ F = allowsE l ys) := Lib.hid (by
   refine ⟨?_, HEF.out.symm⟩
   unfold allowsB
   rw [HEF.out, decide_eq_false h1]; rfl)
  clear h1
  go_wp2_with (first | (refine wpList_load_blk rfl 29 (.tmp 2) rfl _ rfl (show _ from (by first | exact blk_keep HX.out.blk HB2.out | exact HX.out.blk)) Try.underlying29 rfl size29 rfl ?_) | (go_at_call 53; refine H53.out.mono ?_; rintro e w2 ⟨rfl, hb2⟩; have HB2 := Lib.hid hb2; have H78 := Lib.hid (rlisted_any (HX.out.below hb2).law HOK.out (HY.out.below hb2 (Nat.le_refl _))); clear hb2; have h78 := H78.out; rw [← HFF.out] at h78; replace H78 := Lib.hid h78; clear h78) | (go_at_call 78; refine H78.out.mono ?_; rintro e w3 ⟨rfl, hb3⟩))
  refine bodyPost_ret (results_tmp2 rfl _ _ _) rfl ?_
  exact FIN.out _ _ HF.out.1 HF.out.2 _ (btr HB2.out hb3 (Nat.le_refl _))
 subst h1
 obtain ⟨r, hr⟩ : ∃ r, r = l.good (runI l 0 ys) := ⟨_, rfl⟩
 have HF : Hid (r = allowsB l ys ∧ 0 = allowsE l ys) := Lib.hid (by
  refine ⟨?_, HEF.out.symm⟩
  unfold allowsB
  rw [HEF.out, hr]; simp)
 have HR := Lib.hid hr
 clear hr
 go_wp2_with (first | (refine wpList_load_blk rfl 29 (.tmp 2) rfl _ rfl (show _ from (by first | exact blk_keep HX.out.blk HB2.out | exact HX.out.blk)) Try.underlying29 rfl size29 rfl ?_) | (go_at_call 53; refine H53.out.mono ?_; rintro e w2 ⟨rfl, hb2⟩; have HB2 := Lib.hid hb2; have H78 := Lib.hid (rlisted_any (HX.out.below hb2).law HOK.out (HY.out.below hb2 (Nat.le_refl _))); clear hb2; have h78 := H78.out; rw [← HFF.out] at h78; replace H78 := Lib.hid h78; clear h78) | (go_at_call 78; refine H78.out.mono ?_; rintro e w3 ⟨rfl, hb3⟩; have HB3 := Lib.hid (btr HB2.out hb3 (Nat.le_refl _)); clear hb3))
 have HYs := lstE_ok HFF.out.symm
 have hst : l.st (runI l 0 ys) := runI_st HOK.out HOK.out.st0 HYs.2
 have HX3 := Lib.hid (HX.out.below HB3.out)
 have HY3 := Lib.hid (HY.out.below HB3.out (Nat.le_refl _))
 have H79 := Lib.hid (fun W (hW : Below w3.heap.size w3 W) => rend_any (HX3.out.below hW).law HOK.out HOK.out.st0 (HY3.out.below hW (Nat.le_refl _)) HYs.2)
 obtain ⟨m, hm, hml⟩ := hst.nat
 rw [hm] at H79 HR
 obtain ⟨bg, og, cg, rfl, hbg, hcg⟩ := HX3.out.gdF HOK.out.fit hml
 rw [← HR.out] at hcg
 have HC := Lib.hid (And.intro hbg hcg)
 have hmi : (m : Int) < (l.nx.length : Int) := by omega
 have HXB := Lib.hid HX3.out.blk
 clear hm hst HYs hbg hcg HX3 HY3 H78 H53
 refine wp_region_x (R := fun U => Below w3.heap.size w3 U) (S := fun _ => True) (z := 999) rfl ?_
 change wpAnyX _ _ _ _ _ _ _ _ _ _ w3.drew
 have Hq0 := Lib.hid (show Below w3.heap.size w3 w3.drew from (Below.refl _ _).drew)
 obtain ⟨wq0, hwq⟩ : ∃ q, q = w3.drew := ⟨_, rfl⟩
 rw [← hwq] at Hq0 ⊢
 clear hwq
 refine wpX_kp (i := 0) (oi := ⟨some 17, _, _, _, _, none⟩) (v := ?_) rfl (fun _ _ _ h => h) ?_ ⟨(by first | exact Hq4.out | exact Hq3.out | exact Hq2.out | exact Hq1.out | exact Hq0.out), fun _ => trivial⟩ ?_
 rotate_left
 ·intro U hU
  go_simp
  all_goals with_reducible rfl
 simp only [putE]
 refine wpX_kp (i := 1) (oi := ⟨some 18, _, _, _, _, none⟩) (v := ?_) rfl (fun _ _ _ h => h) ?_ ⟨(by first | exact Hq4.out | exact Hq3.out | exact Hq2.out | exact Hq1.out | exact Hq0.out), fun _ => trivial⟩ ?_
 rotate_left
 ·intro U hU
  have u0 := cell_blk (i := 1) (blk_keep HXB.out hU)
  simp only [List.getElem?_toArray, List.getElem?_cons_zero, List.getElem?_cons_succ] at u0
  go_simp
  all_goals with_reducible rfl
 simp only [putE]
 refine wpX_kp (i := 2) (oi := ⟨some 19, _, _, _, _, none⟩) (v := ?_) rfl (fun _ _ _ h => h) ?_ ⟨(by first | exact Hq4.out | exact Hq3.out | exact Hq2.out | exact Hq1.out | exact Hq0.out), fun _ => trivial⟩ ?_
 rotate_left
 ·refine yields_load_blk 29 (.tmp 2) ?_ g ?_ (t := 29) (fr := (0, 0)) (cs := #[vn, .slice (some ⟨bg, og, none⟩) l.nx.length cg]) (fun U hU => ?_) Try.underlying29 rfl size29 rfl
  ·rfl
  ·rfl
  ·exact blk_keep HXB.out hU
 simp only [putE]
 refine wpX_kp (i := 3) (oi := ⟨some 20, _, _, _, _, none⟩) (v := ?_) rfl (fun _ _ _ h => h) ?_ ⟨(by first | exact Hq4.out | exact Hq3.out | exact Hq2.out | exact Hq1.out | exact Hq0.out), fun _ => trivial⟩ ?_
 rotate_left
 ·intro U hU
  go_simp
  all_goals with_reducible rfl
 simp only [putE]
 refine wpAnyX_one (i := 4) (o := ⟨some 21, _, _, _, _, none⟩) (by kernel_rfl) rfl (by rfl) (fun K1 hK1 => ?_)
 have HK1 := Lib.hid hK1; clear hK1
 refine oper_call (ts := _) (xs := #[.tmp 19, .const (.int .i64 0), .tmp 20]) (f := 79) rfl (enters_of Try.func79 (by kernel_rfl) rfl) rfl (R := fun w' => Below wq0.heap.size wq0 w') (v := .int .i64 (m : Int)) ((H79.out _ Hq0.out).mono (by rintro e w' ⟨rfl, h⟩; exact ⟨rfl, h⟩)) ?_
 rintro wq1 hbwq1
 have Hq1 := Lib.hid (btr Hq0.out hbwq1 (Nat.le_refl _))
 refine HK1.out _ _ ⟨Hq1.out, fun _ => trivial⟩ ?_
 clear HK1
 try simp only [putE]
 refine wpX_kp (i := 5) (oi := ⟨some 22, _, _, _, _, none⟩) (v := ?_) rfl (fun _ _ _ h => h) ?_ ⟨(by first | exact Hq4.out | exact Hq3.out | exact Hq2.out | exact Hq1.out | exact Hq0.out), fun _ => trivial⟩ ?_
 rotate_left
 ·intro U hU
  go_simp
  all_goals with_reducible rfl
 simp only [putE]
 refine wpX_kp (i := 6) (oi := ⟨some 23, _, _, _, _, none⟩) (v := ?_) rfl (fun _ _ _ h => h) ?_ ⟨(by first | exact Hq4.out | exact Hq3.out | exact Hq2.out | exact Hq1.out | exact Hq0.out), fun _ => trivial⟩ ?_
 rotate_left
 ·intro U hU
  have u0 := (hU.cell (p := ⟨bg, og + m, none⟩) HC.out.1).trans HC.out.2
  go_simp
  all_goals with_reducible rfl
 simp only [putE]
 refine wpX_kp (i := 7) (oi := ⟨some 4, _, _, _, _, none⟩) (v := ?_) rfl (fun _ _ _ h => h) ?_ ⟨(by first | exact Hq4.out | exact Hq3.out | exact Hq2.out | exact Hq1.out | exact Hq0.out), fun _ => trivial⟩ ?_
 rotate_left
 ·intro U hU
  go_simp
  all_goals with_reducible rfl
 simp only [putE]
 refine wpX_kp (i := 8) (oi := ⟨some 5, _, _, _, _, none⟩) (v := ?_) rfl (fun _ _ _ h => h) ?_ ⟨(by first | exact Hq4.out | exact Hq3.out | exact Hq2.out | exact Hq1.out | exact Hq0.out), fun _ => trivial⟩ ?_
 rotate_left
 ·intro U hU
  go_simp
  all_goals with_reducible rfl
 simp only [putE]
 refine wpAnyX_done (by kernel_rfl) ?_ _
 have HBQ := Lib.hid (btr HB3.out Hq1.out (Nat.le_refl _))
 clear HC HXB Hq0 Hq1
 go_wp2
 refine bodyPost_ret (results_tmp2 rfl _ _ _) rfl ?_
 exact FIN.out _ _ HF.out.1 HF.out.2 _ HBQ.out
end Ytnjgglnpmhjmiaa
end Go.Proofs

