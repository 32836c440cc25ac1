/- Laws of rotation: the reference: Verify. -/
import Derived.Test.YtnjgglnpmhjmiaaRo
import Derived.Test.YtnjgglnpmhjmiaaB8
open Go Go.RowKit Go.YtnjgglnpmhjmiaaIt
open Rest
namespace Go.Proofs
namespace Ytnjgglnpmhjmiaa
/-- append(v, u..), v lists of the call's own. -/
theorem wpList_apps {ops : Array Oper} {rest : List Oper} {o : Oper} {a : Act} {Q : Exit → Act → World → Prop} (hgd : o.guard = none) (s x : Operand) (ho : o.op = .call { callee := .builtin .append, args := #[s, x], argTypes := #[22, 22] })
  {W w : World} {v u : Value} {xs ys : List Value} (hr : w.ownsRow W.heap.size 40 1 v xs.length xs) (hu : SlV w u ys) (h1 : ∀ y ∈ ys, y.oneCell' = true) (hl : xs.length + ys.length ≤ 10000) (hs : a.eval s = v) (hx : a.eval x = u) (hB : Below W.heap.size W w)
  (h : ∀ v' w', w'.ownsRow W.heap.size 40 1 v' (xs.length + ys.length) (xs ++ ys) → Below W.heap.size W w' → wpList Try.prog ops Q rest (a.put o.dst v') w') : wpList Try.prog ops Q (o :: rest) a w := by
 obtain ⟨i4, hi4, hy1, hy2, hy3⟩ := info_parts info40
 obtain ⟨ad, cap, rfl, -⟩ := id hu
 refine wpList_plain hgd fun _ hK => wp_append_any _ s x 22 ho W.heap.size 40 i4 (.slice none 0 0) 1 24 Try.underlying22 hi4 hy1 hy2 hy3 rfl (by decide) v xs.length xs hs hr _ ad ys.length cap ys hx (reads_of_slV hu) h1 (Nat.le_trans hl (by decide)) (by omega) hB.size fun v' w' r1 r2 r3 => hK _ _ (h v' w' r1 ⟨r2.os.trans hB.os, r2.tape.trans hB.tape, r2.output.trans hB.output, Nat.le_trans hB.size r2.size, fun b hb => (r2.block b (Nat.lt_of_lt_of_le hb hB.size) (fun e => by have := (hr.lt b e.symm).1; omega)).trans (hB.block b hb)⟩)
theorem slII_one' {w : World} {vs : List Value} {rows : List (List Int)} (h : ∀ i (h : i < vs.length) (h' : i < rows.length), SlI w vs[i] rows[i]) (hl : vs.length = rows.length) : ∀ y ∈ vs, y.oneCell' = true := fun y hy => by
 obtain ⟨i, hi, rfl⟩ := List.getElem_of_mem hy
 obtain ⟨a, c, e⟩ := slI_form (h i hi (by omega))
 rw [e]; rfl
set_option maxRecDepth 100000 in
set_option maxHeartbeats 8000000 in
theorem rverify_any {v vs vd : Value} {l : Lw} {ss ds : List (List Int)} {w : World} (h : LawA w v l) (hs : SlII w vs ss) (hd : SlII w vd ds) : Calls Try.prog 35 #[v, vs, vd] w fun e w' => e = .returned (.int .i64 (verE l ss ds)) ∧ Below w.heap.size w w' := by
 obtain ⟨vn, vg, rfl, hn, hg⟩ := h
 have hX := LawA.box (⟨_, _, rfl, hn, hg⟩ : LawA w (.agg #[vn, vg]) l) 29
 have hB1 : Below w.heap.size w (w.alloc (.cells #[vn, vg] 29)) := (Below.refl _ _).alloc (Nat.le_refl _) _
 obtain ⟨sa, sc, rfl, hsc⟩ := slII_form hs
 obtain ⟨da, dc, rfl, hdc⟩ := slII_form hd
 have hsl := slII_len hs
 have hdl := slII_len hd
 obtain ⟨w1, hw1⟩ : ∃ q, q = w.alloc (.cells #[vn, vg] 29) := ⟨_, rfl⟩
 obtain ⟨g, hgw⟩ : ∃ q, q = w.heap.size := ⟨_, rfl⟩
 have HW := Lib.hid (And.intro hw1 hgw)
 rw [← hw1] at hX hB1
 have HS := Lib.hid (hs.below hB1 (Nat.le_refl _))
 have HD := Lib.hid (hd.below hB1 (Nat.le_refl _))
 rw [← hgw] at hX hB1
 have HX := Lib.hid hX
 have HB1 := Lib.hid hB1
 have HGW := Lib.hid (show g ≤ w1.heap.size from Nat.le_of_lt (lt_blk HX.out.blk))
 have H53 := Lib.hid (rcheck_any HX.out.law)
 have FIN : Hid (∀ E w', E = verE l ss ds → Below w1.heap.size w1 w' → (Ending.returned (.int .i64 E) = Ending.returned (.int .i64 (verE l ss ds)) ∧ Below g w w')) := Lib.hid fun E w' hE hw => ⟨by rw [hE], HB1.out.trans (hw.mono HGW.out)⟩
 have HE : Hid (verE l ss ds = if chkL l = 0 then (if 40 < ss.length then 1 else if ds.length ≠ ss.length * (ss.length - 1) / 2 then 3 else if listsE l (ss ++ ds) = 0 then (if verAll l ss ds = true then 0 else 11) else listsE l (ss ++ ds)) else chkL l) := Lib.hid rfl
 obtain ⟨E, hE⟩ : ∃ E, E = chkL l := ⟨_, rfl⟩
 rw [← hE] at H53 HE
 have HCE := Lib.hid hE
 clear hn hg hs hd hX hB1 hw1 hgw hE
 go_enter Try.func35, Try.ntmps35
 refine wp_seq_k (fun K hK => ?_)
 have HK := Lib.hid hK; clear hK
 go_wp2
 refine HK.out _ _ ?_; clear HK
 rw [← HW.out.1, ← HW.out.2]
 clear HW
 refine wp_seq_k (fun K hK => ?_)
 have HK := Lib.hid hK; clear hK
 go_wp2_with (first | (refine wpList_load_blk rfl 29 _ rfl _ rfl HX.out.blk Try.underlying29 rfl size29 rfl ?_) | (go_at_call 53; refine H53.out.mono ?_; rintro e w2 ⟨rfl, hb2⟩; have HB2 := Lib.hid hb2; clear hb2))
 refine HK.out _ _ ?_; clear HK
 by_cases h0 : E = 0
 case neg =>
  have hb0 : (E != 0) = true := by simpa using h0
  have HE1 : Hid (E = verE l ss ds) := Lib.hid (by rw [HE.out, if_neg h0])
  clear h0
  go_wp2
  go_ret
  exact FIN.out _ _ HE1.out HB2.out
 have HOK := Lib.hid (chkL_ok (l := l) (by rw [← HCE.out]; exact h0))
 have HE2 : Hid (verE l ss ds = if 40 < ss.length then 1 else if ds.length ≠ ss.length * (ss.length - 1) / 2 then 3 else if listsE l (ss ++ ds) = 0 then (if verAll l ss ds = true then 0 else 11) else listsE l (ss ++ ds)) := Lib.hid (by rw [HE.out, if_pos h0])
 clear HE
 subst h0
 have hb0 : ((0 : Int) != 0) = false := rfl
 by_cases h40 : 40 < ss.length
 ·have hq : decide ((40 : Int) < (ss.length : Int)) = true := by simp; omega
  have HE1 : Hid ((1 : Int) = verE l ss ds) := Lib.hid (by rw [HE2.out, if_pos h40])
  clear h40
  go_wp2
  go_ret
  exact FIN.out _ _ HE1.out HB2.out
 have hq4 : decide ((40 : Int) < (ss.length : Int)) = false := by simp; omega
 have hm0 : wrap64 ((ss.length : Int) - 1) = (ss.length : Int) - 1 := IntWalk.wrap64_in _ (by omega)
 have hmul : (ss.length : Int) * ((ss.length : Int) - 1) = ((ss.length * (ss.length - 1) : Nat) : Int) := by
  rcases Nat.eq_zero_or_pos ss.length with h | h
  ·rw [h]; simp
  ·rw [Int.natCast_mul, Int.natCast_sub h]; rfl
 have hmle : ss.length * (ss.length - 1) ≤ 1600 := Nat.mul_le_mul (show ss.length ≤ 40 by omega) (show ss.length - 1 ≤ 40 by omega)
 obtain ⟨P, hP⟩ : ∃ P, P = ss.length * (ss.length - 1) := ⟨_, rfl⟩
 rw [← hP] at hmul hmle
 have hm1 : wrap64 (P : Int) = (P : Int) := IntWalk.wrap64_in _ (by omega)
 have hdv := half_tdiv P
 have hm2 := half_wrap hmle
 have HP := Lib.hid hP
 clear hP
 obtain ⟨Q2, hQ2⟩ : ∃ Q2, Q2 = P / 2 := ⟨_, rfl⟩
 rw [← hQ2] at hdv hm2
 have hQ8 : Q2 ≤ 800 := by rw [hQ2]; exact half_le hmle
 have HQ2 := Lib.hid (show Q2 = ss.length * (ss.length - 1) / 2 by rw [hQ2, HP.out])
 clear hQ2
 refine wp_seq_k (fun K hK => ?_)
 have HK := Lib.hid hK; clear hK
 go_wp2
 refine HK.out _ _ ?_; clear HK
 refine wp_seq_k (fun K hK => ?_)
 have HK := Lib.hid hK; clear hK
 go_wp2
 refine HK.out _ _ ?_; clear HK
 refine wp_seq_k (fun K hK => ?_)
 have HK := Lib.hid hK; clear hK
 go_wp2
 refine HK.out _ _ ?_; clear HK
 by_cases hlen : ds.length = Q2
 case neg =>
  have hq : ((ds.length : Int) != (Q2 : Int)) = true := by simp; omega
  have hq2 : ((ds.length : Int) == (Q2 : Int)) = false := by simp; omega
  have HE1 : Hid ((3 : Int) = verE l ss ds) := Lib.hid (by rw [HE2.out, if_neg h40, if_pos (by rw [← HQ2.out]; exact hlen)])
  clear hlen h40
  go_wp2
  go_ret
  exact FIN.out _ _ HE1.out HB2.out
 have hq : ((ds.length : Int) != (Q2 : Int)) = false := by simp; omega
 have hq2 : ((ds.length : Int) == (Q2 : Int)) = true := by simp; omega
 have HE1 : Hid (verE l ss ds = if listsE l (ss ++ ds) = 0 then (if verAll l ss ds = true then 0 else 11) else listsE l (ss ++ ds)) := Lib.hid (by rw [HE2.out, if_neg h40, if_neg (by rw [← HQ2.out]; exact fun e => e hlen)])
 have hd8 : ds.length ≤ 800 := by omega
 have hs4 : ss.length ≤ 40 := by omega
 have HLEN := Lib.hid (show ds.length = ss.length * (ss.length - 1) / 2 by rw [← HQ2.out]; exact hlen)
 clear hlen h40
 refine wp_seq_k (fun K hK => ?_)
 have HK := Lib.hid hK; clear hK
 go_wp2
 refine HK.out _ _ ?_; clear HK
 clear hdv hm2 hm1 hmul hmle hm0 hq hq2 hq4 hQ8 HP HE2 hb0
 have hS2 := HS.out.below HB2.out (Nat.le_refl _)
 have hD2 := HD.out.below HB2.out (Nat.le_refl _)
 obtain ⟨vs1, hv1, hl1, hr1⟩ := hS2
 obtain ⟨vs2, hv2, hl2, hr2⟩ := hD2
 have HV1 := Lib.hid (And.intro hv1 (And.intro hl1 hr1))
 have HV2 := Lib.hid (And.intro hv2 (And.intro hl2 hr2))
 clear hv1 hl1 hr1 hv2 hl2 hr2
 refine wp_seq_k (fun K hK => ?_)
 have HK := Lib.hid hK; clear hK
 go_wp2_with (at_builtin; refine cutme ?_)
 refine ⟨?_⟩
 obtain ⟨hv1, hl1, hr1⟩ := HV1.out
 have hBa : Below w2.heap.size w2 (w2.alloc (.cells #[] 40)) := (Below.refl _ _).alloc (Nat.le_refl _) _
 refine wpList_apps rfl (.tmp 33) (.tmp 34) rfl (W := w2) (xs := []) (ys := vs1) ⟨by simp, .inr ⟨_, 0, #[], rfl, Nat.le_refl _, heap_newI rfl, Nat.le_refl _, by decide, by simp, by simp⟩⟩ (hv1.below hBa (Nat.le_refl _)) (slII_one' hr1 hl1) (by simp; omega) rfl rfl hBa ?_
 intro va w3 r1 hB3
 rw [List.nil_append] at r1
 have HR1 := Lib.hid (And.intro r1 hB3)
 clear hv1 hl1 hr1 hBa r1 hB3
 go_wp2_with (at_builtin; refine cutme ?_)
 refine ⟨?_⟩
 obtain ⟨r1, hB3⟩ := HR1.out
 obtain ⟨hv1, hl1, hr1⟩ := HV1.out
 obtain ⟨hv2, hl2, hr2⟩ := HV2.out
 refine wpList_apps rfl (.tmp 35) (.tmp 36) rfl (W := w2) (v := va) (xs := vs1) (ys := vs2) (by simpa using r1) (hv2.below hB3 (Nat.le_refl _)) (slII_one' hr2 hl2) (by omega) rfl rfl hB3 ?_
 intro vb w4 r2 hB4
 have hL4 : SlII w4 vb (ss ++ ds) := by
  refine ⟨vs1 ++ vs2, slV_own r2 (by simp) (by rw [List.length_append]; omega), by simp [hl1, hl2], fun i hi hi' => ?_⟩
  by_cases hi1 : i < vs1.length
  ·rw [List.getElem_append_left hi1, List.getElem_append_left (by omega)]
   exact (hr1 i hi1 (by omega)).below hB4 (Nat.le_refl _)
  ·rw [List.getElem_append_right (by omega), List.getElem_append_right (by omega)]
   have h := (hr2 (i - vs1.length) (by rw [List.length_append] at hi; omega) (by rw [List.length_append] at hi'; omega)).below hB4 (Nat.le_refl _)
   have e : i - ss.length = i - vs1.length := by omega
   simp only [e]
   exact h
 obtain ⟨la4, lc4, rfl, -⟩ := slII_form hL4
 obtain ⟨all, hall⟩ : ∃ q, q = ss ++ ds := ⟨_, rfl⟩
 have hnl8 : all.length ≤ 1000 := by rw [hall, List.length_append]; omega
 rw [← hall] at hL4 HE1 ⊢
 have HL4 := Lib.hid hL4
 have HALL := Lib.hid hall
 have HB4 := Lib.hid (btr HB2.out hB4 (Nat.le_refl _))
 clear HV1 HV2 HR1 r1 r2 hv1 hl1 hr1 hv2 hl2 hr2 hB3 hB4 hL4 hall
 go_wp2
 refine HK.out _ _ ?_; clear HK
 have H78 : Hid (∀ W, Below w1.heap.size w1 W → ∀ vy y, SlI W vy y → Calls Try.prog 78 #[.agg #[vn, vg], vy] W fun e w' => e = .returned (.int .i64 (lstE l y)) ∧ Below W.heap.size W w') := Lib.hid fun W hW vy y hy => rlisted_any (HX.out.below hW).law HOK.out hy
 refine wp_seq_k (fun K hK => ?_)
 have HK := Lib.hid hK; clear hK
 go_wp2
 go_loopw [10] (fun i wr => ∃ k : Nat, k ≤ all.length ∧ i = .int .i64 k ∧ Hid (∀ j (h : j < k) (h2 : j < all.length), lstE l all[j] = 0) ∧ Below w4.heap.size w4 wr) (fun i _ => all.length - (intOf i).toNat)
 case atStart => exact ⟨0, Nat.zero_le _, rfl, Lib.hid fun _ h => by omega, Below.refl _ _⟩
 case round =>
  obtain ⟨k, hk, rfl, HNO, hbr⟩ := hrel
  obtain ⟨wo, rfl⟩ : ∃ q, q = wr := ⟨_, rfl⟩
  have HB8 : Hid (Below w1.heap.size w1 wo) := Lib.hid (btr HB4.out hbr (Nat.le_refl _))
  by_cases hkn : k < all.length
  ·have hki : (k : Int) < (all.length : Int) := by omega
   obtain ⟨b, off, a, cc, rfl, hbl, hcell, hrow⟩ := HL4.out.row hkn
   have hblo : b < wo.heap.size := Nat.lt_of_lt_of_le hbl hbr.size
   have HC0 := Lib.hid (And.intro hblo ((hbr.cell (p := ⟨b, off + k, none⟩) hbl).trans hcell))
   have HROW := Lib.hid (hrow.below hbr (Nat.le_refl _))
   obtain ⟨y, hy⟩ : ∃ y, y = all[k] := ⟨_, rfl⟩
   rw [← hy] at HC0 HROW
   have HXo := Lib.hid (HX.out.below HB8.out)
   have HC := Lib.hid (fun W (hW : Below wo.heap.size wo W) => H78.out W (btr HB8.out hW (Nat.le_refl _)) _ y (HROW.out.below hW (Nat.le_refl _)))
   have HBR := Lib.hid hbr
   have HY := Lib.hid hy
   obtain ⟨E, hE⟩ : ∃ E, E = lstE l y := ⟨_, rfl⟩
   rw [← hE] at HC
   have HEE := Lib.hid hE
   clear hcell hrow hbr hy hE hbl hblo
   go_wp2
   refine wp_region_x (R := fun U => Below wo.heap.size wo U) (S := fun _ => True) (z := 999) rfl ?_
   change wpAnyX _ _ _ _ _ _ _ _ _ _ wo.drew
   have Hq0 := Lib.hid (show Below wo.heap.size wo wo.drew from (Below.refl _ _).drew)
   obtain ⟨wq0, hwq⟩ : ∃ q, q = wo.drew := ⟨_, rfl⟩
   rw [← hwq] at Hq0 ⊢
   clear hwq
   refine wpAnyX_keep (i := 0) (oi := ⟨some 44, _, _, _, _, none⟩) (v := ?_) rfl (by kernel_rfl) (by kernel_rfl) (by kernel_rfl) (fun _ _ _ h => h) (Or.inl ⟨by rfl, ?_⟩) ⟨(by first | exact Hq4.out | exact Hq3.out | exact Hq2.out | exact Hq1.out | exact Hq0.out), fun _ => trivial⟩ ?_
   rotate_left
   ·refine yields_load_blk 29 (.tmp 3) ?_ g ?_ (t := 29) (fr := (0, 0)) (cs := #[vn, vg]) (fun U hU => ?_) Try.underlying29 rfl size29 rfl
    ·rfl
    ·rfl
    ·exact blk_keep HXo.out.blk hU
   simp only [Act.put, List.setIfInBounds_toArray, List.set_cons_zero, List.set_cons_succ]
   refine wpAnyX_keep (i := 1) (oi := ⟨some 45, _, _, _, _, none⟩) (v := ?_) rfl (by kernel_rfl) (by kernel_rfl) (by kernel_rfl) (fun _ _ _ h => h) (Or.inl ⟨by rfl, ?_⟩) ⟨(by first | exact Hq4.out | exact Hq3.out | exact Hq2.out | exact Hq1.out | exact Hq0.out), fun _ => trivial⟩ ?_
   rotate_left
   ·intro U hU
    go_simp
    all_goals with_reducible rfl
   simp only [Act.put, List.setIfInBounds_toArray, List.set_cons_zero, List.set_cons_succ]
   refine wpAnyX_keep (i := 2) (oi := ⟨some 46, _, _, _, _, none⟩) (v := ?_) rfl (by kernel_rfl) (by kernel_rfl) (by kernel_rfl) (fun _ _ _ h => h) (Or.inl ⟨by rfl, ?_⟩) ⟨(by first | exact Hq4.out | exact Hq3.out | exact Hq2.out | exact Hq1.out | exact Hq0.out), fun _ => trivial⟩ ?_
   rotate_left
   ·intro U hU
    go_simp
    all_goals with_reducible rfl
   simp only [Act.put, List.setIfInBounds_toArray, List.set_cons_zero, List.set_cons_succ]
   refine wpAnyX_keep (i := 3) (oi := ⟨some 47, _, _, _, _, none⟩) (v := ?_) rfl (by kernel_rfl) (by kernel_rfl) (by kernel_rfl) (fun _ _ _ h => h) (Or.inl ⟨by rfl, ?_⟩) ⟨(by first | exact Hq4.out | exact Hq3.out | exact Hq2.out | exact Hq1.out | exact Hq0.out), fun _ => trivial⟩ ?_
   rotate_left
   ·intro U hU
    go_simp
    all_goals with_reducible rfl
   simp only [Act.put, List.setIfInBounds_toArray, List.set_cons_zero, List.set_cons_succ]
   refine wpAnyX_keep (i := 4) (oi := ⟨some 48, _, _, _, _, none⟩) (v := ?_) rfl (by kernel_rfl) (by kernel_rfl) (by kernel_rfl) (fun _ _ _ h => h) (Or.inl ⟨by rfl, ?_⟩) ⟨(by first | exact Hq4.out | exact Hq3.out | exact Hq2.out | exact Hq1.out | exact Hq0.out), fun _ => trivial⟩ ?_
   rotate_left
   ·intro U hU
    have u0 := (hU.cell (p := ⟨b, off + k, none⟩) HC0.out.1).trans HC0.out.2
    go_simp
    all_goals with_reducible rfl
   simp only [Act.put, List.setIfInBounds_toArray, List.set_cons_zero, List.set_cons_succ]
   refine wpAnyX_one (i := 5) (o := ⟨some 49, _, _, _, _, none⟩) (by kernel_rfl) rfl (by rfl) (fun K1 hK1 => ?_)
   have HK1 := Lib.hid hK1; clear hK1
   refine oper_call (ts := _) (xs := #[.tmp 44, .tmp 48]) (f := 78) rfl (enters_of Try.func78 (by kernel_rfl) rfl) rfl (R := fun w' => Below wq0.heap.size wq0 w') (v := .int .i64 E) ((HC.out _ Hq0.out).mono (by rintro e w' ⟨rfl, h⟩; exact ⟨rfl, h⟩)) ?_
   rintro wq1 hbwq1
   have Hq1 := Lib.hid (btr Hq0.out hbwq1 (Nat.le_refl _))
   refine HK1.out _ _ ⟨Hq1.out, fun _ => trivial⟩ ?_
   clear HK1
   try simp only [Act.put, List.setIfInBounds_toArray, List.set_cons_zero, List.set_cons_succ]
   refine wpAnyX_keep (i := 6) (oi := ⟨some 7, _, _, _, _, none⟩) (v := ?_) rfl (by kernel_rfl) (by kernel_rfl) (by kernel_rfl) (fun _ _ _ h => h) (Or.inl ⟨by rfl, ?_⟩) ⟨(by first | exact Hq4.out | exact Hq3.out | exact Hq2.out | exact Hq1.out | exact Hq0.out), fun _ => trivial⟩ ?_
   rotate_left
   ·intro U hU
    go_simp
    all_goals with_reducible rfl
   simp only [Act.put, List.setIfInBounds_toArray, List.set_cons_zero, List.set_cons_succ]
   refine wpAnyX_done (by kernel_rfl) ?_ _
   have HB9 := Lib.hid (btr HB8.out Hq1.out (Nat.le_refl _))
   have HB10 := Lib.hid (btr HBR.out Hq1.out (Nat.le_refl _))
   by_cases h0 : E = 0
   case neg =>
    have hb0 : (E != 0) = true := by simpa using h0
    have HE3 : Hid (E = verE l ss ds) := Lib.hid (by
     have h1 := listsE_at hkn (fun j h => HNO.out j h (by omega))
     rw [← HY.out, ← HEE.out, if_neg h0] at h1
     rw [HE1.out, h1, if_neg h0])
    clear h0
    go_wp2
    go_ret
    exact FIN.out _ _ HE3.out HB9.out
   subst h0
   have hb0 : ((0 : Int) != 0) = false := rfl
   go_wp2
   refine ⟨⟨k + 1, by omega, by go_num, Lib.hid fun j h1 h2 => ?_, HB10.out⟩, by simp only [intOf]; omega⟩
   rcases (show j < k ∨ j = k by omega) with h | rfl
   ·exact HNO.out j h h2
   ·rw [← HY.out]; exact HEE.out.symm
  ·have hki : ¬ (k : Int) < (all.length : Int) := by omega
   have hz : Hid (listsE l all = 0) := Lib.hid (listsE_all fun j h => HNO.out j (by omega) h)
   have HE3 : Hid (verE l ss ds = if verAll l ss ds = true then 0 else 11) := Lib.hid (by rw [HE1.out, if_pos hz.out])
   have hys := listsE_zero hz.out
   have HYS : Hid (∀ y ∈ all, YsOk l y) := Lib.hid fun y hy => (lstE_ok (hys y hy)).2
   have HSO := Lib.hid ((HS.out.below HB8.out (Nat.le_refl _)))
   have HDO := Lib.hid ((HD.out.below HB8.out (Nat.le_refl _)))
   clear hys hbr H78 HL4
   go_wp2
   refine HK.out _ _ ?_; clear HK
   clear HDO
   have HDO := Lib.hid (show SlII wo (.slice da ds.length dc) ds from (HD.out.below HB8.out (Nat.le_refl _)))
   obtain ⟨n, hn⟩ : ∃ n, n = ss.length := ⟨_, rfl⟩
   obtain ⟨D, hD⟩ : ∃ D, D = ds.length := ⟨_, rfl⟩
   have hdt : D = triN n := by rw [hD, HLEN.out, triN_half, hn]
   have HDT := Lib.hid hdt
   have HNN := Lib.hid (And.intro hn hD)
   rw [← hn] at HSO hs4 ⊢
   rw [← hD] at HDO hd8 ⊢
   clear hn hD hdt
   refine wp_seq_k (fun K hK => ?_)
   have HK := Lib.hid hK; clear hK
   go_wp2
   refine HK.out _ _ ?_; clear HK
   refine wp_seq_k (fun K hK => ?_)
   have HK := Lib.hid hK; clear hK
   go_wp2
   go_loopw [11, 12] (fun nv i wr => ∃ k m : Nat, k ≤ n ∧ i = .int .i64 k ∧ nv = .int .i64 m ∧ Hid (m + triN (n - k) = D ∧ verAll l ss ds = verAll l (ss.drop k) (ds.drop m)) ∧ Below wo.heap.size wo wr) (fun _ i _ => n - (intOf i).toNat)
   case atStart => exact ⟨0, 0, Nat.zero_le _, rfl, rfl, Lib.hid ⟨by rw [HDT.out]; simp, rfl⟩, Below.refl _ _⟩
   case round =>
    obtain ⟨k2, m, hk2, rfl, rfl, HR, hbr⟩ := hrel
    obtain ⟨wp, rfl⟩ : ∃ q, q = wr := ⟨_, rfl⟩
    by_cases hkn2 : k2 < n
    ·have hki2 : (k2 : Int) < (n : Int) := by omega
     have HBR := Lib.hid hbr
     have htri : m + triN (n - (k2 + 1)) + (n - (k2 + 1)) = D := by
      have h1 := HR.out.1
      rw [show n - k2 = (n - (k2 + 1)) + 1 by omega, triN] at h1
      omega
     have HTRI := Lib.hid htri
     have hm8 : m ≤ 800 := by omega
     clear hbr
     go_wp2
     go_loopw [11, 13] (fun nv i wr => ∃ j : Nat, j ≤ n - (k2 + 1) ∧ i = .int .i64 ((k2 + 1 + j : Nat) : Int) ∧ nv = .int .i64 ((m + j : Nat) : Int) ∧ Hid (∀ one, ss[k2]? = some one → verRow l one (ss.drop (k2 + 1)) (ds.drop m) = verRow l one ((ss.drop (k2 + 1)).drop j) (ds.drop (m + j))) ∧ Below wo.heap.size wo wr) (fun _ i _ => n - (intOf i).toNat)
     case atStart => exact ⟨0, Nat.zero_le _, by go_num, by go_num, Lib.hid fun _ _ => by simp, HBR.out⟩
     case round =>
      obtain ⟨j, hj, rfl, rfl, HQ, hbq⟩ := hrel
      obtain ⟨wq, rfl⟩ : ∃ q, q = wr := ⟨_, rfl⟩
      obtain ⟨jj, hjj⟩ : ∃ q, q = k2 + 1 + j := ⟨_, rfl⟩
      obtain ⟨mm, hmm⟩ : ∃ q, q = m + j := ⟨_, rfl⟩
      rw [← hjj, ← hmm]
      rw [← hmm] at HQ
      by_cases hjn : j < n - (k2 + 1)
      ·have hjni : (jj : Int) < (n : Int) := by omega
       have hix : jj < ss.length := by have := HNN.out.1; omega
       have hkl : k2 < ss.length := by have := HNN.out.1; omega
       have hml : mm < ds.length := by have := HNN.out.2; omega
       obtain ⟨b, off, a1, cc1, rfl, hbl, hcell1, hrow1⟩ := HSO.out.row hkl
       obtain ⟨b', off', a2, cc2, hbo, -, hcell2, hrow2⟩ := HSO.out.row hix
       injection hbo with hbo
       injection hbo with hb1 hb2 _
       subst hb1 hb2
       obtain ⟨bd, od, a3, cc3, rfl, hbd, hcell3, hrow3⟩ := HDO.out.row hml
       obtain ⟨one, hone⟩ : ∃ y, y = ss[k2] := ⟨_, rfl⟩
       obtain ⟨oo, hoo⟩ : ∃ y, y = ss[jj] := ⟨_, rfl⟩
       obtain ⟨dd, hdd⟩ : ∃ y, y = ds[mm] := ⟨_, rfl⟩
       rw [← hone] at hcell1 hrow1
       rw [← hoo] at hcell2 hrow2
       rw [← hdd] at hcell3 hrow3
       have hzq := hbq.size
       have HC1 := Lib.hid (And.intro (Nat.lt_of_lt_of_le hbl hzq) ((hbq.cell (p := ⟨b, off + k2, none⟩) hbl).trans hcell1))
       have HC2 := Lib.hid (And.intro (Nat.lt_of_lt_of_le hbl hzq) ((hbq.cell (p := ⟨b, off + jj, none⟩) hbl).trans hcell2))
       have HC3 := Lib.hid (And.intro (Nat.lt_of_lt_of_le hbd hzq) ((hbq.cell (p := ⟨bd, od + mm, none⟩) hbd).trans hcell3))
       have yone := HYS.out one (by rw [HALL.out, hone]; exact List.mem_append_left _ (List.getElem_mem _))
       have yoo := HYS.out oo (by rw [HALL.out, hoo]; exact List.mem_append_left _ (List.getElem_mem _))
       have ydd := HYS.out dd (by rw [HALL.out, hdd]; exact List.mem_append_right _ (List.getElem_mem _))
       have HBQ := Lib.hid hbq
       have HB10 : Hid (Below w1.heap.size w1 wq) := Lib.hid (btr HB8.out hbq (Nat.le_refl _))
       have HXq := Lib.hid (HX.out.below HB10.out)
       have st1 := runI_st HOK.out HOK.out.fit.st0 yone
       have st2 := runI_st HOK.out HOK.out.fit.st0 yoo
       obtain ⟨e1, he1⟩ : ∃ q, q = runI l 0 one := ⟨_, rfl⟩
       obtain ⟨e2, he2⟩ : ∃ q, q = runI l 0 oo := ⟨_, rfl⟩
       rw [← he1] at st1
       rw [← he2] at st2
       have st3 := runI_st HOK.out st1 ydd
       have st4 := runI_st HOK.out st2 ydd
       obtain ⟨m1, em1, hm1⟩ := st3.nat
       obtain ⟨m2, em2, hm2⟩ := st4.nat
       have H1 : Hid (∀ W, Below wq.heap.size wq W → Calls Try.prog 79 #[.agg #[vn, vg], .int .i64 0, .slice a1 one.length cc1] W fun e w' => e = .returned (.int .i64 e1) ∧ Below W.heap.size W w') := Lib.hid fun W hW => by
        rw [he1]; exact rend_any (HXq.out.below hW).law HOK.out HOK.out.fit.st0 (hrow1.below (btr hbq hW (Nat.le_refl _)) (Nat.le_refl _)) yone
       have H2 : Hid (∀ W, Below wq.heap.size wq W → Calls Try.prog 79 #[.agg #[vn, vg], .int .i64 0, .slice a2 oo.length cc2] W fun e w' => e = .returned (.int .i64 e2) ∧ Below W.heap.size W w') := Lib.hid fun W hW => by
        rw [he2]; exact rend_any (HXq.out.below hW).law HOK.out HOK.out.fit.st0 (hrow2.below (btr hbq hW (Nat.le_refl _)) (Nat.le_refl _)) yoo
       have H3 : Hid (∀ W, Below wq.heap.size wq W → Calls Try.prog 79 #[.agg #[vn, vg], .int .i64 e1, .slice a3 dd.length cc3] W fun e w' => e = .returned (.int .i64 (m1 : Nat)) ∧ Below W.heap.size W w') := Lib.hid fun W hW => by
        rw [← em1]; exact rend_any (HXq.out.below hW).law HOK.out st1 (hrow3.below (btr hbq hW (Nat.le_refl _)) (Nat.le_refl _)) ydd
       have H4 : Hid (∀ W, Below wq.heap.size wq W → Calls Try.prog 79 #[.agg #[vn, vg], .int .i64 e2, .slice a3 dd.length cc3] W fun e w' => e = .returned (.int .i64 (m2 : Nat)) ∧ Below W.heap.size W w') := Lib.hid fun W hW => by
        rw [← em2]; exact rend_any (HXq.out.below hW).law HOK.out st2 (hrow3.below (btr hbq hW (Nat.le_refl _)) (Nat.le_refl _)) ydd
       have hstep : verRow l one ((ss.drop (k2 + 1)).drop j) (ds.drop mm) = if (l.good (m1 : Int) != l.good (m2 : Int)) = true then verRow l one ((ss.drop (k2 + 1)).drop (j + 1)) (ds.drop (mm + 1)) else none := by
        rw [List.drop_drop, List.drop_drop, ← hjj, List.drop_eq_getElem_cons hix, List.drop_eq_getElem_cons hml, verRow, ← hoo, ← hdd]
        have q1 : endI l [one, dd] = (m1 : Int) := by show runI l (runI l 0 one) dd = _; rw [← he1, em1]
        have q2 : endI l [oo, dd] = (m2 : Int) := by show runI l (runI l 0 oo) dd = _; rw [← he2, em2]
        rw [q1, q2, show k2 + 1 + (j + 1) = jj + 1 by omega]
       have hall2 : verAll l ss ds = match verRow l one (ss.drop (k2 + 1)) (ds.drop m) with | some ds' => verAll l (ss.drop (k2 + 1)) ds' | none => false := by
        rw [HR.out.2, List.drop_eq_getElem_cons hkl, verAll, ← hone]
        rfl
       have hrw := HQ.out one (by rw [List.getElem?_eq_getElem hkl, hone])
       have hgd1 := HXq.out.gdF HOK.out.fit hm1
       have hgd2 := HXq.out.gdF HOK.out.fit hm2
       obtain ⟨bg, og, cg, rfl, hbg, hcg1⟩ := hgd1
       obtain ⟨bg', og', cg', hq, -, hcg2⟩ := hgd2
       injection hq with h1 h2 h3
       injection h1 with h1
       injection h1 with h1 h4 _
       subst h1 h4 h3
       obtain ⟨r1, hr1⟩ : ∃ r, r = l.good (m1 : Int) := ⟨_, rfl⟩
       obtain ⟨r2, hr2⟩ : ∃ r, r = l.good (m2 : Int) := ⟨_, rfl⟩
       rw [← hr1] at hcg1 hstep
       rw [← hr2] at hcg2 hstep
       have HFAIL : Hid (r1 = r2 → (11 : Int) = verE l ss ds) := Lib.hid fun e => by
        rw [HE3.out, hall2, hrw, hstep, e]
        simp
       have HGOOD : Hid (r1 ≠ r2 → ∀ one', ss[k2]? = some one' → verRow l one' (ss.drop (k2 + 1)) (ds.drop m) = verRow l one' ((ss.drop (k2 + 1)).drop (j + 1)) (ds.drop (mm + 1))) := Lib.hid fun e one' h1 => by
        rw [List.getElem?_eq_getElem hkl, ← hone] at h1
        injection h1 with h1
        subst h1
        rw [hrw, hstep, if_pos (by simpa using e)]
       have HG1 := Lib.hid (And.intro hbg hcg1)
       have HG2 := Lib.hid (And.intro hbg hcg2)
       have HIX := Lib.hid (And.intro hjj hmm)
       have hnx : (jj : Int) < (n : Int) ∧ (k2 : Int) < (n : Int) ∧ (mm : Int) < (D : Int) := by have := HNN.out.2; omega
       have hgx : (m1 : Int) < (l.nx.length : Int) ∧ (m2 : Int) < (l.nx.length : Int) := by omega
       have hl40 : l.nx.length ≤ 40 := HOK.out.n40
       clear hstep hall2 hrw st1 st2 st3 st4 em1 em2 he1 he2 hr1 hr2 hcell1 hcell2 hcell3 hrow1 hrow2 hrow3 yone yoo ydd hone hoo hdd hbq hbl hbd hbg hcg1 hcg2 hix hkl hml hjj hmm
       go_wp2
       refine wp_region_x (R := fun U => Below wq.heap.size wq U) (S := fun _ => True) (z := 999) rfl ?_
       change wpAnyX _ _ _ _ _ _ _ _ _ _ wq.drew
       have Hq0 := Lib.hid (show Below wq.heap.size wq wq.drew from (Below.refl _ _).drew)
       obtain ⟨wq0, hwq⟩ : ∃ q, q = wq.drew := ⟨_, rfl⟩
       rw [← hwq] at Hq0 ⊢
       clear hwq
       refine wpAnyX_keep (i := 0) (oi := ⟨some 65, _, _, _, _, none⟩) (v := ?_) rfl (by kernel_rfl) (by kernel_rfl) (by kernel_rfl) (fun _ _ _ h => h) (Or.inl ⟨by rfl, ?_⟩) ⟨(by first | exact Hq4.out | exact Hq3.out | exact Hq2.out | exact Hq1.out | exact Hq0.out), fun _ => trivial⟩ ?_
       rotate_left
       ·refine yields_load_blk 29 (.tmp 3) ?_ g ?_ (t := 29) (fr := (0, 0)) (cs := #[vn, .slice (some ⟨bg, og, none⟩) l.nx.length cg]) (fun U hU => ?_) Try.underlying29 rfl size29 rfl
        ·rfl
        ·rfl
        ·exact blk_keep HXq.out.blk hU
       simp only [Act.put, List.setIfInBounds_toArray, List.set_cons_zero, List.set_cons_succ]
       refine wpAnyX_keep (i := 1) (oi := ⟨some 66, _, _, _, _, none⟩) (v := ?_) rfl (by kernel_rfl) (by kernel_rfl) (by kernel_rfl) (fun _ _ _ h => h) (Or.inl ⟨by rfl, ?_⟩) ⟨(by first | exact Hq4.out | exact Hq3.out | exact Hq2.out | exact Hq1.out | exact Hq0.out), fun _ => trivial⟩ ?_
       rotate_left
       ·refine yields_load_blk 29 (.tmp 3) ?_ g ?_ (t := 29) (fr := (0, 0)) (cs := #[vn, .slice (some ⟨bg, og, none⟩) l.nx.length cg]) (fun U hU => ?_) Try.underlying29 rfl size29 rfl
        ·rfl
        ·rfl
        ·exact blk_keep HXq.out.blk hU
       simp only [Act.put, List.setIfInBounds_toArray, List.set_cons_zero, List.set_cons_succ]
       refine wpAnyX_keep (i := 2) (oi := ⟨some 67, _, _, _, _, none⟩) (v := ?_) rfl (by kernel_rfl) (by kernel_rfl) (by kernel_rfl) (fun _ _ _ h => h) (Or.inl ⟨by rfl, ?_⟩) ⟨(by first | exact Hq4.out | exact Hq3.out | exact Hq2.out | exact Hq1.out | exact Hq0.out), fun _ => trivial⟩ ?_
       rotate_left
       ·intro U hU
        go_simp
        all_goals with_reducible rfl
       simp only [Act.put, List.setIfInBounds_toArray, List.set_cons_zero, List.set_cons_succ]
       refine wpAnyX_keep (i := 3) (oi := ⟨some 68, _, _, _, _, none⟩) (v := ?_) rfl (by kernel_rfl) (by kernel_rfl) (by kernel_rfl) (fun _ _ _ h => h) (Or.inl ⟨by rfl, ?_⟩) ⟨(by first | exact Hq4.out | exact Hq3.out | exact Hq2.out | exact Hq1.out | exact Hq0.out), fun _ => trivial⟩ ?_
       rotate_left
       ·intro U hU
        go_simp
        all_goals with_reducible rfl
       simp only [Act.put, List.setIfInBounds_toArray, List.set_cons_zero, List.set_cons_succ]
       refine wpAnyX_keep (i := 4) (oi := ⟨some 69, _, _, _, _, none⟩) (v := ?_) rfl (by kernel_rfl) (by kernel_rfl) (by kernel_rfl) (fun _ _ _ h => h) (Or.inl ⟨by rfl, ?_⟩) ⟨(by first | exact Hq4.out | exact Hq3.out | exact Hq2.out | exact Hq1.out | exact Hq0.out), fun _ => trivial⟩ ?_
       rotate_left
       ·intro U hU
        go_simp
        all_goals with_reducible rfl
       simp only [Act.put, List.setIfInBounds_toArray, List.set_cons_zero, List.set_cons_succ]
       refine wpAnyX_keep (i := 5) (oi := ⟨some 70, _, _, _, _, none⟩) (v := ?_) rfl (by kernel_rfl) (by kernel_rfl) (by kernel_rfl) (fun _ _ _ h => h) (Or.inl ⟨by rfl, ?_⟩) ⟨(by first | exact Hq4.out | exact Hq3.out | exact Hq2.out | exact Hq1.out | exact Hq0.out), fun _ => trivial⟩ ?_
       rotate_left
       ·intro U hU
        have u0 := (hU.cell (p := ⟨b, off + k2, none⟩) HC1.out.1).trans HC1.out.2
        go_simp
        all_goals with_reducible rfl
       simp only [Act.put, List.setIfInBounds_toArray, List.set_cons_zero, List.set_cons_succ]
       refine wpAnyX_keep (i := 7) (oi := ⟨some 72, _, _, _, _, none⟩) (v := ?_) rfl (by kernel_rfl) (by kernel_rfl) (by kernel_rfl) (fun _ _ _ h => h) (Or.inl ⟨by rfl, ?_⟩) ⟨(by first | exact Hq4.out | exact Hq3.out | exact Hq2.out | exact Hq1.out | exact Hq0.out), fun _ => trivial⟩ ?_
       rotate_left
       ·intro U hU
        go_simp
        all_goals with_reducible rfl
       simp only [Act.put, List.setIfInBounds_toArray, List.set_cons_zero, List.set_cons_succ]
       refine wpAnyX_keep (i := 8) (oi := ⟨some 73, _, _, _, _, none⟩) (v := ?_) rfl (by kernel_rfl) (by kernel_rfl) (by kernel_rfl) (fun _ _ _ h => h) (Or.inl ⟨by rfl, ?_⟩) ⟨(by first | exact Hq4.out | exact Hq3.out | exact Hq2.out | exact Hq1.out | exact Hq0.out), fun _ => trivial⟩ ?_
       rotate_left
       ·intro U hU
        go_simp
        all_goals with_reducible rfl
       simp only [Act.put, List.setIfInBounds_toArray, List.set_cons_zero, List.set_cons_succ]
       refine wpAnyX_keep (i := 9) (oi := ⟨some 74, _, _, _, _, none⟩) (v := ?_) rfl (by kernel_rfl) (by kernel_rfl) (by kernel_rfl) (fun _ _ _ h => h) (Or.inl ⟨by rfl, ?_⟩) ⟨(by first | exact Hq4.out | exact Hq3.out | exact Hq2.out | exact Hq1.out | exact Hq0.out), fun _ => trivial⟩ ?_
       rotate_left
       ·intro U hU
        go_simp
        all_goals with_reducible rfl
       simp only [Act.put, List.setIfInBounds_toArray, List.set_cons_zero, List.set_cons_succ]
       refine wpAnyX_keep (i := 10) (oi := ⟨some 75, _, _, _, _, none⟩) (v := ?_) rfl (by kernel_rfl) (by kernel_rfl) (by kernel_rfl) (fun _ _ _ h => h) (Or.inl ⟨by rfl, ?_⟩) ⟨(by first | exact Hq4.out | exact Hq3.out | exact Hq2.out | exact Hq1.out | exact Hq0.out), fun _ => trivial⟩ ?_
       rotate_left
       ·intro U hU
        have u0 := (hU.cell (p := ⟨bd, od + mm, none⟩) HC3.out.1).trans HC3.out.2
        go_simp
        all_goals with_reducible rfl
       simp only [Act.put, List.setIfInBounds_toArray, List.set_cons_zero, List.set_cons_succ]
       refine wpAnyX_keep (i := 12) (oi := ⟨some 77, _, _, _, _, none⟩) (v := ?_) rfl (by kernel_rfl) (by kernel_rfl) (by kernel_rfl) (fun _ _ _ h => h) (Or.inl ⟨by rfl, ?_⟩) ⟨(by first | exact Hq4.out | exact Hq3.out | exact Hq2.out | exact Hq1.out | exact Hq0.out), fun _ => trivial⟩ ?_
       rotate_left
       ·refine yields_load_blk 29 (.tmp 3) ?_ g ?_ (t := 29) (fr := (0, 0)) (cs := #[vn, .slice (some ⟨bg, og, none⟩) l.nx.length cg]) (fun U hU => ?_) Try.underlying29 rfl size29 rfl
        ·rfl
        ·rfl
        ·exact blk_keep HXq.out.blk hU
       simp only [Act.put, List.setIfInBounds_toArray, List.set_cons_zero, List.set_cons_succ]
       refine wpAnyX_keep (i := 13) (oi := ⟨some 78, _, _, _, _, none⟩) (v := ?_) rfl (by kernel_rfl) (by kernel_rfl) (by kernel_rfl) (fun _ _ _ h => h) (Or.inl ⟨by rfl, ?_⟩) ⟨(by first | exact Hq4.out | exact Hq3.out | exact Hq2.out | exact Hq1.out | exact Hq0.out), fun _ => trivial⟩ ?_
       rotate_left
       ·refine yields_load_blk 29 (.tmp 3) ?_ g ?_ (t := 29) (fr := (0, 0)) (cs := #[vn, .slice (some ⟨bg, og, none⟩) l.nx.length cg]) (fun U hU => ?_) Try.underlying29 rfl size29 rfl
        ·rfl
        ·rfl
        ·exact blk_keep HXq.out.blk hU
       simp only [Act.put, List.setIfInBounds_toArray, List.set_cons_zero, List.set_cons_succ]
       refine wpAnyX_keep (i := 14) (oi := ⟨some 79, _, _, _, _, none⟩) (v := ?_) rfl (by kernel_rfl) (by kernel_rfl) (by kernel_rfl) (fun _ _ _ h => h) (Or.inl ⟨by rfl, ?_⟩) ⟨(by first | exact Hq4.out | exact Hq3.out | exact Hq2.out | exact Hq1.out | exact Hq0.out), fun _ => trivial⟩ ?_
       rotate_left
       ·intro U hU
        go_simp
        all_goals with_reducible rfl
       simp only [Act.put, List.setIfInBounds_toArray, List.set_cons_zero, List.set_cons_succ]
       refine wpAnyX_keep (i := 15) (oi := ⟨some 80, _, _, _, _, none⟩) (v := ?_) rfl (by kernel_rfl) (by kernel_rfl) (by kernel_rfl) (fun _ _ _ h => h) (Or.inl ⟨by rfl, ?_⟩) ⟨(by first | exact Hq4.out | exact Hq3.out | exact Hq2.out | exact Hq1.out | exact Hq0.out), fun _ => trivial⟩ ?_
       rotate_left
       ·intro U hU
        go_simp
        all_goals with_reducible rfl
       simp only [Act.put, List.setIfInBounds_toArray, List.set_cons_zero, List.set_cons_succ]
       refine wpAnyX_keep (i := 16) (oi := ⟨some 81, _, _, _, _, none⟩) (v := ?_) rfl (by kernel_rfl) (by kernel_rfl) (by kernel_rfl) (fun _ _ _ h => h) (Or.inl ⟨by rfl, ?_⟩) ⟨(by first | exact Hq4.out | exact Hq3.out | exact Hq2.out | exact Hq1.out | exact Hq0.out), fun _ => trivial⟩ ?_
       rotate_left
       ·intro U hU
        go_simp
        all_goals with_reducible rfl
       simp only [Act.put, List.setIfInBounds_toArray, List.set_cons_zero, List.set_cons_succ]
       refine wpAnyX_keep (i := 17) (oi := ⟨some 82, _, _, _, _, none⟩) (v := ?_) rfl (by kernel_rfl) (by kernel_rfl) (by kernel_rfl) (fun _ _ _ h => h) (Or.inl ⟨by rfl, ?_⟩) ⟨(by first | exact Hq4.out | exact Hq3.out | exact Hq2.out | exact Hq1.out | exact Hq0.out), fun _ => trivial⟩ ?_
       rotate_left
       ·intro U hU
        have u0 := (hU.cell (p := ⟨b, off + jj, none⟩) HC2.out.1).trans HC2.out.2
        go_simp
        all_goals with_reducible rfl
       simp only [Act.put, List.setIfInBounds_toArray, List.set_cons_zero, List.set_cons_succ]
       refine wpAnyX_keep (i := 19) (oi := ⟨some 84, _, _, _, _, none⟩) (v := ?_) rfl (by kernel_rfl) (by kernel_rfl) (by kernel_rfl) (fun _ _ _ h => h) (Or.inl ⟨by rfl, ?_⟩) ⟨(by first | exact Hq4.out | exact Hq3.out | exact Hq2.out | exact Hq1.out | exact Hq0.out), fun _ => trivial⟩ ?_
       rotate_left
       ·intro U hU
        go_simp
        all_goals with_reducible rfl
       simp only [Act.put, List.setIfInBounds_toArray, List.set_cons_zero, List.set_cons_succ]
       refine wpAnyX_keep (i := 20) (oi := ⟨some 85, _, _, _, _, none⟩) (v := ?_) rfl (by kernel_rfl) (by kernel_rfl) (by kernel_rfl) (fun _ _ _ h => h) (Or.inl ⟨by rfl, ?_⟩) ⟨(by first | exact Hq4.out | exact Hq3.out | exact Hq2.out | exact Hq1.out | exact Hq0.out), fun _ => trivial⟩ ?_
       rotate_left
       ·intro U hU
        go_simp
        all_goals with_reducible rfl
       simp only [Act.put, List.setIfInBounds_toArray, List.set_cons_zero, List.set_cons_succ]
       refine wpAnyX_keep (i := 21) (oi := ⟨some 86, _, _, _, _, none⟩) (v := ?_) rfl (by kernel_rfl) (by kernel_rfl) (by kernel_rfl) (fun _ _ _ h => h) (Or.inl ⟨by rfl, ?_⟩) ⟨(by first | exact Hq4.out | exact Hq3.out | exact Hq2.out | exact Hq1.out | exact Hq0.out), fun _ => trivial⟩ ?_
       rotate_left
       ·intro U hU
        go_simp
        all_goals with_reducible rfl
       simp only [Act.put, List.setIfInBounds_toArray, List.set_cons_zero, List.set_cons_succ]
       refine wpAnyX_keep (i := 22) (oi := ⟨some 87, _, _, _, _, none⟩) (v := ?_) rfl (by kernel_rfl) (by kernel_rfl) (by kernel_rfl) (fun _ _ _ h => h) (Or.inl ⟨by rfl, ?_⟩) ⟨(by first | exact Hq4.out | exact Hq3.out | exact Hq2.out | exact Hq1.out | exact Hq0.out), fun _ => trivial⟩ ?_
       rotate_left
       ·intro U hU
        have u0 := (hU.cell (p := ⟨bd, od + mm, none⟩) HC3.out.1).trans HC3.out.2
        go_simp
        all_goals with_reducible rfl
       simp only [Act.put, List.setIfInBounds_toArray, List.set_cons_zero, List.set_cons_succ]
       refine wpAnyX_one (i := 6) (o := ⟨some 71, _, _, _, _, none⟩) (by kernel_rfl) rfl (by rfl) (fun K1 hK1 => ?_)
       have HK1 := Lib.hid hK1; clear hK1
       refine oper_call (ts := _) (xs := #[.tmp 66, .const (.int .i64 0), .tmp 70]) (f := 79) rfl (enters_of Try.func79 (by kernel_rfl) rfl) rfl (R := fun w' => Below wq0.heap.size wq0 w') (v := .int .i64 e1) ((H1.out _ Hq0.out).mono (by rintro e w' ⟨rfl, h⟩; exact ⟨rfl, h⟩)) ?_
       rintro wq1 hbwq1
       have Hq1 := Lib.hid (btr Hq0.out hbwq1 (Nat.le_refl _))
       refine HK1.out _ _ ⟨Hq1.out, fun _ => trivial⟩ ?_
       clear HK1
       try simp only [Act.put, List.setIfInBounds_toArray, List.set_cons_zero, List.set_cons_succ]
       refine wpAnyX_one (i := 11) (o := ⟨some 76, _, _, _, _, none⟩) (by kernel_rfl) rfl (by rfl) (fun K1 hK1 => ?_)
       have HK1 := Lib.hid hK1; clear hK1
       refine oper_call (ts := _) (xs := #[.tmp 65, .tmp 71, .tmp 75]) (f := 79) rfl (enters_of Try.func79 (by kernel_rfl) rfl) rfl (R := fun w' => Below wq1.heap.size wq1 w') (v := .int .i64 (m1 : Nat)) ((H3.out _ Hq1.out).mono (by rintro e w' ⟨rfl, h⟩; exact ⟨rfl, h⟩)) ?_
       rintro wq2 hbwq2
       have Hq2 := Lib.hid (btr Hq1.out hbwq2 (Nat.le_refl _))
       refine HK1.out _ _ ⟨Hq2.out, fun _ => trivial⟩ ?_
       clear HK1
       try simp only [Act.put, List.setIfInBounds_toArray, List.set_cons_zero, List.set_cons_succ]
       refine wpAnyX_one (i := 18) (o := ⟨some 83, _, _, _, _, none⟩) (by kernel_rfl) rfl (by rfl) (fun K1 hK1 => ?_)
       have HK1 := Lib.hid hK1; clear hK1
       refine oper_call (ts := _) (xs := #[.tmp 78, .const (.int .i64 0), .tmp 82]) (f := 79) rfl (enters_of Try.func79 (by kernel_rfl) rfl) rfl (R := fun w' => Below wq2.heap.size wq2 w') (v := .int .i64 e2) ((H2.out _ Hq2.out).mono (by rintro e w' ⟨rfl, h⟩; exact ⟨rfl, h⟩)) ?_
       rintro wq3 hbwq3
       have Hq3 := Lib.hid (btr Hq2.out hbwq3 (Nat.le_refl _))
       refine HK1.out _ _ ⟨Hq3.out, fun _ => trivial⟩ ?_
       clear HK1
       try simp only [Act.put, List.setIfInBounds_toArray, List.set_cons_zero, List.set_cons_succ]
       refine wpAnyX_one (i := 23) (o := ⟨some 88, _, _, _, _, none⟩) (by kernel_rfl) rfl (by rfl) (fun K1 hK1 => ?_)
       have HK1 := Lib.hid hK1; clear hK1
       refine oper_call (ts := _) (xs := #[.tmp 77, .tmp 83, .tmp 87]) (f := 79) rfl (enters_of Try.func79 (by kernel_rfl) rfl) rfl (R := fun w' => Below wq3.heap.size wq3 w') (v := .int .i64 (m2 : Nat)) ((H4.out _ Hq3.out).mono (by rintro e w' ⟨rfl, h⟩; exact ⟨rfl, h⟩)) ?_
       rintro wq4 hbwq4
       have Hq4 := Lib.hid (btr Hq3.out hbwq4 (Nat.le_refl _))
       refine HK1.out _ _ ⟨Hq4.out, fun _ => trivial⟩ ?_
       clear HK1
       try simp only [Act.put, List.setIfInBounds_toArray, List.set_cons_zero, List.set_cons_succ]
       refine wpAnyX_keep (i := 24) (oi := ⟨some 14, _, _, _, _, none⟩) (v := ?_) rfl (by kernel_rfl) (by kernel_rfl) (by kernel_rfl) (fun _ _ _ h => h) (Or.inl ⟨by rfl, ?_⟩) ⟨(by first | exact Hq4.out | exact Hq3.out | exact Hq2.out | exact Hq1.out | exact Hq0.out), fun _ => trivial⟩ ?_
       rotate_left
       ·intro U hU
        go_simp
        all_goals with_reducible rfl
       simp only [Act.put, List.setIfInBounds_toArray, List.set_cons_zero, List.set_cons_succ]
       refine wpAnyX_keep (i := 25) (oi := ⟨some 15, _, _, _, _, none⟩) (v := ?_) rfl (by kernel_rfl) (by kernel_rfl) (by kernel_rfl) (fun _ _ _ h => h) (Or.inl ⟨by rfl, ?_⟩) ⟨(by first | exact Hq4.out | exact Hq3.out | exact Hq2.out | exact Hq1.out | exact Hq0.out), fun _ => trivial⟩ ?_
       rotate_left
       ·intro U hU
        go_simp
        all_goals with_reducible rfl
       simp only [Act.put, List.setIfInBounds_toArray, List.set_cons_zero, List.set_cons_succ]
       refine wpAnyX_done (by kernel_rfl) ?_ _
       have HZ := Lib.hid Hq4.out
       clear Hq0 Hq1 Hq2 Hq3 Hq4 hbwq1 hbwq2 hbwq3 hbwq4 H1 H2 H3 H4 HC1 HC2 HC3
       obtain ⟨wz, rfl⟩ : ∃ q, q = wq4 := ⟨_, rfl⟩
       have HXz := Lib.hid (HXq.out.below HZ.out)
       have HG3 := Lib.hid (And.intro (Nat.lt_of_lt_of_le HG1.out.1 HZ.out.size) ((HZ.out.cell (p := ⟨bg, og + m1, none⟩) HG1.out.1).trans HG1.out.2))
       have HG4 := Lib.hid (And.intro (Nat.lt_of_lt_of_le HG2.out.1 HZ.out.size) ((HZ.out.cell (p := ⟨bg, og + m2, none⟩) HG2.out.1).trans HG2.out.2))
       go_wp2
       refine wp_region_x (R := fun U => Below wz.heap.size wz U) (S := fun _ => True) (z := 999) rfl ?_
       change wpAnyX _ _ _ _ _ _ _ _ _ _ wz.drew
       have Hq0 := Lib.hid (show Below wz.heap.size wz wz.drew from (Below.refl _ _).drew)
       obtain ⟨wq0, hwq⟩ : ∃ q, q = wz.drew := ⟨_, rfl⟩
       rw [← hwq] at Hq0 ⊢
       clear hwq
       refine wpAnyX_keep (i := 0) (oi := ⟨some 89, _, _, _, _, none⟩) (v := ?_) rfl (by kernel_rfl) (by kernel_rfl) (by kernel_rfl) (fun _ _ _ h => h) (Or.inl ⟨by rfl, ?_⟩) ⟨(by first | exact Hq4.out | exact Hq3.out | exact Hq2.out | exact Hq1.out | exact Hq0.out), fun _ => trivial⟩ ?_
       rotate_left
       ·intro U hU
        go_simp
        all_goals with_reducible rfl
       simp only [Act.put, List.setIfInBounds_toArray, List.set_cons_zero, List.set_cons_succ]
       refine wpAnyX_keep (i := 1) (oi := ⟨some 90, _, _, _, _, none⟩) (v := ?_) rfl (by kernel_rfl) (by kernel_rfl) (by kernel_rfl) (fun _ _ _ h => h) (Or.inl ⟨by rfl, ?_⟩) ⟨(by first | exact Hq4.out | exact Hq3.out | exact Hq2.out | exact Hq1.out | exact Hq0.out), fun _ => trivial⟩ ?_
       rotate_left
       ·intro U hU
        have u0 := cell_blk (i := 1) (blk_keep HXz.out.blk hU)
        simp only [List.getElem?_toArray, List.getElem?_cons_zero, List.getElem?_cons_succ] at u0
        go_simp
        all_goals with_reducible rfl
       simp only [Act.put, List.setIfInBounds_toArray, List.set_cons_zero, List.set_cons_succ]
       refine wpAnyX_keep (i := 2) (oi := ⟨some 91, _, _, _, _, none⟩) (v := ?_) rfl (by kernel_rfl) (by kernel_rfl) (by kernel_rfl) (fun _ _ _ h => h) (Or.inl ⟨by rfl, ?_⟩) ⟨(by first | exact Hq4.out | exact Hq3.out | exact Hq2.out | exact Hq1.out | exact Hq0.out), fun _ => trivial⟩ ?_
       rotate_left
       ·intro U hU
        go_simp
        all_goals with_reducible rfl
       simp only [Act.put, List.setIfInBounds_toArray, List.set_cons_zero, List.set_cons_succ]
       refine wpAnyX_keep (i := 3) (oi := ⟨some 92, _, _, _, _, none⟩) (v := ?_) rfl (by kernel_rfl) (by kernel_rfl) (by kernel_rfl) (fun _ _ _ h => h) (Or.inl ⟨by rfl, ?_⟩) ⟨(by first | exact Hq4.out | exact Hq3.out | exact Hq2.out | exact Hq1.out | exact Hq0.out), fun _ => trivial⟩ ?_
       rotate_left
       ·intro U hU
        go_simp
        all_goals with_reducible rfl
       simp only [Act.put, List.setIfInBounds_toArray, List.set_cons_zero, List.set_cons_succ]
       refine wpAnyX_keep (i := 4) (oi := ⟨some 93, _, _, _, _, none⟩) (v := ?_) rfl (by kernel_rfl) (by kernel_rfl) (by kernel_rfl) (fun _ _ _ h => h) (Or.inl ⟨by rfl, ?_⟩) ⟨(by first | exact Hq4.out | exact Hq3.out | exact Hq2.out | exact Hq1.out | exact Hq0.out), fun _ => trivial⟩ ?_
       rotate_left
       ·intro U hU
        have u0 := (hU.cell (p := ⟨bg, og + m1, none⟩) HG3.out.1).trans HG3.out.2
        go_simp
        all_goals with_reducible rfl
       simp only [Act.put, List.setIfInBounds_toArray, List.set_cons_zero, List.set_cons_succ]
       refine wpAnyX_keep (i := 5) (oi := ⟨some 94, _, _, _, _, none⟩) (v := ?_) rfl (by kernel_rfl) (by kernel_rfl) (by kernel_rfl) (fun _ _ _ h => h) (Or.inl ⟨by rfl, ?_⟩) ⟨(by first | exact Hq4.out | exact Hq3.out | exact Hq2.out | exact Hq1.out | exact Hq0.out), fun _ => trivial⟩ ?_
       rotate_left
       ·intro U hU
        go_simp
        all_goals with_reducible rfl
       simp only [Act.put, List.setIfInBounds_toArray, List.set_cons_zero, List.set_cons_succ]
       refine wpAnyX_keep (i := 6) (oi := ⟨some 95, _, _, _, _, none⟩) (v := ?_) rfl (by kernel_rfl) (by kernel_rfl) (by kernel_rfl) (fun _ _ _ h => h) (Or.inl ⟨by rfl, ?_⟩) ⟨(by first | exact Hq4.out | exact Hq3.out | exact Hq2.out | exact Hq1.out | exact Hq0.out), fun _ => trivial⟩ ?_
       rotate_left
       ·intro U hU
        have u0 := cell_blk (i := 1) (blk_keep HXz.out.blk hU)
        simp only [List.getElem?_toArray, List.getElem?_cons_zero, List.getElem?_cons_succ] at u0
        go_simp
        all_goals with_reducible rfl
       simp only [Act.put, List.setIfInBounds_toArray, List.set_cons_zero, List.set_cons_succ]
       refine wpAnyX_keep (i := 7) (oi := ⟨some 96, _, _, _, _, none⟩) (v := ?_) rfl (by kernel_rfl) (by kernel_rfl) (by kernel_rfl) (fun _ _ _ h => h) (Or.inl ⟨by rfl, ?_⟩) ⟨(by first | exact Hq4.out | exact Hq3.out | exact Hq2.out | exact Hq1.out | exact Hq0.out), fun _ => trivial⟩ ?_
       rotate_left
       ·intro U hU
        go_simp
        all_goals with_reducible rfl
       simp only [Act.put, List.setIfInBounds_toArray, List.set_cons_zero, List.set_cons_succ]
       refine wpAnyX_keep (i := 8) (oi := ⟨some 97, _, _, _, _, none⟩) (v := ?_) rfl (by kernel_rfl) (by kernel_rfl) (by kernel_rfl) (fun _ _ _ h => h) (Or.inl ⟨by rfl, ?_⟩) ⟨(by first | exact Hq4.out | exact Hq3.out | exact Hq2.out | exact Hq1.out | exact Hq0.out), fun _ => trivial⟩ ?_
       rotate_left
       ·intro U hU
        go_simp
        all_goals with_reducible rfl
       simp only [Act.put, List.setIfInBounds_toArray, List.set_cons_zero, List.set_cons_succ]
       refine wpAnyX_keep (i := 9) (oi := ⟨some 98, _, _, _, _, none⟩) (v := ?_) rfl (by kernel_rfl) (by kernel_rfl) (by kernel_rfl) (fun _ _ _ h => h) (Or.inl ⟨by rfl, ?_⟩) ⟨(by first | exact Hq4.out | exact Hq3.out | exact Hq2.out | exact Hq1.out | exact Hq0.out), fun _ => trivial⟩ ?_
       rotate_left
       ·intro U hU
        have u0 := (hU.cell (p := ⟨bg, og + m2, none⟩) HG4.out.1).trans HG4.out.2
        go_simp
        all_goals with_reducible rfl
       simp only [Act.put, List.setIfInBounds_toArray, List.set_cons_zero, List.set_cons_succ]
       refine wpAnyX_keep (i := 10) (oi := ⟨some 99, _, _, _, _, none⟩) (v := ?_) rfl (by kernel_rfl) (by kernel_rfl) (by kernel_rfl) (fun _ _ _ h => h) (Or.inl ⟨by rfl, ?_⟩) ⟨(by first | exact Hq4.out | exact Hq3.out | exact Hq2.out | exact Hq1.out | exact Hq0.out), fun _ => trivial⟩ ?_
       rotate_left
       ·intro U hU
        go_simp
        all_goals with_reducible rfl
       simp only [Act.put, List.setIfInBounds_toArray, List.set_cons_zero, List.set_cons_succ]
       refine wpAnyX_done (by kernel_rfl) ?_ _
       have HBZ : Hid (Below wo.heap.size wo wq0) := Lib.hid (btr (btr HBQ.out HZ.out (Nat.le_refl _)) Hq0.out (Nat.le_refl _))
       have hJ : Hid ((jj : Int) + 1 = ((k2 + 1 + (j + 1) : Nat) : Int) ∧ (mm : Int) + 1 = ((m + (j + 1) : Nat) : Int)) := Lib.hid (by have := HIX.out; omega)
       obtain ⟨dq, hdq⟩ : ∃ q, q = (r1 == r2) := ⟨_, rfl⟩
       rw [← hdq]
       have HDQ := Lib.hid hdq
       clear hdq
       cases dq with
       | true =>
        have HF := Lib.hid (HFAIL.out (by have := HDQ.out; simpa using this.symm))
        go_wp2
        go_ret
        exact FIN.out _ _ HF.out (btr HB8.out HBZ.out (Nat.le_refl _))
       | false =>
        have HF := Lib.hid (HGOOD.out (by have := HDQ.out; simpa using this.symm))
        go_wp2
        refine ⟨⟨j + 1, by omega, by rw [hJ.out.1], by rw [hJ.out.2], Lib.hid (by rw [show m + (j + 1) = mm + 1 from by have := HIX.out.2; omega]; exact HF.out), HBZ.out⟩, ?_⟩
        simp only [intOf]; omega
      ·have hje : j = n - (k2 + 1) := by omega
       have hjni : ¬ (jj : Int) < (n : Int) := by omega
       have hkl : k2 < ss.length := by have := HNN.out.1; omega
       have HR2 := Lib.hid (show mm + triN (n - (k2 + 1)) = D ∧ verAll l ss ds = verAll l (ss.drop (k2 + 1)) (ds.drop mm) from ⟨by have := HTRI.out; omega, by
        have h1 := HQ.out ss[k2] (List.getElem?_eq_getElem hkl)
        have hdn : (ss.drop (k2 + 1)).drop j = [] := List.drop_eq_nil_of_le (by rw [List.length_drop]; have := HNN.out.1; omega)
        rw [hdn] at h1
        have h2 : verRow l ss[k2] [] (ds.drop mm) = some (ds.drop mm) := rfl
        rw [HR.out.2, List.drop_eq_getElem_cons hkl, verAll, h1, h2]⟩)
       have HBQ := Lib.hid hbq
       clear hjj hmm hbq hje hkl
       go_wp2
       refine ⟨⟨k2 + 1, mm, by omega, by go_num, rfl, HR2, HBQ.out⟩, ?_⟩
       simp only [intOf]; omega
    ·have hki2 : ¬ (k2 : Int) < (n : Int) := by omega
     have hke : k2 = n := by omega
     have HF : Hid ((0 : Int) = verE l ss ds) := Lib.hid (by
      rw [HE3.out, HR.out.2, List.drop_eq_nil_of_le (by have := HNN.out.1; omega)]
      rfl)
     have HBR := Lib.hid hbr
     clear hbr hke
     go_wp2
     refine HK.out _ _ ?_; clear HK
     go_wp2
     go_ret
     exact FIN.out _ _ HF.out (btr HB8.out HBR.out (Nat.le_refl _))
end Ytnjgglnpmhjmiaa
end Go.Proofs
