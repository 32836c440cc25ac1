/- Laws of rotation: the reference: Check and crops. -/
import Derived.Test.YtnjgglnpmhjmiaaRf1
open Go Go.RowKit Go.YtnjgglnpmhjmiaaIt
open Rest
namespace Go.Proofs
namespace Ytnjgglnpmhjmiaa
set_option maxRecDepth 100000 in
theorem rcrops_any {v : Value} {l : Lw} {w : World} (h : LawA w v l) (h0 : l.nx ≠ []) : Calls Try.prog 65 #[v] w fun e w' => e = .returned (.int .i64 (l.k : Nat)) ∧ Below w.heap.size w w' := by
 obtain ⟨vn, vg, rfl, h1, -⟩ := h
 obtain ⟨ad, c, rfl, hc⟩ := slII_form h1
 have hp : 0 < l.nx.length := List.length_pos_iff.2 h0
 obtain ⟨b, off, a, cc, rfl, hb, hcell, -⟩ := h1.row hp
 have hk : l.nx[0].length = l.k := by
  simp [Lw.k, List.headD_eq_head?_getD, List.head?_eq_getElem?, hp]
 rw [hk] at hcell
 have hpi : (0 : Int) < (l.nx.length : Int) := by omega
 have hbb := (Below.refl w.heap.size w).alloc (Nat.le_refl _) (.cells #[.slice (some ⟨b, off, none⟩) l.nx.length c, vg] 29)
 have c0 : ∀ o, (w.alloc o).cell? ⟨b, off, none⟩ = some (.slice a l.k cc) := fun o => by
  rw [World.cell?_alloc_lt w o _ (by simpa using hb)]; simpa using hcell
 clear hcell hk h0 h1
 go_enter Try.func65, Try.ntmps65
 go_wp2
 go_ret
 exact ⟨rfl, (Below.refl w.heap.size w).alloc (Nat.le_refl _) _⟩
set_option maxRecDepth 100000 in
set_option maxHeartbeats 4000000 in
theorem rcheck_any {v : Value} {l : Lw} {w : World} (h : LawA w v l) : Calls Try.prog 53 #[v] w fun e w' => e = .returned (.int .i64 (chkL l)) ∧ Below w.heap.size w w' := by
 obtain ⟨vn, vg, rfl, hn, hg⟩ := h
 obtain ⟨an, cn, rfl, hcn⟩ := slII_form hn
 obtain ⟨ag, cg, rfl, -⟩ := id hg
 have hX := LawA.box (⟨_, _, rfl, hn, hg⟩ : LawA w (.agg #[.slice an l.nx.length cn, .slice ag (l.gd.map Value.bool).length cg]) l) 29
 rw [List.length_map] at *
 have hB1 := (Below.refl w.heap.size w).alloc (Nat.le_refl _) (.cells #[.slice an l.nx.length cn, .slice ag l.gd.length cg] 29)
 clear hn hg
 go_enter Try.func53, Try.ntmps53
 refine wp_seq_k (fun K hK => ?_)
 have HK := Lib.hid hK; clear hK
 go_wp2
 refine HK.out _ _ ?_; clear HK
 obtain ⟨w1, hw1⟩ : ∃ q, q = w.alloc (.cells #[.slice an l.nx.length cn, .slice ag l.gd.length cg] 29) := ⟨_, rfl⟩
 rw [← hw1] at hX hB1 ⊢
 obtain ⟨g, hgw⟩ : ∃ q, q = w.heap.size := ⟨_, rfl⟩
 rw [← hgw] at hX ⊢
 have HGW := Lib.hid hgw
 clear hw1 hgw
 have c0 := cell_blk (i := 0) hX.blk
 have c1 := cell_blk (i := 1) hX.blk
 simp only [List.getElem?_toArray, List.getElem?_cons_zero, List.getElem?_cons_succ] at c0 c1
 have HX := Lib.hid hX
 have HB1 := Lib.hid hB1
 clear hX hB1
 have FIN : Hid (∀ E : Int, E = chkL l → ∀ w', Below g w w' → (Ending.returned (.int .i64 E) = Ending.returned (.int .i64 (chkL l)) ∧ Below g w w')) := Lib.hid fun E hE w' hw => ⟨by rw [hE], hw⟩
 have HBg : Hid (Below g w w1) := Lib.hid (by rw [HGW.out]; exact HB1.out)
 by_cases h0 : l.nx.length = 0
 ·have HE : Hid ((4 : Int) = chkL l) := Lib.hid (by unfold chkL; rw [if_pos h0])
  have hbb : ((l.nx.length : Int) == 0) = true := by simp [h0]
  clear h0
  go_wp2
  go_ret
  exact FIN.out _ HE.out _ HBg.out
 have hb0 : ((l.nx.length : Int) == 0) = false := by simpa using h0
 by_cases h1 : 40 < l.nx.length
 ·have HE : Hid ((1 : Int) = chkL l) := Lib.hid (by unfold chkL; rw [if_neg h0, if_pos h1])
  have hbb : decide ((40 : Int) < (l.nx.length : Int)) = true := by simp; omega
  clear h0 h1
  go_wp2
  go_ret
  exact FIN.out _ HE.out _ HBg.out
 have hb1 : decide ((40 : Int) < (l.nx.length : Int)) = false := by simp; omega
 have hne : l.nx ≠ [] := fun e => h0 (by rw [e]; rfl)
 have HK5 : Hid (∀ W, Below w1.heap.size w1 W → Calls Try.prog 65 #[.agg #[.slice an l.nx.length cn, .slice ag l.gd.length cg]] W fun e w' => e = .returned (.int .i64 (l.k : Nat)) ∧ Below W.heap.size W w') := Lib.hid fun W hW => rcrops_any (HX.out.below hW).law hne
 by_cases h2 : 1 ≤ l.k ∧ l.k ≤ 4
 case neg =>
  have HE : Hid ((2 : Int) = chkL l) := Lib.hid (by unfold chkL; rw [if_neg h0, if_neg h1, if_pos h2])
  have hbt : btw 1 (l.k : Nat) 4 = false := by rw [btw_false]; omega
  clear h0 h1 h2
  go_wp2_with (first | (refine wpList_load_blk rfl 29 _ rfl _ rfl HX.out.blk Try.underlying29 rfl size29 rfl ?_) | (go_at_call 65; refine (HK5.out _ (Below.refl _ _)).mono ?_; rintro e w2 ⟨rfl, hb2⟩; have HB2 := Lib.hid hb2; clear hb2) | (go_at_call 59; refine (is_any (l.k : Nat) 1 4 _).mono ?_; rintro e w3 ⟨rfl, rfl⟩))
  go_ret
  exact FIN.out _ HE.out _ (btr HBg.out HB2.out (by rw [HGW.out]; exact Nat.le_refl _))
 have hbt : btw 1 (l.k : Nat) 4 = true := by rw [btw_true]; omega
 by_cases h3 : l.gd.length = l.nx.length
 case neg =>
  have HE : Hid ((3 : Int) = chkL l) := Lib.hid (by unfold chkL; rw [if_neg h0, if_neg h1, if_neg (fun e => e h2), if_pos h3])
  have hbb : ((l.gd.length : Int) != (l.nx.length : Int)) = true := by simp; omega
  have hbb2 : ((l.gd.length : Int) == (l.nx.length : Int)) = false := by simp; omega
  clear h0 h1 h2 h3
  go_wp2_with (first | (refine wpList_load_blk rfl 29 _ rfl _ rfl HX.out.blk Try.underlying29 rfl size29 rfl ?_) | (go_at_call 65; refine (HK5.out _ (Below.refl _ _)).mono ?_; rintro e w2 ⟨rfl, hb2⟩; have d0 := (hb2.cell (p := ⟨g, 0, none⟩) (lt_blk HX.out.blk)).trans c0; have d1 := (hb2.cell (p := ⟨g, 1, none⟩) (lt_blk HX.out.blk)).trans c1; have HB2 := Lib.hid hb2; clear hb2) | (go_at_call 59; refine (is_any (l.k : Nat) 1 4 _).mono ?_; rintro e w3 ⟨rfl, rfl⟩))
  go_ret
  exact FIN.out _ HE.out _ (btr HBg.out HB2.out (by rw [HGW.out]; exact Nat.le_refl _))
 have HCE : Hid (chkL l = rowsE l.k l.nx.length l.nx) := Lib.hid (by unfold chkL; rw [if_neg h0, if_neg h1, if_neg (fun e => e h2), if_neg (fun e => e h3)])
 have hbb : ((l.gd.length : Int) != (l.nx.length : Int)) = false := by simp; omega
 have hbb2 : ((l.gd.length : Int) == (l.nx.length : Int)) = true := by simp; omega
 have HN := Lib.hid (And.intro h0 (And.intro h1 (And.intro h2 h3)))
 clear h0 h1 h2 h3
 go_wp2_with (first | (refine wpList_load_blk rfl 29 _ rfl _ rfl HX.out.blk Try.underlying29 rfl size29 rfl ?_) | (go_at_call 65; refine (HK5.out _ (Below.refl _ _)).mono ?_; rintro e w2 ⟨rfl, hb2⟩; have d0 := (hb2.cell (p := ⟨g, 0, none⟩) (lt_blk HX.out.blk)).trans c0; have d1 := (hb2.cell (p := ⟨g, 1, none⟩) (lt_blk HX.out.blk)).trans c1; have HB2 := Lib.hid hb2; clear hb2) | (go_at_call 59; refine (is_any (l.k : Nat) 1 4 _).mono ?_; rintro e w3 ⟨rfl, rfl⟩))
 clear c0 c1
 have hX2 := HX.out.below HB2.out
 have HX2 := Lib.hid hX2
 have HBw : Hid (Below g w w2) := Lib.hid (btr HBg.out HB2.out (by rw [HGW.out]; exact Nat.le_refl _))
 have HK6 : Hid (∀ W, Below w2.heap.size w2 W → Calls Try.prog 65 #[.agg #[.slice an l.nx.length cn, .slice ag l.gd.length cg]] W fun e w' => e = .returned (.int .i64 (l.k : Nat)) ∧ Below W.heap.size W w') := Lib.hid fun W hW => rcrops_any (HX2.out.below hW).law hne
 have hgn : g < w2.heap.size := lt_blk hX2.blk
 have hln : l.nx.length ≤ 40 := by have := HN.out; omega
 clear hX2 hb0 hb1 hbb hbb2 hbt
 go_loopw [3] (fun i wr => ∃ k : Nat, k ≤ l.nx.length ∧ i = .int .i64 k ∧ Hid (∀ j (h : j < k) (h2 : j < l.nx.length), l.nx[j].length = l.k ∧ l.nx[j].any (fun s => !btw 0 s ((l.nx.length : Int) - 1)) = false) ∧ Below w2.heap.size w2 wr) (fun i _ => l.nx.length - (intOf i).toNat)
 case atStart => exact ⟨0, Nat.zero_le _, rfl, Lib.hid fun _ h => by omega, Below.refl _ _⟩
 case round =>
  obtain ⟨k, hk, rfl, HNO, hb⟩ := hrel
  have hX := HX2.out.below hb
  have d0 := cell_blk (i := 0) hX.blk
  simp only [List.getElem?_toArray, List.getElem?_cons_zero] at d0
  by_cases hkn : k < l.nx.length
  ·have hki : (k : Int) < (l.nx.length : Int) := by omega
   obtain ⟨b, off, a, cc, rfl, hbl, hcell, hrow⟩ := hX.nx.row hkn
   obtain ⟨r, hr⟩ : ∃ r, r = l.nx[k] := ⟨_, rfl⟩
   rw [← hr] at hcell hrow
   have HRr := Lib.hid hr
   have HROW := Lib.hid hrow
   have HXr := Lib.hid hX
   have HXB := Lib.hid hX.blk
   have HC := Lib.hid (And.intro hbl hcell)
   obtain ⟨wo, rfl⟩ : ∃ q, q = wr := ⟨_, rfl⟩
   clear hr hrow hX hbl hcell
   go_wp2
   refine wp_region_x (R := fun U => Below wo.heap.size wo U) (S := fun _ => True) (z := 999) rfl ?_
   change wpAnyX _ _ _ _ _ _ _ _ _ _ wo.drew
   have Hq0 := Lib.hid (show Below wo.heap.size wo wo.drew from (Below.refl _ _).drew)
   obtain ⟨wq0, hwq⟩ : ∃ q, q = wo.drew := ⟨_, rfl⟩
   rw [← hwq] at Hq0 ⊢
   clear hwq
   refine wpX_kp (i := 0) (oi := ⟨some 31, _, _, _, _, none⟩) (v := ?_) rfl (fun _ _ _ h => h) ?_ ⟨(by first | exact Hq4.out | exact Hq3.out | exact Hq2.out | exact Hq1.out | exact Hq0.out), fun _ => trivial⟩ ?_
   rotate_left
   ·intro U hU
    go_simp
    all_goals with_reducible rfl
   simp only [putE]
   refine wpX_kp (i := 1) (oi := ⟨some 32, _, _, _, _, none⟩) (v := ?_) rfl (fun _ _ _ h => h) ?_ ⟨(by first | exact Hq4.out | exact Hq3.out | exact Hq2.out | exact Hq1.out | exact Hq0.out), fun _ => trivial⟩ ?_
   rotate_left
   ·intro U hU
    have u0 := cell_blk (i := 0) (blk_keep HXB.out hU)
    simp only [List.getElem?_toArray, List.getElem?_cons_zero] at u0
    go_simp
    all_goals with_reducible rfl
   simp only [putE]
   refine wpX_kp (i := 2) (oi := ⟨some 33, _, _, _, _, none⟩) (v := ?_) rfl (fun _ _ _ h => h) ?_ ⟨(by first | exact Hq4.out | exact Hq3.out | exact Hq2.out | exact Hq1.out | exact Hq0.out), fun _ => trivial⟩ ?_
   rotate_left
   ·intro U hU
    go_simp
    all_goals with_reducible rfl
   simp only [putE]
   refine wpX_kp (i := 3) (oi := ⟨some 34, _, _, _, _, none⟩) (v := ?_) rfl (fun _ _ _ h => h) ?_ ⟨(by first | exact Hq4.out | exact Hq3.out | exact Hq2.out | exact Hq1.out | exact Hq0.out), fun _ => trivial⟩ ?_
   rotate_left
   ·intro U hU
    go_simp
    all_goals with_reducible rfl
   simp only [putE]
   refine wpX_kp (i := 4) (oi := ⟨some 35, _, _, _, _, none⟩) (v := ?_) rfl (fun _ _ _ h => h) ?_ ⟨(by first | exact Hq4.out | exact Hq3.out | exact Hq2.out | exact Hq1.out | exact Hq0.out), fun _ => trivial⟩ ?_
   rotate_left
   ·intro U hU
    have u0 := (hU.cell (p := ⟨b, off + k, none⟩) HC.out.1).trans HC.out.2
    go_simp
    all_goals with_reducible rfl
   simp only [putE]
   refine wpX_kp (i := 5) (oi := ⟨some 36, _, _, _, _, none⟩) (v := ?_) rfl (fun _ _ _ h => h) ?_ ⟨(by first | exact Hq4.out | exact Hq3.out | exact Hq2.out | exact Hq1.out | exact Hq0.out), fun _ => trivial⟩ ?_
   rotate_left
   ·intro U hU
    go_simp
    all_goals with_reducible rfl
   simp only [putE]
   refine wpX_kp (i := 6) (oi := ⟨some 37, _, _, _, _, none⟩) (v := ?_) rfl (fun _ _ _ h => h) ?_ ⟨(by first | exact Hq4.out | exact Hq3.out | exact Hq2.out | exact Hq1.out | exact Hq0.out), fun _ => trivial⟩ ?_
   rotate_left
   ·refine yields_load_blk 29 (.tmp 1) ?_ g ?_ (t := 29) (fr := (0, 0)) (cs := #[.slice (some ⟨b, off, none⟩) l.nx.length cn, .slice ag l.gd.length cg]) (fun U hU => ?_) Try.underlying29 rfl size29 rfl
    ·rfl
    ·rfl
    ·exact blk_keep HXB.out hU
   simp only [putE]
   refine wpAnyX_one (i := 7) (o := ⟨some 38, _, _, _, _, none⟩) (by kernel_rfl) rfl (by rfl) (fun K1 hK1 => ?_)
   have HK1 := Lib.hid hK1; clear hK1
   refine oper_call (ts := _) (xs := #[.tmp 37]) (f := 65) rfl (enters_of Try.func65 (by kernel_rfl) rfl) rfl (R := fun w' => Below wq0.heap.size wq0 w') (v := .int .i64 (l.k : Nat)) ((HK6.out _ (btr hb Hq0.out (Nat.le_refl _))).mono (by rintro e w' ⟨rfl, h⟩; exact ⟨rfl, h⟩)) ?_
   rintro wq1 hbwq1
   have Hq1 := Lib.hid (btr Hq0.out hbwq1 (Nat.le_refl _))
   refine HK1.out _ _ ⟨Hq1.out, fun _ => trivial⟩ ?_
   clear HK1
   try simp only [putE]
   refine wpX_kp (i := 8) (oi := ⟨some 39, _, _, _, _, none⟩) (v := ?_) rfl (fun _ _ _ h => h) ?_ ⟨(by first | exact Hq4.out | exact Hq3.out | exact Hq2.out | exact Hq1.out | exact Hq0.out), fun _ => trivial⟩ ?_
   rotate_left
   ·intro U hU
    go_simp
    all_goals with_reducible rfl
   simp only [putE]
   refine wpAnyX_done (by kernel_rfl) ?_ _
   have hb1 := btr hb Hq1.out (Nat.le_refl _)
   have hXr2 := HXr.out.below Hq1.out
   have HXr2 := Lib.hid hXr2
   have HXB2 := Lib.hid hXr2.blk
   have HROW2 := Lib.hid (HROW.out.below Hq1.out (Nat.le_refl _))
   have hC2 := And.intro (Nat.lt_of_lt_of_le HC.out.1 Hq1.out.size) ((Hq1.out.cell (p := ⟨b, off + k, none⟩) HC.out.1).trans HC.out.2)
   have HC2 := Lib.hid hC2
   clear hXr2 hC2 Hq0 Hq1 HXr HXB HROW HC d0 hb hbwq1
   by_cases hkk : r.length = l.k
   case neg =>
    have HE : Hid ((3 : Int) = chkL l) := Lib.hid (by rw [HCE.out, rowsE_at hkn (fun j h => HNO.out j h (by omega)), List.drop_eq_getElem_cons hkn, rowsE, if_pos (by rw [← HRr.out]; exact hkk)])
    have hbq : ((r.length : Int) != (l.k : Int)) = true := by simp; omega
    have hbq2 : ((r.length : Int) == (l.k : Int)) = false := by simp; omega
    clear hkk
    go_wp2
    go_ret
    exact FIN.out _ HE.out _ (HBw.out.trans (hb1.mono (by omega)))
   have hbq : ((r.length : Int) != (l.k : Int)) = false := by simp; omega
   have hbq2 : ((r.length : Int) == (l.k : Int)) = true := by simp; omega
   rw [hbq]
   have HKK := Lib.hid hkk
   obtain ⟨kk, hkq⟩ : ∃ q, q = l.k := ⟨_, rfl⟩
   have hk4 : kk ≤ 4 := by rw [hkq]; have := HN.out; omega
   rw [hkk, ← hkq] at HC2 HROW2
   have HKQ := Lib.hid hkq
   have HB1 := Lib.hid hb1
   go_wp2
   clear hkk hkq hbq hbq2 hb1
   go_loopw [4] (fun i wr => ∃ c : Nat, c ≤ kk ∧ i = .int .i64 c ∧ Hid (∀ j (h : j < c) (h2 : j < r.length), btw 0 r[j] ((l.nx.length : Int) - 1) = true) ∧ Below wq1.heap.size wq1 wr) (fun i _ => kk - (intOf i).toNat)
   case atStart => exact ⟨0, Nat.zero_le _, rfl, Lib.hid fun _ h => by omega, Below.refl _ _⟩
   case round =>
    obtain ⟨c, hc, rfl, HCO, hbc⟩ := hrel
    obtain ⟨wp, rfl⟩ : ∃ q, q = wr := ⟨_, rfl⟩
    have HBC := Lib.hid hbc
    have HXc := Lib.hid (blk_keep HXB2.out hbc)
    have H65c := Lib.hid (HK6.out wp (btr HB1.out hbc (Nat.le_refl _)))
    rw [← HKQ.out] at H65c
    by_cases hck : c < kk
    ·have hci : (c : Int) < (kk : Int) := by omega
     clear hbc
     go_wp2_with (first | (refine wpList_load_blk rfl 29 _ rfl _ rfl HXc.out Try.underlying29 rfl size29 rfl ?_) | (go_at_call 65; refine H65c.out.mono ?_; rintro e wv ⟨rfl, hbv⟩; have HBV := Lib.hid (btr HBC.out hbv (Nat.le_refl _)); clear hbv))
     clear HXc H65c HBC
     obtain ⟨ad', cap', e', -, -, hcc⟩ := HROW2.out
     have hrk : r.length = kk := by rw [HKK.out, HKQ.out]
     have hcr : c < r.length := by omega
     obtain ⟨b2, off2, rfl2, hb2, hcell2⟩ := hcc (by omega)
     injection e' with e1 e2 e3
     rw [rfl2] at e1
     have c2 := hcell2 c hcr
     rw [at0_lt hcr] at c2
     obtain ⟨x, hx⟩ : ∃ x, x = r[c] := ⟨_, rfl⟩
     rw [← hx] at c2
     have HC3 := Lib.hid (And.intro hb2 c2)
     have HXX := Lib.hid hx
     have HE1 := Lib.hid e1
     have HCR := Lib.hid hcr
     have HRK := Lib.hid hrk
     clear hcc hcell2 c2 hx e1 e2 e3 hb2 hrk rfl2
     have hsub : wrap64 ((l.nx.length : Int) - 1) = (l.nx.length : Int) - 1 := IntWalk.wrap64_in _ (by omega)
     have HXV := Lib.hid (blk_keep HXB2.out HBV.out)
     have hCV := (HBV.out.cell (p := ⟨b, off + k, none⟩) HC2.out.1).trans HC2.out.2
     rw [HE1.out] at hCV
     have HCV := Lib.hid (And.intro (Nat.lt_of_lt_of_le HC2.out.1 HBV.out.size) hCV)
     have HCW := Lib.hid (And.intro (Nat.lt_of_lt_of_le HC3.out.1 HBV.out.size) ((HBV.out.cell (p := ⟨b2, off2 + c, none⟩) HC3.out.1).trans HC3.out.2))
     clear hCV
     obtain ⟨good, hgood⟩ : ∃ q, q = btw 0 x ((l.nx.length : Int) - 1) := ⟨_, rfl⟩
     have H59 := Lib.hid (fun W => is_any x 0 ((l.nx.length : Int) - 1) W)
     rw [← hgood] at H59
     have HGD := Lib.hid hgood
     clear hgood
     refine wp_region_x (R := fun U => Below wv.heap.size wv U) (S := fun _ => True) (z := 999) rfl ?_
     change wpAnyX _ _ _ _ _ _ _ _ _ _ wv.drew
     have Hz0 := Lib.hid (show Below wv.heap.size wv wv.drew from (Below.refl _ _).drew)
     obtain ⟨wz0, hwz⟩ : ∃ q, q = wv.drew := ⟨_, rfl⟩
     rw [← hwz] at Hz0 ⊢
     clear hwz
     refine wpX_kp (i := 0) (oi := ⟨some 46, _, _, _, _, none⟩) (v := ?_) rfl (fun _ _ _ h => h) ?_ ⟨(by first | exact Hz4.out | exact Hz3.out | exact Hz2.out | exact Hz1.out | exact Hz0.out), fun _ => trivial⟩ ?_
     rotate_left
     ·intro U hU
      go_simp
      all_goals with_reducible rfl
     simp only [putE]
     refine wpX_kp (i := 1) (oi := ⟨some 47, _, _, _, _, none⟩) (v := ?_) rfl (fun _ _ _ h => h) ?_ ⟨(by first | exact Hz4.out | exact Hz3.out | exact Hz2.out | exact Hz1.out | exact Hz0.out), fun _ => trivial⟩ ?_
     rotate_left
     ·intro U hU
      have u0 := cell_blk (i := 0) (blk_keep HXV.out hU)
      simp only [List.getElem?_toArray, List.getElem?_cons_zero] at u0
      go_simp
      all_goals with_reducible rfl
     simp only [putE]
     refine wpX_kp (i := 2) (oi := ⟨some 48, _, _, _, _, none⟩) (v := ?_) rfl (fun _ _ _ h => h) ?_ ⟨(by first | exact Hz4.out | exact Hz3.out | exact Hz2.out | exact Hz1.out | exact Hz0.out), fun _ => trivial⟩ ?_
     rotate_left
     ·intro U hU
      go_simp
      all_goals with_reducible rfl
     simp only [putE]
     refine wpX_kp (i := 3) (oi := ⟨some 49, _, _, _, _, none⟩) (v := ?_) rfl (fun _ _ _ h => h) ?_ ⟨(by first | exact Hz4.out | exact Hz3.out | exact Hz2.out | exact Hz1.out | exact Hz0.out), fun _ => trivial⟩ ?_
     rotate_left
     ·intro U hU
      go_simp
      all_goals with_reducible rfl
     simp only [putE]
     refine wpX_kp (i := 4) (oi := ⟨some 50, _, _, _, _, none⟩) (v := ?_) rfl (fun _ _ _ h => h) ?_ ⟨(by first | exact Hz4.out | exact Hz3.out | exact Hz2.out | exact Hz1.out | exact Hz0.out), fun _ => trivial⟩ ?_
     rotate_left
     ·intro U hU
      have u0 := (hU.cell (p := ⟨b, off + k, none⟩) HCV.out.1).trans HCV.out.2
      go_simp
      all_goals with_reducible rfl
     simp only [putE]
     refine wpX_kp (i := 5) (oi := ⟨some 51, _, _, _, _, none⟩) (v := ?_) rfl (fun _ _ _ h => h) ?_ ⟨(by first | exact Hz4.out | exact Hz3.out | exact Hz2.out | exact Hz1.out | exact Hz0.out), fun _ => trivial⟩ ?_
     rotate_left
     ·intro U hU
      go_simp
      all_goals with_reducible rfl
     simp only [putE]
     refine wpX_kp (i := 6) (oi := ⟨some 52, _, _, _, _, none⟩) (v := ?_) rfl (fun _ _ _ h => h) ?_ ⟨(by first | exact Hz4.out | exact Hz3.out | exact Hz2.out | exact Hz1.out | exact Hz0.out), fun _ => trivial⟩ ?_
     rotate_left
     ·intro U hU
      go_simp
      all_goals with_reducible rfl
     simp only [putE]
     refine wpX_kp (i := 7) (oi := ⟨some 53, _, _, _, _, none⟩) (v := ?_) rfl (fun _ _ _ h => h) ?_ ⟨(by first | exact Hz4.out | exact Hz3.out | exact Hz2.out | exact Hz1.out | exact Hz0.out), fun _ => trivial⟩ ?_
     rotate_left
     ·intro U hU
      have u0 := (hU.cell (p := ⟨b2, off2 + c, none⟩) HCW.out.1).trans HCW.out.2
      go_simp
      all_goals with_reducible rfl
     simp only [putE]
     refine wpX_kp (i := 8) (oi := ⟨some 54, _, _, _, _, none⟩) (v := ?_) rfl (fun _ _ _ h => h) ?_ ⟨(by first | exact Hz4.out | exact Hz3.out | exact Hz2.out | exact Hz1.out | exact Hz0.out), fun _ => trivial⟩ ?_
     rotate_left
     ·intro U hU
      go_simp
      all_goals with_reducible rfl
     simp only [putE]
     refine wpX_kp (i := 9) (oi := ⟨some 55, _, _, _, _, none⟩) (v := ?_) rfl (fun _ _ _ h => h) ?_ ⟨(by first | exact Hz4.out | exact Hz3.out | exact Hz2.out | exact Hz1.out | exact Hz0.out), fun _ => trivial⟩ ?_
     rotate_left
     ·intro U hU
      have u0 := cell_blk (i := 0) (blk_keep HXV.out hU)
      simp only [List.getElem?_toArray, List.getElem?_cons_zero] at u0
      go_simp
      all_goals with_reducible rfl
     simp only [putE]
     refine wpX_kp (i := 10) (oi := ⟨some 56, _, _, _, _, none⟩) (v := ?_) rfl (fun _ _ _ h => h) ?_ ⟨(by first | exact Hz4.out | exact Hz3.out | exact Hz2.out | exact Hz1.out | exact Hz0.out), fun _ => trivial⟩ ?_
     rotate_left
     ·intro U hU
      go_simp
      all_goals with_reducible rfl
     simp only [putE]
     refine wpX_kp (i := 11) (oi := ⟨some 57, _, _, _, _, none⟩) (v := ?_) rfl (fun _ _ _ h => h) ?_ ⟨(by first | exact Hz4.out | exact Hz3.out | exact Hz2.out | exact Hz1.out | exact Hz0.out), fun _ => trivial⟩ ?_
     rotate_left
     ·intro U hU
      go_simp
      all_goals with_reducible rfl
     simp only [putE]
     rw [c64 (q := (l.nx.length : Int) - 1) (by omega)]
     refine wpAnyX_one (i := 12) (o := ⟨some 58, _, _, _, _, none⟩) (by kernel_rfl) rfl (by rfl) (fun K1 hK1 => ?_)
     have HK1 := Lib.hid hK1; clear hK1
     refine oper_call (ts := _) (xs := #[.tmp 53, .const (.int .i64 0), .tmp 57]) (f := 59) rfl (enters_of Try.func59 (by kernel_rfl) rfl) rfl (R := fun w' => wz0 = w') (v := .bool good) ((H59.out _).mono (by rintro e w' ⟨rfl, h⟩; exact ⟨rfl, h⟩)) ?_
     rintro wz1 rfl
     refine HK1.out _ _ ⟨Hz0.out, fun _ => trivial⟩ ?_
     clear HK1
     try simp only [putE]
     refine wpX_kp (i := 13) (oi := ⟨some 59, _, _, _, _, none⟩) (v := ?_) rfl (fun _ _ _ h => h) ?_ ⟨(by first | exact Hz4.out | exact Hz3.out | exact Hz2.out | exact Hz1.out | exact Hz0.out), fun _ => trivial⟩ ?_
     rotate_left
     ·intro U hU
      go_simp
      all_goals with_reducible rfl
     simp only [putE]
     refine wpAnyX_done (by kernel_rfl) ?_ _
     have HBQ := Lib.hid (btr HBV.out Hz0.out (Nat.le_refl _))
     clear hsub HXV HCV HCW Hz0 H59
     cases good
     ·have HE : Hid ((5 : Int) = chkL l) := Lib.hid (by
       rw [HCE.out, rowsE_at hkn (fun j h => HNO.out j h (by omega)), List.drop_eq_getElem_cons hkn, rowsE, if_neg (by rw [← HRr.out, HRK.out, HKQ.out]; simp), if_pos]
       rw [← HRr.out]
       refine List.any_eq_true.2 ⟨r[c], List.getElem_mem hcr, ?_⟩
       have hq := HGD.out
       rw [HXX.out] at hq
       exact (by decide : ∀ b : Bool, false = b → (!b) = true) _ hq)
      go_wp2
      go_ret
      exact FIN.out _ HE.out _ (HBw.out.trans ((btr HB1.out HBQ.out (Nat.le_refl _)).mono (by omega)))
     ·go_wp2
      go_roundw
      case rel => exact ⟨c + 1, by omega, by go_num, Lib.hid fun j h1 h2 => by
       rcases (show j < c ∨ j = c by omega) with h | rfl
       ·exact HCO.out j h h2
       ·have hq := HGD.out
        rw [HXX.out] at hq
        exact hq.symm, HBQ.out⟩
      case measure => simp [intOf]; omega
    ·have hci : ¬ (c : Int) < (kk : Int) := by omega
     clear hbc
     go_wp2_with (first | (refine wpList_load_blk rfl 29 _ rfl _ rfl HXc.out Try.underlying29 rfl size29 rfl ?_) | (go_at_call 65; refine H65c.out.mono ?_; rintro e wv ⟨rfl, hbv⟩; have HBV := Lib.hid (btr HBC.out hbv (Nat.le_refl _)); clear hbv))
     go_roundw
     case rel => exact ⟨k + 1, by omega, by go_num, Lib.hid fun j h1 h2 => by
      rcases (show j < k ∨ j = k by omega) with h | rfl
      ·exact HNO.out j h h2
      ·rw [← HRr.out]
       refine ⟨by rw [HKK.out], ?_⟩
       rw [List.any_eq_false]
       intro x hx
       obtain ⟨q, hq, rfl⟩ := List.getElem_of_mem hx
       rw [HCO.out q (by have := HKK.out; have := HKQ.out; omega) hq]; simp, btr HB1.out HBV.out (Nat.le_refl _)⟩
     case measure => simp [intOf]; omega
  ·have HE : Hid ((0 : Int) = chkL l) := Lib.hid (by rw [HCE.out, rowsE_all fun j h => HNO.out j (by omega) h])
   have hki : ¬ (k : Int) < (l.nx.length : Int) := by omega
   clear hX
   go_wp2
   go_ret
   exact FIN.out _ HE.out _ (HBw.out.trans (hb.mono (by omega)))
end Ytnjgglnpmhjmiaa
end Go.Proofs

