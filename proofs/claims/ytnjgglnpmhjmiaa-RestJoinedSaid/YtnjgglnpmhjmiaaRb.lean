/- Laws of rotation: the reference: lists of years, where they end, Allows. -/
import Derived.Test.YtnjgglnpmhjmiaaRa
open Go Go.RowKit Go.YtnjgglnpmhjmiaaIt
open Rest
namespace Go.Proofs
namespace Ytnjgglnpmhjmiaa
set_option maxRecDepth 100000 in
set_option maxHeartbeats 4000000 in
theorem rlisted_any {v vy : Value} {l : Lw} {ys : List Int} {w : World} (h : LawA w v l) (ho : l.Ok) (hy : SlI w vy ys) : Calls Try.prog 78 #[v, vy] w fun e w' => e = .returned (.int .i64 (lstE l ys)) ∧ Below w.heap.size w w' := by
 obtain ⟨vn, vg, rfl, hn, hg⟩ := h
 have hX := LawA.box (⟨_, _, rfl, hn, hg⟩ : LawA w (.agg #[vn, vg]) l) 29
 have hB1 := (Below.refl w.heap.size w).alloc (Nat.le_refl _) (.cells #[vn, vg] 29)
 have hY1 := hy.below hB1 (Nat.le_refl _)
 obtain ⟨ad, cy, rfl⟩ := slI_form hy
 obtain ⟨w1, hw1⟩ : ∃ q, q = w.alloc (.cells #[vn, vg] 29) := ⟨_, rfl⟩
 obtain ⟨g, hgw⟩ : ∃ q, q = w.heap.size := ⟨_, rfl⟩
 have HW := Lib.hid (And.intro hw1 hgw)
 obtain ⟨N, hN⟩ : ∃ N, N = ys.length := ⟨_, rfl⟩
 have HN := Lib.hid hN
 rw [← hN] at hY1 ⊢
 have hmm := hY1
 obtain ⟨_, _, e0, hNm, -⟩ := hY1
 rw [← hN] at hNm
 have hN' : N ≤ 17592186044416 := hNm
 clear e0 hNm
 rw [← hw1] at hX hB1 hmm
 rw [← hgw] at hX
 have HX := Lib.hid hX
 have HY := Lib.hid hmm
 have HB1 := Lib.hid (show Below g w w1 by rw [hgw]; exact hB1)
 have HK5 : Hid (∀ W, Below w1.heap.size w1 W → Calls Try.prog 65 #[.agg #[vn, vg]] W fun e w' => e = .returned (.int .i64 (l.k : Nat)) ∧ Below W.heap.size W w') := Lib.hid fun W hW => rcrops_any (HX.out.below hW).law ho.ne
 have HGW := Lib.hid (show g ≤ w1.heap.size from Nat.le_of_lt (lt_blk HX.out.blk))
 have FIN : Hid (∀ E : Int, E = lstE l ys → ∀ w', Below w1.heap.size w1 w' → (Ending.returned (.int .i64 E) = Ending.returned (.int .i64 (lstE l ys)) ∧ Below w.heap.size w w')) := Lib.hid fun E hE w' hw => ⟨by rw [hE], by rw [← HW.out.2]; exact HB1.out.trans (hw.mono HGW.out)⟩
 have hk4 := ho.k4
 obtain ⟨kk, hkq⟩ : ∃ q, q = l.k := ⟨_, rfl⟩
 rw [← hkq] at hk4 HK5
 have HKQ := Lib.hid hkq
 clear hn hg hX hB1 hy hw1 hgw hN hmm hkq
 go_enter Try.func78, Try.ntmps78
 refine wp_seq_k (fun K hK => ?_)
 have HK := Lib.hid hK; clear hK
 go_wp2
 refine HK.out _ _ ?_; clear HK
 rw [← HW.out.1, ← HW.out.2]
 by_cases h1 : 60 < N
 ·have HE : Hid ((14 : Int) = lstE l ys) := Lib.hid (by unfold lstE; rw [if_pos (by rw [← HN.out]; exact h1)])
  have hb : decide ((60 : Int) < (N : Int)) = true := by simp; omega
  clear h1
  go_wp2
  go_ret
  rw [HW.out.2]
  exact FIN.out _ HE.out _ (Below.refl _ _)
 have hb : decide ((60 : Int) < (N : Int)) = false := by simp; omega
 have HL : Hid (¬ 60 < ys.length) := Lib.hid (by rw [← HN.out]; exact h1)
 clear h1
 go_wp2
 go_loopw [5] (fun i wr => ∃ k : Nat, k ≤ N ∧ i = .int .i64 k ∧ Hid (∀ j (h : j < k) (h2 : j < ys.length), btw 0 ys[j] ((l.k : Int) - 1) = true) ∧ Below w1.heap.size w1 wr) (fun i _ => N - (intOf i).toNat)
 case atStart => exact ⟨0, Nat.zero_le _, rfl, Lib.hid fun _ h => by omega, Below.refl _ _⟩
 case round =>
  obtain ⟨k, hk, rfl, HNO, hb1⟩ := hrel
  obtain ⟨wo, rfl⟩ : ∃ q, q = wr := ⟨_, rfl⟩
  have HB := Lib.hid hb1
  clear hb1
  by_cases hkn : k < N
  ·have hki : (k : Int) < (N : Int) := by omega
   obtain ⟨ad', cap', e', -, -, hcc⟩ := HY.out
   have hky : k < ys.length := by rw [← HN.out]; exact hkn
   obtain ⟨b, off, rfl2, hb2, hcell⟩ := hcc (by omega)
   injection e' with e1 e2 e3
   rw [rfl2] at e1
   have c2 := hcell k hky
   rw [at0_lt hky] at c2
   obtain ⟨x, hx⟩ : ∃ x, x = ys[k] := ⟨_, rfl⟩
   rw [← hx] at c2
   subst e1
   have HC := Lib.hid (And.intro (Nat.lt_of_lt_of_le hb2 HB.out.size) ((HB.out.cell (p := ⟨b, off + k, none⟩) hb2).trans c2))
   have HXX := Lib.hid hx
   clear hcc hcell c2 hx e2 e3 hb2 rfl2
   have hsub : wrap64 ((kk : Int) - 1) = (kk : Int) - 1 := IntWalk.wrap64_in _ (by omega)
   have HXB := Lib.hid (HX.out.below HB.out).blk
   obtain ⟨good, hgood⟩ : ∃ q, q = btw 0 x ((kk : Int) - 1) := ⟨_, rfl⟩
   have H59 := Lib.hid (fun W => is_any x 0 ((kk : Int) - 1) W)
   rw [← hgood] at H59
   have HGD := Lib.hid hgood
   clear hgood
   go_wp2
   refine wp_region_x (R := fun U => Below wo.heap.size wo U) (S := fun _ => True) (z := 999) rfl ?_
   change wpAnyX _ _ _ _ _ _ _ _ _ _ wo.drew
   have Hq0 := Lib.hid (show Below wo.heap.size wo wo.drew from (Below.refl _ _).drew)
   obtain ⟨wq0, hwq⟩ : ∃ q, q = wo.drew := ⟨_, rfl⟩
   rw [← hwq] at Hq0 ⊢
   clear hwq
   refine wpX_kp (i := 0) (oi := ⟨some 15, _, _, _, _, none⟩) (v := ?_) rfl (fun _ _ _ h => h) ?_ ⟨(by first | exact Hq4.out | exact Hq3.out | exact Hq2.out | exact Hq1.out | exact Hq0.out), fun _ => trivial⟩ ?_
   rotate_left
   ·intro U hU
    go_simp
    all_goals with_reducible rfl
   simp only [putE]
   refine wpX_kp (i := 1) (oi := ⟨some 16, _, _, _, _, none⟩) (v := ?_) rfl (fun _ _ _ h => h) ?_ ⟨(by first | exact Hq4.out | exact Hq3.out | exact Hq2.out | exact Hq1.out | exact Hq0.out), fun _ => trivial⟩ ?_
   rotate_left
   ·intro U hU
    go_simp
    all_goals with_reducible rfl
   simp only [putE]
   refine wpX_kp (i := 2) (oi := ⟨some 17, _, _, _, _, none⟩) (v := ?_) rfl (fun _ _ _ h => h) ?_ ⟨(by first | exact Hq4.out | exact Hq3.out | exact Hq2.out | exact Hq1.out | exact Hq0.out), fun _ => trivial⟩ ?_
   rotate_left
   ·intro U hU
    go_simp
    all_goals with_reducible rfl
   simp only [putE]
   refine wpX_kp (i := 3) (oi := ⟨some 18, _, _, _, _, none⟩) (v := ?_) rfl (fun _ _ _ h => h) ?_ ⟨(by first | exact Hq4.out | exact Hq3.out | exact Hq2.out | exact Hq1.out | exact Hq0.out), fun _ => trivial⟩ ?_
   rotate_left
   ·intro U hU
    have u0 := (hU.cell (p := ⟨b, off + k, none⟩) HC.out.1).trans HC.out.2
    go_simp
    all_goals with_reducible rfl
   simp only [putE]
   refine wpX_kp (i := 4) (oi := ⟨some 19, _, _, _, _, none⟩) (v := ?_) rfl (fun _ _ _ h => h) ?_ ⟨(by first | exact Hq4.out | exact Hq3.out | exact Hq2.out | exact Hq1.out | exact Hq0.out), fun _ => trivial⟩ ?_
   rotate_left
   ·refine yields_load_blk 29 (.tmp 2) ?_ g ?_ (t := 29) (fr := (0, 0)) (cs := #[vn, vg]) (fun U hU => ?_) Try.underlying29 rfl size29 rfl
    ·rfl
    ·rfl
    ·exact blk_keep HXB.out hU
   simp only [putE]
   refine wpAnyX_one (i := 5) (o := ⟨some 20, _, _, _, _, none⟩) (by kernel_rfl) rfl (by rfl) (fun K1 hK1 => ?_)
   have HK1 := Lib.hid hK1; clear hK1
   refine oper_call (ts := _) (xs := #[.tmp 19]) (f := 65) rfl (enters_of Try.func65 (by kernel_rfl) rfl) rfl (R := fun w' => Below wq0.heap.size wq0 w') (v := .int .i64 (kk : Nat)) ((HK5.out _ (btr HB.out Hq0.out (Nat.le_refl _))).mono (by rintro e w' ⟨rfl, h⟩; exact ⟨rfl, h⟩)) ?_
   rintro wq1 hbwq1
   have Hq1 := Lib.hid (btr Hq0.out hbwq1 (Nat.le_refl _))
   refine HK1.out _ _ ⟨Hq1.out, fun _ => trivial⟩ ?_
   clear HK1
   try simp only [putE]
   refine wpX_kp (i := 6) (oi := ⟨some 21, _, _, _, _, none⟩) (v := ?_) rfl (fun _ _ _ h => h) ?_ ⟨(by first | exact Hq4.out | exact Hq3.out | exact Hq2.out | exact Hq1.out | exact Hq0.out), fun _ => trivial⟩ ?_
   rotate_left
   ·intro U hU
    go_simp
    all_goals with_reducible rfl
   simp only [putE]
   rw [c64 (q := (kk : Int) - 1) (by omega)]
   refine wpAnyX_one (i := 7) (o := ⟨some 22, _, _, _, _, none⟩) (by kernel_rfl) rfl (by rfl) (fun K1 hK1 => ?_)
   have HK1 := Lib.hid hK1; clear hK1
   refine oper_call (ts := _) (xs := #[.tmp 18, .const (.int .i64 0), .tmp 21]) (f := 59) rfl (enters_of Try.func59 (by kernel_rfl) rfl) rfl (R := fun w' => wq1 = w') (v := .bool good) ((H59.out _).mono (by rintro e w' ⟨rfl, h⟩; exact ⟨rfl, h⟩)) ?_
   rintro wq2 rfl

   refine HK1.out _ _ ⟨Hq1.out, fun _ => trivial⟩ ?_
   clear HK1
   try simp only [putE]
   refine wpX_kp (i := 8) (oi := ⟨some 23, _, _, _, _, none⟩) (v := ?_) rfl (fun _ _ _ h => h) ?_ ⟨(by first | exact Hq4.out | exact Hq3.out | exact Hq2.out | exact Hq1.out | exact Hq0.out), fun _ => trivial⟩ ?_
   rotate_left
   ·intro U hU
    go_simp
    all_goals with_reducible rfl
   simp only [putE]
   refine wpAnyX_done (by kernel_rfl) ?_ _
   have HBQ := Lib.hid (btr HB.out Hq1.out (Nat.le_refl _))
   clear hsub HXB HC Hq0 Hq1 H59 hbwq1
   cases good
   ·have HE : Hid ((5 : Int) = lstE l ys) := Lib.hid (by
     unfold lstE
     rw [if_neg HL.out, if_pos]
     refine List.any_eq_true.2 ⟨ys[k], List.getElem_mem hky, ?_⟩
     rw [← HXX.out, ← HKQ.out, ← HGD.out]; rfl)
    go_wp2
    go_ret
    rw [HW.out.2]
    exact FIN.out _ HE.out _ HBQ.out
   ·go_wp2
    go_roundw
    case rel => exact ⟨k + 1, by omega, by go_num, Lib.hid fun j h1 h2 => by
     rcases (show j < k ∨ j = k by omega) with h | rfl
     ·exact HNO.out j h h2
     ·rw [← HXX.out, ← HKQ.out]; exact HGD.out.symm, HBQ.out⟩
    case measure => simp [intOf]; omega
  ·have HE : Hid ((0 : Int) = lstE l ys) := Lib.hid (by
    unfold lstE
    rw [if_neg HL.out, if_neg]
    rw [Bool.not_eq_true, List.any_eq_false]
    intro x hx
    obtain ⟨q, hq, rfl⟩ := List.getElem_of_mem hx
    rw [HNO.out q (by have := HN.out; omega) hq]; simp)
   have hki : ¬ (k : Int) < (N : Int) := by omega
   go_wp2
   go_ret
   rw [HW.out.2]
   exact FIN.out _ HE.out _ HB.out
end Ytnjgglnpmhjmiaa
end Go.Proofs

