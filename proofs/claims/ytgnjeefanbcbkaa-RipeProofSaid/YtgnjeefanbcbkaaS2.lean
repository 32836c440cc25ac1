/- Fields: the reference's Verify. -/
import Derived.Test.YtgnjeefanbcbkaaS1
open Go Go.RowKit Go.YtgnjeefanbcbkaaIt
namespace Go.Proofs
namespace Ytgnjeefanbcbkaa
theorem any3 {xs : List Int} (h : xs.length = 3) (p : Int → Bool) : xs.any p = (p (at0 xs 0) || p (at0 xs 1) || p (at0 xs 2)) := by
  match xs, h with
  | [a, b, c], _ => simp [at0, Bool.or_assoc]
set_option maxRecDepth 100000 in
set_option maxHeartbeats 8000000 in
theorem rverify_any (n lo hi : Int) (v vx : Value) (ss : List Smp) (xs : List Int) (w : World) (hv : SlS w v ss) (hx : SlI w vx xs) :
    Calls Try.prog 23 #[.agg #[.int .i64 n, .int .i64 lo, .int .i64 hi, v], vx] w fun e w' => e = .returned (.int .i64 (verE n lo hi ss xs)) ∧ Below w.heap.size w w' := by
  have HV := Lib.hid hv
  obtain ⟨ad, cap, rfl, -, -, -⟩ := hv
  obtain ⟨ax, cx, rfl, -, -, hxx⟩ := hx
  have HXX := Lib.hid hxx
  clear hxx
  obtain ⟨R, hR⟩ : ∃ R, R = verE n lo hi ss xs := ⟨_, rfl⟩
  rw [← hR]
  have HR := Lib.hid hR
  clear hR
  go_enter Try.func23, Try.ntmps23
  refine wp_seq_k (fun K hK => ?_)
  have HK := Lib.hid hK; clear hK
  go_wp2
  refine HK.out _ _ ?_; clear HK K
  generalize hw1 : World.alloc _ _ = w1
  obtain ⟨b1, hB, hs1⟩ := blk1 hw1
  clear hw1
  have h18 := rcheck_any n lo hi _ ss w1 (HV.out.below hB (Nat.le_refl _))
  obtain ⟨E, hE⟩ : ∃ E, E = chkE n lo hi ss := ⟨_, rfl⟩
  rw [← hE] at h18
  have HE := Lib.hid hE
  have H18 := Lib.hid h18
  clear hE h18
  by_cases h0 : E = 0
  · obtain ⟨m, rfl, hV⟩ := chk_ok (HE.out.symm.trans h0)
    subst h0
    have HVAL := Lib.hid hV
    have hv1 : R = if xs.length ≠ 3 then 3 else if xs.any (fun x => !btw 0 x ((m : Int) - 1)) = true then 5 else if hol (lowAt lo ss) (highAt hi ss) (at0 xs 0).toNat (at0 xs 1).toNat (at0 xs 2).toNat = true then 0 else 11 := by
      rw [HR.out]; unfold verE; rw [if_neg (by rw [← HE.out]; simp)]
    have HV1 := Lib.hid hv1
    have hn := hV.n1
    have hn30 := hV.n30
    clear hv1 hV
    refine wp_seq_k (fun K hK => ?_)
    have HK := Lib.hid hK; clear hK
    go_wp2_with (first | (refine wpList_load_blk rfl 35 _ rfl _ rfl b1 Try.underlying35 rfl size35 rfl ?_) | (go_at_call 19; refine H18.out.mono ?_; rintro e w2 ⟨rfl, hb2⟩))
    refine HK.out _ _ ?_; clear HK K H18
    replace b1 := blk_keep b1 hb2
    replace hB := btr hB hb2 (Nat.le_refl _)
    clear hb2 hs1
    by_cases hl : xs.length = 3
    · have hlb : ((xs.length : Int) != 3) = false := by simp; omega
      have hv2 : R = if (!btw 0 (at0 xs 0) ((m : Int) - 1) || !btw 0 (at0 xs 1) ((m : Int) - 1) || !btw 0 (at0 xs 2) ((m : Int) - 1)) = true then 5 else if hol (lowAt lo ss) (highAt hi ss) (at0 xs 0).toNat (at0 xs 1).toNat (at0 xs 2).toNat = true then 0 else 11 := by rw [HV1.out, if_neg (by simpa using hl), any3 hl]
      have HV2 := Lib.hid hv2
      have HL3 := Lib.hid hl
      obtain ⟨bx, ox, rfl, hltx, hcx⟩ := HXX.out (by have := HL3.out; omega)
      have hcx2 : ∀ i : Nat, i < 3 → w2.cell? ⟨bx, ox + i, none⟩ = some (.int .i64 (at0 xs i)) := fun i hi => (hB.cell (p := ⟨bx, ox + i, none⟩) hltx).trans (hcx i (by have := HL3.out; omega))
      have HCX := Lib.hid hcx2
      have hltx2 := Nat.lt_of_lt_of_le hltx hB.size
      have hm1 : IntKind.i64.wrap ((m : Int) - 1) = (m : Int) - 1 := by rw [IntKind.wrap_i64]; omega
      clear hv2 HV1 HR hl hcx hcx2 HXX HE
      go_wp2
      go_loopw [6] (fun i wr => ∃ k : Nat, k ≤ 3 ∧ i = .int .i64 k ∧ Hid (∀ j, j < k → btw 0 (at0 xs j) ((m : Int) - 1) = true) ∧ Below w2.heap.size w2 wr) (fun i _ => 3 - (intOf i).toNat)
      case atStart => exact ⟨0, by omega, rfl, Lib.hid (by omega), Below.refl _ _⟩
      case round =>
        obtain ⟨k, hk, rfl, HJ, hW⟩ := hrel
        by_cases hk3 : k < 3
        · have hki : (k : Int) < 3 := by omega
          have hkl : (k : Int) < (xs.length : Int) := by have := HL3.out; omega
          have hkl2 : k < xs.length := by have := HL3.out; omega
          have hk0 : (0 : Int) ≤ (k : Int) := by omega
          have ck := (hW.cell (p := ⟨bx, ox + k, none⟩) hltx2).trans (HCX.out k hk3)
          have b1w := blk_keep b1 hW
          have hlb1 := lt_blk b1w
          have hlbx : bx < wr.heap.size := Nat.lt_of_lt_of_le hltx2 hW.size
          have c0 := cell_blk (i := 0) b1w
          simp only [List.getElem?_toArray, List.getElem?_cons_zero] at c0
          have e0 := fun X : Ab wr.heap.size wr => (X.ok.cell (p := ⟨w.heap.size, 0, none⟩) hlb1).trans c0
          have e1 := fun X : Ab wr.heap.size wr => (X.ok.cell (p := ⟨bx, ox + k, none⟩) hlbx).trans ck
          have hj1 : btw 0 (at0 xs k) ((m : Int) - 1) = true → ∀ j, j < k + 1 → btw 0 (at0 xs j) ((m : Int) - 1) = true := fun ht j hj => by
            rcases Nat.lt_or_ge j k with h | h
            · exact HJ.out j h
            · rw [show j = k by omega]; exact ht
          have hj2 : btw 0 (at0 xs k) ((m : Int) - 1) = false → R = 5 := fun ht => by
            rw [HV2.out, if_pos]
            have : k = 0 ∨ k = 1 ∨ k = 2 := by omega
            rcases this with rfl | rfl | rfl <;> simp [ht]
          have HJ1 := Lib.hid hj1
          have HJ2 := Lib.hid hj2
          clear hj1 hj2
          generalize hxk : at0 xs k = xk at *
          have h52 := fun (X : Ab wr.heap.size wr) => Calls.ab X (Nat.le_refl _) ((is_any xk 0 ((m : Int) - 1) X.val).mono (fun e w' h => ⟨h.1, h.2 ▸ Below.refl _ _⟩))
          obtain ⟨t, ht⟩ : ∃ t, t = btw 0 xk ((m : Int) - 1) := ⟨_, rfl⟩
          rw [← ht] at h52
          have HT := Lib.hid ht
          have H52 := Lib.hid h52
          have hBE := Below.trans hB (hW.mono hB.size)
          have hW2 := hW
          clear ht h52 hxk c0 ck b1w b1 HV2 HJ hW hB
          go_wp2
          rename_i K2 hK2
          have HK2 := Lib.hid hK2; clear hK2
          refine wp_region_ab_tail 8 wr.heap.size wr (by kernel_rfl) (by kernel_rfl) (Below.refl _ _) ?_
          simp only [List.take_succ_cons, List.take_zero, List.drop_succ_cons, List.drop_zero]
          unfold AbC at *
          repeat go_big_quiet_step (first | (go_at_call 52; with_reducible exact H52.out _))
          refine wpQuiet_nil ?_
          rintro W' ⟨X, rfl⟩
          have hXok := X.ok
          generalize X.val = V at *
          clear H52
          have hBV := Below.trans hBE (hXok.mono hBE.size)
          have hWV := btr hW2 hXok (Nat.le_refl _)
          clear e0 e1 hXok hBE hW2
          cases t
          · have hr : R = 5 := HJ2.out HT.out.symm
            subst hr
            clear HJ1 HJ2 HT
            go_wp2
            refine HK2.out _ _ ?_; clear HK2 K2
            go_wp2
            go_ret
            exact ⟨rfl, hBV⟩
          · have hj := Lib.hid (HJ1.out HT.out.symm)
            clear HJ1 HJ2 HT
            have hq1 : IntKind.i64.wrap ((k : Int) + 1) = ((k + 1 : Nat) : Int) := by rw [IntKind.wrap_i64]; omega
            go_wp2
            refine HK2.out _ _ ?_; clear HK2 K2
            go_wp2
            go_roundw
            case rel => exact ⟨k + 1, by omega, by go_num, hj, hWV⟩
            case measure => simp [intOf]; omega
        · have hke : k = 3 := by omega
          subst hke
          have hBE := Below.trans hB (hW.mono hB.size)
          have b1w := blk_keep b1 hW
          have h45 := ends_any m lo hi (.slice ad ss.length cap) ss wr HVAL.out (HV.out.below hBE (Nat.le_refl _))
          have H45 := Lib.hid h45
          clear b1 hB h45
          refine wp_seq_k (fun K hK => ?_)
          have HK := Lib.hid hK; clear hK
          go_wp2_with (first | (refine wpList_load_blk rfl 35 _ rfl _ rfl b1w Try.underlying35 rfl size35 rfl ?_) | (go_at_call 45; refine H45.out.mono ?_; rintro e w3 ⟨p, q, rfl, hp, hq, hb3⟩))
          rename_i K2 hK2
          have HK2 := Lib.hid hK2; clear hK2
          clear H45
          have hW3 := hW.trans (hb3.mono hW.size)
          have hlb3 : bx < w3.heap.size := Nat.lt_of_lt_of_le hltx2 hW3.size
          have y0 := (hW3.cell (p := ⟨bx, ox + 0, none⟩) hltx2).trans (HCX.out 0 (by omega))
          have y1 := (hW3.cell (p := ⟨bx, ox + 1, none⟩) hltx2).trans (HCX.out 1 (by omega))
          have y2 := (hW3.cell (p := ⟨bx, ox + 2, none⟩) hltx2).trans (HCX.out 2 (by omega))
          rw [Nat.add_zero] at y0
          have z0 := btw_true.1 (HJ.out 0 (by omega))
          have z1 := btw_true.1 (HJ.out 1 (by omega))
          have z2 := btw_true.1 (HJ.out 2 (by omega))
          have hr : R = if hol (lowAt lo ss) (highAt hi ss) (at0 xs 0).toNat (at0 xs 1).toNat (at0 xs 2).toNat = true then 0 else 11 := by
            rw [HV2.out, if_neg (by rw [HJ.out 0 (by omega), HJ.out 1 (by omega), HJ.out 2 (by omega)]; simp)]
          clear HV2
          generalize at0 xs 0 = g0 at *
          generalize at0 xs 1 = g1 at *
          generalize at0 xs 2 = g2 at *
          obtain ⟨a0, rfl⟩ := Int.eq_ofNat_of_zero_le z0.1
          obtain ⟨a1, rfl⟩ := Int.eq_ofNat_of_zero_le z1.1
          obtain ⟨a2, rfl⟩ := Int.eq_ofNat_of_zero_le z2.1
          replace hr : R = if hol (lowAt lo ss) (highAt hi ss) a0 a1 a2 = true then 0 else 11 := hr
          have h58 := fun (X : Ab w3.heap.size w3) => Calls.ab X (Nat.le_refl _) (rholds_any HVAL.out.bds (i := a0) (j := a1) (k := a2) (by omega) (by omega) (by omega) (hp.below X.ok (Nat.le_refl _)) (hq.below X.ok (Nat.le_refl _)))
          obtain ⟨t, ht⟩ : ∃ t, t = hol (lowAt lo ss) (highAt hi ss) a0 a1 a2 := ⟨_, rfl⟩
          rw [← ht] at h58 hr
          have H58 := Lib.hid h58
          have HRR := Lib.hid hr
          have hBE3 := btr hBE hb3 (Nat.le_refl _)
          have e0 := fun X : Ab w3.heap.size w3 => (X.ok.cell (p := ⟨bx, ox, none⟩) hlb3).trans y0
          have e1 := fun X : Ab w3.heap.size w3 => (X.ok.cell (p := ⟨bx, ox + 1, none⟩) hlb3).trans y1
          have e2 := fun X : Ab w3.heap.size w3 => (X.ok.cell (p := ⟨bx, ox + 2, none⟩) hlb3).trans y2
          have hl0 : (0 : Int) < (xs.length : Int) := by have := HL3.out; omega
          have hl1 : (1 : Int) < (xs.length : Int) := by have := HL3.out; omega
          have hl2 : (2 : Int) < (xs.length : Int) := by have := HL3.out; omega
          have hm0 : 0 < xs.length := by have := HL3.out; omega
          have hm1 : 1 < xs.length := by have := HL3.out; omega
          have hm2 : 2 < xs.length := by have := HL3.out; omega
          clear y0 y1 y2 h58 hr ht hp hq hBE HJ hW hW3 b1w hb3 HCX hlb z0 z1 z2
          refine wp_region_ab_tail 12 w3.heap.size w3 (by kernel_rfl) (by kernel_rfl) (Below.refl _ _) ?_
          simp only [List.take_succ_cons, List.take_zero, List.drop_succ_cons, List.drop_zero]
          unfold AbC at *
          repeat go_big_quiet_step (first | (go_at_call 58; with_reducible exact H58.out _))
          refine wpQuiet_nil ?_
          rintro W' ⟨X, rfl⟩
          have hBV := btr hBE3 X.ok (Nat.le_refl _)
          generalize X.val = V at *
          clear H58 e0 e1 e2 hBE3
          cases t
          · have hr : R = 11 := by have := HRR.out; simpa using this
            subst hr
            clear HRR
            go_wp2
            refine HK2.out _ _ ?_; clear HK2 K2
            go_wp2
            go_ret
            exact ⟨rfl, hBV⟩
          · have hr : R = 0 := by have := HRR.out; simpa using this
            subst hr
            clear HRR
            go_wp2
            refine HK2.out _ _ ?_; clear HK2 K2
            go_wp2
            go_ret
            exact ⟨rfl, hBV⟩
    · have hlb : ((xs.length : Int) != 3) = true := by simp; omega
      have hr : R = 3 := by rw [HV1.out, if_pos hl]
      subst hr
      clear hl
      go_wp2
      go_ret
      exact ⟨rfl, hB⟩
  · have hne : (E != 0) = true := by simpa using h0
    have hpe : R = E := by rw [HR.out]; unfold verE; rw [← HE.out, if_pos h0]
    subst hpe
    clear h0
    go_wp2_with (first | (refine wpList_load_blk rfl 35 _ rfl _ rfl b1 Try.underlying35 rfl size35 rfl ?_) | (go_at_call 19; refine H18.out.mono ?_; rintro e w2 ⟨rfl, hb2⟩))
    go_ret
    exact ⟨rfl, btr hB hb2 (Nat.le_refl _)⟩
end Ytgnjeefanbcbkaa
end Go.Proofs
