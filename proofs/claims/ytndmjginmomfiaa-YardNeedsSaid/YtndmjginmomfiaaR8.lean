/- The reference: Need. -/
import Derived.Test.YtndmjginmomfiaaR4
open Go Go.RowKit Go.YtndmjginmomfiaaIt
namespace Go.Proofs
namespace Ytndmjginmomfiaa
set_option maxRecDepth 100000 in
set_option maxHeartbeats 4000000 in
theorem rneed_any (y : Yd) (v : Value) (s m : Int) (w : World) (hw : SlW w v y.ws) :
    Calls Try.prog 31 #[.agg (encY y v), .int .i64 s, .int .i64 m] w fun e w' => e = .returned (.tuple #[.int .i64 (needR y s m), .int .i64 (needE y s m)]) ∧ Below w.heap.size w w' := by
  have hcc := fun W hW => rcheck_any y v W (hw.below (w' := W) hW (Nat.le_refl _))
  have hse : needE y s m = if chkE y = 0 then (if btw 0 s 60 = true then (if btw 0 m (y.ws.length - 1) = true then (if needV y s.toNat m.toNat = none then 21 else 0) else 5) else 10) else chkE y := rfl
  have hre : needR y s m = if needE y s m = 0 then (((needV y s.toNat m.toNat).getD 0 : Nat) : Int) else (0 : Int) := rfl
  generalize needR y s m = RV at *
  generalize needE y s m = RE at *
  have HSE := Lib.hid (And.intro hse hre)
  clear hse hre
  have hok := chk_ok (y := y)
  have HCC := Lib.hid hcc
  have HOK := Lib.hid hok
  have HWS := Lib.hid hw
  clear hcc hok
  obtain ⟨ad, cap, rfl, -, -, -⟩ := hw
  go_enter Try.func31, Try.ntmps31
  refine wp_seq_k (fun K hK => ?_)
  have HK := Lib.hid hK; clear hK
  go_wp2
  refine HK.out _ _ ?_; clear HK K
  generalize hw1 : World.alloc _ _ = w1
  obtain ⟨b1, hB, hs1⟩ := blk1 hw1
  clear hw1
  have hcc := HCC.out w1 hB
  have hok := HOK.out
  generalize chkE y = C at *
  have HOK := Lib.hid hok
  by_cases h0 : C = 0
  rotate_left
  · have h0b : (C != 0) = true := bne_iff_ne.2 h0
    have HR := Lib.hid (show RE = C ∧ RV = 0 by
      obtain ⟨h1, h2⟩ := HSE.out
      rw [if_neg h0] at h1
      rw [h1, if_neg h0] at h2
      exact ⟨h1, h2⟩)
    clear h0 hok
    go_wp2_with (first | (refine wpList_load_blk rfl 31 _ rfl _ rfl b1 Try.underlying31 rfl size31 rfl ?_) | (go_at_call 22; refine hcc.mono ?_; rintro e w2 ⟨rfl, hb2⟩))
    go_ret2
    exact ⟨by rw [HR.out.1, HR.out.2]; rfl, hB.trans (hb2.mono (by omega))⟩
  subst h0
  have ok := HOK.out.1 rfl
  have hln := ok.n1
  obtain ⟨h1, h2⟩ := HSE.out
  rw [if_pos rfl] at h1
  clear HSE
  have HS2 := Lib.hid (And.intro h1 h2)
  clear h1 h2 hok HOK
  refine wp_seq_k (fun K hK => ?_)
  have HK := Lib.hid hK; clear hK
  go_wp2_with (first | (refine wpList_load_blk rfl 31 _ rfl _ rfl b1 Try.underlying31 rfl size31 rfl ?_) | (go_at_call 22; refine hcc.mono ?_; rintro e w2 ⟨rfl, hb2⟩))
  refine HK.out _ _ ?_; clear HK K
  replace b1 := blk_keep b1 hb2
  replace hB := hB.trans (hb2.mono (by omega))
  clear hb2 hcc hs1
  have c4 := cell_blk (i := 3) b1
  simp only [encY, List.getElem?_toArray, List.getElem?_cons_zero, List.getElem?_cons_succ] at c4
  cases e1 : btw 0 s 60
  · have HR := Lib.hid (show RE = 10 ∧ RV = 0 by
      obtain ⟨h1, h2⟩ := HS2.out
      rw [e1] at h1
      rw [h1] at h2
      exact ⟨h1, h2⟩)
    go_wp2_with (go_at_call 46; (with_reducible refine (is_any _ _ _ _).mono ?_); rintro e w' ⟨rfl, rfl⟩)
    go_ret2
    exact ⟨by rw [HR.out.1, HR.out.2]; rfl, hB⟩
  cases e2 : btw 0 m ((y.ws.length : Int) - 1)
  · have HR := Lib.hid (show RE = 5 ∧ RV = 0 by
      obtain ⟨h1, h2⟩ := HS2.out
      rw [e1, e2] at h1
      rw [h1] at h2
      exact ⟨h1, h2⟩)
    go_wp2_with (go_at_call 46; (with_reducible refine (is_any _ _ _ _).mono ?_); rintro e w' ⟨rfl, rfl⟩)
    go_ret2
    exact ⟨by rw [HR.out.1, HR.out.2]; rfl, hB⟩
  obtain ⟨hs0, hs60⟩ := btw_true.1 e1
  obtain ⟨hm0, hm1⟩ := btw_true.1 e2
  obtain ⟨sn, rfl⟩ := Int.eq_ofNat_of_zero_le hs0
  obtain ⟨mn, rfl⟩ := Int.eq_ofNat_of_zero_le hm0
  have hml : mn < y.ws.length := by omega
  have HYES := Lib.hid (show ∀ r, needV y sn mn = some r → RE = 0 ∧ RV = (r : Nat) by
    intro r hr
    obtain ⟨h1, h2⟩ := HS2.out
    rw [e1, e2] at h1
    have h1 : RE = (if needV y sn mn = none then 21 else 0) := h1
    have h2 : RV = if RE = 0 then (((needV y sn mn).getD 0 : Nat) : Int) else (0 : Int) := h2
    rw [if_neg (by rw [hr]; simp)] at h1
    rw [h1, hr] at h2
    exact ⟨h1, h2⟩)
  have HNO := Lib.hid (show needV y sn mn = none → RE = 21 ∧ RV = 0 by
    intro hr
    obtain ⟨h1, h2⟩ := HS2.out
    rw [e1, e2] at h1
    have h1 : RE = (if needV y sn mn = none then 21 else 0) := h1
    have h2 : RV = if RE = 0 then (((needV y sn mn).getD 0 : Nat) : Int) else (0 : Int) := h2
    rw [if_pos hr] at h1
    rw [h1, hr] at h2
    exact ⟨h1, h2⟩)
  have HOKY := Lib.hid ok
  clear HS2
  go_wp2_with (go_at_call 46; (with_reducible refine (is_any _ _ _ _).mono ?_); rintro e w' ⟨rfl, rfl⟩)
  clear e1 e2 c4
  go_loopw [9] (fun i W => ∃ (r : Nat) (ro : Int), sn ≤ r ∧ r ≤ 61 ∧ i = .int .i64 r ∧ (∀ j, sn ≤ j → j < r → ever y sn mn j = false) ∧ Below w.heap.size w W ∧ W.heap[w.heap.size]? = some (.cells (encY ⟨ro, y.most, y.lots, y.ws⟩ (.slice ad y.ws.length cap)) 31 (0, 0))) (fun i _ => 100 - (intOf i).toNat)
  case atStart => exact ⟨sn, y.room, Nat.le_refl _, by omega, rfl, fun j h1 h2 => by omega, hB, b1⟩
  case round =>
    clear hB b1
    obtain ⟨r, ro, hsr, hr, rfl, hno, hB, b1⟩ := hrel
    have HN := Lib.hid hno
    clear hno
    by_cases hrn : r ≤ 60
    · have f0 := free_blk (i := 0) b1
      have c0 := cell_blk (i := 0) b1
      simp only [encY, List.getElem?_toArray, List.getElem?_cons_zero] at c0
      have b2 : (wr.setCell ⟨w.heap.size, 0, none⟩ (.int .i64 r)).heap[w.heap.size]? = some (.cells (encY (Ytndmjginmomfiaa.wr y r) (.slice ad y.ws.length cap)) 31 (0, 0)) := by rw [heap_set_blk b1]; rfl
      have hB2 : Below w.heap.size w (wr.setCell ⟨w.heap.size, 0, none⟩ (.int .i64 r)) := hB.setCell (by simp) _
      have ht := rterms_any (Ytndmjginmomfiaa.wr y r) (.slice ad y.ws.length cap) (wr.setCell ⟨w.heap.size, 0, none⟩ (.int .i64 r)) (wr_ok HOKY.out hrn) (HWS.out.below hB2 (Nat.le_refl _))
      have htb := tabP_tb (Ytndmjginmomfiaa.wr y r)
      have htv := tabP_val (Ytndmjginmomfiaa.wr y r) (m := mn) (s := sn) hml (show sn ≤ ((r : Int)).toNat by omega)
      have hev : ever y sn mn r = (termP (Ytndmjginmomfiaa.wr y r) sn mn == never) := rfl
      rw [← htv] at hev
      have hlen : (tabP (Ytndmjginmomfiaa.wr y r)).length = y.ws.length := htb.len
      have hrow : (tabR (tabP (Ytndmjginmomfiaa.wr y r)) mn).length = r + 1 := by rw [htb.row mn (by rw [hlen]; exact hml)]; show (r : Int).toNat + 1 = r + 1; omega
      have HSOME := Lib.hid (show ever y sn mn r = true → RE = 0 ∧ RV = (r : Nat) from fun he => HYES.out r (need_some HOKY.out hml hsr hrn he (by
        by_cases h : r = sn
        · exact .inl h
        · exact .inr (HN.out (r - 1) (by omega) (by omega)))))
      have HNEXT := Lib.hid (show ever y sn mn r = false → ∀ j, sn ≤ j → j < r + 1 → ever y sn mn j = false from fun he j h1 h2 => by
        rcases (show j < r ∨ j = r by omega) with h | rfl
        · exact HN.out j h1 h
        · exact he)
      generalize tabP (Ytndmjginmomfiaa.wr y r) = tb at *
      clear htb htv
      generalize hws : wr.setCell ⟨w.heap.size, 0, none⟩ (.int .i64 r) = ws at *
      go_wp2_with (refine wpList_load_blk rfl 31 _ rfl _ rfl b2 Try.underlying31 rfl size31 rfl ?_)
      refine ht.mono ?_
      rintro e w3 ⟨u, rfl, hu, hb3⟩
      obtain ⟨adu, capu, rfl, -, -, hop⟩ := hu.opened
      obtain ⟨b, off, ad2, cap2, rfl, hlt, hc1, hrw⟩ := hop mn (by rw [hlen]; exact hml)
      obtain ⟨ad3, cap3, he3, -, -, hc3⟩ := hrw
      cases he3
      obtain ⟨b3, off3, rfl, hlt3, hc4⟩ := hc3 (by rw [hrow]; omega)
      have hc5 := hc4 sn (by rw [hrow]; omega)
      rw [hrow] at hc1
      have hi1 : (mn : Int) < (tb.length : Int) := by rw [hlen]; omega
      have hi2 : (sn : Int) < ((r + 1 : Nat) : Int) := by omega
      have hB3 := hB2.trans (hb3.mono hB2.size)
      have b3' := blk_keep b2 hb3
      obtain ⟨T, hTe⟩ : ∃ T, T = at0 (tabR tb mn) sn := ⟨_, rfl⟩
      rw [← hTe] at hc5 hev
      clear hop hc3 hc4 hu hrow hlen hTe ht hb3 b2 hB2 c0 f0 hB b1
      unfold never at hev
      by_cases hT : T = 1125899906842624
      · have HR := Lib.hid (HSOME.out (by rw [hev, hT]; rfl))
        subst hT
        clear hev
        go_wp2
        go_ret2
        exact ⟨by rw [HR.out.1, HR.out.2]; rfl, hB3⟩
      · have hTb : (T == 1125899906842624) = false := by simp [hT]
        have HR := Lib.hid (HNEXT.out (by rw [hev, hTb]))
        clear hev hT
        go_wp2
        go_roundw
        case rel => exact ⟨r + 1, (r : Int), by omega, by omega, by go_num, HR.out, hB3, b3'⟩
        case measure => simp [intOf]; omega
    · have hr60 : ever y sn mn 60 = false := HN.out 60 (by omega) (by omega)
      have hnv := need_none HOKY.out hml hr60
      have HR := Lib.hid (HNO.out hnv)
      clear hr60 hnv
      go_wp2
      go_ret2
      exact ⟨by rw [HR.out.1, HR.out.2]; rfl, hB⟩
end Ytndmjginmomfiaa
end Go.Proofs
