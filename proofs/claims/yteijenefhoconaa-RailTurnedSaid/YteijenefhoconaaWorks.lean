/- The chapter's examples hold. -/
import Derived.Test.YteijenefhoconaaXs
open Go Go.RowKit Go.YteijenefhoconaaIt
namespace Go.Proofs
namespace Yteijenefhoconaa
theorem btr {n : Nat} {w x y : World} (h : Below n w x) (k : Below x.heap.size x y) (hn : n ≤ w.heap.size) : Below n w y := h.trans (k.mono (Nat.le_trans hn h.size))
set_option maxRecDepth 100000 in
set_option maxHeartbeats 4000000 in
theorem works_any (w : World) : Calls Try.prog 14 #[] w fun e w' => e = .returned (.bool true) ∧ Below w.heap.size w w' := by
  go_enter Try.func14, Try.ntmps14
  refine wp_seq_k (fun K hK => ?_)
  have HK := Lib.hid hK; clear hK
  go_wp2
  refine HK.out _ _ ?_; clear HK K
  have B0 : Below w.heap.size w w := Below.refl _ _
  refine wp_seq_k (fun K hK => ?_)
  have HK := Lib.hid hK; clear hK
  go_wp2_with (first | (go_at_call 39; refine (L_any _).mono ?_; rintro e wa1 ⟨va, rfl, ha, hba⟩) | (go_at_call 47; refine (S_any _).mono ?_; rintro e wb1 ⟨vb, rfl, hb, hbb⟩) | (go_at_call 16; refine (x16 e1 s1 _ (ha.below hbb (Nat.le_refl _)) hb).mono ?_; rintro e wc1 ⟨rfl, hbc⟩))
  refine HK.out _ _ ?_; clear HK K
  have B1 := B0.trans (hba.mono B0.size)
  have B2 := B1.trans (hbb.mono B1.size)
  have B3 := B2.trans (hbc.mono B2.size)
  clear B0 B1 B2 hba hbb hbc ha hb
  have B0 := B3
  clear B3
  refine wp_seq_k (fun K hK => ?_)
  have HK := Lib.hid hK; clear hK
  go_wp2_with (first | (go_at_call 39; refine (L_any _).mono ?_; rintro e wa2 ⟨va, rfl, ha, hba⟩) | (go_at_call 42; refine (V_any _).mono ?_; rintro e wb2 ⟨vb, rfl, hb, hbb⟩) | (go_at_call 16; refine (x16 e2 s2 _ (ha.below hbb (Nat.le_refl _)) hb).mono ?_; rintro e wc2 ⟨rfl, hbc⟩))
  refine HK.out _ _ ?_; clear HK K
  have B1 := B0.trans (hba.mono B0.size)
  have B2 := B1.trans (hbb.mono B1.size)
  have B3 := B2.trans (hbc.mono B2.size)
  clear B0 B1 B2 hba hbb hbc ha hb
  have B0 := B3
  clear B3
  refine wp_seq_k (fun K hK => ?_)
  have HK := Lib.hid hK; clear hK
  go_wp2_with (first | (go_at_call 39; refine (L_any _).mono ?_; rintro e wa3 ⟨va, rfl, ha, hba⟩) | (go_at_call 40; refine (W_any _).mono ?_; rintro e wb3 ⟨vb, rfl, hb, hbb⟩) | (go_at_call 23; refine (x23 e3 g1 _ (ha.below hbb (Nat.le_refl _)) hb).mono ?_; rintro e wc3 ⟨v5, rfl, H5, hbc⟩))
  refine HK.out _ _ ?_; clear HK K
  have B1 := B0.trans (hba.mono B0.size)
  have B2 := B1.trans (hbb.mono B1.size)
  have B3 := B2.trans (hbc.mono B2.size)
  clear B0 B1 B2 hba hbb hbc ha hb
  have B0 := B3
  clear B3
  refine wp_seq_k (fun K hK => ?_)
  have HK := Lib.hid hK; clear hK
  go_wp2_with (first | (go_at_call 39; refine (L_any _).mono ?_; rintro e wa4 ⟨va, rfl, ha, hba⟩) | (go_at_call 41; refine (T_any _).mono ?_; rintro e wb4 ⟨vb, rfl, hb, hbb⟩) | (go_at_call 23; refine (x23 e4 g2 _ (ha.below hbb (Nat.le_refl _)) hb).mono ?_; rintro e wc4 ⟨v7, rfl, H7, hbc⟩))
  refine HK.out _ _ ?_; clear HK K
  have B1 := B0.trans (hba.mono B0.size)
  have B2 := B1.trans (hbb.mono B1.size)
  have B3 := B2.trans (hbc.mono B2.size)
  replace H5 := ((H5.below hba (Nat.le_refl _)).below hbb (Nat.le_refl _)).below hbc (Nat.le_refl _)
  clear B0 B1 B2 hba hbb hbc ha hb
  have B0 := B3
  clear B3
  refine wp_seq_k (fun K hK => ?_)
  have HK := Lib.hid hK; clear hK
  go_wp2_with (first | (go_at_call 39; refine (L_any _).mono ?_; rintro e wa5 ⟨va, rfl, ha, hba⟩) | (go_at_call 41; refine (T_any _).mono ?_; rintro e wb5 ⟨vb, rfl, hb, hbb⟩) | (go_at_call 20; refine (x20 e4 s3 _ (ha.below hbb (Nat.le_refl _)) hb).mono ?_; rintro e wc5 ⟨v9, rfl, H9, hbc⟩))
  refine HK.out _ _ ?_; clear HK K
  have B1 := B0.trans (hba.mono B0.size)
  have B2 := B1.trans (hbb.mono B1.size)
  have B3 := B2.trans (hbc.mono B2.size)
  replace H5 := ((H5.below hba (Nat.le_refl _)).below hbb (Nat.le_refl _)).below hbc (Nat.le_refl _)
  replace H7 := ((H7.below hba (Nat.le_refl _)).below hbb (Nat.le_refl _)).below hbc (Nat.le_refl _)
  clear B0 B1 B2 hba hbb hbc ha hb
  have B0 := B3
  clear B3
  refine wp_seq_k (fun K hK => ?_)
  have HK := Lib.hid hK; clear hK
  go_wp2_with (first | (go_at_call 39; refine (L_any _).mono ?_; rintro e wa6 ⟨va, rfl, ha, hba⟩) | (go_at_call 41; refine (T_any _).mono ?_; rintro e wb6 ⟨vb, rfl, hb, hbb⟩) | (go_at_call 22; refine (x22 v1 _ (ha.below hbb (Nat.le_refl _)) hb ((H9.below hba (Nat.le_refl _)).below hbb (Nat.le_refl _))).mono ?_; rintro e wc6 ⟨rfl, hbc⟩))
  refine HK.out _ _ ?_; clear HK K
  have B1 := B0.trans (hba.mono B0.size)
  have B2 := B1.trans (hbb.mono B1.size)
  have B3 := B2.trans (hbc.mono B2.size)
  replace H5 := ((H5.below hba (Nat.le_refl _)).below hbb (Nat.le_refl _)).below hbc (Nat.le_refl _)
  replace H7 := ((H7.below hba (Nat.le_refl _)).below hbb (Nat.le_refl _)).below hbc (Nat.le_refl _)
  replace H9 := ((H9.below hba (Nat.le_refl _)).below hbb (Nat.le_refl _)).below hbc (Nat.le_refl _)
  clear B0 B1 B2 hba hbb hbc ha hb
  have B0 := B3
  clear B3
  refine wp_seq_k (fun K hK => ?_)
  have HK := Lib.hid hK; clear hK
  go_wp2_with (first | (go_at_call 39; refine (L_any _).mono ?_; rintro e wa7 ⟨va, rfl, ha, hba⟩) | (go_at_call 47; refine (S_any _).mono ?_; rintro e wb7 ⟨vb, rfl, hb, hbb⟩; have hbl : ∀ o, Below wb7.heap.size wb7 (wb7.alloc o) := fun o => (Below.refl _ _).alloc (Nat.le_refl _) _) | (go_at_call 22; refine (x22 v2 _ ((ha.below hbb (Nat.le_refl _)).below (hbl _) (Nat.le_refl _)) (hb.below (hbl _) (Nat.le_refl _)) (slI_new (xs := [0, 0, 0, 1, 0, 0]) (by decide))).mono ?_; rintro e wc7 ⟨rfl, hbc⟩))
  refine HK.out _ _ ?_; clear HK K
  replace H5 := ((((H5.below hba (Nat.le_refl _)).below hbb (Nat.le_refl _)).below (hbl _) (Nat.le_refl _)).below hbc (Nat.le_refl _))
  replace H7 := ((((H7.below hba (Nat.le_refl _)).below hbb (Nat.le_refl _)).below (hbl _) (Nat.le_refl _)).below hbc (Nat.le_refl _))
  replace B0 := (((B0.trans (hba.mono B0.size)).trans (hbb.mono (B0.trans (hba.mono B0.size)).size)).trans ((hbl _).mono ((B0.trans (hba.mono B0.size)).trans (hbb.mono (B0.trans (hba.mono B0.size)).size)).size)).trans (hbc.mono (((B0.trans (hba.mono B0.size)).trans (hbb.mono (B0.trans (hba.mono B0.size)).size)).trans ((hbl _).mono ((B0.trans (hba.mono B0.size)).trans (hbb.mono (B0.trans (hba.mono B0.size)).size)).size)).size)
  clear hba hbb hbl hbc ha hb
  have hbl7 : ∀ o, Below wc7.heap.size wc7 (wc7.alloc o) := fun o => (Below.refl _ _).alloc (Nat.le_refl _) _
  refine wp_seq_k (fun K hK => ?_)
  have HK := Lib.hid hK; clear hK
  go_wp2_with fail
  refine (x27 rfl _ (H5.below (hbl7 _) (Nat.le_refl _)) (slI_new (xs := [1]) (by decide))).mono ?_
  rintro e wd ⟨rfl, hbd⟩
  replace B0 := btr (btr B0 (hbl7 _) (Nat.le_refl _)) hbd (Nat.le_refl _)
  replace H7 := (H7.below (hbl7 _) (Nat.le_refl _)).below hbd (Nat.le_refl _)
  clear H5 hbl7 hbd
  have hbl7 : ∀ o, Below wd.heap.size wd (wd.alloc o) := fun o => (Below.refl _ _).alloc (Nat.le_refl _) _
  go_wp2_with fail
  refine (x27 rfl _ (H7.below (hbl7 _) (Nat.le_refl _)) (slI_new (xs := [0]) (by decide))).mono ?_
  rintro e we ⟨rfl, hbd⟩
  replace B0 := btr (btr B0 (hbl7 _) (Nat.le_refl _)) hbd (Nat.le_refl _)
  clear H7 hbl7 hbd
  go_wp2
  refine HK.out _ _ ?_; clear HK K
  refine wp_seq_k (fun K hK => ?_)
  have HK := Lib.hid hK; clear hK
  go_wp2_with (first | (go_at_call 39; refine (L_any _).mono ?_; rintro e wa10 ⟨va, rfl, ha, hba⟩) | (go_at_call 40; refine (W_any _).mono ?_; rintro e wb10 ⟨vb, rfl, hb, hbb⟩) | (go_at_call 35; refine (x35 e3 c1 _ (ha.below hbb (Nat.le_refl _)) hb).mono ?_; rintro e wc10 ⟨v15, rfl, H15, hbc⟩))
  refine HK.out _ _ ?_; clear HK K
  replace B0 := (btr (btr (btr B0 hba (Nat.le_refl _)) hbb (Nat.le_refl _)) hbc (Nat.le_refl _))
  clear hba hbb hbc ha hb
  refine wp_seq_k (fun K hK => ?_)
  have HK := Lib.hid hK; clear hK
  go_wp2_with (first | (go_at_call 39; refine (L_any _).mono ?_; rintro e wa11 ⟨va, rfl, ha, hba⟩) | (go_at_call 42; refine (V_any _).mono ?_; rintro e wb11 ⟨vb, rfl, hb, hbb⟩) | (go_at_call 18; refine (x18 e2 k1 _ (ha.below hbb (Nat.le_refl _)) hb).mono ?_; rintro e wc11 ⟨rfl, hbc⟩))
  refine HK.out _ _ ?_; clear HK K
  replace H15 := (((H15.below hba (Nat.le_refl _)).below hbb (Nat.le_refl _)).below hbc (Nat.le_refl _))
  replace B0 := (btr (btr (btr B0 hba (Nat.le_refl _)) hbb (Nat.le_refl _)) hbc (Nat.le_refl _))
  clear hba hbb hbc ha hb
  refine wp_seq_k (fun K hK => ?_)
  have HK := Lib.hid hK; clear hK
  go_wp2_with (first | (go_at_call 39; refine (L_any _).mono ?_; rintro e wa12 ⟨va, rfl, ha, hba⟩) | (go_at_call 40; refine (W_any _).mono ?_; rintro e wb12 ⟨vb, rfl, hb, hbb⟩) | (go_at_call 37; refine (x37 m1 m2 _ (ha.below hbb (Nat.le_refl _)) hb).mono ?_; rintro e wc12 ⟨v17, rfl, H17, hbc⟩))
  refine HK.out _ _ ?_; clear HK K
  replace H15 := (((H15.below hba (Nat.le_refl _)).below hbb (Nat.le_refl _)).below hbc (Nat.le_refl _))
  replace B0 := (btr (btr (btr B0 hba (Nat.le_refl _)) hbb (Nat.le_refl _)) hbc (Nat.le_refl _))
  clear hba hbb hbc ha hb
  refine wp_seq_k (fun K hK => ?_)
  have HK := Lib.hid hK; clear hK
  go_wp2_with (first | (go_at_call 39; refine (L_any _).mono ?_; rintro e wa13 ⟨va, rfl, ha, hba⟩) | (go_at_call 47; refine (S_any _).mono ?_; rintro e wb13 ⟨vb, rfl, hb, hbb⟩; have hbl : ∀ o, Below wb13.heap.size wb13 (wb13.alloc o) := fun o => (Below.refl _ _).alloc (Nat.le_refl _) _) | (go_at_call 25; refine (x25 d1 d2 d3 _ ((ha.below hbb (Nat.le_refl _)).below (hbl _) (Nat.le_refl _)) (hb.below (hbl _) (Nat.le_refl _)) (slI_new (xs := [0, 0, 0, 1, 0, 1, 0]) (by decide))).mono ?_; rintro e wc13 ⟨v18, v19, rfl, H18, H19, hbc⟩))
  refine HK.out _ _ ?_; clear HK K
  replace H15 := ((((H15.below hba (Nat.le_refl _)).below hbb (Nat.le_refl _)).below (hbl _) (Nat.le_refl _)).below hbc (Nat.le_refl _))
  replace H17 := ((((H17.below hba (Nat.le_refl _)).below hbb (Nat.le_refl _)).below (hbl _) (Nat.le_refl _)).below hbc (Nat.le_refl _))
  replace B0 := (btr (btr (btr (btr B0 hba (Nat.le_refl _)) hbb (Nat.le_refl _)) (hbl _) (Nat.le_refl _)) hbc (Nat.le_refl _))
  clear hba hbb hbc ha hb hbl
  have hbl : ∀ o, Below wc13.heap.size wc13 (wc13.alloc o) := fun o => (Below.refl _ _).alloc (Nat.le_refl _) _
  go_wp2_with fail
  refine (x27 rfl _ (H15.below (hbl _) (Nat.le_refl _)) (slI_new (xs := [0, 1]) (by decide))).mono ?_
  rintro e wd1 ⟨rfl, hbd⟩
  replace B0 := btr (btr B0 (hbl _) (Nat.le_refl _)) hbd (Nat.le_refl _)
  replace H17 := (H17.below (hbl _) (Nat.le_refl _)).below hbd (Nat.le_refl _)
  replace H18 := (H18.below (hbl _) (Nat.le_refl _)).below hbd (Nat.le_refl _)
  replace H19 := (H19.below (hbl _) (Nat.le_refl _)).below hbd (Nat.le_refl _)
  clear H15 hbl hbd
  have hbl : ∀ o, Below wd1.heap.size wd1 (wd1.alloc o) := fun o => (Below.refl _ _).alloc (Nat.le_refl _) _
  go_wp2_with fail
  refine (x36 rfl _ (H17.below (hbl _) (Nat.le_refl _)) (slT_new (ts := [(4, 6), (5, 0)]) (by decide))).mono ?_
  rintro e wd2 ⟨rfl, hbd⟩
  replace B0 := btr (btr B0 (hbl _) (Nat.le_refl _)) hbd (Nat.le_refl _)
  replace H18 := (H18.below (hbl _) (Nat.le_refl _)).below hbd (Nat.le_refl _)
  replace H19 := (H19.below (hbl _) (Nat.le_refl _)).below hbd (Nat.le_refl _)
  clear H17 hbl hbd
  have hbl : ∀ o, Below wd2.heap.size wd2 (wd2.alloc o) := fun o => (Below.refl _ _).alloc (Nat.le_refl _) _
  go_wp2_with fail
  refine (x28 rfl _ (H18.below (hbl _) (Nat.le_refl _)) (slB_new (xs := [true, true, true, true, false, true, false]) (by decide))).mono ?_
  rintro e wd3 ⟨rfl, hbd⟩
  replace B0 := btr (btr B0 (hbl _) (Nat.le_refl _)) hbd (Nat.le_refl _)
  replace H19 := (H19.below (hbl _) (Nat.le_refl _)).below hbd (Nat.le_refl _)
  clear H18 hbl hbd
  have hbl : ∀ o, Below wd3.heap.size wd3 (wd3.alloc o) := fun o => (Below.refl _ _).alloc (Nat.le_refl _) _
  go_wp2_with fail
  refine (x36 rfl _ (H19.below (hbl _) (Nat.le_refl _)) (slT_new (ts := [(3, 6), (4, 0)]) (by decide))).mono ?_
  rintro e wd4 ⟨rfl, hbd⟩
  replace B0 := btr (btr B0 (hbl _) (Nat.le_refl _)) hbd (Nat.le_refl _)
  clear H19 hbl hbd
  go_wp2
  go_ret
  exact ⟨rfl, B0⟩
end Yteijenefhoconaa
end Go.Proofs
