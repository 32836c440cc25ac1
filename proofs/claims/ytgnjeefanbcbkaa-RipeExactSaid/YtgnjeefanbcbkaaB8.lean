/- Fields: regrets and the week to cut. -/
import Derived.Test.YtgnjeefanbcbkaaB5
open Go Go.RowKit Go.YtgnjeefanbcbkaaIt
namespace Go.Proofs
namespace Ytgnjeefanbcbkaa
def regretE (n lo hi : Int) (ss : List Smp) (x : Int) : Int := if posE n lo hi ss ≠ 0 then posE n lo hi ss else if btw 0 x (n - 1) = false then 5 else 0
def regretV (n lo hi : Int) (ss : List Smp) (x : Int) : Int := if regretE n lo hi ss x = 0 then (regF (lowAt lo ss) (highAt hi ss) n.toNat x.toNat).ceil else 0
theorem reg_bd {n : Nat} {L H : Nat → Int} (hb : Bds n L H) {x : Nat} (hx : x < n) : Big (regF L H n x) := by rw [← regPre_end]; exact regPre_bd hb hx (Nat.le_refl _)
set_option maxRecDepth 100000 in
set_option maxHeartbeats 4000000 in
theorem regretF_any (n lo hi : Int) (v : Value) (ss : List Smp) (x : Int) (w : World) (hv : SlS w v ss) :
    Calls Try.prog 29 #[.agg #[.int .i64 n, .int .i64 lo, .int .i64 hi, v], .int .i64 x] w fun e w' => e = .returned (.tuple #[.int .i64 (regretV n lo hi ss x), .int .i64 (regretE n lo hi ss x)]) ∧ Below w.heap.size w w' := by
  have HV := Lib.hid hv
  obtain ⟨ad, cap, rfl, -, -, -⟩ := hv
  obtain ⟨RV, hRV⟩ : ∃ R, R = regretV n lo hi ss x := ⟨_, rfl⟩
  obtain ⟨RE, hRE⟩ : ∃ R, R = regretE n lo hi ss x := ⟨_, rfl⟩
  rw [← hRV, ← hRE]
  have HRV := Lib.hid hRV
  have HRE := Lib.hid hRE
  clear hRV hRE
  go_enter Try.func29, Try.ntmps29
  refine wp_seq_k (fun K hK => ?_)
  have HK := Lib.hid hK; clear hK
  go_wp2
  refine HK.out _ _ ?_; clear HK K
  generalize hw1 : World.alloc _ _ = w1
  obtain ⟨b1, hB, hs1⟩ := blk1 hw1
  clear hw1
  have h40 := possible_any n lo hi _ ss w1 (HV.out.below hB (Nat.le_refl _))
  obtain ⟨E, hE⟩ : ∃ E, E = posE n lo hi ss := ⟨_, rfl⟩
  rw [← hE] at h40
  have HE := Lib.hid hE
  have H40 := Lib.hid h40
  clear hE h40
  by_cases h0 : E = 0
  · subst h0
    refine wp_seq_k (fun K hK => ?_)
    have HK := Lib.hid hK; clear hK
    go_wp2_with (first | (refine wpList_load_blk rfl 26 _ rfl _ rfl b1 Try.underlying26 rfl size26 rfl ?_) | (go_at_call 40; refine H40.out.mono ?_; rintro e w2 ⟨p, rfl, hpr, hb2⟩))
    refine HK.out _ _ ?_; clear HK K H40
    replace b1 := blk_keep b1 hb2
    replace hB := btr hB hb2 (Nat.le_refl _)
    rcases hpr with ⟨-, m, b, rfl, hV, -, rfl, hyr⟩ | ⟨h, -⟩
    · have hn1 := hV.n1
      have hn30 := hV.n30
      have HB := Lib.hid hV.bds
      have c0 := cell_blk (i := 0) b1
      simp only [List.getElem?_toArray, List.getElem?_cons_zero] at c0
      have hw1 : IntKind.i64.wrap ((m : Int) - 1) = (m : Int) - 1 := by rw [IntKind.wrap_i64]; omega
      have h51 := fun W => between_any 0 x ((m : Int) - 1) W
      obtain ⟨q, hq⟩ : ∃ q, q = btw 0 x ((m : Int) - 1) := ⟨_, rfl⟩
      rw [← hq] at h51
      have H51 := Lib.hid h51
      have HQ := Lib.hid hq
      clear h51 hq hV
      cases q
      · have he : RE = 5 := by rw [HRE.out]; unfold regretE; rw [if_neg (by rw [← HE.out]; simp), if_pos HQ.out.symm]
        have hr : RV = 0 := by rw [HRV.out]; unfold regretV; rw [if_neg (by rw [← HRE.out, he]; decide)]
        subst he hr
        clear hyr
        go_wp2_with (go_at_call 51; refine (H51.out _).mono ?_; rintro e w3 ⟨rfl, hw3⟩; subst hw3)
        go_ret2
        exact ⟨rfl, hB⟩
      · have he : RE = 0 := by rw [HRE.out]; unfold regretE; rw [if_neg (by rw [← HE.out]; simp), if_neg (by rw [← HQ.out]; simp)]
        have hbx := btw_true.1 HQ.out.symm
        obtain ⟨xn, rfl⟩ := Int.eq_ofNat_of_zero_le hbx.1
        have hxm : xn < m := by omega
        have hr : RV = (regF (lowAt lo ss) (highAt hi ss) m xn).ceil := by rw [HRV.out]; unfold regretV; rw [if_pos (by rw [← HRE.out, he])]; rfl
        have h69 := regret_any HB.out hxm hyr
        have h44 := fun W => ceil_any _ W (reg_bd HB.out hxm)
        rw [← hr] at h44
        have H69 := Lib.hid h69
        have H44 := Lib.hid h44
        subst he
        clear hr h69 h44 hyr hbx
        go_wp2_with (first | (go_at_call 51; refine (H51.out _).mono ?_; rintro e w3 ⟨rfl, hw3⟩; subst hw3) | (go_at_call 69; refine H69.out.mono ?_; rintro e w4 ⟨rfl, hb4⟩) | (go_at_call 44; refine (H44.out _).mono ?_; rintro e w5 ⟨rfl, hb5⟩))
        go_ret2
        exact ⟨rfl, btr (btr hB hb4 (Nat.le_refl _)) hb5 (Nat.le_refl _)⟩
    · exact absurd HE.out.symm h
  · have hne : (E != 0) = true := by simpa using h0
    have he : RE = E := by rw [HRE.out]; unfold regretE; rw [← HE.out, if_pos h0]
    have hr : RV = 0 := by rw [HRV.out]; unfold regretV; rw [if_neg (by rw [← HRE.out, he]; exact h0)]
    subst he hr
    clear h0
    go_wp2_with (first | (refine wpList_load_blk rfl 26 _ rfl _ rfl b1 Try.underlying26 rfl size26 rfl ?_) | (go_at_call 40; refine H40.out.mono ?_; rintro e w2 ⟨p, rfl, hpr, hb2⟩))
    go_ret2
    exact ⟨rfl, btr hB hb2 (Nat.le_refl _)⟩
/-- The first week with the least regret, of weeks up to c. -/
def cutS (f : Nat → Fr) : Nat → Nat × Fr
  | 0 => (0, f 0)
  | c + 1 => if (f (c + 1)).lt (cutS f c).2 then (c + 1, f (c + 1)) else cutS f c
theorem cutS_mem (f : Nat → Fr) : ∀ c, ∃ i, i ≤ c ∧ cutS f c = (i, f i)
  | 0 => ⟨0, Nat.le_refl _, rfl⟩
  | c + 1 => by
    unfold cutS
    split
    · exact ⟨c + 1, Nat.le_refl _, rfl⟩
    · obtain ⟨i, hi, he⟩ := cutS_mem f c
      exact ⟨i, by omega, he⟩
def cutW (n lo hi : Int) (ss : List Smp) : Int := if posE n lo hi ss = 0 then ((cutS (regF (lowAt lo ss) (highAt hi ss) n.toNat) (n.toNat - 1)).1 : Int) else 0
def cutV (n lo hi : Int) (ss : List Smp) : Int := if posE n lo hi ss = 0 then (cutS (regF (lowAt lo ss) (highAt hi ss) n.toNat) (n.toNat - 1)).2.ceil else 0
set_option maxRecDepth 100000 in
set_option maxHeartbeats 4000000 in
theorem cut_any (n lo hi : Int) (v : Value) (ss : List Smp) (w : World) (hv : SlS w v ss) :
    Calls Try.prog 31 #[.agg #[.int .i64 n, .int .i64 lo, .int .i64 hi, v]] w fun e w' => e = .returned (.tuple #[.int .i64 (cutW n lo hi ss), .int .i64 (cutV n lo hi ss), .int .i64 (posE n lo hi ss)]) ∧ Below w.heap.size w w' := by
  have HV := Lib.hid hv
  obtain ⟨ad, cap, rfl, -, -, -⟩ := hv
  obtain ⟨CW, hCW⟩ : ∃ R, R = cutW n lo hi ss := ⟨_, rfl⟩
  obtain ⟨CV, hCV⟩ : ∃ R, R = cutV n lo hi ss := ⟨_, rfl⟩
  rw [← hCW, ← hCV]
  have HCW := Lib.hid hCW
  have HCV := Lib.hid hCV
  clear hCW hCV
  go_enter Try.func31, Try.ntmps31
  refine wp_seq_k (fun K hK => ?_)
  have HK := Lib.hid hK; clear hK
  go_wp2
  refine HK.out _ _ ?_; clear HK K
  generalize hw1 : World.alloc _ _ = w1
  obtain ⟨b1, hB, hs1⟩ := blk1 hw1
  clear hw1
  have h40 := possible_any n lo hi _ ss w1 (HV.out.below hB (Nat.le_refl _))
  obtain ⟨E, hE⟩ : ∃ E, E = posE n lo hi ss := ⟨_, rfl⟩
  rw [← hE] at h40
  have HE := Lib.hid hE
  have H40 := Lib.hid h40
  clear hE h40
  by_cases h0 : E = 0
  · subst h0
    refine wp_seq_k (fun K hK => ?_)
    have HK := Lib.hid hK; clear hK
    go_wp2_with (first | (refine wpList_load_blk rfl 26 _ rfl _ rfl b1 Try.underlying26 rfl size26 rfl ?_) | (go_at_call 40; refine H40.out.mono ?_; rintro e w2 ⟨p, rfl, hpr, hb2⟩))
    refine HK.out _ _ ?_; clear HK K H40
    replace b1 := blk_keep b1 hb2
    replace hB := btr hB hb2 (Nat.le_refl _)
    rcases hpr with ⟨-, m, b, rfl, hV, -, rfl, hyr⟩ | ⟨h, -⟩
    · have hn1 := hV.n1
      have hn30 := hV.n30
      have HB := Lib.hid hV.bds
      have HY := Lib.hid hyr
      have h69 := regret_any HB.out (show 0 < m by omega) hyr
      obtain ⟨f, hf⟩ : ∃ f, f = regF (lowAt lo ss) (highAt hi ss) m := ⟨_, rfl⟩
      have hW : CW = ((cutS f (m - 1)).1 : Int) := by rw [HCW.out]; unfold cutW; rw [if_pos HE.out.symm, hf]; rfl
      have hVv : CV = (cutS f (m - 1)).2.ceil := by rw [HCV.out]; unfold cutV; rw [if_pos HE.out.symm, hf]; rfl
      rw [← hf] at h69
      have HF := Lib.hid hf
      have HW2 := Lib.hid hW
      have HV2 := Lib.hid hVv
      have H69 := Lib.hid h69
      have h69 := fun (x : Nat) (hx : x < m) W (hW : Below w2.heap.size w2 W) => regret_any HB.out hx (HY.out.keep hW)
      rw [← HF.out] at h69
      have H69b := Lib.hid h69
      have hbd := fun (x : Nat) (hx : x < m) => reg_bd HB.out hx
      rw [← HF.out] at hbd
      have HBD := Lib.hid hbd
      clear h69 hyr hV hW hVv hf hbd hb2 HF
      refine wp_seq_k (fun K hK => ?_)
      have HK := Lib.hid hK; clear hK
      go_wp2
      refine HK.out _ _ ?_; clear HK K
      refine wp_seq_k (fun K hK => ?_)
      have HK := Lib.hid hK; clear hK
      go_wp2_with (go_at_call 69; refine H69.out.mono ?_; rintro e w3 ⟨rfl, hb3⟩)
      refine HK.out _ _ ?_; clear HK K H69
      generalize hw4 : World.alloc _ _ = w4
      obtain ⟨b6, hB4, hs4⟩ := blk1 hw4
      clear hw4
      have hBa := btr hb3 hB4 (Nat.le_refl _)
      have hl1 : w.heap.size < w2.heap.size := lt_blk b1
      replace b1 := blk_keep b1 hBa
      have hl6 : w2.heap.size ≤ w3.heap.size := hb3.size
      generalize hp6 : w3.heap.size = p6 at *
      clear hb3 hB4 hs4 hp6 w3
      go_wp2
      go_loopw [2, 7] (fun q i wr => ∃ c : Nat, c < m ∧ q = .int .i64 ((cutS f c).1 : Nat) ∧ i = .int .i64 ((c + 1 : Nat) : Int) ∧ wr.heap[w.heap.size]? = some (.cells #[.int .i64 (m : Int), .int .i64 lo, .int .i64 hi, .slice ad ss.length cap] 26 (0, 0)) ∧ wr.heap[p6]? = some (.cells #[.int .i64 (cutS f c).2.o, .int .i64 (cutS f c).2.u] 93 (0, 0)) ∧ Below w2.heap.size w2 wr) (fun _ i _ => m - (intOf i).toNat)
      case atStart => exact ⟨0, by omega, rfl, rfl, b1, b6, hBa⟩
      case round =>
        clear b1 b6 hBa
        obtain ⟨c, hcm, rfl, rfl, b1, b6, hBa⟩ := hrel
        have c0 := cell_blk (i := 0) b1
        simp only [List.getElem?_toArray, List.getElem?_cons_zero] at c0
        by_cases hc1 : c + 1 < m
        · have hci : ((c + 1 : Nat) : Int) < (m : Int) := by omega
          have h69 := H69b.out (c + 1) hc1 wr hBa
          obtain ⟨ci, hci2, hce⟩ := cutS_mem f c
          have hbz := HBD.out ci (by omega)
          have hby := HBD.out (c + 1) hc1
          have hst : cutS f (c + 1) = if (f (c + 1)).lt (cutS f c).2 then (c + 1, f (c + 1)) else cutS f c := rfl
          rw [hce] at hst b6
          rw [hce]
          have h63 := fun W => compare_any (f (c + 1)) (f ci) W hby hbz
          have hcd : decide (cmpI (f (c + 1)) (f ci) < 0) = (f (c + 1)).lt (f ci) := by unfold Fr.lt; rw [decide_eq_decide]; exact cmp_neg _ _
          generalize f (c + 1) = y at *
          generalize hfz : f ci = z at *
          simp only at b6 hst
          generalize hk1 : c + 1 = c1 at *
          generalize cmpI y z = cc at *
          obtain ⟨tl, htl⟩ : ∃ t, t = y.lt z := ⟨_, rfl⟩
          rw [← htl] at hst hcd
          have hw1 : IntKind.i64.wrap ((c1 : Int) + 1) = ((c1 + 1 : Nat) : Int) := by rw [IntKind.wrap_i64]; omega
          have HST := Lib.hid hst
          have H69 := Lib.hid h69
          have H63 := Lib.hid h63
          have HC1 := Lib.hid hk1
          clear hst h69 h63 hce hbz hby htl hfz hk1 hci2
          have hcd := hcd
          cases tl
          · go_wp2_with (first | (go_at_call 69; refine H69.out.mono ?_; rintro e w5 ⟨rfl, hb5⟩; have b65 := blk_keep b6 hb5; have b15 := blk_keep b1 hb5; have b65o := fun o => (heap_oldI (w := w5) (o := o) (lt_blk b65)).trans b65) | (refine wpList_load_blk rfl 93 _ rfl _ rfl (heap_newI rfl) Try.underlying93 rfl size93 rfl ?_) | (refine wpList_load_blk rfl 93 _ rfl _ rfl (b65o _) Try.underlying93 rfl size93 rfl ?_) | (go_at_call 63; refine (H63.out _).mono ?_; rintro e w6 ⟨rfl, hb6⟩))
            have hb56 : Below w5.heap.size w5 w6 := ((Below.refl w5.heap.size w5).alloc (Nat.le_refl _) _).trans (hb6.mono (by rw [World.size_alloc]; omega))
            have b66 := blk_keep b65 hb56
            have b16 := blk_keep b15 hb56
            have hB6 := btr (btr hBa hb5 (Nat.le_refl _)) hb56 (Nat.le_refl _)
            clear b1 b6 b15 b65 b65o hb5 hb6 hb56 hBa c0 H69 H63 hcd
            go_wp2
            go_roundw
            case rel => exact ⟨c1, by omega, by rw [HST.out]; rfl, by go_num, b16, by rw [HST.out]; exact b66, hB6⟩
            case measure => simp [intOf]; omega
          · go_wp2_with (first | (go_at_call 69; refine H69.out.mono ?_; rintro e w5 ⟨rfl, hb5⟩; have b65 := blk_keep b6 hb5; have b15 := blk_keep b1 hb5; have b65o := fun o => (heap_oldI (w := w5) (o := o) (lt_blk b65)).trans b65) | (refine wpList_load_blk rfl 93 _ rfl _ rfl (heap_newI rfl) Try.underlying93 rfl size93 rfl ?_) | (refine wpList_load_blk rfl 93 _ rfl _ rfl (b65o _) Try.underlying93 rfl size93 rfl ?_) | (go_at_call 63; refine (H63.out _).mono ?_; rintro e w6 ⟨rfl, hb6⟩))
            have hb56 : Below w5.heap.size w5 w6 := ((Below.refl w5.heap.size w5).alloc (Nat.le_refl _) _).trans (hb6.mono (by rw [World.size_alloc]; omega))
            have b8 := blk_keep (heap_newI (w := w5) rfl) hb6
            have b66 := blk_keep b65 hb56
            have b16 := blk_keep b15 hb56
            have hB6 := btr (btr hBa hb5 (Nat.le_refl _)) hb56 (Nat.le_refl _)
            have hp85 : p6 < w5.heap.size := lt_blk b65
            clear b1 b6 b15 b65 b65o hb5 hb6 hb56 hBa c0 H69 H63 hcd
            rename_i K2 hK2
            have HK2 := Lib.hid hK2; clear hK2
            have hS0 : Below w6.heap.size w6 w6.drew := (Below.refl _ _).drew
            have hp8 : w5.heap.size < w6.heap.size := lt_blk b8
            generalize hp8e : w5.heap.size = p8 at *
            refine wp_region_z (S := fun U => Below w6.heap.size w6 U) (z := 3) (by kernel_rfl) ?_
            change wpAnyZ _ _ _ _ _ _ _ _ _ (World.drew w6)
            have hBwq := hS0
            generalize World.drew w6 = wq at *
            refine wpAnyZ_take (i := 0) (oi := { dst := some 32, op := _, type := _, pos := _, after := _, guard := none }) (v := ?_) rfl (by kernel_rfl) (by kernel_rfl) (by kernel_rfl) (fun _ _ _ h => h) (Or.inl ⟨by rfl, ?_⟩) (by first | exact hS0 | assumption) ?_
            rotate_left
            · intro U hU
              go_simp
              all_goals with_reducible rfl
            simp only [Act.put, List.setIfInBounds_toArray, List.set_cons_zero, List.set_cons_succ]
            refine wpAnyZ_take (i := 1) (oi := { dst := some 33, op := _, type := _, pos := _, after := _, guard := none }) (v := ?_) rfl (by kernel_rfl) (by kernel_rfl) (by kernel_rfl) (fun _ _ _ h => h) (Or.inl ⟨by rfl, ?_⟩) (by first | exact hS0 | assumption) ?_
            rotate_left
            · refine yields_load_blk 93 (.tmp 8) ?_ _ ?_ (fun U hU => blk_keep b8 hU) Try.underlying93 rfl size93 rfl
              all_goals rfl
            simp only [Act.put, List.setIfInBounds_toArray, List.set_cons_zero, List.set_cons_succ]
            refine wpAnyZ_one (i := 2) (o := { dst := some 2, op := _, type := _, pos := _, after := _, guard := none }) (by kernel_rfl) rfl (by rfl) (fun K1 hK1 => ?_)
            have HK1 := Lib.hid hK1; clear hK1
            go_simp
            refine HK1.out _ _ (fun _ => hBwq) ?_
            clear HK1 K1
            try simp only [Act.put, List.setIfInBounds_toArray, List.set_cons_zero, List.set_cons_succ]
            have b6q := blk_keep b66 hBwq
            refine wpAnyZ_last (o := { dst := none, op := _, type := _, pos := _, after := _, guard := none }) (by kernel_rfl) (by kernel_rfl) rfl (by rfl) (fun K1 hK1 => ?_)
            have HK1 := Lib.hid hK1; clear hK1
            refine oper_store_blk 93 (.tmp 6) (.tmp 33) rfl _ rfl rfl b6q size93 rfl rfl (oneFr _) ?_
            refine HK1.out _ _ ?_
            clear HK1 K1
            have hne : w.heap.size ≠ p6 := by omega
            have hbn1 := (World.putObj_heap_other (w := wq) (o := .cells #[.int .i64 y.o, .int .i64 y.u] 93 (0, 0)) hne).trans (blk_keep b16 hBwq)
            have hbn6 := World.putObj_heap_same (w := wq) (o := .cells #[.int .i64 y.o, .int .i64 y.u] 93 (0, 0)) (lt_blk (blk_keep b66 hBwq))
            have hBn : Below w2.heap.size w2 (wq.putObj p6 (.cells #[.int .i64 y.o, .int .i64 y.u] 93 (0, 0))) := below_putObj (btr hB6 hBwq (Nat.le_refl _)) hl6
            clear hS0 hBwq b8 b66 b16 hB6 b6q
            show K2 _ _
            refine HK2.out _ _ ?_
            clear HK2 K2
            go_wp2
            go_roundw
            case rel => exact ⟨c1, by omega, by rw [HST.out]; rfl, by go_num, hbn1, by rw [HST.out]; exact hbn6, hBn⟩
            case measure => simp [intOf]; omega
        · have hce : c = m - 1 := by omega
          have hci : ¬ ((c + 1 : Nat) : Int) < (m : Int) := by omega
          obtain ⟨ci, hci2, hcce⟩ := cutS_mem f c
          have h44 := fun W => ceil_any _ W (HBD.out ci (by omega))
          have hw2 : CW = (ci : Int) := by rw [HW2.out, ← hce, hcce]
          have hv2 : CV = (f ci).ceil := by rw [HV2.out, ← hce, hcce]
          rw [hcce] at b6 ⊢
          rw [← hv2] at h44
          have H44 := Lib.hid h44
          simp only at b6
          generalize f ci = z at *
          have HWW := Lib.hid hw2
          clear h44 hw2 hv2 hcce hce
          go_wp2_with (first | (refine wpList_load_blk rfl 93 _ rfl _ rfl b6 Try.underlying93 rfl size93 rfl ?_) | (go_at_call 44; refine (H44.out _).mono ?_; rintro e w6 ⟨rfl, hb6⟩))
          go_ret3
          exact ⟨by rw [HWW.out, ← HE.out]; rfl, btr (btr hB hBa (Nat.le_refl _)) hb6 (Nat.le_refl _)⟩
    · exact absurd HE.out.symm h
  · have hne : (E != 0) = true := by simpa using h0
    have hr : CW = 0 := by rw [HCW.out]; unfold cutW; rw [if_neg (by rw [← HE.out]; exact h0)]
    have hr2 : CV = 0 := by rw [HCV.out]; unfold cutV; rw [if_neg (by rw [← HE.out]; exact h0)]
    subst hr hr2
    clear h0
    go_wp2_with (first | (refine wpList_load_blk rfl 26 _ rfl _ rfl b1 Try.underlying26 rfl size26 rfl ?_) | (go_at_call 40; refine H40.out.mono ?_; rintro e w2 ⟨p, rfl, hpr, hb2⟩))
    go_ret3
    exact ⟨by rw [← HE.out]; rfl, btr hB hb2 (Nat.le_refl _)⟩
end Ytgnjeefanbcbkaa
end Go.Proofs
