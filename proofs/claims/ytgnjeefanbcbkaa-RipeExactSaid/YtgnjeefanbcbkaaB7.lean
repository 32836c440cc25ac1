/- Fields: Verify. -/
import Derived.Test.YtgnjeefanbcbkaaB6
open Go Go.RowKit Go.YtgnjeefanbcbkaaIt
namespace Go.Proofs
namespace Ytgnjeefanbcbkaa
set_option maxRecDepth 100000 in
set_option maxHeartbeats 8000000 in
theorem verify_any (n lo hi : Int) (v vx : Value) (ss : List Smp) (xs : List Int) (w : World) (hv : SlS w v ss) (hx : SlI w vx xs) :
    Calls Try.prog 22 #[.agg #[.int .i64 n, .int .i64 lo, .int .i64 hi, v], vx] w fun e w' => e = .returned (.int .i64 (verE n lo hi ss xs)) ∧ Below w.heap.size w w' := by
  have HV := Lib.hid hv
  have HX := Lib.hid hx
  obtain ⟨ad, cap, rfl, -, -, -⟩ := hv
  obtain ⟨ax, cx, rfl, hxm, hxc, hxx⟩ := hx
  have HXX := Lib.hid hxx
  clear hxx
  obtain ⟨R, hR⟩ : ∃ R, R = verE n lo hi ss xs := ⟨_, rfl⟩
  rw [← hR]
  have HR := Lib.hid hR
  clear hR
  go_enter Try.func22, Try.ntmps22
  refine wp_seq_k (fun K hK => ?_)
  have HK := Lib.hid hK; clear hK
  go_wp2
  refine HK.out _ _ ?_; clear HK K
  generalize hw1 : World.alloc _ _ = w1
  obtain ⟨b1, hB, hs1⟩ := blk1 hw1
  clear hw1
  have h18 := check_any n lo hi _ ss w1 (HV.out.below hB (Nat.le_refl _))
  obtain ⟨E, hE⟩ : ∃ E, E = chkE n lo hi ss := ⟨_, rfl⟩
  rw [← hE] at h18
  have HE := Lib.hid hE
  have H18 := Lib.hid h18
  clear hE h18
  by_cases h0 : E = 0
  · obtain ⟨m, rfl, hV⟩ := chk_ok (HE.out.symm.trans h0)
    subst h0
    have HVAL := Lib.hid hV
    have hv1 : R = if xs.length ≠ 3 then 3 else if xs.any (fun x => !btw 0 x ((m : Int) - 1)) = true then 5 else if hol (lowAt lo ss) (highAt hi ss) (at0 xs 0).toNat (at0 xs 1).toNat (at0 xs 2).toNat = true then 0 else 11 := by
      rw [HR.out]; unfold verE; rw [if_neg (by rw [← HE.out]; simp)]
    have HV1 := Lib.hid hv1
    clear hv1
    refine wp_seq_k (fun K hK => ?_)
    have HK := Lib.hid hK; clear hK
    go_wp2_with (first | (refine wpList_load_blk rfl 26 _ rfl _ rfl b1 Try.underlying26 rfl size26 rfl ?_) | (go_at_call 18; refine H18.out.mono ?_; rintro e w2 ⟨rfl, hb2⟩))
    refine HK.out _ _ ?_; clear HK K H18
    replace b1 := blk_keep b1 hb2
    replace hB := btr hB hb2 (Nat.le_refl _)
    clear hb2 hs1
    by_cases hl : xs.length = 3
    · have hlb : ((xs.length : Int) != 3) = false := by simp; omega
      have hv2 : R = if xs.any (fun x => !btw 0 x ((m : Int) - 1)) = true then 5 else if hol (lowAt lo ss) (highAt hi ss) (at0 xs 0).toNat (at0 xs 1).toNat (at0 xs 2).toNat = true then 0 else 11 := by rw [HV1.out, if_neg (by simpa using hl)]
      have HV2 := Lib.hid hv2
      have hn := hV.n1
      have hn30 := hV.n30
      have h55 := cont55_any (.slice ax xs.length cx) xs 56 #[.pointer (some ⟨w.heap.size, 0, none⟩)] (fun x => !btw 0 x ((m : Int) - 1)) w2 (HX.out.below hB (Nat.le_refl _)) (enters_of Try.func56 (by kernel_rfl) rfl) (fun x _ W hW => out_any (by omega) (blk_keep b1 hW))
      obtain ⟨t5, ht5⟩ : ∃ t, t = xs.any (fun x => !btw 0 x ((m : Int) - 1)) := ⟨_, rfl⟩
      rw [← ht5] at h55
      have H55 := Lib.hid h55
      have HT5 := Lib.hid ht5
      have hmf : ∀ (fn : Fn) (first cap : Array Value) (w : World), (Instr.makeFunc fn first cap).run Try.prog w = .ok (.func fn first cap) w := fun _ _ _ _ => rfl
      have HL3 := Lib.hid hl
      clear hv2 h55 ht5 hV HV1 HR hl
      cases t5
      · have hall : ∀ x ∈ xs, 0 ≤ x ∧ x ≤ (m : Int) - 1 := fun x hx => by
          have := List.any_eq_false.1 HT5.out.symm x hx
          exact btw_true.1 (by simpa using this)
        have hr : R = if hol (lowAt lo ss) (highAt hi ss) (at0 xs 0).toNat (at0 xs 1).toNat (at0 xs 2).toNat = true then 0 else 11 := by rw [HV2.out, if_neg (by rw [← HT5.out]; simp)]
        have HRR := Lib.hid hr
        obtain ⟨bx, ox, hax, hltx, hcx⟩ := HXX.out (by have := HL3.out; omega)
        have y0 := hcx 0 (by have := HL3.out; omega)
        have y1 := hcx 1 (by have := HL3.out; omega)
        have y2 := hcx 2 (by have := HL3.out; omega)
        have z0 := hall (at0 xs 0) (by rw [at0_lt (by have := HL3.out; omega)]; exact List.getElem_mem _)
        have z1 := hall (at0 xs 1) (by rw [at0_lt (by have := HL3.out; omega)]; exact List.getElem_mem _)
        have z2 := hall (at0 xs 2) (by rw [at0_lt (by have := HL3.out; omega)]; exact List.getElem_mem _)
        clear hcx hall hr
        generalize at0 xs 0 = e0 at *
        generalize at0 xs 1 = e1 at *
        generalize at0 xs 2 = e2 at *
        obtain ⟨a0, rfl⟩ := Int.eq_ofNat_of_zero_le z0.1
        obtain ⟨a1, rfl⟩ := Int.eq_ofNat_of_zero_le z1.1
        obtain ⟨a2, rfl⟩ := Int.eq_ofNat_of_zero_le z2.1
        simp only [Int.toNat_natCast] at HRR HV2
        have q0 : a0 < m := by omega
        have q1 : a1 < m := by omega
        have q2 : a2 < m := by omega
        have hl1 : (1 : Int) < (xs.length : Int) := by have := HL3.out; omega
        have hl2 : (2 : Int) < (xs.length : Int) := by have := HL3.out; omega
        have hl0 : (0 : Int) < (xs.length : Int) := by have := HL3.out; omega
        have hm0 : 0 < xs.length := by have := HL3.out; omega
        have hm1 : 1 < xs.length := by have := HL3.out; omega
        have hm2 : 2 < xs.length := by have := HL3.out; omega
        subst hax
        go_wp2_with (go_at_call 55; refine H55.out.mono ?_; rintro e w3 ⟨rfl, hb3⟩)
        rename_i K hK
        have HK := Lib.hid hK; clear hK
        replace b1 := blk_keep b1 hb3
        have hBw := btr hB hb3 (Nat.le_refl _)
        have hltx2 := Nat.lt_of_lt_of_le hltx hBw.size
        have x0 := (hBw.cell (p := ⟨bx, ox + 0, none⟩) hltx).trans y0
        have x1 := (hBw.cell (p := ⟨bx, ox + 1, none⟩) hltx).trans y1
        have x2 := (hBw.cell (p := ⟨bx, ox + 2, none⟩) hltx).trans y2
        replace hltx := hltx2
        clear y0 y1 y2 HX HXX H55 HV2 hltx2 hb3
        have h53 := fun W (hW : Below w.heap.size w W) => year_any m lo hi (.slice ad ss.length cap) ss W HVAL.out (HV.out.below hW (Nat.le_refl _))
        have H53 := Lib.hid h53
        clear h53
        have hS0 : Below w3.heap.size w3 w3.drew := (Below.refl _ _).drew
        refine wp_region_held (S := fun U => Below w3.heap.size w3 U) (by kernel_rfl) ?_
        change wpAnyH _ _ _ _ _ _ _ _ (World.drew w3)
        have hBwq := hS0
        have hBw := hBw.trans (Below.refl _ _)
        generalize World.drew w3 = wq at *
        refine wpAnyH_take (i := 0) (oi := { dst := some 20, op := _, type := _, pos := _, after := _, guard := none }) (v := ?_) rfl (by kernel_rfl) (by kernel_rfl) (by kernel_rfl) (fun _ _ _ h => h) (Or.inl ⟨by rfl, ?_⟩) (by first | exact hS0 | assumption) ?_
        rotate_left
        · refine yields_load_blk 26 (.tmp 2) ?_ _ ?_ (fun U hU => blk_keep b1 hU) Try.underlying26 rfl size26 rfl
          all_goals rfl
        simp only [Act.put, List.setIfInBounds_toArray, List.set_cons_zero, List.set_cons_succ]
        refine wpAnyH_take (i := 2) (oi := { dst := some 22, op := _, type := _, pos := _, after := _, guard := none }) (v := ?_) rfl (by kernel_rfl) (by kernel_rfl) (by kernel_rfl) (fun _ _ _ h => h) (Or.inl ⟨by rfl, ?_⟩) (by first | exact hS0 | assumption) ?_
        rotate_left
        · intro U hU
          go_simp
          all_goals with_reducible rfl
        simp only [Act.put, List.setIfInBounds_toArray, List.set_cons_zero, List.set_cons_succ]
        refine wpAnyH_take (i := 3) (oi := { dst := some 23, op := _, type := _, pos := _, after := _, guard := none }) (v := ?_) rfl (by kernel_rfl) (by kernel_rfl) (by kernel_rfl) (fun _ _ _ h => h) (Or.inl ⟨by rfl, ?_⟩) (by first | exact hS0 | assumption) ?_
        rotate_left
        · intro U hU
          go_simp
          all_goals with_reducible rfl
        simp only [Act.put, List.setIfInBounds_toArray, List.set_cons_zero, List.set_cons_succ]
        refine wpAnyH_take (i := 4) (oi := { dst := some 24, op := _, type := _, pos := _, after := _, guard := none }) (v := ?_) rfl (by kernel_rfl) (by kernel_rfl) (by kernel_rfl) (fun _ _ _ h => h) (Or.inl ⟨by rfl, ?_⟩) (by first | exact hS0 | assumption) ?_
        rotate_left
        · intro U hU
          have u0 := (hU.cell (p := ⟨bx, ox + 0, none⟩) hltx).trans x0
          rw [Nat.add_zero] at u0
          go_simp
          all_goals with_reducible rfl
        simp only [Act.put, List.setIfInBounds_toArray, List.set_cons_zero, List.set_cons_succ]
        refine wpAnyH_take (i := 5) (oi := { dst := some 25, op := _, type := _, pos := _, after := _, guard := none }) (v := ?_) rfl (by kernel_rfl) (by kernel_rfl) (by kernel_rfl) (fun _ _ _ h => h) (Or.inl ⟨by rfl, ?_⟩) (by first | exact hS0 | assumption) ?_
        rotate_left
        · intro U hU
          go_simp
          all_goals with_reducible rfl
        simp only [Act.put, List.setIfInBounds_toArray, List.set_cons_zero, List.set_cons_succ]
        refine wpAnyH_take (i := 6) (oi := { dst := some 26, op := _, type := _, pos := _, after := _, guard := none }) (v := ?_) rfl (by kernel_rfl) (by kernel_rfl) (by kernel_rfl) (fun _ _ _ h => h) (Or.inl ⟨by rfl, ?_⟩) (by first | exact hS0 | assumption) ?_
        rotate_left
        · intro U hU
          go_simp
          all_goals with_reducible rfl
        simp only [Act.put, List.setIfInBounds_toArray, List.set_cons_zero, List.set_cons_succ]
        refine wpAnyH_take (i := 7) (oi := { dst := some 27, op := _, type := _, pos := _, after := _, guard := none }) (v := ?_) rfl (by kernel_rfl) (by kernel_rfl) (by kernel_rfl) (fun _ _ _ h => h) (Or.inl ⟨by rfl, ?_⟩) (by first | exact hS0 | assumption) ?_
        rotate_left
        · intro U hU
          have u1 := (hU.cell (p := ⟨bx, ox + 1, none⟩) hltx).trans x1
          go_simp
          all_goals with_reducible rfl
        simp only [Act.put, List.setIfInBounds_toArray, List.set_cons_zero, List.set_cons_succ]
        refine wpAnyH_take (i := 8) (oi := { dst := some 28, op := _, type := _, pos := _, after := _, guard := none }) (v := ?_) rfl (by kernel_rfl) (by kernel_rfl) (by kernel_rfl) (fun _ _ _ h => h) (Or.inl ⟨by rfl, ?_⟩) (by first | exact hS0 | assumption) ?_
        rotate_left
        · intro U hU
          go_simp
          all_goals with_reducible rfl
        simp only [Act.put, List.setIfInBounds_toArray, List.set_cons_zero, List.set_cons_succ]
        refine wpAnyH_take (i := 9) (oi := { dst := some 29, op := _, type := _, pos := _, after := _, guard := none }) (v := ?_) rfl (by kernel_rfl) (by kernel_rfl) (by kernel_rfl) (fun _ _ _ h => h) (Or.inl ⟨by rfl, ?_⟩) (by first | exact hS0 | assumption) ?_
        rotate_left
        · intro U hU
          go_simp
          all_goals with_reducible rfl
        simp only [Act.put, List.setIfInBounds_toArray, List.set_cons_zero, List.set_cons_succ]
        refine wpAnyH_take (i := 10) (oi := { dst := some 30, op := _, type := _, pos := _, after := _, guard := none }) (v := ?_) rfl (by kernel_rfl) (by kernel_rfl) (by kernel_rfl) (fun _ _ _ h => h) (Or.inl ⟨by rfl, ?_⟩) (by first | exact hS0 | assumption) ?_
        rotate_left
        · intro U hU
          have u2 := (hU.cell (p := ⟨bx, ox + 2, none⟩) hltx).trans x2
          go_simp
          all_goals with_reducible rfl
        simp only [Act.put, List.setIfInBounds_toArray, List.set_cons_zero, List.set_cons_succ]
        refine wpAnyH_one (i := 1) (o := { dst := some 21, op := _, type := _, pos := _, after := _, guard := none }) (by kernel_rfl) rfl (by rfl) (fun K1 hK1 => ?_)
        have HK1 := Lib.hid hK1; clear hK1
        refine oper_callg (c := .func 53) (f := 53) (lb := #[]) (xs := #[.tmp 20]) (ts := _) rfl rfl (enters_of Try.func53 (by kernel_rfl) rfl) rfl (R := fun v w' => ∃ b, v = .pointer (some ⟨b, 0, none⟩) ∧ Yr w' b m (lowAt lo ss) (highAt hi ss) ∧ Below wq.heap.size wq w') ((H53.out wq (hBw.trans (hBwq.mono hBw.size))).mono fun e w' ⟨b, h1, h2, h3, _⟩ => ⟨_, h1, b, rfl, h2, h3⟩) ?_
        rintro _ w3 ⟨b, rfl, hyr, hb3⟩
        have hB3 := btr hBwq hb3 (Nat.le_refl _)
        refine HK1.out _ _ (hB3) ?_
        clear HK1 K1
        try simp only [Act.put, List.setIfInBounds_toArray, List.set_cons_zero, List.set_cons_succ]
        have h57 := holds_any HVAL.out.bds q0 q1 q2 hyr
        refine wpAnyH_one (i := 11) (o := { dst := some 31, op := _, type := _, pos := _, after := _, guard := none }) (by kernel_rfl) rfl (by rfl) (fun K1 hK1 => ?_)
        have HK1 := Lib.hid hK1; clear hK1
        refine oper_call (f := 57) (xs := #[.tmp 21, .tmp 24, .tmp 27, .tmp 30]) (ts := _) rfl (enters_of Try.func57 (by kernel_rfl) rfl) rfl h57 ?_
        intro w4 hb4
        have hB4 := btr hB3 hb4 (Nat.le_refl _)
        refine HK1.out _ _ (hB4) ?_
        clear HK1 K1
        try simp only [Act.put, List.setIfInBounds_toArray, List.set_cons_zero, List.set_cons_succ]
        refine wpAnyH_one (i := 12) (o := { dst := some 32, op := _, type := _, pos := _, after := _, guard := none }) (by kernel_rfl) rfl (by rfl) (fun K1 hK1 => ?_)
        have HK1 := Lib.hid hK1; clear hK1
        go_simp
        refine HK1.out _ _ (hB4) ?_
        clear HK1 K1
        try simp only [Act.put, List.setIfInBounds_toArray, List.set_cons_zero, List.set_cons_succ]
        refine wpAnyH_one (i := 13) (o := { dst := some 19, op := _, type := _, pos := _, after := _, guard := none }) (by kernel_rfl) rfl (by rfl) (fun K1 hK1 => ?_)
        have HK1 := Lib.hid hK1; clear hK1
        go_simp
        refine HK1.out _ _ (hB4) ?_
        clear HK1 K1
        try simp only [Act.put, List.setIfInBounds_toArray, List.set_cons_zero, List.set_cons_succ]
        refine wpAnyH_done (by kernel_rfl) ?_ _
        have hBE := hBw.trans (hB4.mono hBw.size)
        clear hb3 hb4 hB3 hB4 hBwq hS0 x0 x1 x2 h57 hyr b1
        have HR2 : Hid (R = if hol (lowAt lo ss) (highAt hi ss) a0 a1 a2 = true then 0 else 11) := HRR
        clear HRR
        show K _ _
        refine HK.out _ _ ?_
        cases hth : hol (lowAt lo ss) (highAt hi ss) a0 a1 a2
        · have hr : R = 11 := by have := HR2.out; rw [hth] at this; simpa using this
          subst hr
          clear HR2 hth HK K
          go_wp2
          go_ret
          exact ⟨rfl, hBE⟩
        · have hr : R = 0 := by have := HR2.out; rw [hth] at this; simpa using this
          subst hr
          clear HR2 hth HK K
          go_wp2
          go_ret
          exact ⟨rfl, hBE⟩
      · have hr : R = 5 := by rw [HV2.out, if_pos (by rw [← HT5.out])]
        subst hr
        go_wp2_with (go_at_call 55; refine H55.out.mono ?_; rintro e w3 ⟨rfl, hb3⟩)
        go_ret
        exact ⟨rfl, btr hB hb3 (Nat.le_refl _)⟩
    · have hlb : ((xs.length : Int) != 3) = true := by simp; omega
      have hr : R = 3 := by rw [HV1.out, if_pos hl]
      subst hr
      clear hl
      go_wp2
      go_ret
      exact ⟨rfl, hB⟩
  · have hne : (E != 0) = true := by simpa using h0
    have hpe : R = E := by rw [HR.out]; unfold verE; rw [← HE.out, if_pos h0]
    subst hpe
    clear h0
    go_wp2_with (first | (refine wpList_load_blk rfl 26 _ rfl _ rfl b1 Try.underlying26 rfl size26 rfl ?_) | (go_at_call 18; refine H18.out.mono ?_; rintro e w2 ⟨rfl, hb2⟩))
    go_ret
    exact ⟨rfl, btr hB hb2 (Nat.le_refl _)⟩
end Ytgnjeefanbcbkaa
end Go.Proofs
