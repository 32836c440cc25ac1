/- The law RailSafe returns true. -/
import Derived.Test.YteijenefhoconaaYl
open Go Go.RowKit Go.YteijenefhoconaaIt
namespace Go.Proofs
namespace Yteijenefhoconaa
set_option maxRecDepth 100000 in
set_option maxHeartbeats 2000000 in
theorem railSafe_any (r0 r1 r2 r3 r4 r5 m : Int) (v : Value) (xs : List Tn) (w : World) (hR : ∀ x ∈ [r0, r1, r2, r3, r4, r5], 0 ≤ x ∧ x < 256) (hm : 0 ≤ m ∧ m < 256) (hx : SlP w v xs) :
    Calls Try.prog 6 #[.agg #[.int .u8 r0, .int .u8 r1, .int .u8 r2, .int .u8 r3, .int .u8 r4, .int .u8 r5, .int .u8 m, v]] w fun e w' => e = .returned (.bool true) ∧ Below w.heap.size w w' := by
  have HX := Lib.hid hx
  have HR := Lib.hid hR
  have HMM := Lib.hid hm
  clear hx hR hm
  have hmm := @run_makeMap Try.prog
  go_enter Try.func6, Try.ntmps6
  refine wp_seq_k (fun K hK => ?_)
  have HK := Lib.hid hK; clear hK
  go_wp2
  refine HK.out _ _ ?_; clear HK K
  generalize hw1 : World.alloc _ _ = w1
  have b1 : w1.heap[w.heap.size]? = some (.cells #[.int .u8 r0, .int .u8 r1, .int .u8 r2, .int .u8 r3, .int .u8 r4, .int .u8 r5, .int .u8 m, v] 52 (0, 0)) := by rw [← hw1]; exact heap_newI rfl
  have B : Below w.heap.size w w1 := by rw [← hw1]; exact (Below.refl _ _).alloc (Nat.le_refl _) _
  clear hw1
  go_wp2_with (first | (refine wpList_load_blk rfl 52 _ rfl _ rfl b1 Try.underlying52 rfl size52 rfl ?_) | (go_at_call 30; refine (made6 r0 r1 r2 r3 r4 r5 m v xs _ HR.out HMM.out (HX.out.below B (Nat.le_refl _))).mono ?_; rintro e w2 ⟨vL, vT, L, ts, rfl, hL, hT, hok, hb⟩; replace B := btr B hb (Nat.le_refl _); clear hb b1))
  obtain ⟨he, h4, hl2, hl6, hLb⟩ := hok
  have HV := Lib.hid (show Val L (tos ts) ts from ⟨he, rfl⟩)
  have HL := Lib.hid hL
  have HT := Lib.hid hT
  have HLB := Lib.hid hLb
  clear he hL hT hLb HX HR HMM
  by_cases hs : safeT L ts = true
  rotate_left
  · replace hs : safeT L ts = false := by simpa using hs
    have HS := Lib.hid hs
    clear hs
    refine (y16 HV.out HS.out _ HL.out HT.out).mono ?_
    rintro e w2 ⟨rfl, hb⟩
    have HL := Lib.hid (HL.out.below hb (Nat.le_refl _))
    have HT := Lib.hid (HT.out.below hb (Nat.le_refl _))
    replace B := btr B hb (Nat.le_refl _)
    clear hb
    go_wp2_with fail
    refine (y20n HV.out HS.out _ HL.out HT.out).mono ?_
    rintro e w3 ⟨rfl, hb⟩
    have HL := Lib.hid (HL.out.below hb (Nat.le_refl _))
    have HT := Lib.hid (HT.out.below hb (Nat.le_refl _))
    replace B := btr B hb (Nat.le_refl _)
    clear hb
    go_wp2_with fail
    refine (y31n HV.out h4 HS.out _ HL.out HT.out).mono ?_
    rintro e w4 ⟨rfl, hb⟩
    have HL := Lib.hid (HL.out.below hb (Nat.le_refl _))
    have HT := Lib.hid (HT.out.below hb (Nat.le_refl _))
    replace B := btr B hb (Nat.le_refl _)
    clear hb
    go_wp2_with fail
    refine (works_any _).mono ?_
    rintro e w5 ⟨rfl, hb⟩
    have HL := Lib.hid (HL.out.below hb (Nat.le_refl _))
    have HT := Lib.hid (HT.out.below hb (Nat.le_refl _))
    replace B := btr B hb (Nat.le_refl _)
    clear hb
    go_wp2
    go_ret
    exact ⟨rfl, B⟩
  · have HS := Lib.hid hs
    clear hs
    refine (y16 HV.out HS.out _ HL.out HT.out).mono ?_
    rintro e w6 ⟨rfl, hb⟩
    have HL := Lib.hid (HL.out.below hb (Nat.le_refl _))
    have HT := Lib.hid (HT.out.below hb (Nat.le_refl _))
    replace B := btr B hb (Nat.le_refl _)
    clear hb
    go_wp2_with fail
    refine (y20 HV.out HS.out _ HL.out HT.out).mono ?_
    rintro e w7 ⟨vp, rfl, hp, hb⟩
    have HL := Lib.hid (HL.out.below hb (Nat.le_refl _))
    have HT := Lib.hid (HT.out.below hb (Nat.le_refl _))
    have HP := Lib.hid hp
    replace B := btr B hb (Nat.le_refl _)
    clear hb hp
    go_wp2_with fail
    refine (y31n HV.out h4 HS.out _ HL.out HT.out).mono ?_
    rintro e w8 ⟨rfl, hb⟩
    have HL := Lib.hid (HL.out.below hb (Nat.le_refl _))
    have HT := Lib.hid (HT.out.below hb (Nat.le_refl _))
    have HP := Lib.hid (HP.out.below hb (Nat.le_refl _))
    replace B := btr B hb (Nat.le_refl _)
    clear hb
    have hpl := plan_len (leftT ts) ts rfl HV.out HS.out
    obtain ⟨P, hP⟩ : ∃ P, P = planL L (tos ts) (pos ts) := ⟨_, rfl⟩
    rw [← hP] at hpl
    replace HP := Lib.hid (show SlI _ vp P by rw [hP]; exact HP.out)
    obtain ⟨adP, capP, rfl, hmP, hcP⟩ := HP.out
    have HPE := Lib.hid hP
    have HPL := Lib.hid hpl
    obtain ⟨adt, capt, rfl, hmt, -⟩ := HT.out
    clear hcP hP hpl
    have e1 : ((P.length : Int) == (leftT ts : Int)) = true := by rw [HPL.out]; simp
    have e2 : ((P.length : Int) != (leftT ts : Int)) = false := by rw [HPL.out]; simp
    go_wp2_with fail
    refine (y32 HV.out _ HT.out).mono ?_
    rintro e w9 ⟨rfl, hb⟩
    have HL := Lib.hid (HL.out.below hb (Nat.le_refl _))
    have HT := Lib.hid (HT.out.below hb (Nat.le_refl _))
    have HP := Lib.hid (HP.out.below hb (Nat.le_refl _))
    replace B := btr B hb (Nat.le_refl _)
    clear hb
    have h22 := y22 HV.out HS.out _ HL.out HT.out (vm := .slice adP P.length capP) (by rw [← HPE.out]; exact HP.out)
    rw [← HPE.out] at h22
    go_wp2_with fail
    refine (h22).mono ?_
    rintro e w10 ⟨rfl, hb⟩
    have HL := Lib.hid (HL.out.below hb (Nat.le_refl _))
    have HT := Lib.hid (HT.out.below hb (Nat.le_refl _))
    have HP := Lib.hid (HP.out.below hb (Nat.le_refl _))
    replace B := btr B hb (Nat.le_refl _)
    clear hb
    clear h22
    obtain ⟨adL, capL, rfl, hmL, hcL⟩ := HL.out
    obtain ⟨bL, oL, rfl, -, -⟩ := hcL (by omega)
    clear hcL
    go_wp2_with fail
    go_loopw [4, 72] (fun vt i wr => ∃ (k : Nat) (us : List Tn), k ≤ P.length ∧ i = .int .i64 k ∧ Below w.heap.size w wr ∧ SlI wr (.slice (some ⟨bL, oL, none⟩) L.length capL) L ∧ SlT wr vt us ∧ SlI wr (.slice adP P.length capP) P ∧ Val L (tos ts) us ∧ safeT L us = true ∧ us.length = ts.length ∧ P.drop k = planL L (tos ts) (pos us)) (fun _ i _ => P.length - (intOf i).toNat)
    case atStart => exact ⟨0, ts, Nat.zero_le _, rfl, B, HL.out, HT.out, HP.out, HV.out, HS.out, rfl, by rw [List.drop_zero, HPE.out]⟩
    case round =>
      obtain ⟨k, us, hk, rfl, hB, hl, ht, hp, hv, hs, hn, hd⟩ := hrel
      have HL := Lib.hid hl
      have HT := Lib.hid ht
      have HP := Lib.hid hp
      have HVU := Lib.hid hv
      have HSU := Lib.hid hs
      have HN := Lib.hid hn
      have HD := Lib.hid hd
      have hn4 : us.length ≤ 4 := by omega
      obtain ⟨adu, capu, rfl, hmu, -⟩ := HT.out
      clear B hl ht hp hv hs hn hd
      by_cases hkn : k < P.length
      · have hdr := List.drop_eq_getElem_cons hkn
        have hne : leftT us ≠ 0 := fun e => by have := HD.out; rw [plan_nil HVU.out e, hdr] at this; cases this
        obtain ⟨i, hi, hps, hsi, hpl⟩ := plan_cons HVU.out HSU.out hne
        have hnx : P[k] = (i : Int) ∧ P.drop (k + 1) = planL L (tos ts) (pos (movT us i)) := by
          have h := HD.out
          rw [hdr, hpl] at h
          injection h with h1 h2
          exact ⟨h1, h2⟩
        obtain ⟨b, off, rfl, hlt, hcell⟩ := (show ∃ b off, adP = some ⟨b, off, none⟩ ∧ b < wr.heap.size ∧ ∀ i, i < P.length → wr.cell? ⟨b, off + i, none⟩ = some (.int .i64 (at0 P i)) from by
          obtain ⟨ad, cap, h1, h2, h3⟩ := HP.out
          injection h1 with h4 h5 h6
          subst h4
          exact h3 (by omega))
        have c1 := hcell k hkn
        rw [at0_lt hkn, hnx.1] at c1
        have HNX := Lib.hid hnx
        have HPS := Lib.hid hps
        have HSI := Lib.hid hsi
        clear hdr hpl hnx hps hsi hcell
        go_wp2_with fail
        refine (y33 HVU.out hi HPS.out _ HL.out HT.out).mono ?_
        rintro e w11 ⟨vn, rfl, hvn, hb⟩
        have hm := hvn rfl
        obtain ⟨adn, capn, rfl, hmn, -⟩ := hm
        have HM := Lib.hid (hvn rfl)
        have HL := Lib.hid (HL.out.below hb (Nat.le_refl _))
        have HP := Lib.hid (HP.out.below hb (Nat.le_refl _))
        replace hB := btr hB hb (Nat.le_refl _)
        clear hvn hb c1 hlt
        have hml : (movT us i).length = us.length := movT_len _ _
        have HML := Lib.hid hml
        clear hml
        have HVN := Lib.hid (HVU.out.mov hi HPS.out)
        go_wp2
        go_loopw [96] (fun i wr => ∃ j : Nat, j ≤ L.length ∧ i = .int .i64 j ∧ Below w11.heap.size w11 wr) (fun i _ => L.length - (intOf i).toNat)
        case atStart => exact ⟨0, Nat.zero_le _, rfl, Below.refl _ _⟩
        case round =>
          obtain ⟨j, hj, rfl, hb⟩ := hrel
          by_cases hjl : j < L.length
          · have hroom := room_ok HVN.out.1 hjl
            have hcnt := fun (x : Ab wr.heap.size wr) => count34_any _ _ (j : Int) x.val ((HM.out.below hb (Nat.le_refl _)).below x.ok (Nat.le_refl _))
            obtain ⟨hltL, c5⟩ := slI_cell HL.out hjl
            have g5 := fun (x : Ab wr.heap.size wr) => (x.ok.cell (p := ⟨bL, oL + j, none⟩) (by have := hb.size; simp; omega)).trans ((hb.cell (p := ⟨bL, oL + j, none⟩) hltL).trans c5)
            generalize inT (movT us i) (j : Int) = mm at *
            generalize at0 L j = rm at *
            clear c5
            go_wp2
            refine wp_region_ab wr.heap.size wr (by kernel_rfl) (by kernel_rfl) (Below.refl _ _) ?_
            unfold AbC
            repeat go_big_quiet_step (first | (go_at_call 34; exact Calls.ab _ (Nat.le_refl _) (hcnt _)))
            refine wpQuiet_nil ?_
            rintro W' ⟨x, rfl⟩
            have hB7 := x.ok
            generalize x.val = w7 at *
            clear hcnt g5
            go_wp2
            go_roundw
            case rel => exact ⟨j + 1, by omega, by go_num, btr hb hB7 (Nat.le_refl _)⟩
            case measure => simp [intOf]; omega
          · have hjx : j = L.length := by omega
            subst hjx
            clear hjl hj
            have HL := Lib.hid (HL.out.below hb (Nat.le_refl _))
            have HP := Lib.hid (HP.out.below hb (Nat.le_refl _))
            have HM := Lib.hid (HM.out.below hb (Nat.le_refl _))
            replace hB := btr hB hb (Nat.le_refl _)
            clear hb
            go_wp2
            go_roundw
            case rel => exact ⟨k + 1, movT us i, by omega, by go_num, hB, HL.out, HM.out, HP.out, HVN.out, HSI.out, by rw [movT_len]; exact HN.out, HNX.out.2⟩
            case measure => simp [intOf]; omega
      · have hkx : k = P.length := by omega
        have e0 : leftT us = 0 := by
          refine Classical.byContradiction fun hne => ?_
          obtain ⟨i, _, _, _, hpl⟩ := plan_cons HVU.out HSU.out hne
          have := HD.out
          rw [hkx, List.drop_length, hpl] at this
          cases this
        have h32 : Calls Try.prog 32 #[.slice adu us.length capu] wr fun e w' => e = .returned (.int .i64 0) ∧ Below wr.heap.size wr w' := by
          have := y32 HVU.out _ HT.out
          rw [e0] at this
          exact this
        subst hkx
        clear e0 hkn hk
        go_wp2_with fail
        refine h32.mono ?_
        rintro e w11 ⟨rfl, hb⟩
        replace hB := btr hB hb (Nat.le_refl _)
        clear h32 hb
        go_wp2_with fail
        refine (works_any _).mono ?_
        rintro e w12 ⟨rfl, hb⟩
        replace hB := btr hB hb (Nat.le_refl _)
        go_wp2
        go_ret
        exact ⟨rfl, hB⟩
end Yteijenefhoconaa
end Go.Proofs
