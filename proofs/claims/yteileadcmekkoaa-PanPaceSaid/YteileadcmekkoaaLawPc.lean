/- For each house and period the law PanPace returns true: the walk. -/
import Derived.Test.YteileadcmekkoaaMd
import Derived.Test.YteileadcmekkoaaSu
import Derived.Test.YteileadcmekkoaaCyw
import Derived.Test.YteileadcmekkoaaPa
import Derived.Test.YteileadcmekkoaaEq
import Derived.Test.YteileadcmekkoaaHoldP
import Derived.Test.YteileadcmekkoaaQ25
open Go Go.RowKit Go.YteileadcmekkoaaIt
namespace Go.Proofs
namespace Yteileadcmekkoaa
theorem size65 : (Try.prog.info? 65).map (·.size) = some 2 := by kernel_rfl
set_option maxRecDepth 100000 in
set_option maxHeartbeats 8000000 in
theorem pace_law (s a c : Int) (u : Value) (qs : List Q4) (w : World) (hs : 0 ≤ s ∧ s < 256) (ha : 0 ≤ a ∧ a < 256) (hc : 0 ≤ c ∧ c < 256) (hq : ∀ q ∈ qs, q.ok) (hu : SlQ w u qs) :
    Calls Try.prog 7 #[.agg #[.int .u8 s, u], .int .u8 a, .int .u8 c] w fun e w' => e = .returned (.bool true) ∧ Below w.heap.size w w' := by
  have HU := Lib.hid hu
  have HQ := Lib.hid hq
  obtain ⟨ad, cap, rfl, -, -, -⟩ := hu
  clear hq
  go_enter Try.func7, Try.ntmps7
  refine wp_seq_k (fun K hK => ?_)
  have HK := Lib.hid hK; clear hK
  go_wp2
  refine HK.out _ _ ?_; clear HK K
  generalize hw1 : World.alloc _ _ = w1
  obtain ⟨b1, hB0, hs1⟩ := blk1 hw1
  clear hw1
  have h36 := made_any s _ qs w1 hs HQ.out (HU.out.below hB0 (Nat.le_refl _))
  have H36 := Lib.hid h36
  clear h36 HU HQ
  refine wp_seq_k (fun K hK => ?_)
  have HK := Lib.hid hK; clear hK
  go_wp2_with (first | (refine wpList_load_blk rfl 65 _ rfl _ rfl b1 Try.underlying65 rfl size65 rfl ?_) | (go_at_call 36; refine H36.out.mono ?_; rintro e w2 ⟨n, v, ws, rfl, hv, hM, hb2⟩; have hv0 := hv; obtain ⟨av, cv, rfl, -, -, -⟩ := hv))
  refine HK.out _ _ ?_; clear HK K H36
  have hnb := And.intro hM.n1 hM.n5
  have hlen := hM.len
  have B := btr hB0 hb2 (Nat.le_refl _)
  generalize hw3 : World.alloc _ _ = w3
  obtain ⟨b5, hB3, hs3⟩ := blk1 hw3
  clear hw3
  have HV := Lib.hid (hv0.below hB3 (Nat.le_refl _))
  replace B := btr B hB3 (Nat.le_refl _)
  have HM := Lib.hid hM
  clear hv0 hb2 hB3 hB0 hM
  clear b1
  obtain ⟨g5, hg5⟩ : ∃ g, g = w2.heap.size := ⟨_, rfl⟩
  rw [← hg5] at b5 ⊢
  clear hg5
  obtain ⟨m, rfl⟩ : ∃ m : Nat, n = m := ⟨n.toNat, by omega⟩
  have hval : Val m ws := val_mem.2 ⟨⟨by omega, by omega⟩, by omega, fun x hx => by have := HM.out.ok x hx; unfold okM at this; unfold okV; omega⟩
  have hch := chk_of hval
  have HVL := Lib.hid hval
  have hm5 : m ≤ 5 := by omega
  obtain ⟨E, hE⟩ : ∃ E, E = chkE (m : Int) ws := ⟨_, rfl⟩
  obtain ⟨A, hA⟩ : ∃ A, A = pnum (m : Int) ws := ⟨_, rfl⟩
  obtain ⟨D, hD⟩ : ∃ D, D = pden (m : Int) ws := ⟨_, rfl⟩
  have h18 := fun W h => pace_any (m : Int) (.slice av ws.length cv) ws W h
  rw [← hE, ← hA, ← hD] at h18
  rw [← hE] at hch
  have HE := Lib.hid (And.intro hE (And.intro hA (And.intro hD hch)))
  have H18 := Lib.hid h18
  clear hval hE hA hD hch h18
  refine wp_seq_k (fun K hK => ?_)
  have HK := Lib.hid hK; clear hK
  go_wp2_with (first | (refine wpList_load_blk rfl 24 _ rfl _ rfl b5 Try.underlying24 rfl size24 rfl ?_) | (go_at_call 18; refine (H18.out _ HV.out).mono ?_; rintro e w4 ⟨rfl, hb⟩))
  refine HK.out _ _ ?_; clear HK K
  replace b5 := blk_keep b5 hb
  replace HV := Lib.hid (HV.out.below hb (Nat.le_refl _))
  replace B := btr B hb (Nat.le_refl _)
  clear hb
  generalize hwn : World.alloc _ _ = wn
  obtain ⟨b8, hBn, hsn⟩ := blk1 hwn
  clear hwn
  replace b5 := blk_keep b5 hBn
  replace HV := Lib.hid (HV.out.below hBn (Nat.le_refl _))
  replace B := btr B hBn (Nat.le_refl _)
  clear hBn hsn
  generalize w4.heap.size = g8 at *
  clear H18
  refine wp_seq_k (fun K hK => ?_)
  have HK := Lib.hid hK; clear hK
  go_wp2
  refine HK.out _ _ ?_; clear HK K
  obtain ⟨L, hL⟩ : ∃ L, L = cycs ws (m + 1) [] := ⟨_, rfl⟩
  have h37 := fun W h => cycles_any m (.slice av ws.length cv) ws HVL.out HM.out.len hm5 (m + 1) [] (.slice none 0 0) W (by simp) (.inl rfl) h (slI_nil W)
  rw [← hL] at h37
  have HL := Lib.hid hL
  have H37 := Lib.hid h37
  clear hL h37
  go_wp2_with (first | (refine wpList_load_blk rfl 24 _ rfl _ rfl b5 Try.underlying24 rfl size24 rfl ?_) | (go_at_call 37; refine (H37.out _ HV.out).mono ?_; rintro e w5 ⟨⟨vr, vs, rfl, hsv, hrw⟩, hb⟩; obtain ⟨ar, cr, hvr⟩ := slV_form hsv; subst hvr))
  replace b5 := blk_keep b5 hb
  replace b8 := blk_keep b8 hb
  replace HV := Lib.hid (HV.out.below hb (Nat.le_refl _))
  replace B := btr B hb (Nat.le_refl _)
  clear hb
  have HR := Lib.hid (And.intro hsv hrw)
  clear hsv hrw H37
  obtain ⟨Nv, hNv⟩ : ∃ N, N = vs.length := ⟨_, rfl⟩
  have hNb : Nv ≤ 17592186044416 := by
    obtain ⟨_, _, _, h, _, _⟩ := HR.out.1
    rw [hNv]; exact h
  have HNV := Lib.hid (And.intro hNv (hNv.trans HR.out.2.1))
  rw [← hNv]
  clear hNv
  have hcf : 0 < Nv → ∃ b off, ar = some ⟨b, off, none⟩ ∧ b < w5.heap.size ∧ ∀ i (h : i < vs.length), w5.cell? ⟨b, off + i, none⟩ = some vs[i] := fun h0 => by
    obtain ⟨_, _, e, -, -, h⟩ := HR.out.1
    injection e with e1 _ _
    subst e1
    exact h (by rw [← HNV.out.1]; exact h0)
  have HCF := Lib.hid hcf
  have hLc : ∀ k (h : k < L.length), ∃ u0, PanPlain.Cyc (eds ws 0 1) u0 L[k] := fun k h => (mem_all HVL.out _).1 (by rw [← HL.out]; exact List.getElem_mem h)
  have HLC := Lib.hid hLc
  clear hcf hLc
  have B5 := Lib.hid B
  clear B
  go_loopw [10, 11, 34] (fun v10 v11 i wr => ∃ k bst str : Nat, k ≤ Nv ∧ v10 = .int .i64 bst ∧ v11 = .int .i64 str ∧ i = .int .i64 k ∧ Best ws (L.take k) bst str ∧ (∀ c ∈ L.take k, 1 ≤ bkN ws c) ∧ (bst ≤ 50000 ∧ str ≤ 20) ∧ Below w5.heap.size w5 wr) (fun _ _ i _ => Nv - (intOf i).toNat)
  case atStart => exact ⟨0, 0, 1, Nat.zero_le _, rfl, rfl, rfl, Best.start ws, fun c hc => by simp at hc, by omega, Below.refl _ _⟩
  case round =>
    obtain ⟨k, bst, str, hk, rfl, rfl, rfl, hbest, hone, hbb, hb⟩ := hrel
    by_cases hkv : k < Nv
    ·
      obtain ⟨bv, ov, rfl, hlv, hcell⟩ := HCF.out (by omega)
      have hkL : k < L.length := by rw [← HNV.out.2]; exact hkv
      have hkvs : k < vs.length := by rw [← HNV.out.1]; exact hkv
      have d0 := (hb.cell (p := ⟨bv, ov + k, none⟩) hlv).trans (hcell k hkvs)
      have hrow := HR.out.2.2 k hkvs hkL
      obtain ⟨hsl, g, ng, cg, cs, hve, -⟩ := hrow
      rw [hve] at d0 hsl
      obtain ⟨u0, hcyc⟩ := HLC.out k hkL
      obtain ⟨c0, hc0⟩ : ∃ c0, c0 = L[k] := ⟨_, rfl⟩
      rw [← hc0] at hsl hcyc
      have htk : L.take (k + 1) = L.take k ++ [c0] := by rw [List.take_succ_eq_append_getElem hkL, hc0]
      have hlt := path_lt hcyc.path
      have hl5 : c0.length ≤ 5 := by
        have h1 := nodup_len (cyc_nd hcyc) (n := m) (fun v hv => by
          obtain ⟨i, hi, rfl⟩ := List.mem_map.1 hv
          exact HVL.out.fN (hlt i hi))
        rw [List.length_map] at h1
        omega
      obtain ⟨s1, s2⟩ := sums_nat HVL.out hlt
      have hsm := sums_bnd HVL.out.bnd c0 hlt
      rw [s1, s2] at hsm
      have h38 := sums_any (m : Int) (.slice av ws.length cv) _ ws c0 wr ((HV.out).below hb (Nat.le_refl _)) (hsl.below hb (Nat.le_refl _)) HVL.out.bnd hlt (by omega)
      rw [s1, s2] at h38
      have hns : NS ws → 1 ≤ bkN ws c0 := fun h => by have := cyc_bk HVL.out h hcyc; omega
      obtain ⟨t, ht⟩ : ∃ t, t = hiN ws c0 := ⟨_, rfl⟩
      obtain ⟨z, hz⟩ : ∃ z, z = bkN ws c0 := ⟨_, rfl⟩
      rw [← ht, ← hz] at h38 hsm
      rw [← hz] at hns
      have HTZ := Lib.hid (And.intro ht (And.intro hz (And.intro htk (And.intro hbest hone))))
      have HNS := Lib.hid hns
      have H38 := Lib.hid h38
      have ht5 : t ≤ 50000 := by omega
      have hz20 : z ≤ 20 := by omega
      have HCY := Lib.hid hcyc
      clear ht hz htk hbest hone hns h38 hsm s1 s2 hcyc hsl hlt hl5 hc0 hve hcell hkL hkvs
      have hkvi : (k : Int) < (Nv : Int) := by omega
      replace b5 := blk_keep b5 hb
      replace b8 := blk_keep b8 hb
      have hb5 := hb
      by_cases hz0 : z = 0
      · have hnn : ¬ NS ws := fun h => by have := HNS.out h; omega
        have hE16 : E = 16 := by rw [HE.out.2.2.2, if_neg hnn]
        have hp := pace_err (n := (m : Int)) (ws := ws) (by rw [← HE.out.1, hE16]; decide)
        have hA0 : A = 0 := by rw [HE.out.2.1, hp.1]
        have hD0 : D = 0 := by rw [HE.out.2.2.1, hp.2]
        have h22 := fun W h => check_any (m : Int) (.slice av ws.length cv) ws W h
        rw [← HE.out.1, hE16] at h22
        have H22 := Lib.hid h22
        subst hz0 hE16
        rw [hA0, hD0] at b8
        replace b8 : wr.heap[g8]? = some (.cells #[.int .i64 0, .int .i64 0] 26 (0, 0)) := b8
        clear hnn hp hA0 hD0 h22
        go_wp2_with (first | (refine wpList_load_blk rfl 24 _ rfl _ rfl b5 Try.underlying24 rfl size24 rfl ?_) | (refine wpList_load_blk rfl 26 _ rfl _ rfl b8 Try.underlying26 rfl size26 rfl ?_) | (go_at_call 38; refine H38.out.mono ?_; rintro e w6 ⟨rfl, hb6⟩; have b56 := blk_keep b5 hb6; have b86 := blk_keep b8 hb6; have hb7 := hb5.trans (hb6.mono hb5.size)) | (refine wpList_load_blk rfl 24 _ rfl _ rfl b56 Try.underlying24 rfl size24 rfl ?_) | (refine wpList_load_blk rfl 26 _ rfl _ rfl b86 Try.underlying26 rfl size26 rfl ?_) | (refine wpList_val2 (.bool true) rfl (exec_eql26 (x := .tmp 49) (y := .tmp 50) (A := 0) (D := 0) rfl rfl rfl) ?_) | (go_at_call 22; refine (H22.out _ (HV.out.below hb7 (Nat.le_refl _))).mono ?_; rintro e w8 ⟨rfl, hb8⟩) | (go_at_call 16; refine (works_any _).mono ?_; rintro e w9 ⟨rfl, hb9⟩))
        go_ret
        exact ⟨rfl, B5.out.trans ((((hb7.trans (hb8.mono hb7.size)).trans (hb9.mono (hb7.trans (hb8.mono hb7.size)).size))).mono B5.out.size)⟩
      · have hzb : ((z : Int) == 0) = false := by rw [beq_eq_false_iff_ne]; omega
        have p0 : (0 : Int) ≤ (t : Int) * str := Int.mul_nonneg (by omega) (by omega)
        have p1 : (t : Int) * str ≤ 50000 * 20 := Int.mul_le_mul (by omega) (by omega) (by omega) (by omega)
        have p2 : (0 : Int) ≤ (bst : Int) * z := Int.mul_nonneg (by omega) (by omega)
        have p3 : (bst : Int) * z ≤ 50000 * 20 := Int.mul_le_mul (by omega) (by omega) (by omega) (by omega)
        have q1 : IntKind.i64.wrap ((t : Int) * str) = (t : Int) * str := by rw [IntKind.wrap_i64]; omega
        have q2 : IntKind.i64.wrap ((bst : Int) * z) = (bst : Int) * z := by rw [IntKind.wrap_i64]; omega
        have hone2 : ∀ c ∈ L.take (k + 1), 1 ≤ bkN ws c := fun c hc => by
          rw [HTZ.out.2.2.1] at hc
          rcases List.mem_append.1 hc with h | h
          · exact HTZ.out.2.2.2.2 c h
          · rw [List.mem_singleton.1 h, ← HTZ.out.2.1]; omega
        have HO2 := Lib.hid hone2
        clear hone2 p0 p1 p2 p3
        by_cases hg : bst * z < t * str
        · have hgI : decide ((t : Int) * str > (bst : Int) * z) = true := by rw [decide_eq_true_eq]; exact_mod_cast hg
          have hbest2 : Best ws (L.take (k + 1)) t z := by
            rw [HTZ.out.2.2.1, HTZ.out.1, HTZ.out.2.1]
            exact HTZ.out.2.2.2.1.more (by rw [← HTZ.out.2.1]; omega) (by rw [← HTZ.out.1, ← HTZ.out.2.1]; exact hg)
          have HB2 := Lib.hid hbest2
          clear hbest2 hg
          go_wp2_with (first | (refine wpList_load_blk rfl 24 _ rfl _ rfl b5 Try.underlying24 rfl size24 rfl ?_) | (go_at_call 38; refine H38.out.mono ?_; rintro e w6 ⟨rfl, hb6⟩; have hb7 := hb5.trans (hb6.mono hb5.size)))
          go_roundw
          case rel => exact ⟨k + 1, t, z, by omega, rfl, rfl, by go_num, HB2.out, HO2.out, by omega, hb7⟩
          case measure => simp [intOf]; omega
        · have hgI : decide ((t : Int) * str > (bst : Int) * z) = false := by rw [decide_eq_false_iff_not]; exact_mod_cast hg
          have hbest2 : Best ws (L.take (k + 1)) bst str := by
            rw [HTZ.out.2.2.1]
            exact HTZ.out.2.2.2.1.same (by rw [← HTZ.out.1, ← HTZ.out.2.1]; exact hg)
          have HB2 := Lib.hid hbest2
          clear hbest2 hg
          go_wp2_with (first | (refine wpList_load_blk rfl 24 _ rfl _ rfl b5 Try.underlying24 rfl size24 rfl ?_) | (go_at_call 38; refine H38.out.mono ?_; rintro e w6 ⟨rfl, hb6⟩; have hb7 := hb5.trans (hb6.mono hb5.size)))
          go_roundw
          case rel => exact ⟨k + 1, bst, str, by omega, rfl, rfl, by go_num, HB2.out, HO2.out, by omega, hb7⟩
          case measure => simp [intOf]; omega
    · have hke : k = L.length := by have := HNV.out.2; omega
      have hkvi : ¬ ((k : Int) < (Nv : Int)) := by omega
      rw [hke, List.take_length] at hbest hone
      have hns : NS ws := Classical.byContradiction fun h => by
        obtain ⟨u0, c0, h1, h2⟩ := stuck_cyc HVL.out h
        have h3 := hone c0 (by rw [HL.out]; exact (mem_all HVL.out _).2 ⟨u0, h1⟩)
        have := (sums_nat HVL.out (path_lt h1.path)).2
        omega
      rw [HL.out] at hbest
      have hE0 : E = 0 := by rw [HE.out.2.2.2, if_pos hns]
      have hch0 : chkE (m : Int) ws = 0 := by rw [← HE.out.1, hE0]
      have hpace := best_pace HVL.out hns hbest
      rw [← HE.out.2.1, ← HE.out.2.2.1] at hpace
      obtain ⟨l0, hS0⟩ := paceP HVL.out hns
      have hAD := hS0.b
      rw [← HE.out.2.1, ← HE.out.2.2.1] at hAD
      have hs1 := hbest.s1
      have HP := Lib.hid (And.intro hpace (And.intro hch0 hns))
      replace b5 := blk_keep b5 hb
      replace b8 := blk_keep b8 hb
      have HV := Lib.hid (HV.out.below hb (Nat.le_refl _))
      have B := B5.out.trans (hb.mono B5.out.size)
      subst hE0
      clear hpace hch0 hns hS0 hbest hone hke HCF HLC hb B5 HR HL
      obtain ⟨an, hane⟩ := Int.eq_ofNat_of_zero_le ha.1
      subst hane
      obtain ⟨dn, hdn⟩ := Int.eq_ofNat_of_zero_le (show (0 : Int) ≤ 1 + c % 8 by omega)
      have hdn8 : 1 ≤ dn ∧ dn ≤ 8 := by omega
      have HDN := Lib.hid hdn
      have hkE : keptE (m : Int) ws (an : Int) (dn : Int) = 0 := by
        unfold keptE
        rw [if_neg (by rw [HP.out.2.1]; simp), if_pos]
        unfold goodP
        rw [Bool.and_eq_true, btw_true, btw_true]
        omega
      obtain ⟨kb, hkb⟩ : ∃ kb, kb = decide ((an : Int) * str ≥ (bst : Int) * dn) := ⟨_, rfl⟩
      have hkB : keptB (m : Int) ws (an : Int) (dn : Int) = kb := by
        unfold keptB
        rw [if_neg (by rw [HP.out.2.1]; simp), if_pos (by unfold goodP; rw [Bool.and_eq_true, btw_true, btw_true]; omega), hkb, ← HE.out.2.1, ← HE.out.2.2.1]
        have h1 := kept_same (num := an) (dn := dn) HP.out.1 hAD.2.1 hs1
        have h2 : decide ((an : Int) * (D : Int) < (A : Int) * (dn : Int)) = decide (an * D < A * dn) := by
          apply decide_eq_decide.2; exact_mod_cast Iff.rfl
        have h3 : decide ((an : Int) * str ≥ (bst : Int) * dn) = decide (bst * dn ≤ an * str) := by
          apply decide_eq_decide.2; exact_mod_cast Iff.rfl
        rw [h2, h3]
        by_cases h4 : an * D < A * dn
        · have := h1.1 h4
          rw [decide_eq_true h4, decide_eq_false (by omega)]; rfl
        · have : ¬ an * str < bst * dn := fun e => h4 (h1.2 e)
          rw [decide_eq_false h4, decide_eq_true (by omega)]; rfl
      have h20 := fun W h => kept_any (m : Int) (.slice av ws.length cv) ws (an : Int) (dn : Int) W h
      rw [hkE, hkB] at h20
      have h31 := fun W vt h1 h2 => verify_any (m : Int) (.slice av ws.length cv) vt ws (A : Int) (D : Int) (tabL (m : Int) ws) W h1 h2
      have hvt := ver_tab HP.out.2.1
      rw [← HE.out.2.1, ← HE.out.2.2.1] at hvt
      rw [hvt] at h31
      have y0 : (0 : Int) ≤ (an : Int) * str := Int.mul_nonneg (by omega) (by omega)
      have y1 : (an : Int) * str ≤ 256 * 20 := Int.mul_le_mul (by omega) (by omega) (by omega) (by omega)
      have y2 : (0 : Int) ≤ (bst : Int) * dn := Int.mul_nonneg (by omega) (by omega)
      have y3 : (bst : Int) * dn ≤ 50000 * 8 := Int.mul_le_mul (by omega) (by omega) (by omega) (by omega)
      have y4 : IntKind.i64.wrap ((an : Int) * str) = (an : Int) * str := by rw [IntKind.wrap_i64]; omega
      have y5 : IntKind.i64.wrap ((bst : Int) * dn) = (bst : Int) * dn := by rw [IntKind.wrap_i64]; omega
      have hkb2 : decide ((an : Int) * str ≥ (bst : Int) * dn) = kb := hkb.symm
      have H20 := Lib.hid h20
      have H31 := Lib.hid h31
      clear hkE hkB h20 h31 hvt y0 y1 y2 y3 hkb hdn
      have hEq : ((A : Int) * str == (bst : Int) * D) = true := by
        rw [beq_iff_eq]; exact_mod_cast HP.out.1
      have p0 : (0 : Int) ≤ (A : Int) * str := Int.mul_nonneg (by omega) (by omega)
      have p1 : (A : Int) * str ≤ 100000 * 20 := Int.mul_le_mul (by omega) (by omega) (by omega) (by omega)
      have p2 : (0 : Int) ≤ (bst : Int) * D := Int.mul_nonneg (by omega) (by omega)
      have p3 : (bst : Int) * D ≤ 50000 * 40 := Int.mul_le_mul (by omega) (by omega) (by omega) (by omega)
      have h39 := fun W => equal_any A D bst str W (by rw [IntKind.wrap_i64]; omega) (by rw [IntKind.wrap_i64]; omega)
      rw [hEq] at h39
      have H39 := Lib.hid h39
      clear hEq p0 p1 p2 p3 h39
      obtain ⟨H, hH⟩ : ∃ H, H = holdE (m : Int) ws := ⟨_, rfl⟩
      have h24 := fun W h => hold_any (m : Int) (.slice av ws.length cv) ws W h
      rw [← hH] at h24
      have h28 := fun W h => table_any (m : Int) (.slice av ws.length cv) ws W h
      rw [HP.out.2.1] at h28
      have HH := Lib.hid hH
      have HC := Lib.hid (And.intro h24 h28)
      clear hH h24 h28
      by_cases hb0 : bst = 0
      · have hA0 : A = 0 := by
          have h1 := HP.out.1
          rw [hb0, Nat.zero_mul] at h1
          rcases Nat.mul_eq_zero.1 h1 with h | h
          · exact h
          · omega
        have hH5 : H = 5 := by rw [HH.out]; exact holdE_none HP.out.2.1 (by rw [← HE.out.2.1]; exact hA0)
        have hne : holdE (m : Int) ws ≠ 0 := by rw [← HH.out, hH5]; decide
        have HNE := Lib.hid hne
        have hbb0 : ((bst : Int) == 0) = true := by rw [hb0]; rfl
        have HB0 := Lib.hid hb0
        subst hH5
        clear hA0 hne hb0
        have c80 := cell_blk (i := 0) b8
        have c81 := cell_blk (i := 1) b8
        simp only [List.getElem?_toArray, List.getElem?_cons_zero, List.getElem?_cons_succ] at c80 c81
        have hD1 : decide ((D : Int) < 1) = false := by rw [decide_eq_false_iff_not]; omega
        have hD2 : ¬ ((D : Int) < 1) := by omega
        go_wp2_with (first | (refine wpList_load_blk rfl 26 _ rfl _ rfl b8 Try.underlying26 rfl size26 rfl ?_) | (go_at_call 39; refine (H39.out _).mono ?_; rintro e w6 ⟨rfl, hb⟩; replace b5 := blk_keep b5 hb; replace b8 := blk_keep b8 hb; replace HV := Lib.hid (HV.out.below hb (Nat.le_refl _)); replace B := btr B hb (Nat.le_refl _); clear hb) | (refine wpList_load_blk rfl 24 _ rfl _ rfl b5 Try.underlying24 rfl size24 rfl ?_) | (go_at_call 24; refine (HC.out.1 _ HV.out).mono ?_; rintro e w7 ⟨⟨vl, l, rfl, hnl, hhl⟩, hb⟩; have hsl := hnl.1; clear hnl; obtain ⟨al, cl, hvl⟩ := slI_form hsl; rw [List.length_map] at hvl; subst hvl; replace b5 := blk_keep b5 hb; replace b8 := blk_keep b8 hb; replace HV := Lib.hid (HV.out.below hb (Nat.le_refl _)); replace B := btr B hb (Nat.le_refl _); clear hb; have hl0 := holdL_nil2 hhl HNE.out; subst hl0; have HLS := Lib.hid hsl; clear hsl hhl) | (go_at_call 28; refine (HC.out.2 _ HV.out).mono ?_; rintro e w8 ⟨⟨vt, rfl, hst⟩, hb⟩; obtain ⟨at_', ct, hvt⟩ := slI_form hst; subst hvt; replace b5 := blk_keep b5 hb; replace b8 := blk_keep b8 hb; replace HV := Lib.hid (HV.out.below hb (Nat.le_refl _)); replace HLS := Lib.hid (HLS.out.below hb (Nat.le_refl _)); replace B := btr B hb (Nat.le_refl _); clear hb; have HTS := Lib.hid hst; clear hst; have hdn := HDN.out) | (go_at_call 40; refine (per_any _ _ _).mono ?_; rintro e w9 ⟨rfl, hb⟩; replace b5 := blk_keep b5 hb; replace b8 := blk_keep b8 hb; replace HV := Lib.hid (HV.out.below hb (Nat.le_refl _)); replace HLS := Lib.hid (HLS.out.below hb (Nat.le_refl _)); replace HTS := Lib.hid (HTS.out.below hb (Nat.le_refl _)); replace B := btr B hb (Nat.le_refl _); clear hb; have hb := (Below.refl _ w9).alloc (Nat.le_refl _) (.cells #[.int .i64 (an : Int), .int .i64 (dn : Int)] 26); replace b5 := blk_keep b5 hb; replace b8 := blk_keep b8 hb; replace HV := Lib.hid (HV.out.below hb (Nat.le_refl _)); replace HLS := Lib.hid (HLS.out.below hb (Nat.le_refl _)); replace HTS := Lib.hid (HTS.out.below hb (Nat.le_refl _)); replace B := btr B hb (Nat.le_refl _); clear hb; have b20 : (w9.alloc (.cells #[.int .i64 (an : Int), .int .i64 (dn : Int)] 26)).heap[w9.heap.size]? = _ := heap_newI rfl) | (refine wpList_load_blk rfl 26 _ rfl _ rfl b20 Try.underlying26 rfl size26 rfl ?_) | (go_at_call 20; refine (H20.out _ HV.out).mono ?_; rintro e w10 ⟨rfl, hb⟩; replace b5 := blk_keep b5 hb; replace b8 := blk_keep b8 hb; replace b20 := blk_keep b20 hb; replace HV := Lib.hid (HV.out.below hb (Nat.le_refl _)); replace HLS := Lib.hid (HLS.out.below hb (Nat.le_refl _)); replace HTS := Lib.hid (HTS.out.below hb (Nat.le_refl _)); replace B := btr B hb (Nat.le_refl _); clear hb; have c200 := cell_blk (i := 0) b20; have c201 := cell_blk (i := 1) b20; simp only [List.getElem?_toArray, List.getElem?_cons_zero, List.getElem?_cons_succ] at c200 c201) | (go_at_call 31; refine (H31.out _ _ HV.out HTS.out).mono ?_; rintro e w11 ⟨rfl, hb⟩; replace b5 := blk_keep b5 hb; replace b8 := blk_keep b8 hb; replace b20 := blk_keep b20 hb; replace HV := Lib.hid (HV.out.below hb (Nat.le_refl _)); replace HLS := Lib.hid (HLS.out.below hb (Nat.le_refl _)); replace B := btr B hb (Nat.le_refl _); clear hb) | (go_at_call 16; refine (works_any _).mono ?_; rintro e w99 ⟨rfl, hb99⟩))
        go_ret
        exact ⟨rfl, btr B hb99 (Nat.le_refl _)⟩
      · have hA1 : 1 ≤ A := by
          refine Nat.pos_of_ne_zero fun e => ?_
          have h1 := HP.out.1
          rw [e, Nat.zero_mul] at h1
          rcases Nat.mul_eq_zero.1 h1.symm with h | h
          · exact hb0 h
          · omega
        have hH0 : H = 0 := by rw [HH.out]; exact holdE_ok HP.out.2.1 (by rw [← HE.out.2.1]; exact hA1)
        have h26 : ∀ (W : World) (vc : Value) (l : List Nat), SlA W (.slice av ws.length cv) ws → SlI W vc (l.map fun (i : Nat) => (i : Int)) → HoldL (m : Int) ws l → Calls Try.prog 26 #[.agg #[.int .i64 m, .slice av ws.length cv], vc] W fun e w' => e = .returned (.tuple #[.agg #[.int .i64 (A : Int), .int .i64 (D : Int)], .int .i64 0]) ∧ Below W.heap.size W w' := fun W vc l h1 h2 h3 => by
          have h := holds_any (m : Int) _ _ ws _ W h1 h2
          obtain ⟨p1, p2⟩ := hold_per2 h3 (by rw [← HH.out]; exact hH0)
          rw [p1, p2, ← HE.out.2.1, ← HE.out.2.2.1] at h
          exact h
        have H26 := Lib.hid h26
        have hbb0 : ((bst : Int) == 0) = false := by rw [beq_eq_false_iff_ne]; omega
        subst hH0
        clear hA1 hb0 h26
        have c80 := cell_blk (i := 0) b8
        have c81 := cell_blk (i := 1) b8
        simp only [List.getElem?_toArray, List.getElem?_cons_zero, List.getElem?_cons_succ] at c80 c81
        have hD1 : decide ((D : Int) < 1) = false := by rw [decide_eq_false_iff_not]; omega
        have hD2 : ¬ ((D : Int) < 1) := by omega
        go_wp2_with (first | (refine wpList_load_blk rfl 26 _ rfl _ rfl b8 Try.underlying26 rfl size26 rfl ?_) | (go_at_call 39; refine (H39.out _).mono ?_; rintro e w6 ⟨rfl, hb⟩; replace b5 := blk_keep b5 hb; replace b8 := blk_keep b8 hb; replace HV := Lib.hid (HV.out.below hb (Nat.le_refl _)); replace B := btr B hb (Nat.le_refl _); clear hb) | (refine wpList_load_blk rfl 24 _ rfl _ rfl b5 Try.underlying24 rfl size24 rfl ?_) | (go_at_call 24; refine (HC.out.1 _ HV.out).mono ?_; rintro e w7 ⟨⟨vl, l, rfl, hnl, hhl⟩, hb⟩; have hsl := hnl.1; clear hnl; obtain ⟨al, cl, hvl⟩ := slI_form hsl; rw [List.length_map] at hvl; subst hvl; replace b5 := blk_keep b5 hb; replace b8 := blk_keep b8 hb; replace HV := Lib.hid (HV.out.below hb (Nat.le_refl _)); replace B := btr B hb (Nat.le_refl _); clear hb; have HLS := Lib.hid hsl; have HHL := Lib.hid hhl; clear hsl hhl) | (go_at_call 28; refine (HC.out.2 _ HV.out).mono ?_; rintro e w8 ⟨⟨vt, rfl, hst⟩, hb⟩; obtain ⟨at_', ct, hvt⟩ := slI_form hst; subst hvt; replace b5 := blk_keep b5 hb; replace b8 := blk_keep b8 hb; replace HV := Lib.hid (HV.out.below hb (Nat.le_refl _)); replace HLS := Lib.hid (HLS.out.below hb (Nat.le_refl _)); replace B := btr B hb (Nat.le_refl _); clear hb; have HTS := Lib.hid hst; clear hst; have hdn := HDN.out) | (go_at_call 40; refine (per_any _ _ _).mono ?_; rintro e w9 ⟨rfl, hb⟩; replace b5 := blk_keep b5 hb; replace b8 := blk_keep b8 hb; replace HV := Lib.hid (HV.out.below hb (Nat.le_refl _)); replace HLS := Lib.hid (HLS.out.below hb (Nat.le_refl _)); replace HTS := Lib.hid (HTS.out.below hb (Nat.le_refl _)); replace B := btr B hb (Nat.le_refl _); clear hb; have hb := (Below.refl _ w9).alloc (Nat.le_refl _) (.cells #[.int .i64 (an : Int), .int .i64 (dn : Int)] 26); replace b5 := blk_keep b5 hb; replace b8 := blk_keep b8 hb; replace HV := Lib.hid (HV.out.below hb (Nat.le_refl _)); replace HLS := Lib.hid (HLS.out.below hb (Nat.le_refl _)); replace HTS := Lib.hid (HTS.out.below hb (Nat.le_refl _)); replace B := btr B hb (Nat.le_refl _); clear hb; have b20 : (w9.alloc (.cells #[.int .i64 (an : Int), .int .i64 (dn : Int)] 26)).heap[w9.heap.size]? = _ := heap_newI rfl) | (refine wpList_load_blk rfl 26 _ rfl _ rfl b20 Try.underlying26 rfl size26 rfl ?_) | (go_at_call 20; refine (H20.out _ HV.out).mono ?_; rintro e w10 ⟨rfl, hb⟩; replace b5 := blk_keep b5 hb; replace b8 := blk_keep b8 hb; replace b20 := blk_keep b20 hb; replace HV := Lib.hid (HV.out.below hb (Nat.le_refl _)); replace HLS := Lib.hid (HLS.out.below hb (Nat.le_refl _)); replace HTS := Lib.hid (HTS.out.below hb (Nat.le_refl _)); replace B := btr B hb (Nat.le_refl _); clear hb; have c200 := cell_blk (i := 0) b20; have c201 := cell_blk (i := 1) b20; simp only [List.getElem?_toArray, List.getElem?_cons_zero, List.getElem?_cons_succ] at c200 c201) | (go_at_call 31; refine (H31.out _ _ HV.out HTS.out).mono ?_; rintro e w11 ⟨rfl, hb⟩; replace b5 := blk_keep b5 hb; replace b8 := blk_keep b8 hb; replace b20 := blk_keep b20 hb; replace HV := Lib.hid (HV.out.below hb (Nat.le_refl _)); replace HLS := Lib.hid (HLS.out.below hb (Nat.le_refl _)); replace B := btr B hb (Nat.le_refl _); clear hb) | (go_at_call 26; refine (H26.out _ _ l HV.out HLS.out HHL.out).mono ?_; rintro e w12 ⟨rfl, hb⟩; replace b8 := blk_keep b8 hb; replace B := btr B hb (Nat.le_refl _); clear hb; have hb := (Below.refl _ w12).alloc (Nat.le_refl _) (.cells #[.int .i64 (A : Int), .int .i64 (D : Int)] 26); replace b8 := blk_keep b8 hb; replace B := btr B hb (Nat.le_refl _); clear hb; have b23 : (w12.alloc (.cells #[.int .i64 (A : Int), .int .i64 (D : Int)] 26)).heap[w12.heap.size]? = _ := heap_newI rfl) | (refine wpList_load_blk rfl 26 _ rfl _ rfl b23 Try.underlying26 rfl size26 rfl ?_) | (refine wpList_val2 (.bool true) rfl (exec_eql26 (x := .tmp 159) (y := .tmp 160) (A := (A : Int)) (D := (D : Int)) rfl rfl rfl) ?_) | (go_at_call 16; refine (works_any _).mono ?_; rintro e w99 ⟨rfl, hb99⟩))
        go_ret
        exact ⟨rfl, btr B hb99 (Nat.le_refl _)⟩
end Yteileadcmekkoaa
end Go.Proofs
