/- For each house and list the law PanCycles returns true: the walk. -/
import Derived.Test.YteileadcmekkoaaMd
import Derived.Test.YteileadcmekkoaaSu
import Derived.Test.YteileadcmekkoaaCyw
import Derived.Test.YteileadcmekkoaaPb
import Derived.Test.YteileadcmekkoaaEq
import Derived.Test.YteileadcmekkoaaOp
import Derived.Test.YteileadcmekkoaaQ25
open Go Go.RowKit Go.YteileadcmekkoaaIt
namespace Go.Proofs
namespace Yteileadcmekkoaa
theorem size65 : (Try.prog.info? 65).map (·.size) = some 2 := by kernel_rfl
set_option maxRecDepth 100000 in
set_option maxHeartbeats 8000000 in
theorem cycles_law (s : Int) (vb : Value) (os : List Int) (u : Value) (qs : List Q4) (w : World) (hs : 0 ≤ s ∧ s < 256) (hos : SlB w vb os) (hq : ∀ q ∈ qs, q.ok) (hu : SlQ w u qs) :
    Calls Try.prog 8 #[.agg #[.int .u8 s, u], vb] w fun e w' => e = .returned (.bool true) ∧ Below w.heap.size w w' := by
  have HU := Lib.hid hu
  have HQ := Lib.hid hq
  obtain ⟨ad, cap, rfl, -, -, -⟩ := hu
  clear hq
  go_enter Try.func8, Try.ntmps8
  have HOS := Lib.hid hos
  obtain ⟨⟨ab, cb, rfl, -, -⟩, -⟩ := hos
  refine wp_seq_k (fun K hK => ?_)
  have HK := Lib.hid hK; clear hK
  go_wp2
  refine HK.out _ _ ?_; clear HK K
  generalize hw1 : World.alloc _ _ = w1
  obtain ⟨b1, hB0, hs1⟩ := blk1 hw1
  clear hw1
  have h36 := made_any s _ qs w1 hs HQ.out (HU.out.below hB0 (Nat.le_refl _))
  have H36 := Lib.hid h36
  clear h36 HU HQ
  refine wp_seq_k (fun K hK => ?_)
  have HK := Lib.hid hK; clear hK
  go_wp2_with (first | (refine wpList_load_blk rfl 65 _ rfl _ rfl b1 Try.underlying65 rfl size65 rfl ?_) | (go_at_call 36; refine H36.out.mono ?_; rintro e w2 ⟨n, v, ws, rfl, hv, hM, hb2⟩; have hv0 := hv; obtain ⟨av, cv, rfl, -, -, -⟩ := hv))
  refine HK.out _ _ ?_; clear HK K H36
  have hnb := And.intro hM.n1 hM.n5
  have hlen := hM.len
  have B := btr hB0 hb2 (Nat.le_refl _)
  generalize hw3 : World.alloc _ _ = w3
  obtain ⟨b5, hB3, hs3⟩ := blk1 hw3
  clear hw3
  have HV := Lib.hid (hv0.below hB3 (Nat.le_refl _))
  replace B := btr B hB3 (Nat.le_refl _)
  have HM := Lib.hid hM
  clear hv0 hb2 hB3 hB0 hM
  clear b1
  obtain ⟨g5, hg5⟩ : ∃ g, g = w2.heap.size := ⟨_, rfl⟩
  rw [← hg5] at b5 ⊢
  clear hg5
  obtain ⟨m, rfl⟩ : ∃ m : Nat, n = m := ⟨n.toNat, by omega⟩
  have hval : Val m ws := val_mem.2 ⟨⟨by omega, by omega⟩, by omega, fun x hx => by have := HM.out.ok x hx; unfold okM at this; unfold okV; omega⟩
  have hch := chk_of hval
  have HVL := Lib.hid hval
  have hm5 : m ≤ 5 := by omega
  obtain ⟨E, hE⟩ : ∃ E, E = chkE (m : Int) ws := ⟨_, rfl⟩
  have h22 := fun W h => check_any (m : Int) (.slice av ws.length cv) ws W h
  rw [← hE] at hch h22
  have HE := Lib.hid (And.intro hE hch)
  have H22 := Lib.hid h22
  replace HOS := Lib.hid (HOS.out.below B (Nat.le_refl _))
  clear hval hE hch h22
  have c51 := cell_blk (i := 1) b5
  simp only [List.getElem?_toArray, List.getElem?_cons_zero, List.getElem?_cons_succ] at c51
  by_cases hE0 : E = 0
  · by_cases hN0 : ws.length = 0
    · have hNb : ((ws.length : Int) == 0) = true := by rw [hN0]; rfl
      subst hE0
      clear hN0
      go_wp2_with (first | (refine wpList_load_blk rfl 24 _ rfl _ rfl b5 Try.underlying24 rfl size24 rfl ?_) | (go_at_call 22; refine (H22.out _ HV.out).mono ?_; rintro e w4 ⟨rfl, hb⟩; replace b5 := blk_keep b5 hb; replace HV := Lib.hid (HV.out.below hb (Nat.le_refl _)); replace HOS := Lib.hid (HOS.out.below hb (Nat.le_refl _)); replace B := btr B hb (Nat.le_refl _); clear hb; have c51 := cell_blk (i := 1) b5; simp only [List.getElem?_toArray, List.getElem?_cons_zero, List.getElem?_cons_succ] at c51) | (go_at_call 16; refine (works_any _).mono ?_; rintro e w99 ⟨rfl, hb99⟩))
      go_ret
      exact ⟨rfl, btr B hb99 (Nat.le_refl _)⟩
    · have hNb : ((ws.length : Int) == 0) = false := by rw [beq_eq_false_iff_ne]; omega
      have hns : NS ws := Classical.byContradiction fun h => by
        have := HE.out.2
        rw [if_neg h, hE0] at this
        omega
      have HNS := Lib.hid hns
      subst hE0
      clear hns
      go_wp2_with (first | (refine wpList_load_blk rfl 24 _ rfl _ rfl b5 Try.underlying24 rfl size24 rfl ?_) | (go_at_call 22; refine (H22.out _ HV.out).mono ?_; rintro e w4 ⟨rfl, hb⟩; replace b5 := blk_keep b5 hb; replace HV := Lib.hid (HV.out.below hb (Nat.le_refl _)); replace HOS := Lib.hid (HOS.out.below hb (Nat.le_refl _)); replace B := btr B hb (Nat.le_refl _); clear hb; have c51 := cell_blk (i := 1) b5; simp only [List.getElem?_toArray, List.getElem?_cons_zero, List.getElem?_cons_succ] at c51) | (refine wp_seq_k (fun K hK => ?_); fail))
      obtain ⟨M5, hM5⟩ : ∃ M5, M5 = min 5 os.length := ⟨_, rfl⟩
      have hMb : M5 ≤ 5 ∧ M5 ≤ os.length := by omega
      have hMe : M5 = 5 ∨ M5 = os.length := by omega
      have hMl : (pickL ws.length os).length = M5 := by rw [pickL_len, hM5]
      have HM5 := Lib.hid (And.intro hM5 (And.intro hMe hMl))
      clear hM5 hMe hMl
      obtain ⟨wl, hwl⟩ : ∃ W : World, W = w4 := ⟨_, rfl⟩
      rw [← hwl] at b5 c51 B HV HOS ⊢
      clear hwl c51
      have hol : os.length ≤ 9223372036854775807 := HOS.out.1.choose_spec.choose_spec.2.1
      have hlos : ∃ Lo, Lo = os.length := ⟨_, rfl⟩
      obtain ⟨Lo, hLo⟩ := hlos
      rw [← hLo] at hMb hol ⊢
      have HLo := Lib.hid hLo
      clear hLo
      have hown0 : wl.ownsRow wl.heap.size 3 1 (.slice none 0 0) 0 [] := World.ownsRow_nil _ _ _ _
      go_loopw [6, 7] (fun vl i wr => ∃ k : Nat, k ≤ M5 ∧ i = .int .i64 k ∧ wr.ownsRow wl.heap.size 3 1 vl k ((nI ((pickL ws.length os).take k)).map (.int .i64)) ∧ Below wl.heap.size wl wr) (fun _ i _ => M5 - (intOf i).toNat)
      case atStart => exact ⟨0, Nat.zero_le _, rfl, hown0, Below.refl _ _⟩
      case round =>
        clear hown0
        obtain ⟨k, hk, rfl, hown, hbl⟩ := hrel
        obtain ⟨al, cl, rfl⟩ := form_of hown
        by_cases hkM : k < M5
        · obtain ⟨a', c', e, -, hc⟩ := HOS.out.1
          injection e with e1 e2 e3
          subst e1 e3
          clear e2
          obtain ⟨b1, o1, rfl, hl1, hcell⟩ := hc (by have := HLo.out; omega)
          have d0 := (hbl.cell (p := ⟨b1, o1 + k, none⟩) hl1).trans (hcell k (by have := HLo.out; omega))
          have hx := HOS.out.2 k (by have := HLo.out; omega)
          have hst := pickL_step (N := ws.length) (os := os) (k := k) (by have := HLo.out; omega) (by omega)
          obtain ⟨x, hxe⟩ : ∃ x, x = at0 os k := ⟨_, rfl⟩
          rw [← hxe] at d0 hx hst
          have HST := Lib.hid hst
          have HB5 := Lib.hid b5
          replace b5 := blk_keep b5 hbl
          clear hst hxe hc hcell
          have hkL : (k : Int) < (Lo : Int) := by omega
          have hk5 : (k : Int) < 5 := by omega
          have hw1 : IntKind.i64.wrap x = x := by rw [IntKind.wrap_i64]; omega
          obtain ⟨xm, hxm⟩ : ∃ xm : Nat, xm = x.toNat % ws.length := ⟨_, rfl⟩
          have hm1 : x.tmod (ws.length : Int) = (xm : Int) := by
            rw [hxm]
            obtain ⟨y, rfl⟩ := Int.eq_ofNat_of_zero_le hx.1
            rfl
          rw [← hxm] at HST
          clear hxm
          go_wp2
          refine wp_region_z (z := 12) (S := fun U : World => U.heap[g5]? = some (Obj.cells #[.int .i64 m, .slice av ws.length cv] 24 (0, 0)) ∧ U.cell? ⟨b1, o1 + k, none⟩ = some (.int .u8 x)) (by kernel_rfl) ?_
          change wpAnyZ _ _ _ _ _ _ _ _ _ (World.drew wr)
          have hS0 : (World.drew wr).heap[g5]? = some (Obj.cells #[.int .i64 m, .slice av ws.length cv] 24 (0, 0)) ∧ (World.drew wr).cell? ⟨b1, o1 + k, none⟩ = some (.int .u8 x) := ⟨b5, d0⟩
          replace hown : (World.drew wr).ownsRow wl.heap.size 3 1 (.slice al k cl) k _ := hown
          replace hbl := hbl.drew
          clear b5 d0
          generalize World.drew wr = wq at *
          refine wpAnyZ_take (i := 0) (oi := { dst := some 38, op := _, type := _, pos := _, after := _, guard := _ }) (v := ?_) rfl (by kernel_rfl) (by kernel_rfl) (by kernel_rfl) (fun _ _ _ h => h) (Or.inl ⟨by rfl, ?_⟩) hS0 ?_
          rotate_left
          · intro U hU
            go_simp
            all_goals with_reducible rfl
          simp only [Act.put, List.setIfInBounds_toArray, List.set_cons_zero, List.set_cons_succ]
          refine wpAnyZ_take (i := 1) (oi := { dst := some 39, op := _, type := _, pos := _, after := _, guard := _ }) (v := ?_) rfl (by kernel_rfl) (by kernel_rfl) (by kernel_rfl) (fun _ _ _ h => h) (Or.inl ⟨by rfl, ?_⟩) hS0 ?_
          rotate_left
          · intro U hU
            go_simp
            all_goals with_reducible rfl
          simp only [Act.put, List.setIfInBounds_toArray, List.set_cons_zero, List.set_cons_succ]
          refine wpAnyZ_take (i := 2) (oi := { dst := some 40, op := _, type := _, pos := _, after := _, guard := _ }) (v := ?_) rfl (by kernel_rfl) (by kernel_rfl) (by kernel_rfl) (fun _ _ _ h => h) (Or.inl ⟨by rfl, ?_⟩) hS0 ?_
          rotate_left
          · intro U hU
            go_simp
            all_goals with_reducible rfl
          simp only [Act.put, List.setIfInBounds_toArray, List.set_cons_zero, List.set_cons_succ]
          refine wpAnyZ_take (i := 3) (oi := { dst := some 41, op := _, type := _, pos := _, after := _, guard := _ }) (v := ?_) rfl (by kernel_rfl) (by kernel_rfl) (by kernel_rfl) (fun _ _ _ h => h) (Or.inl ⟨by rfl, ?_⟩) hS0 ?_
          rotate_left
          · intro U hU
            go_simp
            all_goals with_reducible rfl
          simp only [Act.put, List.setIfInBounds_toArray, List.set_cons_zero, List.set_cons_succ]
          refine wpAnyZ_take (i := 4) (oi := { dst := some 42, op := _, type := _, pos := _, after := _, guard := _ }) (v := ?_) rfl (by kernel_rfl) (by kernel_rfl) (by kernel_rfl) (fun _ _ _ h => h) (Or.inl ⟨by rfl, ?_⟩) hS0 ?_
          rotate_left
          · intro U hU
            have hU0 := hU.2
            go_simp
            all_goals with_reducible rfl
          simp only [Act.put, List.setIfInBounds_toArray, List.set_cons_zero, List.set_cons_succ]
          refine wpAnyZ_take (i := 5) (oi := { dst := some 43, op := _, type := _, pos := _, after := _, guard := _ }) (v := ?_) rfl (by kernel_rfl) (by kernel_rfl) (by kernel_rfl) (fun _ _ _ h => h) (Or.inl ⟨by rfl, ?_⟩) hS0 ?_
          rotate_left
          · intro U hU
            go_simp
            all_goals with_reducible rfl
          simp only [Act.put, List.setIfInBounds_toArray, List.set_cons_zero, List.set_cons_succ]
          refine wpAnyZ_take (i := 6) (oi := { dst := some 44, op := _, type := _, pos := _, after := _, guard := _ }) (v := ?_) rfl (by kernel_rfl) (by kernel_rfl) (by kernel_rfl) (fun _ _ _ h => h) (Or.inl ⟨by rfl, ?_⟩) hS0 ?_
          rotate_left
          · intro U hU
            go_simp
            all_goals with_reducible rfl
          simp only [Act.put, List.setIfInBounds_toArray, List.set_cons_zero, List.set_cons_succ]
          refine wpAnyZ_take (i := 7) (oi := { dst := some 45, op := _, type := _, pos := _, after := _, guard := _ }) (v := ?_) rfl (by kernel_rfl) (by kernel_rfl) (by kernel_rfl) (fun _ _ _ h => h) (Or.inl ⟨by rfl, ?_⟩) hS0 ?_
          rotate_left
          · intro U hU
            have hU0 := cell_blk (i := 1) hU.1
            simp only [List.getElem?_toArray, List.getElem?_cons_zero, List.getElem?_cons_succ] at hU0
            go_simp
            all_goals with_reducible rfl
          simp only [Act.put, List.setIfInBounds_toArray, List.set_cons_zero, List.set_cons_succ]
          refine wpAnyZ_take (i := 8) (oi := { dst := some 46, op := _, type := _, pos := _, after := _, guard := _ }) (v := ?_) rfl (by kernel_rfl) (by kernel_rfl) (by kernel_rfl) (fun _ _ _ h => h) (Or.inl ⟨by rfl, ?_⟩) hS0 ?_
          rotate_left
          · intro U hU
            go_simp
            all_goals with_reducible rfl
          simp only [Act.put, List.setIfInBounds_toArray, List.set_cons_zero, List.set_cons_succ]
          refine wpAnyZ_take (i := 9) (oi := { dst := some 47, op := _, type := _, pos := _, after := _, guard := _ }) (v := ?_) rfl (by kernel_rfl) (by kernel_rfl) (by kernel_rfl) (fun _ _ _ h => h) (Or.inl ⟨by rfl, ?_⟩) hS0 ?_
          rotate_left
          · intro U hU
            go_simp
            all_goals with_reducible rfl
          simp only [Act.put, List.setIfInBounds_toArray, List.set_cons_zero, List.set_cons_succ]
          have hlk : (nI ((pickL ws.length os).take k)).length = k := by rw [List.length_map, List.length_take]; have := HM5.out; omega
          have HLK := Lib.hid hlk
          have hA := (Below.refl _ wq).alloc (Nat.le_refl _) (Obj.cells #[.int .i64 xm] 3 (0, 0))
          have hSA : (wq.alloc (Obj.cells #[.int .i64 xm] 3 (0, 0))).heap[g5]? = some (Obj.cells #[.int .i64 m, .slice av ws.length cv] 24 (0, 0)) ∧ (wq.alloc (Obj.cells #[.int .i64 xm] 3 (0, 0))).cell? ⟨b1, o1 + k, none⟩ = some (.int .u8 x) := ⟨blk_keep hS0.1 hA, (hA.cell (p := ⟨b1, o1 + k, none⟩) (Nat.lt_of_lt_of_le hl1 hbl.size)).trans hS0.2⟩
          clear hlk
          refine wpAnyZ_one (i := 10) (o := { dst := some 48, op := _, type := _, pos := _, after := _, guard := _ }) (by kernel_rfl) rfl (by rfl) (fun K1 hK1 => ?_)
          have HK1 := Lib.hid hK1; clear hK1
          go_simp
          refine HK1.out _ _ (fun _ => hSA) ?_
          clear HK1 K1
          try simp only [Act.put, List.setIfInBounds_toArray, List.set_cons_zero, List.set_cons_succ]
          refine wpAnyZ_one (i := 11) (o := { dst := some 49, op := _, type := _, pos := _, after := _, guard := _ }) (by kernel_rfl) rfl (by rfl) (fun K1 hK1 => ?_)
          have HK1 := Lib.hid hK1; clear hK1
          refine oper_push (.tmp 38) (.tmp 48) rfl (W := wl) (w := wq.alloc (Obj.cells #[.int .i64 xm] 3 (0, 0))) (g := wq.heap.size) (xs := nI ((pickL ws.length os).take k)) (i := (xm : Int)) (by rw [HLK.out]; exact hown.alloc _) (by rw [HLK.out]; omega) rfl rfl (heap_newI rfl) (hbl.alloc hbl.size _) ?_
          intro v9 w9 r9 hb9
          refine HK1.out _ _ (fun _ => ⟨(hb9.block _ (lt_blk HB5.out)).trans HB5.out, (hb9.cell (p := ⟨b1, o1 + k, none⟩) hl1).trans ((hbl.cell (p := ⟨b1, o1 + k, none⟩) hl1).symm.trans hS0.2)⟩) ?_
          clear HK1 K1
          try simp only [Act.put, List.setIfInBounds_toArray, List.set_cons_zero, List.set_cons_succ]
          refine wpAnyZ_last (o := { dst := some 6, op := _, type := _, pos := _, after := _, guard := _ }) (by kernel_rfl) (by kernel_rfl) rfl (by rfl) (fun K1 hK1 => ?_)
          have HK1 := Lib.hid hK1; clear hK1
          go_simp
          refine HK1.out _ _ ?_
          clear HK1 K1
          try simp only [Act.put, List.setIfInBounds_toArray, List.set_cons_zero, List.set_cons_succ]
          simp only [Exit.inBlock]
          have r10 : w9.ownsRow wl.heap.size 3 1 v9 (k + 1) ((nI ((pickL ws.length os).take (k + 1))).map (.int .i64)) := by
            rw [HST.out]
            rw [HLK.out] at r9
            simpa using r9
          clear r9 hSA hS0 hA hown hbl
          go_wp2
          go_roundw
          case rel => exact ⟨k + 1, by omega, by go_num, r10, hb9⟩
          case measure => simp [intOf]; omega
        · have hkM2 : k = M5 := by omega
          have htk : (pickL ws.length os).take k = pickL ws.length os := by rw [hkM2, ← HM5.out.2.2]; exact List.take_length
          rw [htk] at hown
          have hlk : (nI (pickL ws.length os)).length = k := by rw [List.length_map, HM5.out.2.2]; exact hkM2.symm
          have hsl := slI_own (xs := nI (pickL ws.length os)) hown hlk.symm (by rw [hlk]; omega)
          obtain ⟨lst, hlst⟩ : ∃ lst, lst = pickL ws.length os := ⟨_, rfl⟩
          rw [← hlst] at hsl
          have hll : lst.length ≤ 5 := by rw [hlst, HM5.out.2.2]; omega
          have hlt : ∀ i ∈ lst, i < ws.length := by rw [hlst]; exact pickL_lt (by have := (show ((ws.length : Int) == 0) = false from hNb); rw [beq_eq_false_iff_ne] at this; omega)
          obtain ⟨L, hL⟩ : ∃ L, L = cycs ws (m + 1) [] := ⟨_, rfl⟩
          have h37 := fun W h => cycles_any m (.slice av ws.length cv) ws HVL.out HM.out.len hm5 (m + 1) [] (.slice none 0 0) W (by simp) (.inl rfl) h (slI_nil W)
          rw [← hL] at h37
          have HL := Lib.hid hL
          have H37 := Lib.hid h37
          have HS := Lib.hid hsl
          have HLT := Lib.hid hlt
          have hkl : lst.length = k := by rw [← hlk, hlst, List.length_map]
          have HKL := Lib.hid hkl
          replace b5 := blk_keep b5 hbl
          replace HV := Lib.hid (HV.out.below hbl (Nat.le_refl _))
          replace B := btr B hbl (Nat.le_refl _)
          clear hown htk hlk hsl hlst hlt hL h37 hkl hbl HOS
          have hkM5 := hkM2
          clear hkM2
          by_cases hkLo : (k : Int) < (Lo : Int)
          · have hk5 : ¬ ((k : Int) < 5) := by have := HM5.out.2.1; have := HLo.out; omega
            clear hkM5
            go_wp2_with (first | (refine wpList_load_blk rfl 24 _ rfl _ rfl b5 Try.underlying24 rfl size24 rfl ?_) | (go_at_call 37; refine (H37.out _ HV.out).mono ?_; rintro e w5 ⟨⟨vr, vs, rfl, hsv, hrw⟩, hb⟩; obtain ⟨ar, cr, hvr⟩ := slV_form hsv; subst hvr) | (refine wp_seq_k (fun K hK => ?_); fail))
            replace b5 := blk_keep b5 hb
            replace HV := Lib.hid (HV.out.below hb (Nat.le_refl _))
            replace HS := Lib.hid (HS.out.below hb (Nat.le_refl _))
            replace B := btr B hb (Nat.le_refl _)
            have HR := Lib.hid (And.intro hsv hrw)
            clear hsv hrw hb H37
            obtain ⟨Nv, hNv⟩ : ∃ N, N = vs.length := ⟨_, rfl⟩
            have hNb2 : Nv ≤ 17592186044416 := by
              obtain ⟨_, _, _, h, _, _⟩ := HR.out.1
              rw [hNv]; exact h
            have HNV := Lib.hid (And.intro hNv (hNv.trans HR.out.2.1))
            rw [← hNv]
            clear hNv
            have hcf : 0 < Nv → ∃ b off, ar = some ⟨b, off, none⟩ ∧ b < w5.heap.size ∧ ∀ i (h : i < vs.length), w5.cell? ⟨b, off + i, none⟩ = some vs[i] := fun h0 => by
              obtain ⟨_, _, e, -, -, h⟩ := HR.out.1
              injection e with e1 _ _
              subst e1
              exact h (by rw [← HNV.out.1]; exact h0)
            have HCF := Lib.hid hcf
            have B5 := Lib.hid B
            clear B hcf
            go_loopw [8, 53] (fun bo i wr => ∃ kk : Nat, kk ≤ Nv ∧ i = .int .i64 kk ∧ bo = .bool ((L.take kk).any fun c => decide (nI c = nI lst)) ∧ Below w5.heap.size w5 wr) (fun _ i _ => Nv - (intOf i).toNat)
            case atStart => exact ⟨0, Nat.zero_le _, rfl, rfl, Below.refl _ _⟩
            case round =>
              obtain ⟨kk, hkk, rfl, rfl, hb⟩ := hrel
              obtain ⟨bo, hbo⟩ : ∃ bo, bo = (L.take kk).any fun c => decide (nI c = nI lst) := ⟨_, rfl⟩
              rw [← hbo]
              have HBO := Lib.hid hbo
              clear hbo
              by_cases hkv : kk < Nv
              · obtain ⟨bv, ov, rfl, hlv, hcell⟩ := HCF.out (by omega)
                have hkL : kk < L.length := by rw [← HNV.out.2]; exact hkv
                have hkvs : kk < vs.length := by rw [← HNV.out.1]; exact hkv
                have d0 := (hb.cell (p := ⟨bv, ov + kk, none⟩) hlv).trans (hcell kk hkvs)
                have hrow := HR.out.2.2 kk hkvs hkL
                obtain ⟨hsl, g, ng, cg, cs, hve, -⟩ := hrow
                rw [hve] at d0 hsl
                have htk : ((L.take (kk + 1)).any fun c => decide (nI c = nI lst)) = (((L.take kk).any fun c => decide (nI c = nI lst)) || decide (nI L[kk] = nI lst)) := by rw [List.take_succ_eq_append_getElem hkL, List.any_append]; simp
                obtain ⟨c0, hc0⟩ : ∃ c0, c0 = L[kk] := ⟨_, rfl⟩
                rw [← hc0] at hsl htk
                rw [← HBO.out] at htk
                have HTK := Lib.hid htk
                have h30 := numbers_any _ _ _ _ wr (hsl.below hb (Nat.le_refl _)) (HS.out.below hb (Nat.le_refl _))
                have H30 := Lib.hid h30
                clear htk hsl hc0 hve hcell hkL hkvs h30
                have hkvi : (kk : Int) < (Nv : Int) := by omega
                have hb5 := hb
                cases bo
                · go_wp2_with (first | (go_at_call 30; refine H30.out.mono ?_; rintro e w6 ⟨rfl, hb6⟩; have hb7 := hb5.trans (hb6.mono hb5.size)))
                  go_roundw
                  case rel => exact ⟨kk + 1, by omega, by go_num, by rw [HTK.out, Bool.false_or], hb7⟩
                  case measure => simp [intOf]; omega
                · go_wp2
                  go_roundw
                  case rel => exact ⟨kk + 1, by omega, by go_num, by rw [HTK.out]; rfl, hb5⟩
                  case measure => simp [intOf]; omega
              · have hkvi : ¬ ((kk : Int) < (Nv : Int)) := by omega
                have hbL : bo = true ↔ lst ∈ L := by
                  rw [HBO.out, show L.take kk = L from by rw [show kk = L.length by have := HNV.out.2; omega]; exact List.take_length, List.any_eq_true]
                  constructor
                  · rintro ⟨c, hc, h⟩
                    rw [decide_eq_true_eq] at h
                    have : c = lst := by
                      have h2 := congrArg (List.map Int.toNat) h
                      rwa [toNat_map2, toNat_map2] at h2
                    rw [← this]; exact hc
                  · exact fun h => ⟨lst, h, by simp⟩
                have hiff : bo = true ↔ holdsE (m : Int) ws (nI lst) = 0 := by
                  rw [hbL, HL.out, mem_all HVL.out, holdsE_iff HVL.out HNS.out]
                replace b5 := blk_keep b5 hb
                replace HV := Lib.hid (HV.out.below hb (Nat.le_refl _))
                replace HS := Lib.hid (HS.out.below hb (Nat.le_refl _))
                have B := B5.out.trans (hb.mono B5.out.size)
                have h26 := fun W h1 h2 => holds_any (m : Int) (.slice av ws.length cv) (.slice al k cl) ws (nI lst) W h1 h2
                obtain ⟨hE, hhE⟩ : ∃ hE, hE = holdsE (m : Int) ws (nI lst) := ⟨_, rfl⟩
                rw [← hhE] at h26 hiff
                have HHE := Lib.hid hhE
                clear hbL hhE hb HBO HCF B5 HR HNV
                by_cases hz : hE = 0
                · have hbt := hiff.2 hz
                  obtain ⟨u0, hcyc⟩ := (holdsE_iff HVL.out HNS.out lst).1 (by rw [← hz]; exact HHE.out.symm)
                  obtain ⟨pa, pb, e1, q1, q2, q3, q4, q5⟩ := per_cyc HVL.out HNS.out hcyc
                  replace h26 : ∀ (W : World) (h1 : SlA W (.slice av ws.length cv) ws) (h2 : SlI W (.slice al k cl) (nI lst)), Calls Try.prog 26 #[.agg #[.int .i64 m, .slice av ws.length cv], .slice al k cl] W fun e w' => e = .returned (.tuple #[.agg #[.int .i64 (pa : Int), .int .i64 (pb : Int)], .int .i64 0]) ∧ Below W.heap.size W w' := fun W h1 h2 => by have h := h26 W h1 h2; rw [e1, hz] at h; exact h
                  obtain ⟨s1, s2⟩ := sums_nat HVL.out HLT.out
                  have hsm := sums_bnd HVL.out.bnd lst HLT.out
                  rw [s1, s2] at hsm
                  have h38 := fun W h1 h2 => sums_any (m : Int) (.slice av ws.length cv) (.slice al k cl) ws lst W h1 h2 HVL.out.bnd HLT.out (by omega)
                  rw [s1, s2] at h38
                  obtain ⟨A, hA⟩ : ∃ A, A = pnum (m : Int) ws := ⟨_, rfl⟩
                  obtain ⟨D, hD⟩ : ∃ D, D = pden (m : Int) ws := ⟨_, rfl⟩
                  have h18 := fun W h => pace_any (m : Int) (.slice av ws.length cv) ws W h
                  rw [← hA, ← hD, ← HE.out.1] at h18
                  rw [← hA, ← hD] at q5
                  obtain ⟨l0, hS0⟩ := paceP HVL.out HNS.out
                  have hAD := hS0.b
                  rw [← hA, ← hD] at hAD
                  generalize hiN ws lst = t at *
                  generalize bkN ws lst = z at *
                  have ht5 : t ≤ 50000 := by omega
                  have hz5 : z ≤ 20 := by omega
                  have p0 : (0 : Int) ≤ (pa : Int) * z := Int.mul_nonneg (by omega) (by omega)
                  have p1 : (pa : Int) * z ≤ 100000 * 20 := Int.mul_le_mul (by omega) (by omega) (by omega) (by omega)
                  have p2 : (0 : Int) ≤ (t : Int) * pb := Int.mul_nonneg (by omega) (by omega)
                  have p3 : (t : Int) * pb ≤ 50000 * 40 := Int.mul_le_mul (by omega) (by omega) (by omega) (by omega)
                  have h39 := fun W => equal_any pa pb t z W (by rw [IntKind.wrap_i64]; omega) (by rw [IntKind.wrap_i64]; omega)
                  rw [show ((pa : Int) * z == (t : Int) * pb) = true by rw [beq_iff_eq]; exact_mod_cast q4] at h39
                  have y0 : (0 : Int) ≤ (pa : Int) * D := Int.mul_nonneg (by omega) (by omega)
                  have y1 : (pa : Int) * D ≤ 100000 * 40 := Int.mul_le_mul (by omega) (by omega) (by omega) (by omega)
                  have y2 : (0 : Int) ≤ (A : Int) * pb := Int.mul_nonneg (by omega) (by omega)
                  have y3 : (A : Int) * pb ≤ 100000 * 40 := Int.mul_le_mul (by omega) (by omega) (by omega) (by omega)
                  have y4 : IntKind.i64.wrap ((pa : Int) * D) = (pa : Int) * D := by rw [IntKind.wrap_i64]; omega
                  have y5 : IntKind.i64.wrap ((A : Int) * pb) = (A : Int) * pb := by rw [IntKind.wrap_i64]; omega
                  have y6 : decide ((pa : Int) * D ≤ (A : Int) * pb) = true := by rw [decide_eq_true_eq]; exact_mod_cast q5
                  have hpb : decide (0 < pb) = true := by rw [decide_eq_true_eq]; omega
                  have H26 := Lib.hid h26
                  have H38 := Lib.hid h38
                  have H18 := Lib.hid h18
                  have H39 := Lib.hid h39
                  subst hbt
                  clear h26 h38 h18 h39 hiff hcyc e1 q4 q5 s1 s2 hsm hA hD hS0 p0 p1 p2 p3 y0 y1 y2 y3 hz q1
                  go_wp2_with (first | (refine wpList_load_blk rfl 24 _ rfl _ rfl b5 Try.underlying24 rfl size24 rfl ?_) | (go_at_call 26; refine (H26.out _ HV.out HS.out).mono ?_; rintro e w6 ⟨rfl, hb⟩; replace b5 := blk_keep b5 hb; replace HV := Lib.hid (HV.out.below hb (Nat.le_refl _)); replace HS := Lib.hid (HS.out.below hb (Nat.le_refl _)); replace B := btr B hb (Nat.le_refl _); clear hb; have hb := (Below.refl _ w6).alloc (Nat.le_refl _) (.cells #[.int .i64 (pa : Int), .int .i64 (pb : Int)] 26); replace b5 := blk_keep b5 hb; replace HV := Lib.hid (HV.out.below hb (Nat.le_refl _)); replace HS := Lib.hid (HS.out.below hb (Nat.le_refl _)); replace B := btr B hb (Nat.le_refl _); clear hb; have b11 : (w6.alloc (.cells #[.int .i64 (pa : Int), .int .i64 (pb : Int)] 26)).heap[w6.heap.size]? = _ := heap_newI rfl) | (go_at_call 18; refine (H18.out _ HV.out).mono ?_; rintro e w7 ⟨rfl, hb⟩; replace b5 := blk_keep b5 hb; replace b11 := blk_keep b11 hb; replace HV := Lib.hid (HV.out.below hb (Nat.le_refl _)); replace HS := Lib.hid (HS.out.below hb (Nat.le_refl _)); replace B := btr B hb (Nat.le_refl _); clear hb; have hb := (Below.refl _ w7).alloc (Nat.le_refl _) (.cells #[.int .i64 (A : Int), .int .i64 (D : Int)] 26); replace b5 := blk_keep b5 hb; replace b11 := blk_keep b11 hb; replace HV := Lib.hid (HV.out.below hb (Nat.le_refl _)); replace HS := Lib.hid (HS.out.below hb (Nat.le_refl _)); replace B := btr B hb (Nat.le_refl _); clear hb; have b13 : (w7.alloc (.cells #[.int .i64 (A : Int), .int .i64 (D : Int)] 26)).heap[w7.heap.size]? = _ := heap_newI rfl) | (go_at_call 38; refine (H38.out _ HV.out HS.out).mono ?_; rintro e w8 ⟨rfl, hb⟩; replace b11 := blk_keep b11 hb; replace b13 := blk_keep b13 hb; replace B := btr B hb (Nat.le_refl _); clear hb; have x0 := cell_blk (i := 0) b11; have x1 := cell_blk (i := 1) b11; have x2 := cell_blk (i := 0) b13; have x3 := cell_blk (i := 1) b13; simp only [List.getElem?_toArray, List.getElem?_cons_zero, List.getElem?_cons_succ] at x0 x1 x2 x3) | (refine wpList_load_blk rfl 26 _ rfl _ rfl b11 Try.underlying26 rfl size26 rfl ?_) | (go_at_call 39; refine (H39.out _).mono ?_; rintro e w9 ⟨rfl, hb⟩; replace b11 := blk_keep b11 hb; replace b13 := blk_keep b13 hb; replace B := btr B hb (Nat.le_refl _); clear hb; have x0 := cell_blk (i := 0) b11; have x1 := cell_blk (i := 1) b11; have x2 := cell_blk (i := 0) b13; have x3 := cell_blk (i := 1) b13; simp only [List.getElem?_toArray, List.getElem?_cons_zero, List.getElem?_cons_succ] at x0 x1 x2 x3) | (go_at_call 16; refine (works_any _).mono ?_; rintro e w99 ⟨rfl, hb99⟩))
                  go_ret
                  exact ⟨rfl, btr B hb99 (Nat.le_refl _)⟩
                · have hbf : bo = false := by
                    cases bo with
                    | false => rfl
                    | true => exact absurd (hiff.1 rfl) hz
                  have hp := perV_bad (by rw [← HHE.out]; exact hz : holdsE (m : Int) ws (nI lst) ≠ 0)
                  replace h26 : ∀ (W : World) (h1 : SlA W (.slice av ws.length cv) ws) (h2 : SlI W (.slice al k cl) (nI lst)), Calls Try.prog 26 #[.agg #[.int .i64 m, .slice av ws.length cv], .slice al k cl] W fun e w' => e = .returned (.tuple #[.agg #[.int .i64 0, .int .i64 0], .int .i64 hE]) ∧ Below W.heap.size W w' := fun W h1 h2 => by have h := h26 W h1 h2; rw [hp] at h; exact h
                  have hzb : (hE == 0) = false := by rw [beq_eq_false_iff_ne]; exact hz
                  have H26 := Lib.hid h26
                  subst hbf
                  clear h26 hp hz hiff
                  go_wp2_with (first | (refine wpList_load_blk rfl 24 _ rfl _ rfl b5 Try.underlying24 rfl size24 rfl ?_) | (go_at_call 26; refine (H26.out _ HV.out HS.out).mono ?_; rintro e w6 ⟨rfl, hb⟩; replace B := btr B hb (Nat.le_refl _); clear hb; have hb := (Below.refl _ w6).alloc (Nat.le_refl _) (.cells #[.int .i64 0, .int .i64 0] 26); replace B := btr B hb (Nat.le_refl _); clear hb; have b11 : (w6.alloc (.cells #[.int .i64 0, .int .i64 0] 26)).heap[w6.heap.size]? = _ := heap_newI rfl) | (refine wpList_load_blk rfl 26 _ rfl _ rfl b11 Try.underlying26 rfl size26 rfl ?_) | (refine wpList_val2 (.bool true) rfl (exec_eql26 (x := .tmp 76) (y := .tmp 77) (A := 0) (D := 0) rfl rfl rfl) ?_) | (go_at_call 16; refine (works_any _).mono ?_; rintro e w99 ⟨rfl, hb99⟩))
                  go_ret
                  exact ⟨rfl, btr B hb99 (Nat.le_refl _)⟩
          · clear hkM5
            go_wp2_with (first | (refine wpList_load_blk rfl 24 _ rfl _ rfl b5 Try.underlying24 rfl size24 rfl ?_) | (go_at_call 37; refine (H37.out _ HV.out).mono ?_; rintro e w5 ⟨⟨vr, vs, rfl, hsv, hrw⟩, hb⟩; obtain ⟨ar, cr, hvr⟩ := slV_form hsv; subst hvr) | (refine wp_seq_k (fun K hK => ?_); fail))
            replace b5 := blk_keep b5 hb
            replace HV := Lib.hid (HV.out.below hb (Nat.le_refl _))
            replace HS := Lib.hid (HS.out.below hb (Nat.le_refl _))
            replace B := btr B hb (Nat.le_refl _)
            have HR := Lib.hid (And.intro hsv hrw)
            clear hsv hrw hb H37
            obtain ⟨Nv, hNv⟩ : ∃ N, N = vs.length := ⟨_, rfl⟩
            have hNb2 : Nv ≤ 17592186044416 := by
              obtain ⟨_, _, _, h, _, _⟩ := HR.out.1
              rw [hNv]; exact h
            have HNV := Lib.hid (And.intro hNv (hNv.trans HR.out.2.1))
            rw [← hNv]
            clear hNv
            have hcf : 0 < Nv → ∃ b off, ar = some ⟨b, off, none⟩ ∧ b < w5.heap.size ∧ ∀ i (h : i < vs.length), w5.cell? ⟨b, off + i, none⟩ = some vs[i] := fun h0 => by
              obtain ⟨_, _, e, -, -, h⟩ := HR.out.1
              injection e with e1 _ _
              subst e1
              exact h (by rw [← HNV.out.1]; exact h0)
            have HCF := Lib.hid hcf
            have B5 := Lib.hid B
            clear B hcf
            go_loopw [8, 53] (fun bo i wr => ∃ kk : Nat, kk ≤ Nv ∧ i = .int .i64 kk ∧ bo = .bool ((L.take kk).any fun c => decide (nI c = nI lst)) ∧ Below w5.heap.size w5 wr) (fun _ i _ => Nv - (intOf i).toNat)
            case atStart => exact ⟨0, Nat.zero_le _, rfl, rfl, Below.refl _ _⟩
            case round =>
              obtain ⟨kk, hkk, rfl, rfl, hb⟩ := hrel
              obtain ⟨bo, hbo⟩ : ∃ bo, bo = (L.take kk).any fun c => decide (nI c = nI lst) := ⟨_, rfl⟩
              rw [← hbo]
              have HBO := Lib.hid hbo
              clear hbo
              by_cases hkv : kk < Nv
              · obtain ⟨bv, ov, rfl, hlv, hcell⟩ := HCF.out (by omega)
                have hkL : kk < L.length := by rw [← HNV.out.2]; exact hkv
                have hkvs : kk < vs.length := by rw [← HNV.out.1]; exact hkv
                have d0 := (hb.cell (p := ⟨bv, ov + kk, none⟩) hlv).trans (hcell kk hkvs)
                have hrow := HR.out.2.2 kk hkvs hkL
                obtain ⟨hsl, g, ng, cg, cs, hve, -⟩ := hrow
                rw [hve] at d0 hsl
                have htk : ((L.take (kk + 1)).any fun c => decide (nI c = nI lst)) = (((L.take kk).any fun c => decide (nI c = nI lst)) || decide (nI L[kk] = nI lst)) := by rw [List.take_succ_eq_append_getElem hkL, List.any_append]; simp
                obtain ⟨c0, hc0⟩ : ∃ c0, c0 = L[kk] := ⟨_, rfl⟩
                rw [← hc0] at hsl htk
                rw [← HBO.out] at htk
                have HTK := Lib.hid htk
                have h30 := numbers_any _ _ _ _ wr (hsl.below hb (Nat.le_refl _)) (HS.out.below hb (Nat.le_refl _))
                have H30 := Lib.hid h30
                clear htk hsl hc0 hve hcell hkL hkvs h30
                have hkvi : (kk : Int) < (Nv : Int) := by omega
                have hb5 := hb
                cases bo
                · go_wp2_with (first | (go_at_call 30; refine H30.out.mono ?_; rintro e w6 ⟨rfl, hb6⟩; have hb7 := hb5.trans (hb6.mono hb5.size)))
                  go_roundw
                  case rel => exact ⟨kk + 1, by omega, by go_num, by rw [HTK.out, Bool.false_or], hb7⟩
                  case measure => simp [intOf]; omega
                · go_wp2
                  go_roundw
                  case rel => exact ⟨kk + 1, by omega, by go_num, by rw [HTK.out]; rfl, hb5⟩
                  case measure => simp [intOf]; omega
              · have hkvi : ¬ ((kk : Int) < (Nv : Int)) := by omega
                have hbL : bo = true ↔ lst ∈ L := by
                  rw [HBO.out, show L.take kk = L from by rw [show kk = L.length by have := HNV.out.2; omega]; exact List.take_length, List.any_eq_true]
                  constructor
                  · rintro ⟨c, hc, h⟩
                    rw [decide_eq_true_eq] at h
                    have : c = lst := by
                      have h2 := congrArg (List.map Int.toNat) h
                      rwa [toNat_map2, toNat_map2] at h2
                    rw [← this]; exact hc
                  · exact fun h => ⟨lst, h, by simp⟩
                have hiff : bo = true ↔ holdsE (m : Int) ws (nI lst) = 0 := by
                  rw [hbL, HL.out, mem_all HVL.out, holdsE_iff HVL.out HNS.out]
                replace b5 := blk_keep b5 hb
                replace HV := Lib.hid (HV.out.below hb (Nat.le_refl _))
                replace HS := Lib.hid (HS.out.below hb (Nat.le_refl _))
                have B := B5.out.trans (hb.mono B5.out.size)
                have h26 := fun W h1 h2 => holds_any (m : Int) (.slice av ws.length cv) (.slice al k cl) ws (nI lst) W h1 h2
                obtain ⟨hE, hhE⟩ : ∃ hE, hE = holdsE (m : Int) ws (nI lst) := ⟨_, rfl⟩
                rw [← hhE] at h26 hiff
                have HHE := Lib.hid hhE
                clear hbL hhE hb HBO HCF B5 HR HNV
                by_cases hz : hE = 0
                · have hbt := hiff.2 hz
                  obtain ⟨u0, hcyc⟩ := (holdsE_iff HVL.out HNS.out lst).1 (by rw [← hz]; exact HHE.out.symm)
                  obtain ⟨pa, pb, e1, q1, q2, q3, q4, q5⟩ := per_cyc HVL.out HNS.out hcyc
                  replace h26 : ∀ (W : World) (h1 : SlA W (.slice av ws.length cv) ws) (h2 : SlI W (.slice al k cl) (nI lst)), Calls Try.prog 26 #[.agg #[.int .i64 m, .slice av ws.length cv], .slice al k cl] W fun e w' => e = .returned (.tuple #[.agg #[.int .i64 (pa : Int), .int .i64 (pb : Int)], .int .i64 0]) ∧ Below W.heap.size W w' := fun W h1 h2 => by have h := h26 W h1 h2; rw [e1, hz] at h; exact h
                  obtain ⟨s1, s2⟩ := sums_nat HVL.out HLT.out
                  have hsm := sums_bnd HVL.out.bnd lst HLT.out
                  rw [s1, s2] at hsm
                  have h38 := fun W h1 h2 => sums_any (m : Int) (.slice av ws.length cv) (.slice al k cl) ws lst W h1 h2 HVL.out.bnd HLT.out (by omega)
                  rw [s1, s2] at h38
                  obtain ⟨A, hA⟩ : ∃ A, A = pnum (m : Int) ws := ⟨_, rfl⟩
                  obtain ⟨D, hD⟩ : ∃ D, D = pden (m : Int) ws := ⟨_, rfl⟩
                  have h18 := fun W h => pace_any (m : Int) (.slice av ws.length cv) ws W h
                  rw [← hA, ← hD, ← HE.out.1] at h18
                  rw [← hA, ← hD] at q5
                  obtain ⟨l0, hS0⟩ := paceP HVL.out HNS.out
                  have hAD := hS0.b
                  rw [← hA, ← hD] at hAD
                  generalize hiN ws lst = t at *
                  generalize bkN ws lst = z at *
                  have ht5 : t ≤ 50000 := by omega
                  have hz5 : z ≤ 20 := by omega
                  have p0 : (0 : Int) ≤ (pa : Int) * z := Int.mul_nonneg (by omega) (by omega)
                  have p1 : (pa : Int) * z ≤ 100000 * 20 := Int.mul_le_mul (by omega) (by omega) (by omega) (by omega)
                  have p2 : (0 : Int) ≤ (t : Int) * pb := Int.mul_nonneg (by omega) (by omega)
                  have p3 : (t : Int) * pb ≤ 50000 * 40 := Int.mul_le_mul (by omega) (by omega) (by omega) (by omega)
                  have h39 := fun W => equal_any pa pb t z W (by rw [IntKind.wrap_i64]; omega) (by rw [IntKind.wrap_i64]; omega)
                  rw [show ((pa : Int) * z == (t : Int) * pb) = true by rw [beq_iff_eq]; exact_mod_cast q4] at h39
                  have y0 : (0 : Int) ≤ (pa : Int) * D := Int.mul_nonneg (by omega) (by omega)
                  have y1 : (pa : Int) * D ≤ 100000 * 40 := Int.mul_le_mul (by omega) (by omega) (by omega) (by omega)
                  have y2 : (0 : Int) ≤ (A : Int) * pb := Int.mul_nonneg (by omega) (by omega)
                  have y3 : (A : Int) * pb ≤ 100000 * 40 := Int.mul_le_mul (by omega) (by omega) (by omega) (by omega)
                  have y4 : IntKind.i64.wrap ((pa : Int) * D) = (pa : Int) * D := by rw [IntKind.wrap_i64]; omega
                  have y5 : IntKind.i64.wrap ((A : Int) * pb) = (A : Int) * pb := by rw [IntKind.wrap_i64]; omega
                  have y6 : decide ((pa : Int) * D ≤ (A : Int) * pb) = true := by rw [decide_eq_true_eq]; exact_mod_cast q5
                  have hpb : decide (0 < pb) = true := by rw [decide_eq_true_eq]; omega
                  have H26 := Lib.hid h26
                  have H38 := Lib.hid h38
                  have H18 := Lib.hid h18
                  have H39 := Lib.hid h39
                  subst hbt
                  clear h26 h38 h18 h39 hiff hcyc e1 q4 q5 s1 s2 hsm hA hD hS0 p0 p1 p2 p3 y0 y1 y2 y3 hz q1
                  go_wp2_with (first | (refine wpList_load_blk rfl 24 _ rfl _ rfl b5 Try.underlying24 rfl size24 rfl ?_) | (go_at_call 26; refine (H26.out _ HV.out HS.out).mono ?_; rintro e w6 ⟨rfl, hb⟩; replace b5 := blk_keep b5 hb; replace HV := Lib.hid (HV.out.below hb (Nat.le_refl _)); replace HS := Lib.hid (HS.out.below hb (Nat.le_refl _)); replace B := btr B hb (Nat.le_refl _); clear hb; have hb := (Below.refl _ w6).alloc (Nat.le_refl _) (.cells #[.int .i64 (pa : Int), .int .i64 (pb : Int)] 26); replace b5 := blk_keep b5 hb; replace HV := Lib.hid (HV.out.below hb (Nat.le_refl _)); replace HS := Lib.hid (HS.out.below hb (Nat.le_refl _)); replace B := btr B hb (Nat.le_refl _); clear hb; have b11 : (w6.alloc (.cells #[.int .i64 (pa : Int), .int .i64 (pb : Int)] 26)).heap[w6.heap.size]? = _ := heap_newI rfl) | (go_at_call 18; refine (H18.out _ HV.out).mono ?_; rintro e w7 ⟨rfl, hb⟩; replace b5 := blk_keep b5 hb; replace b11 := blk_keep b11 hb; replace HV := Lib.hid (HV.out.below hb (Nat.le_refl _)); replace HS := Lib.hid (HS.out.below hb (Nat.le_refl _)); replace B := btr B hb (Nat.le_refl _); clear hb; have hb := (Below.refl _ w7).alloc (Nat.le_refl _) (.cells #[.int .i64 (A : Int), .int .i64 (D : Int)] 26); replace b5 := blk_keep b5 hb; replace b11 := blk_keep b11 hb; replace HV := Lib.hid (HV.out.below hb (Nat.le_refl _)); replace HS := Lib.hid (HS.out.below hb (Nat.le_refl _)); replace B := btr B hb (Nat.le_refl _); clear hb; have b13 : (w7.alloc (.cells #[.int .i64 (A : Int), .int .i64 (D : Int)] 26)).heap[w7.heap.size]? = _ := heap_newI rfl) | (go_at_call 38; refine (H38.out _ HV.out HS.out).mono ?_; rintro e w8 ⟨rfl, hb⟩; replace b11 := blk_keep b11 hb; replace b13 := blk_keep b13 hb; replace B := btr B hb (Nat.le_refl _); clear hb; have x0 := cell_blk (i := 0) b11; have x1 := cell_blk (i := 1) b11; have x2 := cell_blk (i := 0) b13; have x3 := cell_blk (i := 1) b13; simp only [List.getElem?_toArray, List.getElem?_cons_zero, List.getElem?_cons_succ] at x0 x1 x2 x3) | (refine wpList_load_blk rfl 26 _ rfl _ rfl b11 Try.underlying26 rfl size26 rfl ?_) | (go_at_call 39; refine (H39.out _).mono ?_; rintro e w9 ⟨rfl, hb⟩; replace b11 := blk_keep b11 hb; replace b13 := blk_keep b13 hb; replace B := btr B hb (Nat.le_refl _); clear hb; have x0 := cell_blk (i := 0) b11; have x1 := cell_blk (i := 1) b11; have x2 := cell_blk (i := 0) b13; have x3 := cell_blk (i := 1) b13; simp only [List.getElem?_toArray, List.getElem?_cons_zero, List.getElem?_cons_succ] at x0 x1 x2 x3) | (go_at_call 16; refine (works_any _).mono ?_; rintro e w99 ⟨rfl, hb99⟩))
                  go_ret
                  exact ⟨rfl, btr B hb99 (Nat.le_refl _)⟩
                · have hbf : bo = false := by
                    cases bo with
                    | false => rfl
                    | true => exact absurd (hiff.1 rfl) hz
                  have hp := perV_bad (by rw [← HHE.out]; exact hz : holdsE (m : Int) ws (nI lst) ≠ 0)
                  replace h26 : ∀ (W : World) (h1 : SlA W (.slice av ws.length cv) ws) (h2 : SlI W (.slice al k cl) (nI lst)), Calls Try.prog 26 #[.agg #[.int .i64 m, .slice av ws.length cv], .slice al k cl] W fun e w' => e = .returned (.tuple #[.agg #[.int .i64 0, .int .i64 0], .int .i64 hE]) ∧ Below W.heap.size W w' := fun W h1 h2 => by have h := h26 W h1 h2; rw [hp] at h; exact h
                  have hzb : (hE == 0) = false := by rw [beq_eq_false_iff_ne]; exact hz
                  have H26 := Lib.hid h26
                  subst hbf
                  clear h26 hp hz hiff
                  go_wp2_with (first | (refine wpList_load_blk rfl 24 _ rfl _ rfl b5 Try.underlying24 rfl size24 rfl ?_) | (go_at_call 26; refine (H26.out _ HV.out HS.out).mono ?_; rintro e w6 ⟨rfl, hb⟩; replace B := btr B hb (Nat.le_refl _); clear hb; have hb := (Below.refl _ w6).alloc (Nat.le_refl _) (.cells #[.int .i64 0, .int .i64 0] 26); replace B := btr B hb (Nat.le_refl _); clear hb; have b11 : (w6.alloc (.cells #[.int .i64 0, .int .i64 0] 26)).heap[w6.heap.size]? = _ := heap_newI rfl) | (refine wpList_load_blk rfl 26 _ rfl _ rfl b11 Try.underlying26 rfl size26 rfl ?_) | (refine wpList_val2 (.bool true) rfl (exec_eql26 (x := .tmp 76) (y := .tmp 77) (A := 0) (D := 0) rfl rfl rfl) ?_) | (go_at_call 16; refine (works_any _).mono ?_; rintro e w99 ⟨rfl, hb99⟩))
                  go_ret
                  exact ⟨rfl, btr B hb99 (Nat.le_refl _)⟩
  · have hEb : (E != 0) = true := by simpa using hE0
    clear hE0
    go_wp2_with (first | (refine wpList_load_blk rfl 24 _ rfl _ rfl b5 Try.underlying24 rfl size24 rfl ?_) | (go_at_call 22; refine (H22.out _ HV.out).mono ?_; rintro e w4 ⟨rfl, hb⟩; replace b5 := blk_keep b5 hb; replace HV := Lib.hid (HV.out.below hb (Nat.le_refl _)); replace HOS := Lib.hid (HOS.out.below hb (Nat.le_refl _)); replace B := btr B hb (Nat.le_refl _); clear hb; have c51 := cell_blk (i := 1) b5; simp only [List.getElem?_toArray, List.getElem?_cons_zero, List.getElem?_cons_succ] at c51) | (go_at_call 16; refine (works_any _).mono ?_; rintro e w99 ⟨rfl, hb99⟩))
    go_ret
    exact ⟨rfl, btr B hb99 (Nat.le_refl _)⟩
end Yteileadcmekkoaa
end Go.Proofs
