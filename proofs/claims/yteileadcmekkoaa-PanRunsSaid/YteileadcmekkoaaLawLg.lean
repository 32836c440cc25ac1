/- For each house and number, the walk of PanLong. -/
import Derived.Test.YteileadcmekkoaaMd
import Derived.Test.YteileadcmekkoaaLg
import Derived.Test.YteileadcmekkoaaQ25
import Derived.Test.YteileadcmekkoaaQ20
open Go Go.RowKit Go.YteileadcmekkoaaIt
namespace Go.Proofs
namespace Yteileadcmekkoaa
theorem size65 : (Try.prog.info? 65).map (·.size) = some 2 := by kernel_rfl
theorem slPP_form {w : World} {v : Value} {rows : List (List (Int × Int))} (h : SlPP w v rows) : ∃ ad c, v = .slice ad rows.length c := by
  obtain ⟨vs, ⟨ad, cap, hv, _⟩, hl, _⟩ := h
  exact ⟨ad, cap, by rw [hv, hl]⟩
theorem runs_cells {w : World} {v : Value} {N m : Nat} {R : Rows} (h : SlPP w v ((List.range N).map (fun k => (List.range m).map (R k)))) (hN : 0 < N) (hm : 0 < m) :
    ∃ bl ol c, v = .slice (some ⟨bl, ol, none⟩) N c ∧ bl < w.heap.size ∧ ∀ k, k < N → ∃ b o c, w.cell? ⟨bl, ol + k, none⟩ = some (.slice (some ⟨b, o, none⟩) m c) ∧ b < w.heap.size ∧
      ∀ v, v < m → w.cell? ⟨b, o + v * 2, none⟩ = some (.int .i64 (R k v).1) ∧ w.cell? ⟨b, o + v * 2 + 1, none⟩ = some (.int .i64 (R k v).2) := by
  obtain ⟨vs, ⟨ad, cap, hv, -, -, hc⟩, hl, hr⟩ := h
  rw [List.length_map, List.length_range] at hl
  obtain ⟨bl, ol, rfl, hlt, hcell⟩ := hc (by omega)
  rw [hl] at hv
  refine ⟨bl, ol, cap, hv, hlt, fun k hk => ?_⟩
  have h1 := hcell k (by omega)
  obtain ⟨ad1, cap1, hv1, -, -, hc1⟩ := hr k (by omega) (by simpa using hk)
  have e1 : ((List.range N).map (fun k => (List.range m).map (R k)))[k]'(by simpa using hk) = (List.range m).map (R k) := by simp
  rw [e1] at hv1 hc1
  have hlen1 : ((List.range m).map (R k)).length = m := by simp
  rw [hlen1] at hv1
  obtain ⟨b, o, rfl, hb, hcc⟩ := hc1 (by rw [hlen1]; exact hm)
  refine ⟨b, o, cap1, by rw [h1, hv1], hb, fun v hvm => ?_⟩
  have h0 := hcc v (by simpa using hvm) 0 (.int .i64 (R k v).1) (by simp [encP])
  have h2 := hcc v (by simpa using hvm) 1 (.int .i64 (R k v).2) (by simp [encP])
  exact ⟨h0, h2⟩
theorem bk3 {n : Int} {ws : List Wa} (hM : Made n ws) : ∀ c : List Nat, (∀ i ∈ c, i < ws.length) → bkS ws c ≤ 3 * c.length
  | [], _ => by simp [bkS]
  | i :: c, h => by
    have h1 := bk3 hM c (fun j hj => h j (by simp [hj]))
    have h2 := hM.ok (at_ ws i) (by rw [at_lt (h i (by simp))]; exact List.getElem_mem _)
    unfold okM at h2
    have e1 : bkS ws (i :: c) = (at_ ws i).b + bkS ws c := by simp [bkS]
    rw [e1, List.length_cons]
    push_cast
    omega
set_option maxRecDepth 100000 in
set_option maxHeartbeats 8000000 in
theorem long_any (s a : Int) (u : Value) (qs : List Q4) (w : World) (hs : 0 ≤ s ∧ s < 256) (ha : 0 ≤ a ∧ a < 256) (hq : ∀ q ∈ qs, q.ok) (hu : SlQ w u qs) :
    Calls Try.prog 11 #[.agg #[.int .u8 s, u], .int .u8 a] w fun e w' => e = .returned (.bool true) ∧ Below w.heap.size w w' := by
  have HU := Lib.hid hu
  have HQ := Lib.hid hq
  obtain ⟨ad, cap, rfl, -, -, -⟩ := hu
  clear hq
  go_enter Try.func11, Try.ntmps11
  refine wp_seq_k (fun K hK => ?_)
  have HK := Lib.hid hK; clear hK
  go_wp2
  refine HK.out _ _ ?_; clear HK K
  generalize hw1 : World.alloc _ _ = w1
  obtain ⟨b1, hB0, hs1⟩ := blk1 hw1
  clear hw1
  have h36 := made_any s _ qs w1 hs HQ.out (HU.out.below hB0 (Nat.le_refl _))
  have H36 := Lib.hid h36
  clear h36 HU HQ
  refine wp_seq_k (fun K hK => ?_)
  have HK := Lib.hid hK; clear hK
  go_wp2_with (first | (refine wpList_load_blk rfl 65 _ rfl _ rfl b1 Try.underlying65 rfl size65 rfl ?_) | (go_at_call 36; refine H36.out.mono ?_; rintro e w2 ⟨n, v, ws, rfl, hv, hM, hb2⟩; have hv0 := hv; obtain ⟨av, cv, rfl, -, -, -⟩ := hv))
  refine HK.out _ _ ?_; clear HK K H36
  have hnb := And.intro hM.n1 hM.n5
  have hlen := hM.len
  have B := btr hB0 hb2 (Nat.le_refl _)
  generalize hw3 : World.alloc _ _ = w3
  obtain ⟨b5, hB3, hs3⟩ := blk1 hw3
  clear hw3
  have HV := Lib.hid (hv0.below hB3 (Nat.le_refl _))
  replace B := btr B hB3 (Nat.le_refl _)
  have HM := Lib.hid hM
  clear hv0 hb2 hB3 hB0 hM
  clear b1
  refine wp_seq_k (fun K hK => ?_)
  have HK := Lib.hid hK; clear hK
  go_wp2_with (first | (refine wpList_load_blk rfl 24 _ rfl _ rfl b5 Try.underlying24 rfl size24 rfl ?_) | (go_at_call 24; refine (hold_any _ _ ws _ HV.out).mono ?_; rintro e w4 ⟨⟨vc, l, rfl, hnil, hl⟩, hb⟩; have hc0 := hnil.1; obtain ⟨ac, cc, rfl⟩ := slI_form hc0))
  refine HK.out _ _ ?_; clear HK K
  replace b5 := blk_keep b5 hb
  have HV := Lib.hid (HV.out.below hb (Nat.le_refl _))
  replace B := btr B hb (Nat.le_refl _)
  have HC := Lib.hid hc0
  have HL := Lib.hid hl
  clear hb hc0 hl hnil
  obtain ⟨m, rfl⟩ : ∃ m : Nat, n = m := ⟨n.toNat, by omega⟩
  have hval : Val m ws := val_mem.2 ⟨⟨by omega, by omega⟩, by omega, fun x hx => by have := HM.out.ok x hx; unfold okM at this; unfold okV; omega⟩
  have hch := chk_of hval
  have HVL := Lib.hid hval
  clear hval
  obtain ⟨E0, hE0⟩ : ∃ E0, E0 = holdE m ws := ⟨_, rfl⟩
  rw [← hE0]
  have hE3 : E0 = 16 ∨ E0 = 5 ∨ E0 = 0 := by
    rw [hE0]; unfold holdE; rw [hch]
    by_cases h1 : NS ws <;> by_cases h2 : pnum (m : Int) ws = 0 <;> simp [h1, h2]
  clear hch
  have HE0 := Lib.hid hE0
  clear hE0
  rcases hE3 with hE | hE | hE
  · subst hE
    go_wp2_with (go_at_call 16; refine (works_any _).mono ?_; rintro e w9 ⟨rfl, hb⟩)
    go_ret
    exact ⟨rfl, btr B hb (Nat.le_refl _)⟩
  · subst hE
    go_wp2_with (go_at_call 16; refine (works_any _).mono ?_; rintro e w9 ⟨rfl, hb⟩)
    go_ret
    exact ⟨rfl, btr B hb (Nat.le_refl _)⟩
  · subst hE
    have hcyc : CycP m ws (pnum m ws) (pden m ws) l ∧ NS ws := by
      rcases HL.out with ⟨_, h⟩ | ⟨m', hm', -, hns, h, -, -⟩
      · exact absurd HE0.out.symm h
      · have : m' = m := by omega
        subst this; exact ⟨h, hns⟩
    obtain ⟨⟨u0, hcu⟩, hcl, p, q, hp, hq, hq1, -, -⟩ := hcyc.1
    have hil : ∀ i ∈ l, i < ws.length := fun i hi => by
      obtain ⟨e, he⟩ := hcu.path.mem i hi
      exact (eds_some he).1
    have hbnd : Bnd ws := fun i hi => by
      have := HM.out.ok (at_ ws i) (by rw [at_lt hi]; exact List.getElem_mem hi)
      unfold okM at this; omega
    have hq15 : (q : Int) ≤ 15 := by
      have h := bk3 HM.out l hil
      omega
    have hp10 : (p : Int) ≤ 50000 := by
      have h := (sums_bnd hbnd l hil).1.2
      omega
    have HS := Lib.hid (And.intro hcu (And.intro hcyc.2 (And.intro hp hq)))
    have HI := Lib.hid (And.intro hil hbnd)
    have hq1' : (1 : Int) ≤ q := by omega
    clear hcyc hcu hp hq hq1 hil hbnd HL HE0
    obtain ⟨N, hN⟩ : ∃ N, N = l.length := ⟨_, rfl⟩
    have hN5 : N ≤ 5 := by omega
    clear hcl
    have hcA := HC.out
    rw [List.length_map] at hcA
    try rw [List.length_map]
    rw [← hN] at hcA
    rw [← hN]
    have HN := Lib.hid hN
    clear hN
    refine wp_seq_k (fun K hK => ?_)
    have HK := Lib.hid hK; clear hK
    go_wp2
    refine HK.out _ _ ?_; clear HK K
    refine wp_seq_k (fun K hK => ?_)
    have HK := Lib.hid hK; clear hK
    go_wp2
    obtain ⟨ac0, cc0, e0, -, -, hcc⟩ := HC.out
    rw [List.length_map] at e0 hcc
    injection e0 with e1 e2 e3
    subst e1 e3
    have hN1 : 1 ≤ N := by
      have h := HS.out.1.ne
      rw [HN.out]
      exact List.length_pos_iff.2 h
    obtain ⟨bc, oc, rfl, hlc, hcell⟩ := hcc (by rw [← HN.out]; exact hN1)
    have hcl : ∀ k (h : k < l.length), w4.cell? ⟨bc, oc + k, none⟩ = some (.int .i64 (l[k] : Nat)) := fun k h => by
      have h1 := hcell k h
      have hat : at0 (l.map fun (i : Nat) => (i : Int)) k = (l[k] : Nat) := by rw [at0_lt (by rw [List.length_map]; exact h)]; simp
      rw [hat] at h1
      exact h1
    have HCL := Lib.hid hcl
    have HCN := Lib.hid hcA
    clear hcell hcc hcl e2 hcA
    have c51 := cell_blk (i := 1) b5
    have c50 := cell_blk (i := 0) b5
    simp only [List.getElem?_toArray, List.getElem?_cons_zero, List.getElem?_cons_succ] at c51 c50
    go_loopw [34] (fun i wr => ∃ k : Nat, i = .int .i64 k ∧ k ≤ N ∧ wr = w4) (fun i _ => N - (intOf i).toNat)
    case atStart => exact ⟨0, rfl, Nat.zero_le _, by first | trivial | rfl⟩
    case round =>
      obtain ⟨k, rfl, hk, rfl⟩ := hrel
      by_cases hkN : k < N
      · have hkc : k < l.length := by rw [← HN.out]; exact hkN
        have q0 := HCL.out k hkc
        have hxi := HI.out.1 _ (List.getElem_mem hkc)
        generalize l[k] = i at *
        have hn1 : ¬ ((i : Int) < 0) := by omega
        have hn2 : ¬ ((ws.length : Int) ≤ (i : Int)) := by omega
        go_wp2
        go_roundw
        case rel => exact ⟨k + 1, by go_num, by omega, by first | trivial | rfl⟩
        case measure => simp [intOf]; omega
      · have hkN2 : k = N := by omega
        subst hkN2
        have hklN : ¬ ((k : Int) < (k : Int)) := by omega
        go_wp2
        refine HK.out _ _ ?_; clear HK
        refine wp_seq_k (fun K hK => ?_)
        have HK := Lib.hid hK; clear hK
        go_wp2_with (first | (refine wpList_load_blk rfl 24 _ rfl _ rfl b5 Try.underlying24 rfl size24 rfl ?_) | (go_at_call 38; refine (sums_any _ _ _ ws l _ HV.out HCN.out HI.out.2 HI.out.1 (by have := HN.out; omega)).mono ?_; rintro e w5 ⟨rfl, hb⟩; rw [HS.out.2.2.1, HS.out.2.2.2]))
        refine HK.out _ _ ?_; clear HK K
        replace b5 := blk_keep b5 hb
        have HV := Lib.hid (HV.out.below hb (Nat.le_refl _))
        replace B := btr B hb (Nat.le_refl _)
        have HBC := Lib.hid hb
        clear hb c50 c51
        have c51 := cell_blk (i := 1) b5
        have c50 := cell_blk (i := 0) b5
        simp only [List.getElem?_toArray, List.getElem?_cons_zero, List.getElem?_cons_succ] at c51 c50
        refine wp_seq_k (fun K hK => ?_)
        have HK := Lib.hid hK; clear hK
        go_wp2
        refine HK.out _ _ ?_; clear HK K
        obtain ⟨r, hr, hr3⟩ : ∃ r : Nat, 1 + a % 3 = (r : Int) ∧ (1 ≤ r ∧ r ≤ 3) := ⟨(1 + a % 3).toNat, by omega, by omega⟩
        rw [hr]
        clear hr
        obtain ⟨M, hM1⟩ : ∃ M : Nat, M = r * q := ⟨_, rfl⟩
        have hM2 : 1 ≤ M ∧ M ≤ 45 := by
          rw [hM1]
          exact ⟨Nat.mul_pos (by omega) (by omega), Nat.le_trans (Nat.mul_le_mul hr3.2 (show q ≤ 15 by omega)) (by decide)⟩
        have hrq : (r : Int) * (q : Int) = (M : Int) := by rw [hM1, Int.natCast_mul]
        have HM1 := Lib.hid hM1
        clear hM1
        have hRE : runsE (m : Int) ws ((M : Int) + 3) = 0 := by
          unfold runsE
          rw [chk_of HVL.out, if_pos HS.out.2.1, if_neg (by decide), if_neg]
          simp [btw]; omega
        have HRE := Lib.hid hRE
        clear hRE
        refine wp_seq_k (fun K hK => ?_)
        have HK := Lib.hid hK; clear hK
        go_wp2
        refine HK.out _ _ ?_; clear HK K
        refine wp_seq_k (fun K hK => ?_)
        have HK := Lib.hid hK; clear hK
        go_wp2_with (first | (refine wpList_load_blk rfl 24 _ rfl _ rfl b5 Try.underlying24 rfl size24 rfl ?_) | (go_at_call 33; refine (runs_any _ _ ws _ _ HV.out).mono ?_; rintro e w6 ⟨⟨vl, rows, rfl, hrows, -, hok⟩, hb⟩; rw [HRE.out]; obtain ⟨m2, N2, R, hm2, hN2, hv2, hs2, h200, hreq, hrw, hpos⟩ := hok HRE.out; rw [hrw] at hrows; obtain ⟨bl, ol, cl, rfl, hbl, hrl⟩ := runs_cells hrows (by omega) (by omega)))
        refine HK.out _ _ ?_; clear HK K
        have hmm : m2 = m := by omega
        subst hmm
        replace b5 := blk_keep b5 hb
        have HV := Lib.hid (HV.out.below hb (Nat.le_refl _))
        replace B := btr B hb (Nat.le_refl _)
        have HBC := Lib.hid (btr HBC.out hb (Nat.le_refl _))
        have HRL := Lib.hid hrl
        have HRQ := Lib.hid (And.intro hreq hpos)
        clear hb c50 c51 hrl hreq hpos hok hrows hrw hm2 hv2 hs2 h200
        have c51 := cell_blk (i := 1) b5
        have c50 := cell_blk (i := 0) b5
        simp only [List.getElem?_toArray, List.getElem?_cons_zero, List.getElem?_cons_succ] at c51 c50
        refine wp_seq_k (fun K hK => ?_)
        have HK := Lib.hid hK; clear hK
        go_wp2
        refine HK.out _ _ ?_; clear HK K
        refine wp_seq_k (fun K hK => ?_)
        have HK := Lib.hid hK; clear hK
        go_wp2
        go_loopw [14] (fun i wr => ∃ j : Nat, i = .int .i64 j ∧ j ≤ 3 ∧ Below w6.heap.size w6 wr) (fun i _ => 3 - (intOf i).toNat)
        case atStart => exact ⟨0, rfl, Nat.zero_le _, Below.refl _ _⟩
        case round =>
          obtain ⟨j, rfl, hj, hBj⟩ := hrel
          by_cases hj3 : j < 3
          · have hj3i : (j : Int) < 3 := by omega
            go_wp2
            go_loopw [94] (fun i wx => ∃ y : Nat, i = .int .i64 y ∧ y ≤ k ∧ Below w6.heap.size w6 wx) (fun i _ => k - (intOf i).toNat)
            case atStart => exact ⟨0, rfl, Nat.zero_le _, hBj⟩
            case round =>
              obtain ⟨y, rfl, hy, hBy⟩ := hrel
              by_cases hyk : y < k
              · have hyi : (y : Int) < (k : Int) := by omega
                have hyc : y < l.length := by rw [← HN.out]; exact hyk
                have q0 := ((HBC.out.trans (hBy.mono HBC.out.size)).cell (p := ⟨bc, oc + y, none⟩) hlc).trans (HCL.out y hyc)
                have hxi := HI.out.1 _ (List.getElem_mem hyc)
                have hmem := List.getElem_mem hyc
                generalize l[y] = i at *
                obtain ⟨aw, cw, hw, -, -, hww⟩ := HV.out
                obtain ⟨bw, ow, rfl, hlw, hcw⟩ := hww (by omega)
                injection hw with hw1 hw2 hw3
                subst hw1 hw3
                obtain ⟨q1, -, -, -, -⟩ := a_cells hcw (n := i) hxi rfl
                replace q1 := (hBy.cell (p := ⟨bw, ow + i * 5, none⟩) hlw).trans q1
                have hfr := (val_mem.1 HVL.out).2.2 (at_ ws i) (by rw [at_lt hxi]; exact List.getElem_mem hxi)
                have haround := HRQ.out.1.around HVL.out HS.out.1 hmem r j
                have hposj := HRQ.out.2
                obtain ⟨V, hV⟩ : ∃ V : Nat, (at_ ws i).f = (V : Int) := ⟨(at_ ws i).f.toNat, by have := hfr.1; omega⟩
                rw [hV, Int.toNat_natCast, HS.out.2.2.1, HS.out.2.2.2, Int.toNat_natCast, ← HM1.out] at haround
                have hVm : V < m2 := by have := hfr.1; omega
                have hVi : (V : Int) < (m2 : Int) := by omega
                rw [hV] at q1
                obtain ⟨jm, hjm⟩ : ∃ jm : Nat, jm = j + M := ⟨_, rfl⟩
                have hjmN : jm < N2 := by omega
                have hjN : j < N2 := by omega
                rw [← hjm] at haround
                have hjI : (j : Int) + (M : Int) = (jm : Int) := by omega
                have hjmi : (jm : Int) < (N2 : Int) := by omega
                have hjNi : (j : Int) < (N2 : Int) := by omega
                obtain ⟨Z, hZ⟩ : ∃ Z : Nat, Z = r * p := ⟨_, rfl⟩
                have hrp : (r : Int) * (p : Int) = (Z : Int) := by rw [hZ, Int.natCast_mul]
                have hZb : Z ≤ 150000 := by
                  rw [hZ]
                  exact Nat.le_trans (Nat.mul_le_mul hr3.2 (show p ≤ 50000 by omega)) (by decide)
                rw [hrp] at haround
                have har := haround hjmN
                obtain ⟨ba1, oa1, ca1, e1, hl1, f1⟩ := HRL.out j hjN
                obtain ⟨bb1, ob1, cb1, e2, hl2, f2⟩ := HRL.out jm hjmN
                replace e1 := (hBy.cell (p := ⟨bl, ol + j, none⟩) hbl).trans e1
                replace e2 := (hBy.cell (p := ⟨bl, ol + jm, none⟩) hbl).trans e2
                replace f1 := (hBy.cell (p := ⟨ba1, oa1 + V * 2 + 1, none⟩) hl1).trans (f1 V hVm).2
                replace f2 := (hBy.cell (p := ⟨bb1, ob1 + V * 2 + 1, none⟩) hl2).trans (f2 V hVm).2
                have hA := hposj j V
                generalize (R j V).2 = A at *
                generalize (R jm V).2 = Bv at *
                have hA1 : 0 ≤ A ∧ A ≤ 300000 := by have := hA.2.2 hjN; omega
                have hnl : ¬ (Bv < A + (Z : Int)) := by omega
                have b5y := blk_keep b5 hBy
                have d50 := cell_blk (i := 0) b5y
                have d51 := cell_blk (i := 1) b5y
                simp only [List.getElem?_toArray, List.getElem?_cons_zero, List.getElem?_cons_succ] at d50 d51
                clear hA hposj haround hZ hV hfr hcw hww hw2 har hjm
                go_wp2
                go_quiet (fail)
                go_wp2
                go_roundw
                case rel => exact ⟨y + 1, by go_num, by omega, below_drewN hBy _⟩
                case measure => simp [intOf]; omega
              · have hyk2 : y = k := by omega
                have hyi : ¬ ((y : Int) < (k : Int)) := by omega
                go_wp2
                go_roundw
                case rel => exact ⟨j + 1, by go_num, by omega, hBy⟩
                case measure => simp [intOf]; omega
          · have hj3i : ¬ ((j : Int) < 3) := by omega
            go_wp2
            refine HK.out _ _ ?_; clear HK
            go_wp2_with (go_at_call 16; refine (works_any _).mono ?_; rintro e w9 ⟨rfl, hb⟩)
            go_ret
            exact ⟨rfl, btr (btr B hBj (Nat.le_refl _)) hb (Nat.le_refl _)⟩
end Yteileadcmekkoaa
end Go.Proofs
