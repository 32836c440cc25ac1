/- Pans: the reference's Holds. -/
import Derived.Test.YteileadcmekkoaaRs
import Derived.Test.YteileadcmekkoaaRv
open Go Go.RowKit Go.YteileadcmekkoaaIt
namespace Go.Proofs
namespace Yteileadcmekkoaa
set_option maxRecDepth 100000 in
set_option maxHeartbeats 8000000 in
theorem rholds_any (n : Int) (v vc : Value) (ws : List Wa) (c : List Int) (w : World) (hv : SlA w v ws) (hvc : SlI w vc c) :
    Calls Try.prog 27 #[.agg #[.int .i64 n, v], vc] w fun e w' => e = .returned (.tuple #[.agg #[.int .i64 ((perV n ws c).1 : Nat), .int .i64 ((perV n ws c).2 : Nat)], .int .i64 (holdsE n ws c)]) ∧ Below w.heap.size w w' := by
  have HV := Lib.hid (And.intro hv hvc)
  obtain ⟨ad, cap, rfl, -, -, -⟩ := hv
  obtain ⟨ac, cc, rfl, hmc, hcc, -⟩ := hvc
  obtain ⟨R, hR⟩ : ∃ R, R = holdsE n ws c := ⟨_, rfl⟩
  obtain ⟨PV, hPV⟩ : ∃ PV, PV = perV n ws c := ⟨_, rfl⟩
  rw [← hR, ← hPV]
  have hP0 : R ≠ 0 → PV = (0, 0) := fun h => by rw [hPV]; unfold perV; rw [if_pos (by rw [← hR]; exact h)]
  have HR := Lib.hid (And.intro hR (And.intro hPV hP0))
  clear hR hPV hP0
  go_enter Try.func27, Try.ntmps27
  refine wp_seq_k (fun K hK => ?_)
  have HK := Lib.hid hK; clear hK
  go_wp2
  refine HK.out _ _ ?_; clear HK K
  generalize hw1 : World.alloc _ _ = w1
  obtain ⟨b1, b2, hB, hs1⟩ := blk2 hw1
  clear hw1
  have h23 := rcheck_any n _ ws w1 (HV.out.1.below hB (Nat.le_refl _))
  obtain ⟨E, hE⟩ : ∃ E, E = chkE n ws := ⟨_, rfl⟩
  rw [← hE] at h23
  have HE := Lib.hid hE
  clear hE
  by_cases h0 : ¬ E = 0
  · have hne : (E != 0) = true := by simpa using h0
    have hRe : R = E := by rw [HR.out.1]; unfold holdsE; rw [if_pos (by rw [← HE.out]; exact h0), HE.out]
    have hP := HR.out.2.2 (by rw [hRe]; exact h0)
    rw [hP]
    subst hRe
    have H23 := Lib.hid h23
    clear h23 h0 hP HR HE
    go_wp2_with (first | (refine wpList_load_blk rfl 31 _ rfl _ rfl b1 Try.underlying31 rfl size31 rfl ?_) | (go_at_call 23; refine H23.out.mono ?_; rintro e w2 ⟨rfl, hb2⟩; have b22 := blk_keep b2 hb2; have hB2 := btr hB hb2 (Nat.le_refl _)) | (refine wpList_store_blk rfl 36 _ _ rfl _ rfl rfl b22 size36 rfl rfl (by simp [Value.oneCell']) ?_))
    exact bodyPost_ret (results_agg_tmp rfl _ _ (w.heap.size + 1) rfl (World.putObj_heap_same (lt_blk b22)) Try.underlying36 rfl size36 rfl) rfl ⟨rfl, below_putObj hB2 (by omega)⟩
  · replace h0 : E = 0 := Classical.byContradiction h0
    obtain ⟨m, rfl, hV, hns⟩ := chk_ok (HE.out.symm.trans h0)
    have hRv : R = if c = [] then 4 else if idxE ws.length c c.length ≠ 0 then idxE ws.length c c.length else R := by
      have h1 := HR.out.1
      unfold holdsE at h1
      rw [if_neg (by rw [← HE.out]; simpa using h0)] at h1
      by_cases h2 : c = []
      · rw [if_pos h2] at h1 ⊢; exact h1
      · rw [if_neg h2] at h1 ⊢
        by_cases h3 : idxE ws.length c c.length = 0
        · rw [if_neg (by simpa using h3)]
        · rw [if_pos h3] at h1 ⊢; exact h1
    have HRV := Lib.hid hRv
    subst h0
    clear hRv
    refine wp_seq_k (fun K hK => ?_)
    have HK := Lib.hid hK; clear hK
    go_wp2_with (first | (refine wpList_load_blk rfl 31 _ rfl _ rfl b1 Try.underlying31 rfl size31 rfl ?_) | (go_at_call 23; refine h23.mono ?_; rintro e w2 ⟨rfl, hb2⟩))
    refine HK.out _ _ ?_; clear HK K h23
    replace b1 := blk_keep b1 hb2
    replace b2 := blk_keep b2 hb2
    replace hB := btr hB hb2 (Nat.le_refl _)
    clear hb2
    refine wp_seq_k (fun K hK => ?_)
    have HK := Lib.hid hK; clear hK
    go_wp2
    refine HK.out _ _ ?_; clear HK K
    by_cases hcn : c = []
    · have hR4 : R = 4 := by rw [HRV.out, if_pos hcn]
      have hP := HR.out.2.2 (by omega)
      subst hcn hR4
      rw [hP]
      clear HRV HR hP
      go_wp2_with (first | (refine wpList_store_blk rfl 36 _ _ rfl _ rfl rfl b2 size36 rfl rfl (by simp [Value.oneCell']) ?_))
      exact bodyPost_ret (results_agg_tmp rfl _ _ (w.heap.size + 1) rfl (World.putObj_heap_same (lt_blk b2)) Try.underlying36 rfl size36 rfl) rfl ⟨rfl, below_putObj hB (by omega)⟩
    · have hlp : 0 < c.length := List.length_pos_iff.2 hcn
      have hlz : ((c.length : Int) == 0) = false := by simp; exact hcn
      have HRV2 := Lib.hid (show R = if idxE ws.length c c.length ≠ 0 then idxE ws.length c c.length else R from by have := HRV.out; rw [if_neg hcn] at this; exact this)
      clear HRV
      have hln := hV.len
      have hwl : IntKind.i64.wrap ((ws.length : Int) - 1) = (ws.length : Int) - 1 := by rw [IntKind.wrap_i64]; omega
      refine wp_seq_k (fun K hK => ?_)
      have HK := Lib.hid hK; clear hK
      go_wp2
      refine HK.out _ _ ?_; clear HK K
      clear hlz
      go_wp2_with (refine wp_seq_k (fun K hK => ?_); fail)
      go_loopw [7] (fun i wr => ∃ k : Nat, i = .int .i64 k ∧ k ≤ c.length ∧ idxE ws.length c k = 0 ∧ wr.heap[w.heap.size]? = some (.cells #[.int .i64 m, .slice ad ws.length cap] 31 (0, 0)) ∧ wr.heap[w.heap.size + 1]? = some (.cells #[.int .i64 0, .int .i64 0] 36 (0, 0)) ∧ Below w.heap.size w wr) (fun i _ => c.length - (intOf i).toNat)
      case atStart => exact ⟨0, rfl, Nat.zero_le _, rfl, b1, b2, hB⟩
      case round =>
        clear b1 b2 hB
        obtain ⟨k, rfl, hk, hno, b1, b2, hB⟩ := hrel
        by_cases hkl : k < c.length
        ·
          have hst : idxE ws.length c (k + 1) = if btw 0 (at0 c k) ((ws.length : Int) - 1) = false then 5 else if ((c.take k).any fun y => at0 c k == y) = true then 6 else 0 := by
            show (if idxE ws.length c k ≠ 0 then idxE ws.length c k else _) = _
            rw [if_neg (by simpa using hno)]
          have hstop : idxE ws.length c (k + 1) ≠ 0 → R = idxE ws.length c (k + 1) := fun h => by
            have h1 := idxE_stop h c.length (by omega)
            rw [HRV2.out, h1, if_pos h]
          obtain ⟨a2, c2, ha2, -, -, hcc2⟩ := HV.out.2
          obtain ⟨bc, oc, rfl, hlc, hcell⟩ := hcc2 hlp
          injection ha2 with ha3 ha4 ha5
          subst ha3
          have HCC := Lib.hid hcell
          have d0 := (hB.cell (p := ⟨bc, oc + k, none⟩) hlc).trans (hcell k hkl)
          obtain ⟨q1, hq1⟩ : ∃ q, q = btw 0 (at0 c k) ((ws.length : Int) - 1) := ⟨_, rfl⟩
          obtain ⟨q2, hq2⟩ : ∃ q, q = (c.take k).any fun y => at0 c k == y := ⟨_, rfl⟩
          have h61 := fun W => is_any (at0 c k) 0 ((ws.length : Int) - 1) W
          rw [← hq1] at hst h61
          rw [← hq2] at hst
          have HQ2 := Lib.hid hq2
          have H61 := Lib.hid h61
          have HST := Lib.hid (And.intro hst hstop)
          clear hq1 hq2 h61 hst hstop hcell hcc2 ha4 ha5 hno
          obtain ⟨x, hx⟩ : ∃ x, x = at0 c k := ⟨_, rfl⟩
          rw [← hx] at d0 H61 HQ2
          have HX := Lib.hid hx
          clear hx
          have e0 := cell_blk (i := 1) b1
          simp only [List.getElem?_toArray, List.getElem?_cons_zero, List.getElem?_cons_succ] at e0
          have hki : (k : Int) < (c.length : Int) := by omega
          have z2 := lt_blk b2
          cases q1
          · have hR5 : R = 5 := by rw [HST.out.2 (by rw [HST.out.1]; simp), HST.out.1]; simp
            have hP := HR.out.2.2 (by omega)
            clear HRV2 HR HST
            subst hR5 hP
            go_wp2
            go_quiet ((go_at_call 61; exact calls_quiet_same (H61.out _)))
            have hBq := below_drewN hB nq
            have b2q : (wr.drewN nq).heap[w.heap.size + 1]? = _ := b2
            go_wp2_with (refine wpList_store_blk rfl 36 _ _ rfl _ rfl rfl b2q size36 rfl rfl (by simp [Value.oneCell']) ?_)
            exact bodyPost_ret (results_agg_tmp rfl _ _ (w.heap.size + 1) rfl (World.putObj_heap_same (lt_blk b2q)) Try.underlying36 rfl size36 rfl) rfl ⟨rfl, below_putObj hBq (by omega)⟩
          · go_wp2
            go_quiet ((go_at_call 61; exact calls_quiet_same (H61.out _)))
            replace hB := below_drewN hB nq
            replace b1 : (wr.drewN nq).heap[w.heap.size]? = _ := b1
            replace b2 : (wr.drewN nq).heap[w.heap.size + 1]? = _ := b2
            clear d0 e0
            generalize World.drewN wr nq = wq at *
            go_wp2_with (refine wp_seq_k (fun K hK => ?_); fail)
            go_loopw [8] (fun i wr => ∃ kk : Nat, i = .int .i64 kk ∧ kk ≤ k ∧ ((c.take kk).any fun y => x == y) = false ∧ wr.heap[w.heap.size]? = some (.cells #[.int .i64 m, .slice ad ws.length cap] 31 (0, 0)) ∧ wr.heap[w.heap.size + 1]? = some (.cells #[.int .i64 0, .int .i64 0] 36 (0, 0)) ∧ Below w.heap.size w wr) (fun i _ => k - (intOf i).toNat)
            case atStart => exact ⟨0, rfl, Nat.zero_le _, rfl, b1, b2, hB⟩
            case round =>
              clear b1 b2 hB
              obtain ⟨kk, rfl, hkk, hnn, b1, b2, hB⟩ := hrel
              by_cases hkk2 : kk < k
              · have htk : ((c.take (kk + 1)).any fun y => x == y) = (x == at0 c kk) := by
                  rw [List.take_succ_eq_append_getElem (by omega : kk < c.length), List.any_append, hnn, at0_lt (by omega : kk < c.length)]; simp
                have hmem : x = at0 c kk → q2 = true := fun h => by
                  rw [HQ2.out, List.any_eq_true]
                  refine ⟨at0 c kk, ?_, by rw [h]; simp⟩
                  rw [at0_lt (by omega : kk < c.length)]
                  exact List.mem_take_iff_getElem.2 ⟨kk, by omega, rfl⟩
                have d0 := (hB.cell (p := ⟨bc, oc + k, none⟩) hlc).trans (HCC.out k hkl)
                have d1 := (hB.cell (p := ⟨bc, oc + kk, none⟩) hlc).trans (HCC.out kk (by omega))
                rw [← HX.out] at d0
                have HTK := Lib.hid (And.intro htk hmem)
                clear htk hmem hnn
                have hki2 : (kk : Int) < (c.length : Int) := by omega
                generalize at0 c kk = y at *
                have z2' := lt_blk b2
                by_cases hyx : y = x
                · have hq := HTK.out.2 hyx.symm
                  have hR6 : R = 6 := by rw [HST.out.2 (by rw [HST.out.1, hq]; simp), HST.out.1, hq]; simp
                  have hP := HR.out.2.2 (by omega)
                  clear HRV2 HR HST HTK hq HQ2
                  subst hR6 hP hyx
                  go_wp2
                  go_quiet (fail)
                  have hBq := below_drewN hB nq
                  have b2q : (wr.drewN nq).heap[w.heap.size + 1]? = _ := b2
                  go_wp2_with (refine wpList_store_blk rfl 36 _ _ rfl _ rfl rfl b2q size36 rfl rfl (by simp [Value.oneCell']) ?_)
                  exact bodyPost_ret (results_agg_tmp rfl _ _ (w.heap.size + 1) rfl (World.putObj_heap_same (lt_blk b2q)) Try.underlying36 rfl size36 rfl) rfl ⟨rfl, below_putObj hBq (by omega)⟩
                · have hyb : (y == x) = false := by rw [beq_eq_false_iff_ne]; exact hyx
                  have hnx : ((c.take (kk + 1)).any fun y => x == y) = false := by rw [HTK.out.1, beq_eq_false_iff_ne]; exact fun e => hyx e.symm
                  have HNX := Lib.hid hnx
                  clear hnx hyx HTK
                  go_wp2
                  go_quiet (fail)
                  have hBq := below_drewN hB nq
                  go_wp2
                  go_roundw
                  case rel => exact ⟨kk + 1, by go_num, by omega, HNX.out, b1, b2, hBq⟩
                  case measure => simp [intOf]; omega
              · have hke : kk = k := by omega
                rw [hke] at hnn
                have hz : idxE ws.length c (k + 1) = 0 := by rw [HST.out.1, HQ2.out, hnn]; simp
                have HZ := Lib.hid hz
                clear hz hnn
                go_wp2
                go_roundw
                case rel => exact ⟨k + 1, by go_num, by omega, HZ.out, b1, b2, hB⟩
                case measure => simp [intOf]; omega
        · have hke : k = c.length := by omega
          have HNO := Lib.hid (show idxE ws.length c c.length = 0 by rw [← hke]; exact hno)
          clear hno hke HRV2
          have hRS : (ShC ws (c.map Int.toNat) → R = 0) ∧ (¬ ShC ws (c.map Int.toNat) → R = 3) := by
            have h1 := HR.out.1
            unfold holdsE at h1
            rw [if_neg (by rw [← HE.out]; simp), if_neg hcn, if_neg (by rw [HNO.out]; simp)] at h1
            exact ⟨fun h => by rw [h1, if_pos h], fun h => by rw [h1, if_neg h]⟩
          have hz := idxE_zero HNO.out
          obtain ⟨l, hcl, hll⟩ : ∃ l : List Nat, c = (l.map fun (i : Nat) => (i : Int)) ∧ c.map Int.toNat = l := by
            refine ⟨c.map Int.toNat, ?_, rfl⟩
            rw [List.map_map]
            conv => lhs; rw [← List.map_id c]
            refine List.map_congr_left fun x hx => ?_
            obtain ⟨j, hj, rfl⟩ := List.getElem_of_mem hx
            have := btw_true.1 (hz j hj).1
            rw [at0_lt hj] at this
            simp only [id, Function.comp]; omega
          have hin : ∀ j, j < l.length → l.getD j 0 < ws.length := fun j hj => by
            have h1 := btw_true.1 (hz j (by rw [hcl, List.length_map]; exact hj)).1
            rw [hcl] at h1
            unfold at0 at h1
            simp [hj] at h1
            simp [hj]; omega
          have hpv : ∀ p q : Nat, R = 0 → hiS ws l = p → bkS ws l = q → PV = (p / Nat.gcd p q, q / Nat.gcd p q) := fun p q hr hp hq => by
            rw [HR.out.2.1]; unfold perV
            rw [if_neg (by rw [← HR.out.1, hr]; simp), hll, hp, hq]; rfl
          rw [hll] at hRS
          have hp3 := fun h => HR.out.2.2 h
          obtain ⟨N, hN⟩ : ∃ N, N = c.length := ⟨_, rfl⟩
          have hNl : N = l.length := by rw [hN, hcl, List.length_map]
          have hmemin : ∀ i ∈ l, i < ws.length := fun i hi => by
            obtain ⟨j, hj, rfl⟩ := List.getElem_of_mem hi
            have := hin j hj
            simpa [hj] using this
          obtain ⟨a2, c2, ha2, -, -, hcc2⟩ := HV.out.2
          obtain ⟨bc, oc, rfl, hlc, hcell⟩ := hcc2 hlp
          injection ha2 with ha3 ha4 ha5
          subst ha3
          obtain ⟨a3, c3, ha6, -, -, hcw⟩ := HV.out.1
          obtain ⟨bw, ow, rfl, hlw, hwcell⟩ := hcw (by have := hin 0 (by rw [← hNl, hN]; exact hlp); omega)
          injection ha6 with ha7 ha8 ha9
          subst ha7
          have hCB : ∀ W : World, Below w.heap.size w W → ∀ j, j < N → W.cell? ⟨bc, oc + j, none⟩ = some (.int .i64 (l.getD j 0 : Nat)) := fun W hW j hj => by
            rw [(hW.cell (p := ⟨bc, oc + j, none⟩) hlc), hcell j (by rw [← hN]; exact hj), hcl]
            have : j < l.length := by rw [← hNl]; exact hj
            unfold at0; simp [this]
          have hCW : ∀ W : World, Below w.heap.size w W → ∀ i, i < ws.length → W.cell? ⟨bw, ow + i * 5, none⟩ = some (.int .i64 (fN ws i : Nat)) ∧ W.cell? ⟨bw, ow + i * 5 + 1, none⟩ = some (.int .i64 (tN ws i : Nat)) ∧ W.cell? ⟨bw, ow + i * 5 + 2, none⟩ = some (.int .i64 (at_ ws i).lo) ∧ W.cell? ⟨bw, ow + i * 5 + 3, none⟩ = some (.int .i64 (at_ ws i).hi) ∧ W.cell? ⟨bw, ow + i * 5 + 4, none⟩ = some (.int .i64 (at_ ws i).b) := fun W hW i hi => by
            obtain ⟨q0, q1, q2, q3, q4⟩ := a_cells hwcell (i := i) (n := i) hi rfl
            obtain ⟨k1, k2, _⟩ := hV.ok i hi
            rw [show (at_ ws i).f = (fN ws i : Nat) by unfold fN; omega] at q0
            rw [show (at_ ws i).t = (tN ws i : Nat) by unfold tN; omega] at q1
            exact ⟨(hW.cell (p := ⟨bw, ow + i * 5, none⟩) hlw).trans q0, (hW.cell (p := ⟨bw, ow + i * 5 + 1, none⟩) hlw).trans q1, (hW.cell (p := ⟨bw, ow + i * 5 + 2, none⟩) hlw).trans q2, (hW.cell (p := ⟨bw, ow + i * 5 + 3, none⟩) hlw).trans q3, (hW.cell (p := ⟨bw, ow + i * 5 + 4, none⟩) hlw).trans q4⟩
          have HCB := Lib.hid hCB
          have HCW := Lib.hid hCW
          have HRS := Lib.hid (And.intro hRS (And.intro hpv hp3))
          have HIN := Lib.hid (And.intro hin hmemin)
          have HNL := Lib.hid hNl
          rw [← hN] at hlp hkl hk hmc hcc ⊢
          clear hCB hCW hRS hpv hp3 hin hmemin hNl hz hll hcell hcw hcc2 hwcell ha4 ha5 ha8 ha9 HR HNO hcl hN hcn
          go_wp2_with (refine wp_seq_k (fun K hK => ?_); fail)
          generalize hwp : World.alloc _ _ = wp
          obtain ⟨b9, hBp, hsp⟩ := blk1 hwp
          clear hwp
          have lb2 := lt_blk b2
          replace b1 := blk_keep b1 hBp
          replace b2 := blk_keep b2 hBp
          have hszr := hB.size
          replace hB := btr hB hBp (Nat.le_refl _)
          have lr := hBp.size
          generalize hp9 : wr.heap.size = p9 at *
          clear hBp hsp hp9
          have l9 := lt_blk b9
          have l2o : w.heap.size + 1 < p9 := by omega
          go_loopw [10] (fun i wr => ∃ k : Nat, i = .int .i64 k ∧ k ≤ N ∧ (∀ j, j < k → tN ws (l.getD j 0) = fN ws (l.getD ((j + 1) % N) 0)) ∧ ((l.take k).map (fN ws)).Nodup ∧ wr.heap[w.heap.size]? = some (.cells #[.int .i64 m, .slice (some ⟨bw, ow, none⟩) ws.length cap] 31 (0, 0)) ∧ wr.heap[w.heap.size + 1]? = some (.cells #[.int .i64 0, .int .i64 0] 36 (0, 0)) ∧ wr.heap[p9]? = some (.cells #[.int .i64 (hiS ws (l.take k)), .int .i64 (bkS ws (l.take k))] 36 (0, 0)) ∧ Below w.heap.size w wr) (fun i _ => N - (intOf i).toNat)
          case atStart => exact ⟨0, rfl, Nat.zero_le _, fun j hj => absurd hj (Nat.not_lt_zero _), by simp, b1, b2, by simpa [hiS, bkS] using b9, hB⟩
          case round =>
            clear b1 b2 b9 hB
            obtain ⟨k, rfl, hk, hlk, hnd, b1, b2, b9, hB⟩ := hrel
            by_cases hkN : k < N
            ·
              have hkl2 : k < l.length := by rw [← HNL.out]; exact hkN
              have hi0 := HIN.out.1 k hkl2
              have d0 := HCB.out wr hB k hkN
              obtain ⟨r0, r1, r2, r3, r4⟩ := HCW.out wr hB _ hi0
              have hbk := sums_bnd hV.bnd (l.take k) (fun i hi => HIN.out.2 i (List.mem_of_mem_take hi))
              have hlt : (l.take k).length ≤ 17592186044416 := by rw [List.length_take]; omega
              have hxb := hV.bnd _ hi0
              have hh := hiS_succ (ws := ws) hkl2
              have hq := bkS_succ (ws := ws) hkl2
              rw [show l[k] = l.getD k 0 by simp [hkl2]] at hh hq
              have htk : ((l.take (k + 1)).map (fN ws)) = (l.take k).map (fN ws) ++ [fN ws (l.getD k 0)] := by rw [take_succ_getD hkl2, List.map_append]; rfl
              have hkn : (k + 1) % N < N := Nat.mod_lt _ (by omega)
              have hin := HIN.out.1 _ (show (k + 1) % N < l.length by rw [← HNL.out]; exact hkn)
              have HH := Lib.hid (And.intro hh (And.intro hq (And.intro hlk (And.intro hnd htk))))
              clear hh hq hlk hnd htk
              have e1 := cell_blk (i := 1) b1
              simp only [List.getElem?_toArray, List.getElem?_cons_zero, List.getElem?_cons_succ] at e1
              obtain ⟨ik, hik⟩ : ∃ ik, ik = l.getD k 0 := ⟨_, rfl⟩
              rw [← hik] at d0 r0 r1 r2 r3 r4 hi0 hxb HH
              have HIK := Lib.hid hik
              clear hik
              obtain ⟨fi, hfi⟩ : ∃ fi, fi = fN ws ik := ⟨_, rfl⟩
              obtain ⟨ti, hti⟩ : ∃ ti, ti = tN ws ik := ⟨_, rfl⟩
              rw [← hfi] at r0 HH
              rw [← hti] at r1
              have HFT := Lib.hid (And.intro hfi hti)
              clear hfi hti
              generalize (at_ ws ik).lo = xl at *
              generalize (at_ ws ik).hi = xh at *
              generalize (at_ ws ik).b = xb at *
              generalize hiS ws (l.take k) = T at *
              generalize bkS ws (l.take k) = Z at *
              have hkNi : (k : Int) < N := by omega
              go_wp2
              rename_i K hK
              have HK := Lib.hid hK; clear hK
              refine wp_region_z (z := 9) (S := fun U : World => U.cell? ⟨w.heap.size, 1, none⟩ = some (.slice (some ⟨bw, ow, none⟩) ws.length cap) ∧ U.cell? ⟨bc, oc + k, none⟩ = some (.int .i64 (ik : Nat)) ∧ (U.cell? ⟨bw, ow + ik * 5, none⟩ = some (.int .i64 (fi : Nat)) ∧ U.cell? ⟨bw, ow + ik * 5 + 1, none⟩ = some (.int .i64 (ti : Nat)) ∧ U.cell? ⟨bw, ow + ik * 5 + 2, none⟩ = some (.int .i64 xl) ∧ U.cell? ⟨bw, ow + ik * 5 + 3, none⟩ = some (.int .i64 xh) ∧ U.cell? ⟨bw, ow + ik * 5 + 4, none⟩ = some (.int .i64 xb))) (by kernel_rfl) ?_
              change wpAnyZ _ _ _ _ _ _ _ _ _ (World.drew wr)
              replace b1 : (World.drew wr).heap[w.heap.size]? = _ := b1
              replace b2 : (World.drew wr).heap[w.heap.size + 1]? = _ := b2
              replace b9 : (World.drew wr).heap[p9]? = _ := b9
              replace hB := hB.drew
              have hS0 : (World.drew wr).cell? ⟨w.heap.size, 1, none⟩ = some (.slice (some ⟨bw, ow, none⟩) ws.length cap) ∧ (World.drew wr).cell? ⟨bc, oc + k, none⟩ = some (.int .i64 (ik : Nat)) ∧ ((World.drew wr).cell? ⟨bw, ow + ik * 5, none⟩ = some (.int .i64 (fi : Nat)) ∧ (World.drew wr).cell? ⟨bw, ow + ik * 5 + 1, none⟩ = some (.int .i64 (ti : Nat)) ∧ (World.drew wr).cell? ⟨bw, ow + ik * 5 + 2, none⟩ = some (.int .i64 xl) ∧ (World.drew wr).cell? ⟨bw, ow + ik * 5 + 3, none⟩ = some (.int .i64 xh) ∧ (World.drew wr).cell? ⟨bw, ow + ik * 5 + 4, none⟩ = some (.int .i64 xb)) := ⟨e1, d0, r0, r1, r2, r3, r4⟩
              clear e1 d0 r0 r1 r2 r3 r4
              generalize World.drew wr = wq at *
              refine wpAnyZ_take (i := 0) (oi := { dst := some 62, op := _, type := _, pos := _, after := _, guard := _ }) (v := ?_) rfl (by kernel_rfl) (by kernel_rfl) (by kernel_rfl) (fun _ _ _ h => h) (Or.inl ⟨by rfl, ?_⟩) hS0 ?_
              rotate_left
              · intro U hU
                go_simp
                all_goals with_reducible rfl
              simp only [Act.put, List.setIfInBounds_toArray, List.set_cons_zero, List.set_cons_succ]
              refine wpAnyZ_take (i := 1) (oi := { dst := some 63, op := _, type := _, pos := _, after := _, guard := _ }) (v := ?_) rfl (by kernel_rfl) (by kernel_rfl) (by kernel_rfl) (fun _ _ _ h => h) (Or.inl ⟨by rfl, ?_⟩) hS0 ?_
              rotate_left
              · intro U hU
                have hU0 := hU.1
                go_simp
                all_goals with_reducible rfl
              simp only [Act.put, List.setIfInBounds_toArray, List.set_cons_zero, List.set_cons_succ]
              refine wpAnyZ_take (i := 2) (oi := { dst := some 64, op := _, type := _, pos := _, after := _, guard := _ }) (v := ?_) rfl (by kernel_rfl) (by kernel_rfl) (by kernel_rfl) (fun _ _ _ h => h) (Or.inl ⟨by rfl, ?_⟩) hS0 ?_
              rotate_left
              · intro U hU
                go_simp
                all_goals with_reducible rfl
              simp only [Act.put, List.setIfInBounds_toArray, List.set_cons_zero, List.set_cons_succ]
              refine wpAnyZ_take (i := 3) (oi := { dst := some 65, op := _, type := _, pos := _, after := _, guard := _ }) (v := ?_) rfl (by kernel_rfl) (by kernel_rfl) (by kernel_rfl) (fun _ _ _ h => h) (Or.inl ⟨by rfl, ?_⟩) hS0 ?_
              rotate_left
              · intro U hU
                go_simp
                all_goals with_reducible rfl
              simp only [Act.put, List.setIfInBounds_toArray, List.set_cons_zero, List.set_cons_succ]
              refine wpAnyZ_take (i := 4) (oi := { dst := some 66, op := _, type := _, pos := _, after := _, guard := _ }) (v := ?_) rfl (by kernel_rfl) (by kernel_rfl) (by kernel_rfl) (fun _ _ _ h => h) (Or.inl ⟨by rfl, ?_⟩) hS0 ?_
              rotate_left
              · intro U hU
                go_simp
                all_goals with_reducible rfl
              simp only [Act.put, List.setIfInBounds_toArray, List.set_cons_zero, List.set_cons_succ]
              refine wpAnyZ_take (i := 5) (oi := { dst := some 67, op := _, type := _, pos := _, after := _, guard := _ }) (v := ?_) rfl (by kernel_rfl) (by kernel_rfl) (by kernel_rfl) (fun _ _ _ h => h) (Or.inl ⟨by rfl, ?_⟩) hS0 ?_
              rotate_left
              · intro U hU
                have hU0 := hU.2.1
                go_simp
                all_goals with_reducible rfl
              simp only [Act.put, List.setIfInBounds_toArray, List.set_cons_zero, List.set_cons_succ]
              refine wpAnyZ_take (i := 6) (oi := { dst := some 68, op := _, type := _, pos := _, after := _, guard := _ }) (v := ?_) rfl (by kernel_rfl) (by kernel_rfl) (by kernel_rfl) (fun _ _ _ h => h) (Or.inl ⟨by rfl, ?_⟩) hS0 ?_
              rotate_left
              · intro U hU
                go_simp
                all_goals with_reducible rfl
              simp only [Act.put, List.setIfInBounds_toArray, List.set_cons_zero, List.set_cons_succ]
              refine wpAnyZ_take (i := 7) (oi := { dst := some 69, op := _, type := _, pos := _, after := _, guard := _ }) (v := ?_) rfl (by kernel_rfl) (by kernel_rfl) (by kernel_rfl) (fun _ _ _ h => h) (Or.inl ⟨by rfl, ?_⟩) hS0 ?_
              rotate_left
              · intro U hU
                obtain ⟨u0, u1, u2, u3, u4⟩ := hU.2.2
                go_simp
                all_goals with_reducible rfl
              simp only [Act.put, List.setIfInBounds_toArray, List.set_cons_zero, List.set_cons_succ]
              refine wpAnyZ_one (i := 8) (o := { dst := some 11, op := _, type := _, pos := _, after := _, guard := _ }) (by kernel_rfl) rfl (by rfl) (fun K1 hK1 => ?_)
              have HK1 := Lib.hid hK1; clear hK1
              go_simp
              have hA := (Below.refl _ wq).alloc (Nat.le_refl _) (Obj.cells #[.int .i64 0, .int .i64 0, .int .i64 0, .int .i64 0, .int .i64 0] 91 (0, 0))
              have cz : ∀ (p : Addr) (u : Value), wq.cell? p = some u → (wq.alloc (Obj.cells #[.int .i64 0, .int .i64 0, .int .i64 0, .int .i64 0, .int .i64 0] 91 (0, 0))).cell? p = some u := fun p u h => (hA.cell (p := p) (World.block_lt_of_cell? wq p h)).trans h
              refine HK1.out _ _ (fun _ => ⟨cz _ _ hS0.1, cz _ _ hS0.2.1, cz _ _ hS0.2.2.1, cz _ _ hS0.2.2.2.1, cz _ _ hS0.2.2.2.2.1, cz _ _ hS0.2.2.2.2.2.1, cz _ _ hS0.2.2.2.2.2.2⟩) ?_
              clear HK1 K1
              try simp only [Act.put, List.setIfInBounds_toArray, List.set_cons_zero, List.set_cons_succ]
              refine wpAnyZ_last (o := { dst := none, op := _, type := _, pos := _, after := _, guard := _ }) (by kernel_rfl) (by kernel_rfl) rfl (by rfl) (fun K1 hK1 => ?_)
              have HK1 := Lib.hid hK1; clear hK1
              refine oper_store_blk 91 (.tmp 11) (.tmp 69) rfl wq.heap.size rfl (cells := #[.int .i64 (fi : Nat), .int .i64 (ti : Nat), .int .i64 xl, .int .i64 xh, .int .i64 xb]) rfl (heap_newI rfl) size91 rfl rfl (by simp [Value.oneCell']) ?_
              refine HK1.out _ _ ?_
              clear HK1 K1
              try simp only [Act.put]
              have hBX : Below wq.heap.size wq ((wq.alloc (Obj.cells #[.int .i64 0, .int .i64 0, .int .i64 0, .int .i64 0, .int .i64 0] 91 (0, 0))).putObj wq.heap.size (Obj.cells #[.int .i64 (fi : Nat), .int .i64 (ti : Nat), .int .i64 xl, .int .i64 xh, .int .i64 xb] 91 (0, 0))) := below_putObj hA (Nat.le_refl _)
              have bX : ((wq.alloc (Obj.cells #[.int .i64 0, .int .i64 0, .int .i64 0, .int .i64 0, .int .i64 0] 91 (0, 0))).putObj wq.heap.size (Obj.cells #[.int .i64 (fi : Nat), .int .i64 (ti : Nat), .int .i64 xl, .int .i64 xh, .int .i64 xb] 91 (0, 0))).heap[wq.heap.size]? = some (Obj.cells #[.int .i64 (fi : Nat), .int .i64 (ti : Nat), .int .i64 xl, .int .i64 xh, .int .i64 xb] 91 (0, 0)) := World.putObj_heap_same (by simp)
              have lr9 := lt_blk b9
              have hp9x : p9 ≠ wq.heap.size := by omega
              replace b1 := blk_keep b1 hBX
              replace b2 := blk_keep b2 hBX
              replace b9 := blk_keep b9 hBX
              replace hB := hB.trans (hBX.mono hB.size)
              clear hBX hA cz hS0
              generalize World.putObj _ _ _ = wx at *
              generalize wq.heap.size = nx at *
              clear lr9
              refine HK.out _ _ ?_; clear HK
              obtain ⟨kn, hkn2⟩ : ∃ kn, kn = (k + 1) % N := ⟨_, rfl⟩
              rw [← hkn2] at hkn hin
              have hw1 : IntKind.i64.wrap ((k : Int) + 1) = (k : Int) + 1 := by rw [IntKind.wrap_i64]; omega
              have hm1 : ((k : Int) + 1).tmod (N : Int) = (kn : Int) := by
                rw [hkn2]
                have : ((k : Int) + 1) = ((k + 1 : Nat) : Int) := by omega
                rw [this]
                rfl
              have HKN := Lib.hid hkn2
              clear hkn2
              have d1 := HCB.out wx hB kn hkn
              have r0n := (HCW.out wx hB _ hin).1
              obtain ⟨iN, hiN⟩ : ∃ iN, iN = l.getD kn 0 := ⟨_, rfl⟩
              rw [← hiN] at d1 r0n hin
              obtain ⟨fn, hfn⟩ : ∃ fn, fn = fN ws iN := ⟨_, rfl⟩
              rw [← hfn] at r0n
              have HFN := Lib.hid (And.intro hfn hiN)
              clear hfn hiN
              have hknI : (kn : Int) < N := by omega
              have hkn0 : (0 : Int) ≤ (kn : Int) := by omega
              have hN0 : ((N : Int) == 0) = false := by rw [beq_eq_false_iff_ne]; omega
              have x1 := cell_blk (i := 1) bX
              have e1 := cell_blk (i := 1) b1
              simp only [List.getElem?_toArray, List.getElem?_cons_zero, List.getElem?_cons_succ] at x1 e1
              by_cases hlk : ti = fn
              · have hlb : ((ti : Int) != (fn : Int)) = false := by rw [hlk]; simp
                have hlk2 : ∀ j, j < k + 1 → tN ws (l.getD j 0) = fN ws (l.getD ((j + 1) % N) 0) := fun j hj => by
                  rcases (show j < k ∨ j = k by omega) with h | rfl
                  · exact HH.out.2.2.1 j h
                  · rw [← HKN.out, ← HIK.out, ← HFT.out.2, ← HFN.out.2, ← HFN.out.1]; exact hlk
                have HLK := Lib.hid hlk2
                subst hlk
                clear hlk2
                go_wp2
                go_quiet (fail)
                replace hB := below_drewN hB nq
                replace b1 : (wx.drewN nq).heap[w.heap.size]? = _ := b1
                replace b2 : (wx.drewN nq).heap[w.heap.size + 1]? = _ := b2
                replace b9 : (wx.drewN nq).heap[p9]? = _ := b9
                replace bX : (wx.drewN nq).heap[nx]? = _ := bX
                clear d1 r0n x1 e1
                generalize World.drewN wx nq = wq at *
                have hpx := lt_blk b9
                have hnx := lt_blk bX
                have hne1 : w.heap.size ≠ p9 := by omega
                go_wp2_with (refine wp_seq_k (fun K hK => ?_); fail)
                go_loopw [12] (fun i wr => ∃ kk : Nat, i = .int .i64 kk ∧ kk ≤ k ∧ fi ∉ (l.take kk).map (fN ws) ∧ wr.heap[w.heap.size]? = some (.cells #[.int .i64 m, .slice (some ⟨bw, ow, none⟩) ws.length cap] 31 (0, 0)) ∧ wr.heap[w.heap.size + 1]? = some (.cells #[.int .i64 0, .int .i64 0] 36 (0, 0)) ∧ wr.heap[p9]? = some (.cells #[.int .i64 T, .int .i64 Z] 36 (0, 0)) ∧ wr.heap[nx]? = some (.cells #[.int .i64 (fi : Nat), .int .i64 (ti : Nat), .int .i64 xl, .int .i64 xh, .int .i64 xb] 91 (0, 0)) ∧ Below w.heap.size w wr) (fun i _ => k - (intOf i).toNat)
                case atStart => exact ⟨0, rfl, Nat.zero_le _, by simp, b1, b2, b9, bX, hB⟩
                case round =>
                  clear b1 b2 b9 bX hB
                  obtain ⟨kk, rfl, hkk, hno, b1, b2, b9, bX, hB⟩ := hrel
                  have x0 := cell_blk (i := 0) bX
                  have x3 := cell_blk (i := 3) bX
                  have x4 := cell_blk (i := 4) bX
                  have e1 := cell_blk (i := 1) b1
                  have p90 := cell_blk (i := 0) b9
                  have p91 := cell_blk (i := 1) b9
                  simp only [List.getElem?_toArray, List.getElem?_cons_zero, List.getElem?_cons_succ] at x0 x3 x4 e1 p90 p91
                  by_cases hkk2 : kk < k
                  · have hkl3 : kk < l.length := by rw [← HNL.out]; omega
                    have d2 := HCB.out wr hB kk (by omega)
                    have hi2 := HIN.out.1 kk hkl3
                    obtain ⟨f2, -, -, -, -⟩ := HCW.out wr hB _ hi2
                    have htk2 : ((l.take (kk + 1)).map (fN ws)) = (l.take kk).map (fN ws) ++ [fN ws (l.getD kk 0)] := by rw [take_succ_getD hkl3, List.map_append]; rfl
                    have hsub : fi = fN ws (l.getD kk 0) → fi ∈ (l.take k).map (fN ws) := fun h => by
                      rw [h]
                      refine List.mem_map_of_mem ?_
                      rw [List.mem_take_iff_getElem]
                      exact ⟨kk, by omega, by simp [hkl3]⟩
                    obtain ⟨ikk, hikk⟩ : ∃ ikk, ikk = l.getD kk 0 := ⟨_, rfl⟩
                    rw [← hikk] at d2 hi2 f2 htk2 hsub
                    obtain ⟨fk, hfk⟩ : ∃ fk, fk = fN ws ikk := ⟨_, rfl⟩
                    rw [← hfk] at f2 htk2 hsub
                    have HTK := Lib.hid (And.intro htk2 (And.intro hsub hno))
                    clear htk2 hsub hno hfk hikk
                    have hkkI : (kk : Int) < N := by omega
                    by_cases hff : fk = fi
                    · have hns2 : ¬ ShC ws l := fun h => by
                        have h1 := h.fresh hkl2
                        rw [← HIK.out, ← HFT.out.1] at h1
                        exact h1 (HTK.out.2.1 hff.symm)
                      have hR3 : R = 3 := HRS.out.1.2 hns2
                      have hP := HRS.out.2.2 (by omega)
                      clear HRS hns2 HTK
                      subst hR3 hP hff
                      go_wp2
                      go_quiet (fail)
                      have hBq := below_drewN hB nq
                      have b2q : (wr.drewN nq).heap[w.heap.size + 1]? = _ := b2
                      go_wp2_with (refine wpList_store_blk rfl 36 _ _ rfl _ rfl rfl b2q size36 rfl rfl (by simp [Value.oneCell']) ?_)
                      exact bodyPost_ret (results_agg_tmp rfl _ _ (w.heap.size + 1) rfl (World.putObj_heap_same (lt_blk b2q)) Try.underlying36 rfl size36 rfl) rfl ⟨rfl, below_putObj hBq (by omega)⟩
                    · have hfb : ((fk : Int) == (fi : Int)) = false := by rw [beq_eq_false_iff_ne]; omega
                      have hnx2 : fi ∉ (l.take (kk + 1)).map (fN ws) := by
                        rw [HTK.out.1, List.mem_append, List.mem_singleton]
                        rintro (h | h)
                        · exact HTK.out.2.2 h
                        · exact hff h.symm
                      have HNX := Lib.hid hnx2
                      clear hnx2 hff HTK
                      go_wp2
                      go_quiet (fail)
                      have hBq := below_drewN hB nq
                      go_wp2
                      go_roundw
                      case rel => exact ⟨kk + 1, by go_num, by omega, HNX.out, b1, b2, b9, bX, hBq⟩
                      case measure => simp [intOf]; omega
                  · have hke : kk = k := by omega
                    rw [hke] at hno
                    have hnd2 : ((l.take (k + 1)).map (fN ws)).Nodup := by
                      rw [HH.out.2.2.2.2, List.nodup_append]
                      refine ⟨HH.out.2.2.2.1, by simp, fun a ha b hb => ?_⟩
                      simp only [List.mem_singleton] at hb
                      subst hb
                      rintro rfl
                      exact hno ha
                    have HND := Lib.hid hnd2
                    clear hnd2 hno hke
                    have t1 : IntKind.i64.wrap (T + xh) = T + xh := by rw [IntKind.wrap_i64]; omega
                    have t2 : IntKind.i64.wrap (Z + xb) = Z + xb := by rw [IntKind.wrap_i64]; omega
                    go_wp2_with (refine wpList_store_blk rfl 36 _ _ rfl _ rfl rfl b9 size36 rfl rfl (by simp [Value.oneCell']) ?_)
                    have o1 := (World.putObj_heap_other (w := wr) (o := .cells #[.int .i64 (T + xh), .int .i64 (Z + xb)] 36) (show w.heap.size ≠ p9 by omega)).trans b1
                    have o2 := (World.putObj_heap_other (w := wr) (o := .cells #[.int .i64 (T + xh), .int .i64 (Z + xb)] 36) (show w.heap.size + 1 ≠ p9 by omega)).trans b2
                    have o9 := World.putObj_heap_same (w := wr) (o := .cells #[.int .i64 (T + xh), .int .i64 (Z + xb)] 36) (lt_blk b9)
                    have hB9 := below_putObj (o := .cells #[.int .i64 (T + xh), .int .i64 (Z + xb)] 36) hB (show w.heap.size ≤ p9 by omega)
                    go_roundw
                    case rel => exact ⟨k + 1, by go_num, by omega, HLK.out, HND.out, o1, o2, by rw [HH.out.1, HH.out.2.1]; exact o9, hB9⟩
                    case measure => simp [intOf]; omega
              · have hlb : ((ti : Int) != (fn : Int)) = true := by rw [bne_iff_ne]; omega
                have hns2 : ¬ ShC ws l := fun h => by
                  have h1 := h.link k hkl2
                  rw [← HNL.out, ← HKN.out, ← HIK.out, ← HFT.out.2, ← HFN.out.2, ← HFN.out.1] at h1
                  exact hlk h1
                have hR3 : R = 3 := HRS.out.1.2 hns2
                have hP := HRS.out.2.2 (by omega)
                clear HRS hlk hns2
                subst hR3 hP
                go_wp2
                go_quiet (fail)
                have hBq := below_drewN hB nq
                have b2q : (wx.drewN nq).heap[w.heap.size + 1]? = _ := b2
                go_wp2_with (refine wpList_store_blk rfl 36 _ _ rfl _ rfl rfl b2q size36 rfl rfl (by simp [Value.oneCell']) ?_)
                exact bodyPost_ret (results_agg_tmp rfl _ _ (w.heap.size + 1) rfl (World.putObj_heap_same (lt_blk b2q)) Try.underlying36 rfl size36 rfl) rfl ⟨rfl, below_putObj hBq (by omega)⟩
            · have hkN2 : k = N := by omega
              have hSC : ShC ws l := by
                refine ⟨fun e => by have := HNL.out; rw [e, List.length_nil] at this; omega, fun j hj => ?_, ?_⟩
                · rw [← HNL.out]; exact hlk j (by rw [hkN2, HNL.out]; exact hj)
                · have := hnd
                  rwa [hkN2, HNL.out, List.take_length] at this
              have hR0 : R = 0 := HRS.out.1.1 hSC
              obtain ⟨u, hu⟩ := hSC.cyc HIN.out.2 0 1
              have hq1 := cyc_bk hV hns hu
              obtain ⟨s1, s2⟩ := sums_nat hV HIN.out.2
              have hsm := sums_bnd hV.bnd l HIN.out.2
              have hl10 : l.length ≤ 10 := by
                have h1 := nodup_len hSC.nd (n := m) (fun v hv => by
                  obtain ⟨i, hi, rfl⟩ := List.mem_map.1 hv
                  exact hV.fN (HIN.out.2 i hi))
                rw [List.length_map] at h1
                have := hV.n1
                omega
              rw [hkN2, HNL.out, List.take_length, s1, s2] at b9
              subst hR0
              have hpv := HRS.out.2.1 (hiN ws l) (bkN ws l) rfl s1 s2
              rw [s1, s2] at hsm
              rw [s2] at hq1
              generalize hiN ws l = P at *
              generalize bkN ws l = Q at *
              have h66 := fun W => low6_any P Q W (by omega) (by omega)
              have HPV := Lib.hid hpv
              have H66 := Lib.hid h66
              have hkNi : ¬ ((k : Int) < (N : Int)) := by omega
              clear hpv h66 hsm hq1 s1 s2 hl10 hu hSC hlk hnd HRS hkN hkN2
              go_wp2_with (first | (refine wpList_load_blk rfl 36 _ rfl _ rfl b9 Try.underlying36 rfl size36 rfl ?_) | (go_at_call 66; refine (H66.out _).mono ?_; rintro e w7 ⟨rfl, hb7⟩; have b27 := blk_keep b2 hb7; have hB7 := btr hB hb7 (Nat.le_refl _)) | (refine wpList_store_blk rfl 36 _ _ rfl _ rfl rfl b27 size36 rfl rfl (by simp [Value.oneCell']) ?_))
              exact bodyPost_ret (results_agg_tmp rfl _ _ (w.heap.size + 1) rfl (World.putObj_heap_same (lt_blk b27)) Try.underlying36 rfl size36 rfl) rfl ⟨by rw [HPV.out]; rfl, below_putObj hB7 (by omega)⟩
end Yteileadcmekkoaa
end Go.Proofs
