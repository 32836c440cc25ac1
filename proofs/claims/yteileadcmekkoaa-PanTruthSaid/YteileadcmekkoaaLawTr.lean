/- For each house, number and bytes the law PanTruth returns true. -/
import Derived.Test.YteileadcmekkoaaCl
import Derived.Test.YteileadcmekkoaaQ25
import Derived.Test.YteileadcmekkoaaLawLg
open Go Go.RowKit Go.YteileadcmekkoaaIt
namespace Go.Proofs
namespace Yteileadcmekkoaa
theorem slII_form {w : World} {v : Value} {rows : List (List Int)} (h : SlII w v rows) : ∃ ad c, v = .slice ad rows.length c := by
  obtain ⟨vs, ⟨ad, cap, hv, _⟩, hl, _⟩ := h
  exact ⟨ad, cap, by rw [hv, hl]⟩
theorem trE_bd {ws : List Wa} (k : Nat) {i : Nat} (bs : List Int) (h : (at_ ws i).lo ≤ (at_ ws i).hi) : (at_ ws i).lo ≤ trE ws bs k i ∧ trE ws bs k i ≤ (at_ ws i).hi := by
  unfold trE
  split
  · exact ⟨Int.le_refl _, h⟩
  · have h1 := Int.emod_nonneg (at0 bs ((9 * k + i) % bs.length)) (show (at_ ws i).hi - (at_ ws i).lo + 1 ≠ 0 by omega)
    have h2 := Int.emod_lt_of_pos (at0 bs ((9 * k + i) % bs.length)) (show 0 < (at_ ws i).hi - (at_ ws i).lo + 1 by omega)
    omega
theorem ints_cells {w : World} {v : Value} {N m : Nat} {Y : Tim} (h : SlII w v ((List.range N).map (fun k => (List.range m).map (Y k)))) (hN : 0 < N) (hm : 0 < m) :
    ∃ bl ol c, v = .slice (some ⟨bl, ol, none⟩) N c ∧ bl < w.heap.size ∧ ∀ k, k < N → ∃ b o c, w.cell? ⟨bl, ol + k, none⟩ = some (.slice (some ⟨b, o, none⟩) m c) ∧ b < w.heap.size ∧
      ∀ v, v < m → w.cell? ⟨b, o + v, none⟩ = some (.int .i64 (Y k v)) := by
  obtain ⟨vs, ⟨ad, cap, hv, -, -, hc⟩, hl, hr⟩ := h
  rw [List.length_map, List.length_range] at hl
  obtain ⟨bl, ol, rfl, hlt, hcell⟩ := hc (by omega)
  rw [hl] at hv
  refine ⟨bl, ol, cap, hv, hlt, fun k hk => ?_⟩
  have h1 := hcell k (by omega)
  obtain ⟨ad1, cap1, hv1, -, -, hc1⟩ := hr k (by omega) (by simpa using hk)
  have e1 : ((List.range N).map (fun k => (List.range m).map (Y k)))[k]'(by simpa using hk) = (List.range m).map (Y k) := by simp
  rw [e1] at hv1 hc1
  have hlen1 : ((List.range m).map (Y k)).length = m := by simp
  rw [hlen1] at hv1 hc1
  obtain ⟨b, o, rfl, hb, hcc⟩ := hc1 hm
  refine ⟨b, o, cap1, by rw [h1, hv1], hb, fun v hvm => ?_⟩
  have h2 := hcc v hvm
  have e : at0 ((List.range m).map (Y k)) v = Y k v := by unfold at0; simp [List.getD_eq_getElem?_getD, hvm]
  rw [e] at h2
  exact h2
theorem ab_cell {w : World} {p : Addr} {v : Value} (h : w.cell? p = some v) (X : Ab w.heap.size w) : X.val.cell? p = some v := (X.ok.cell (p := p) (World.block_lt_of_cell? w p h)).trans h
set_option maxRecDepth 100000 in
set_option maxHeartbeats 8000000 in
theorem truth_any (s a : Int) (vb : Value) (bs : List Int) (u : Value) (qs : List Q4) (w : World) (hs : 0 ≤ s ∧ s < 256) (ha : 0 ≤ a ∧ a < 256) (hbs : SlB w vb bs) (hq : ∀ q ∈ qs, q.ok) (hu : SlQ w u qs) :
    Calls Try.prog 10 #[.agg #[.int .u8 s, u], .int .u8 a, vb] w fun e w' => e = .returned (.bool true) ∧ Below w.heap.size w w' := by
  have HU := Lib.hid hu
  have HQ := Lib.hid hq
  obtain ⟨ad, cap, rfl, -, -, -⟩ := hu
  clear hq
  go_enter Try.func10, Try.ntmps10
  have HBS := Lib.hid hbs
  obtain ⟨⟨avb, cvb, rfl, -, -⟩, -⟩ := hbs
  refine wp_seq_k (fun K hK => ?_)
  have HK := Lib.hid hK; clear hK
  go_wp2
  refine HK.out _ _ ?_; clear HK K
  generalize hw1 : World.alloc _ _ = w1
  obtain ⟨b1, bv, hB0, hs1⟩ := blk2 hw1
  clear hw1
  replace HBS := Lib.hid (HBS.out.below hB0 (Nat.le_refl _))
  have h36 := made_any s _ qs w1 hs HQ.out (HU.out.below hB0 (Nat.le_refl _))
  have H36 := Lib.hid h36
  clear h36 HU HQ
  refine wp_seq_k (fun K hK => ?_)
  have HK := Lib.hid hK; clear hK
  go_wp2_with (first | (refine wpList_load_blk rfl 65 _ rfl _ rfl b1 Try.underlying65 rfl size65 rfl ?_) | (go_at_call 36; refine H36.out.mono ?_; rintro e w2 ⟨n, v, ws, rfl, hv, hM, hb2⟩; have hv0 := hv; obtain ⟨av, cv, rfl, -, -, -⟩ := hv))
  refine HK.out _ _ ?_; clear HK K H36
  have hnb := And.intro hM.n1 hM.n5
  have hlen := hM.len
  have B := btr hB0 hb2 (Nat.le_refl _)
  generalize hw3 : World.alloc _ _ = w3
  obtain ⟨b5, hB3, hs3⟩ := blk1 hw3
  clear hw3
  have HV := Lib.hid (hv0.below hB3 (Nat.le_refl _))
  replace B := btr B hB3 (Nat.le_refl _)
  have HM := Lib.hid hM
  replace bv := blk_keep (blk_keep bv hb2) hB3
  have HBS := Lib.hid ((HBS.out.below hb2 (Nat.le_refl _)).below hB3 (Nat.le_refl _))
  clear hv0 hb2 hB3 hB0 hM
  clear b1
  obtain ⟨m, rfl⟩ : ∃ m : Nat, n = m := ⟨n.toNat, by omega⟩
  have hval : Val m ws := val_mem.2 ⟨⟨by omega, by omega⟩, by omega, fun x hx => by have := HM.out.ok x hx; unfold okM at this; unfold okV; omega⟩
  have hch := chk_of hval
  have HVL := Lib.hid hval
  clear hval
  obtain ⟨E0, hE0⟩ : ∃ E0, E0 = chkE m ws := ⟨_, rfl⟩
  have hE3 : (E0 = 16 ∧ ¬ NS ws) ∨ (E0 = 0 ∧ NS ws) := by
    rw [hE0, hch]
    by_cases h1 : NS ws <;> simp [h1]
  clear hch
  rcases hE3 with ⟨hE, hns⟩ | ⟨hE, hns⟩
  · subst hE
    go_wp2_with (first | (refine wpList_load_blk rfl 24 _ rfl _ rfl b5 Try.underlying24 rfl size24 rfl ?_) | (go_at_call 22; refine (check_any _ _ ws _ HV.out).mono ?_; rintro e w4 ⟨rfl, hb⟩; rw [← hE0]) | (go_at_call 16; refine (works_any _).mono ?_; rintro e w9 ⟨rfl, hb9⟩))
    go_ret
    exact ⟨rfl, btr (btr B hb (Nat.le_refl _)) hb9 (Nat.le_refl _)⟩
  · subst hE
    refine wp_seq_k (fun K hK => ?_)
    have HK := Lib.hid hK; clear hK
    go_wp2_with (first | (refine wpList_load_blk rfl 24 _ rfl _ rfl b5 Try.underlying24 rfl size24 rfl ?_) | (go_at_call 22; refine (check_any _ _ ws _ HV.out).mono ?_; rintro e w4 ⟨rfl, hb⟩; rw [← hE0]))
    refine HK.out _ _ ?_; clear HK K
    replace b5 := blk_keep b5 hb
    replace bv := blk_keep bv hb
    have HV := Lib.hid (HV.out.below hb (Nat.le_refl _))
    have HBS := Lib.hid (HBS.out.below hb (Nat.le_refl _))
    replace B := btr B hb (Nat.le_refl _)
    clear hb
    have HE0 := Lib.hid hE0.symm
    clear hE0
    refine wp_seq_k (fun K hK => ?_)
    have HK := Lib.hid hK; clear hK
    go_wp2
    refine HK.out _ _ ?_; clear HK K
    obtain ⟨N, hN⟩ : ∃ N : Nat, a % 8 = (N : Int) := ⟨(a % 8).toNat, by omega⟩
    rw [hN]
    have hN8 : N < 8 := by omega
    clear hN
    have hRE : runsE (m : Int) ws (N : Int) = 0 := by
      unfold runsE
      rw [HE0.out, if_neg (by decide), if_neg]
      simp [btw]; omega
    have HRE := Lib.hid hRE
    clear hRE
    refine wp_seq_k (fun K hK => ?_)
    have HK := Lib.hid hK; clear hK
    go_wp2_with (first | (refine wpList_load_blk rfl 24 _ rfl _ rfl b5 Try.underlying24 rfl size24 rfl ?_) | (go_at_call 33; refine (runs_any _ _ ws _ _ HV.out).mono ?_; rintro e w6 ⟨⟨vl, rows, rfl, hrows, -, hok⟩, hb⟩; rw [HRE.out]; obtain ⟨m2, N2, R, hm2, hN2, hv2, hs2, h200, hreq, hrw, hpos⟩ := hok HRE.out; obtain ⟨al, cl, hvl⟩ := slPP_form hrows; rw [hrw, List.length_map, List.length_range] at hvl; subst hvl))
    refine HK.out _ _ ?_; clear HK K
    have hmm : m2 = m := by omega
    subst hmm
    have hNN : N2 = N := by omega
    subst hNN
    rw [hrw] at hrows
    have HR := Lib.hid hrows
    replace b5 := blk_keep b5 hb
    replace bv := blk_keep bv hb
    have HV := Lib.hid (HV.out.below hb (Nat.le_refl _))
    have HBS := Lib.hid (HBS.out.below hb (Nat.le_refl _))
    replace B := btr B hb (Nat.le_refl _)
    have HRQ := Lib.hid (And.intro hreq hpos)
    clear hb hreq hpos hok hrows hrw hm2 hv2 hs2 h200 hN2
    refine wp_seq_k (fun K hK => ?_)
    have HK := Lib.hid hK; clear hK
    go_wp2_with (first | (refine wpList_load_blk rfl 24 _ rfl _ rfl b5 Try.underlying24 rfl size24 rfl ?_) | (go_at_call 18; refine (pace_any _ _ ws _ HV.out).mono ?_; rintro e w7 ⟨rfl, hb⟩; rw [HE0.out]))
    refine HK.out _ _ ?_; clear HK K
    replace b5 := blk_keep b5 hb
    replace bv := blk_keep bv hb
    have HV := Lib.hid (HV.out.below hb (Nat.le_refl _))
    have HBS := Lib.hid (HBS.out.below hb (Nat.le_refl _))
    have HR := Lib.hid (HR.out.below hb (Nat.le_refl _))
    replace B := btr B hb (Nat.le_refl _)
    clear hb
    generalize hwx : World.alloc _ _ = w7a
    obtain ⟨bp, hb, -⟩ := blk1 hwx
    clear hwx
    replace b5 := blk_keep b5 hb
    replace bv := blk_keep bv hb
    have HV := Lib.hid (HV.out.below hb (Nat.le_refl _))
    have HBS := Lib.hid (HBS.out.below hb (Nat.le_refl _))
    have HR := Lib.hid (HR.out.below hb (Nat.le_refl _))
    replace B := btr B hb (Nat.le_refl _)
    clear hb
    have hla : (tabL m2 ws).length = m2 := by rw [tabL_ok HE0.out]; simp
    refine wp_seq_k (fun K hK => ?_)
    have HK := Lib.hid hK; clear hK
    go_wp2_with (first | (refine wpList_load_blk rfl 24 _ rfl _ rfl b5 Try.underlying24 rfl size24 rfl ?_) | (go_at_call 28; refine (table_any _ _ ws _ HV.out).mono ?_; rintro e w8 ⟨⟨tb, rfl, htb⟩, hb⟩; rw [HE0.out]; have htb0 := htb; obtain ⟨at_2, ct, rfl⟩ := slI_form htb; rw [hla]))
    refine HK.out _ _ ?_; clear HK K
    have HT := Lib.hid htb0
    replace b5 := blk_keep b5 hb
    replace bv := blk_keep bv hb
    replace bp := blk_keep bp hb
    have HV := Lib.hid (HV.out.below hb (Nat.le_refl _))
    have HBS := Lib.hid (HBS.out.below hb (Nat.le_refl _))
    have HR := Lib.hid (HR.out.below hb (Nat.le_refl _))
    replace B := btr B hb (Nat.le_refl _)
    clear hb htb htb0
    have c50 := cell_blk (i := 0) b5
    simp only [List.getElem?_toArray, List.getElem?_cons_zero] at c50
    refine wp_seq_k (fun K hK => ?_)
    have HK := Lib.hid hK; clear hK
    go_wp2
    refine HK.out _ _ ?_; clear HK K
    have hbd : ∀ i, i < ws.length → 0 ≤ (at_ ws i).lo ∧ (at_ ws i).lo ≤ (at_ ws i).hi ∧ (at_ ws i).hi ≤ 84 := fun i hi => by
      have := HM.out.ok (at_ ws i) (by rw [at_lt hi]; exact List.getElem_mem hi)
      unfold okM at this; omega
    have hT1 : ∀ tk : Nat → Nat → Int, (∀ k i, k < N2 → i < ws.length → (at_ ws i).lo ≤ tk k i ∧ tk k i ≤ (at_ ws i).hi) → _ := fun tk h => HRQ.out.1.truth HVL.out hns (fun k v => ⟨(HRQ.out.2 k v).1, (HRQ.out.2 k v).2.1⟩) h
    have hSb : ∀ k v, k < N2 → (R k v).2 ≤ 100000000 := fun k v hk => by have := (HRQ.out.2 k v).2.2 hk; omega
    have HBD := Lib.hid (And.intro hbd (And.intro hT1 hSb))
    clear hbd hT1 hSb c50
    have hbk : ∀ k i, k < N2 → i < ws.length → (at_ ws i).lo ≤ (fun _ i => (at_ ws i).lo) k i ∧ (fun _ i => (at_ ws i).lo) k i ≤ (at_ ws i).hi := (fun _ i _ hi => ⟨Int.le_refl _, (HBD.out.1 i hi).2.1⟩)
    have h41 := times_any 42 #[.pointer (some ⟨w2.heap.size, 0, none⟩)] m2 N2 _ ws (fun _ i => (at_ ws i).lo) (fun k v => (R k v).2) _ HV.out HVL.out (by omega) (HBD.out.2.1 (fun _ i => (at_ ws i).lo) hbk).1 HBD.out.2.2 (fun k i hk hi => ⟨Int.le_trans (HBD.out.1 i hi).1 (hbk k i hk hi).1, Int.le_trans (hbk k i hk hi).2 (by have := HBD.out.1 i hi; omega)⟩) (fun _ _ => rfl) (fun W hW k i hk hi => lo_any k i m2 _ ws _ W (HV.out.below hW (Nat.le_refl _)) (blk_keep b5 hW) hi)
    have H41 := Lib.hid h41
    clear h41 hbk
    refine wp_seq_k (fun K hK => ?_)
    have HK := Lib.hid hK; clear hK
    go_wp2_with (first | (refine wpList_load_blk rfl 24 _ rfl _ rfl b5 Try.underlying24 rfl size24 rfl ?_) | (go_at_call 41; refine H41.out.mono ?_; rintro e w9 ⟨⟨o, rfl, ho⟩, hb⟩; have ho0 := ho; obtain ⟨a1, c1, rfl⟩ := slII_form ho; rw [List.length_map, List.length_range]))
    refine HK.out _ _ ?_; clear HK K
    have HLO := Lib.hid ho0
    replace b5 := blk_keep b5 hb
    replace bv := blk_keep bv hb
    replace bp := blk_keep bp hb
    have HV := Lib.hid (HV.out.below hb (Nat.le_refl _))
    have HBS := Lib.hid (HBS.out.below hb (Nat.le_refl _))
    have HR := Lib.hid (HR.out.below hb (Nat.le_refl _))
    have HT := Lib.hid (HT.out.below hb (Nat.le_refl _))
    replace B := btr B hb (Nat.le_refl _)
    clear hb ho ho0 H41
    have hbk : ∀ k i, k < N2 → i < ws.length → (at_ ws i).lo ≤ (fun _ i => (at_ ws i).hi) k i ∧ (fun _ i => (at_ ws i).hi) k i ≤ (at_ ws i).hi := (fun _ i _ hi => ⟨(HBD.out.1 i hi).2.1, Int.le_refl _⟩)
    have h41 := times_any 43 #[.pointer (some ⟨w2.heap.size, 0, none⟩)] m2 N2 _ ws (fun _ i => (at_ ws i).hi) (fun k v => (R k v).2) _ HV.out HVL.out (by omega) (HBD.out.2.1 (fun _ i => (at_ ws i).hi) hbk).1 HBD.out.2.2 (fun k i hk hi => ⟨Int.le_trans (HBD.out.1 i hi).1 (hbk k i hk hi).1, Int.le_trans (hbk k i hk hi).2 (by have := HBD.out.1 i hi; omega)⟩) (fun _ _ => rfl) (fun W hW k i hk hi => hi_any k i m2 _ ws _ W (HV.out.below hW (Nat.le_refl _)) (blk_keep b5 hW) hi)
    have H41 := Lib.hid h41
    clear h41 hbk
    refine wp_seq_k (fun K hK => ?_)
    have HK := Lib.hid hK; clear hK
    go_wp2_with (first | (refine wpList_load_blk rfl 24 _ rfl _ rfl b5 Try.underlying24 rfl size24 rfl ?_) | (go_at_call 41; refine H41.out.mono ?_; rintro e w10 ⟨⟨o, rfl, ho⟩, hb⟩; have ho0 := ho; obtain ⟨a2, c2, rfl⟩ := slII_form ho; rw [List.length_map, List.length_range]))
    refine HK.out _ _ ?_; clear HK K
    have HHI := Lib.hid ho0
    replace b5 := blk_keep b5 hb
    replace bv := blk_keep bv hb
    replace bp := blk_keep bp hb
    have HV := Lib.hid (HV.out.below hb (Nat.le_refl _))
    have HBS := Lib.hid (HBS.out.below hb (Nat.le_refl _))
    have HR := Lib.hid (HR.out.below hb (Nat.le_refl _))
    have HT := Lib.hid (HT.out.below hb (Nat.le_refl _))
    have HLO := Lib.hid (HLO.out.below hb (Nat.le_refl _))
    replace B := btr B hb (Nat.le_refl _)
    clear hb ho ho0 H41
    have hbk : ∀ k i, k < N2 → i < ws.length → (at_ ws i).lo ≤ (trE ws bs) k i ∧ (trE ws bs) k i ≤ (at_ ws i).hi := (fun k i _ hi => trE_bd k bs (HBD.out.1 i hi).2.1)
    have h41 := times_any 44 #[.pointer (some ⟨w2.heap.size, 0, none⟩), .pointer (some ⟨w.heap.size + 1, 0, none⟩)] m2 N2 _ ws (trE ws bs) (fun k v => (R k v).2) _ HV.out HVL.out (by omega) (HBD.out.2.1 (trE ws bs) hbk).1 HBD.out.2.2 (fun k i hk hi => ⟨Int.le_trans (HBD.out.1 i hi).1 (hbk k i hk hi).1, Int.le_trans (hbk k i hk hi).2 (by have := HBD.out.1 i hi; omega)⟩) (fun _ _ => rfl) (fun W hW k i hk hi => tr_any k i m2 _ _ ws bs _ _ W (HV.out.below hW (Nat.le_refl _)) (HBS.out.below hW (Nat.le_refl _)) (blk_keep b5 hW) (blk_keep bv hW) hi (by omega) (by omega) (by have := HBD.out.1 i hi; omega))
    have H41 := Lib.hid h41
    clear h41 hbk
    refine wp_seq_k (fun K hK => ?_)
    have HK := Lib.hid hK; clear hK
    go_wp2_with (first | (refine wpList_load_blk rfl 24 _ rfl _ rfl b5 Try.underlying24 rfl size24 rfl ?_) | (go_at_call 41; refine H41.out.mono ?_; rintro e w11 ⟨⟨o, rfl, ho⟩, hb⟩; have ho0 := ho; obtain ⟨a3, c3, rfl⟩ := slII_form ho; rw [List.length_map, List.length_range]))
    refine HK.out _ _ ?_; clear HK K
    have HTR := Lib.hid ho0
    replace b5 := blk_keep b5 hb
    replace bv := blk_keep bv hb
    replace bp := blk_keep bp hb
    have HV := Lib.hid (HV.out.below hb (Nat.le_refl _))
    have HBS := Lib.hid (HBS.out.below hb (Nat.le_refl _))
    have HR := Lib.hid (HR.out.below hb (Nat.le_refl _))
    have HT := Lib.hid (HT.out.below hb (Nat.le_refl _))
    have HLO := Lib.hid (HLO.out.below hb (Nat.le_refl _))
    have HHI := Lib.hid (HHI.out.below hb (Nat.le_refl _))
    replace B := btr B hb (Nat.le_refl _)
    clear hb ho ho0 H41
    refine wp_seq_k (fun K hK => ?_)
    have HK := Lib.hid hK; clear hK
    go_wp2
    go_loopw [82] (fun i wr => ∃ k : Nat, k ≤ N2 ∧ i = .int .i64 k ∧ Below w11.heap.size w11 wr) (fun i _ => N2 - (intOf i).toNat)
    case atStart => exact ⟨0, Nat.zero_le _, rfl, Below.refl _ _⟩
    case round =>
      obtain ⟨k, hk, rfl, hBk⟩ := hrel
      by_cases hkN : k < N2
      · have hki : (k : Int) < (N2 : Int) := by omega
        obtain ⟨b0, o0, x0, e0, l0, f0⟩ := runs_cells HR.out (by omega) (by omega)
        injection e0 with e00 _ e01
        subst e00 e01
        obtain ⟨r0, s0, d0, g0, k0, v0⟩ := f0 k hkN
        have c0 := (hBk.cell (p := ⟨b0, o0 + k, none⟩) l0).trans g0
        have c50 := cell_blk (i := 0) (blk_keep b5 hBk)
        simp only [List.getElem?_toArray, List.getElem?_cons_zero] at c50
        clear f0
        go_wp2
        go_quiet (fail)
        have hcw := fun (x : Prop) => x
        clear hcw
        obtain ⟨b1, o1, x1, e1, l1, f1⟩ := ints_cells HLO.out (by omega) (by omega)
        injection e1 with e10 _ e11
        subst e10 e11
        obtain ⟨r1, s1, d1, g1, k1, v1⟩ := f1 k hkN
        obtain ⟨b2, o2, x2, e2, l2, f2⟩ := ints_cells HHI.out (by omega) (by omega)
        injection e2 with e20 _ e21
        subst e20 e21
        obtain ⟨r2, s2, d2, g2, k2, v2⟩ := f2 k hkN
        obtain ⟨b3, o3, x3, e3, l3, f3⟩ := ints_cells HTR.out (by omega) (by omega)
        injection e3 with e30 _ e31
        subst e30 e31
        obtain ⟨r3, s3, d3, g3, k3, v3⟩ := f3 k hkN
        obtain ⟨adt, capt, et, -, -, hct⟩ := HT.out
        obtain ⟨bt, ot, rfl, hltt, hcellt⟩ := hct (by rw [hla]; omega)
        injection et with et0 _ et1
        subst et0 et1
        have HV0 := Lib.hid v0
        have HV1 := Lib.hid v1
        have HV2 := Lib.hid v2
        have HV3 := Lib.hid v3
        have HCT := Lib.hid hcellt
        clear v0 v1 v2 v3 hcellt f1 f2 f3 hct
        go_wp2
        have hBd := below_drewN hBk nq
        generalize World.drewN _ _ = wd at *
        go_loopw [98] (fun i wx => ∃ y : Nat, y ≤ m2 ∧ i = .int .i64 y ∧ Below w11.heap.size w11 wx) (fun i _ => m2 - (intOf i).toNat)
        case atStart => exact ⟨0, Nat.zero_le _, rfl, hBd⟩
        case round =>
          obtain ⟨y, hy, rfl, hBy⟩ := hrel
          by_cases hym : y < m2
          · have hyi : (y : Int) < (m2 : Int) := by omega
            have a0 := (hBy.cell (p := ⟨b0, o0 + k, none⟩) l0).trans g0
            have a1 := (hBy.cell (p := ⟨b1, o1 + k, none⟩) l1).trans g1
            have a2 := (hBy.cell (p := ⟨b2, o2 + k, none⟩) l2).trans g2
            have a3 := (hBy.cell (p := ⟨b3, o3 + k, none⟩) l3).trans g3
            have p1 := (hBy.cell (p := ⟨r0, s0 + y * 2, none⟩) k0).trans (HV0.out y hym).1
            have p2 := (hBy.cell (p := ⟨r0, s0 + y * 2 + 1, none⟩) k0).trans (HV0.out y hym).2
            have p3 := (hBy.cell (p := ⟨r1, s1 + y, none⟩) k1).trans (HV1.out y hym)
            have p4 := (hBy.cell (p := ⟨r2, s2 + y, none⟩) k2).trans (HV2.out y hym)
            have p5 := (hBy.cell (p := ⟨r3, s3 + y, none⟩) k3).trans (HV3.out y hym)
            have p6 := (hBy.cell (p := ⟨bt, ot + y, none⟩) hltt).trans (HCT.out y (by rw [hla]; exact hym))
            have hat : at0 (tabL (m2 : Int) ws) y = ptab m2 ws y := by
              rw [tabL_ok HE0.out]; unfold at0; simp [List.getD_eq_getElem?_getD, hym]
            rw [hat] at p6
            rw [HRQ.out.1.lows HVL.out hns (fun k v => ⟨(HRQ.out.2 k v).1, (HRQ.out.2 k v).2.1⟩) k y hkN hym] at p3
            rw [HRQ.out.1.highs HVL.out hns (fun k v => ⟨(HRQ.out.2 k v).1, (HRQ.out.2 k v).2.1⟩) k y hkN hym] at p4
            have hre := (HBD.out.2.1 (trE ws bs) (fun k i _ hi => trE_bd k bs (HBD.out.1 i hi).2.1)).2 k y hkN hym
            obtain ⟨m3, l3', hm3, -, -, hslow⟩ := pace_ok HE0.out
            have hmm3 : m3 = m2 := by omega
            subst hmm3
            have htb := HRQ.out.1.table HVL.out hns hslow.keep hslow.nn k y hkN hym
            have hpb := hslow.b
            have hxb := hslow.hi y
            have hxn := hslow.nn y
            have hrb := (HRQ.out.2 k y).2.2 hkN
            have hr0 := HRQ.out.2 k y
            generalize tim ws (trE ws bs) m3 N2 k y = z at *
            generalize (R k y).1 = A at *
            generalize (R k y).2 = Bv at *
            generalize ptab (m3 : Int) ws y = X at *
            have bq := blk_keep bp hBy
            have q0 := cell_blk (i := 0) bq
            have q1 := cell_blk (i := 1) bq
            simp only [List.getElem?_toArray, List.getElem?_cons_zero, List.getElem?_cons_succ] at q0 q1
            generalize pnum (m3 : Int) ws = P at *
            generalize pden (m3 : Int) ws = D at *
            obtain ⟨Z1, hZ1⟩ : ∃ Z1, (D : Int) * Bv = Z1 := ⟨_, rfl⟩
            obtain ⟨Z2, hZ2⟩ : ∃ Z2, (k : Int) * (P : Int) = Z2 := ⟨_, rfl⟩
            have hZ1b : 0 ≤ Z1 ∧ Z1 ≤ 40000000 := by
              rw [← hZ1]
              exact ⟨Int.mul_nonneg (by omega) (by omega), Int.le_trans (Int.mul_le_mul (show (D : Int) ≤ 40 by omega) (show Bv ≤ 1000000 by omega) (by omega) (by omega)) (by omega)⟩
            have hZ2b : 0 ≤ Z2 ∧ Z2 ≤ 1000000 := by
              rw [← hZ2]
              exact ⟨Int.mul_nonneg (by omega) (by omega), Int.le_trans (Int.mul_le_mul (show (k : Int) ≤ 8 by omega) (show (P : Int) ≤ 100000 by omega) (by omega) (by omega)) (by omega)⟩
            rw [hZ1, hZ2] at htb
            have n1 : ¬ (z < A) := by omega
            have n2 : ¬ (Bv < z) := by omega
            have n3 : ¬ (X + Z2 < Z1) := by omega
            clear hat hslow bq HV0 HV1 HV2 HV3 HCT
            go_wp2
            have A0 := ab_cell a0
            have A1 := ab_cell a1
            have A2 := ab_cell a2
            have A3 := ab_cell a3
            have P1 := ab_cell p1
            have P2 := ab_cell p2
            have P3 := ab_cell p3
            have P4 := ab_cell p4
            have P5 := ab_cell p5
            have P6 := ab_cell p6
            have Q0 := ab_cell q0
            have Q1 := ab_cell q1
            clear a0 a1 a2 a3 p1 p2 p3 p4 p5 p6 q0 q1 c0 c50
            have n1b : decide (z < A) = false := decide_eq_false (by omega)
            have n2b : decide (z > Bv) = false := decide_eq_false (by omega)
            have n3b : decide (Z1 > X + Z2) = false := decide_eq_false (by omega)
            refine wp_region_ab wr.heap.size wr (by kernel_rfl) (by kernel_rfl) (Below.refl _ _) ?_
            unfold AbC
            repeat go_big_quiet_step (first | (go_at_call 45; exact Calls.ab _ (Nat.le_refl _) (span_any _ _ _)))
            refine wpQuiet_nil ?_
            rintro W' ⟨X0, rfl⟩
            have hX := X0.ok
            go_wp2
            go_roundw
            case rel => exact ⟨y + 1, by omega, by go_num, hBy.trans (hX.mono hBy.size)⟩
            case measure => simp [intOf]; omega
          · have hym2 : y = m2 := by omega
            have hyi : ¬ ((y : Int) < (m2 : Int)) := by omega
            go_wp2
            go_roundw
            case rel => exact ⟨k + 1, by omega, by go_num, hBy⟩
            case measure => simp [intOf]; omega
      · have hkk : k = N2 := by omega
        subst hkk
        have hki : ¬ ((k : Int) < (k : Int)) := by omega
        go_wp2
        refine HK.out _ _ ?_; clear HK
        go_wp2_with (go_at_call 16; refine (works_any _).mono ?_; rintro e w12 ⟨rfl, hb⟩)
        go_ret
        exact ⟨rfl, btr (btr B hBk (Nat.le_refl _)) hb (Nat.le_refl _)⟩
end Yteileadcmekkoaa
end Go.Proofs
