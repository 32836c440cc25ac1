/- Pans: the reference's Slowest and what asks it: Pace, Kept, Hold. -/
import Derived.Test.YteileadcmekkoaaSer
open Go Go.RowKit Go.YteileadcmekkoaaIt
namespace Go.Proofs
namespace Yteileadcmekkoaa
set_option maxRecDepth 100000 in
set_option maxHeartbeats 8000000 in
theorem slowest_any (m : Nat) (v : Value) (ws : List Wa) (w : World) (hV : Val m ws) (hNS : NS ws) (hv : SlA w v ws) :
    Calls Try.prog 53 #[.agg #[.int .i64 m, v]] w fun e w' => ∃ vr, e = .returned (.agg #[.int .i64 (loopT m ws ws.length).num, .int .i64 (loopT m ws ws.length).den, vr]) ∧ SlI w' vr (toI (loopT m ws ws.length).cyc) ∧ Below w.heap.size w w' := by
  have hm := hV.n1
  have hln := hV.len
  have HV := Lib.hid hv
  obtain ⟨ad, cap, rfl, -, -, hcw⟩ := hv
  obtain ⟨R, hR⟩ : ∃ R, R = loopT m ws ws.length := ⟨_, rfl⟩
  rw [← hR]
  have HR := Lib.hid hR
  have HW := Lib.hid hcw
  clear hR hcw
  go_enter Try.func53, Try.ntmps53
  refine wp_seq_k (fun K hK => ?_)
  have HK := Lib.hid hK; clear hK
  go_wp2
  refine HK.out _ _ ?_; clear HK K
  refine wp_seq_k (fun K hK => ?_)
  have HK := Lib.hid hK; clear hK
  go_wp2
  refine HK.out _ _ ?_; clear HK K
  generalize hw1 : World.alloc _ _ = w1
  obtain ⟨b1, b2, b3, hB, hs1⟩ := blk3 hw1
  clear hw1
  go_wp2_with (refine wp_seq_k (fun K hK => ?_); fail)
  have hw3 : w.heap.size + 3 ≤ w1.heap.size := hs1
  obtain ⟨wl, hwl⟩ : ∃ wl, wl = w1.heap.size := ⟨_, rfl⟩
  rw [← hwl] at hw3
  go_loopw [4] (fun i wx => ∃ (j : Nat) (vG : Value), i = .int .i64 j ∧ j ≤ ws.length ∧ SlI wx vG (toI (loopT m ws j).cyc) ∧ wx.heap[w.heap.size]? = some (.cells #[.int .i64 m, .slice ad ws.length cap] 31 (0, 0)) ∧ wx.heap[w.heap.size + 1 + 1]? = some (.cells #[.int .i64 (loopT m ws j).num, .int .i64 (loopT m ws j).den, vG] 95 (0, 0)) ∧ wx.heap[w.heap.size + 1]? = some (.cells #[.int .i64 0, .int .i64 0, .slice none 0 0] 95 (0, 0)) ∧ Below w.heap.size w wx ∧ (vG = .slice none 0 0 ∨ FrS wl vG) ∧ wl ≤ wx.heap.size) (fun i _ => ws.length - (intOf i).toNat)
  case atStart => exact ⟨0, _, rfl, Nat.zero_le _, slI_nil _, b1, b3, b2, hB, .inl rfl, Nat.le_of_eq hwl⟩
  case round =>
    clear b1 b2 b3 hB hwl
    obtain ⟨j, vG, rfl, hj, hvG, b1, b2, b3, hB, hvF, hwx⟩ := hrel
    obtain ⟨G, hG⟩ : ∃ G, G = loopT m ws j := ⟨_, rfl⟩
    rw [← hG] at hvG b2
    have HG := Lib.hid hG
    clear hG
    have HVG := Lib.hid hvG
    have HVF := Lib.hid hvF
    clear hvF
    obtain ⟨aG, cG, rfl, -, -, -⟩ := hvG
    obtain ⟨MG, hMG⟩ : ∃ MG, MG = (toI G.cyc).length := ⟨_, rfl⟩
    rw [← hMG] at b2
    have HMG := Lib.hid hMG
    clear hMG
    have e1 := cell_blk (i := 1) b1
    simp only [List.getElem?_toArray, List.getElem?_cons_zero, List.getElem?_cons_succ] at e1
    by_cases hjn : j < ws.length
    · obtain ⟨bw, ow, rfl, hlw, hcell⟩ := HW.out (by omega)
      obtain ⟨q0, q1, -, -, -⟩ := a_cells hcell (i := j) (n := j) hjn rfl
      obtain ⟨k1, k2, _⟩ := hV.ok j hjn
      rw [show (at_ ws j).f = (fN ws j : Nat) by unfold fN; omega] at q0
      rw [show (at_ ws j).t = (tN ws j : Nat) by unfold tN; omega] at q1
      replace q0 := (hB.cell (p := ⟨bw, ow + j * 5, none⟩) hlw).trans q0
      replace q1 := (hB.cell (p := ⟨bw, ow + j * 5 + 1, none⟩) hlw).trans q1
      clear hcell k1 k2
      obtain ⟨fj, hfj⟩ : ∃ fj, fj = fN ws j := ⟨_, rfl⟩
      obtain ⟨tj, htj⟩ : ∃ tj, tj = tN ws j := ⟨_, rfl⟩
      rw [← hfj] at q0
      rw [← htj] at q1
      have hjni : (j : Int) < ws.length := by omega
      have hst : loopT m ws (j + 1) = if fj ≤ tj then sea ws m [j] G else G := by rw [loopT_succ, ← HG.out, hfj, htj]; rfl
      have HT := Lib.hid (And.intro hst (show FI m ws G from by rw [HG.out]; exact (loopT_ok hV hNS j hj).1))
      clear hst hfj htj
      by_cases hge : fj ≤ tj
      · have hgb : decide (fj ≤ tj) = true := by rw [decide_eq_true_eq]; exact hge
        have hgo := HT.out.1
        rw [if_pos hge] at hgo
        have HGO := Lib.hid hgo
        clear hge hgo
        go_wp2
        go_quiet (fail)
        have hBq := below_drewN hB nq
        replace b1 : (wr.drewN nq).heap[w.heap.size]? = _ := b1
        replace b2 : (wr.drewN nq).heap[w.heap.size + 1 + 1]? = _ := b2
        replace b3 : (wr.drewN nq).heap[w.heap.size + 1]? = _ := b3
        replace hwx : wl ≤ (wr.drewN nq).heap.size := hwx
        have hSG : SlI (wr.drewN nq) (.slice aG MG cG) (toI G.cyc) := by rw [HMG.out]; exact HVG.out.below (below_drewN (Below.refl wr.heap.size wr) nq) (Nat.le_refl _)
        have HSG := Lib.hid hSG
        have hSW := Lib.hid (HV.out.below hBq (Nat.le_refl _))
        clear hSG hB q0 q1 e1
        generalize World.drewN wr nq = wq at *
        have hA := (Below.refl _ wq).alloc (Nat.le_refl _) (.cells #[.int .i64 j] 3)
        have bA2 := blk_keep b2 hA
        have h74 := search_any m _ ws hV hNS m [j] G (.slice (some ⟨wq.heap.size, 0, none⟩) 1 1) (.slice aG MG cG) (wq.alloc (.cells #[.int .i64 j] 3)) (by simp; omega) (beg_one hjn) HT.out.2 (hSW.out.below hA (Nat.le_refl _)) (slI_new (xs := toI [j]) (cap := 1) (by simp) (by simp) (heap_newI rfl)) (HSG.out.below hA (Nat.le_refl _))
        rw [← HGO.out] at h74
        have hFI2 := (loopT_ok hV hNS (j + 1) hjn).1
        generalize hG2 : loopT m ws (j + 1) = G2 at *
        have HG2 := Lib.hid (And.intro hG2 hFI2)
        have H74 := Lib.hid h74
        clear hG2 hFI2 h74
        go_wp2_with (first | (refine wpList_load_blk rfl 31 _ rfl _ rfl b1 Try.underlying31 rfl size31 rfl ?_) | (refine wpList_load_blk rfl 95 _ rfl _ rfl bA2 Try.underlying95 rfl size95 rfl ?_) | (go_at_call 74; refine H74.out.mono ?_; rintro e w5 ⟨vr, rfl, s5, f5, hb5⟩; obtain ⟨a5, c5, hv5⟩ := slI_form s5; subst hv5; have hb45 := hA.trans (hb5.mono (by simp)); have b25 := blk_keep b2 hb45) | (refine wpList_store_blk rfl 95 _ _ rfl _ rfl rfl b25 size95 rfl rfl (by simp [Value.oneCell']) ?_))
        rw [List.length_map] at f5 s5
        have l1 := lt_blk b1
        have hsz5 := hb5.size
        rw [World.size_alloc] at hsz5
        have hF5 : (Value.slice a5 G2.cyc.length c5) = .slice none 0 0 ∨ FrS wl (Value.slice a5 G2.cyc.length c5) := by
          rcases f5 with e | e
          · rw [e, HMG.out]; exact HVF.out
          · exact .inr (frS_mono (by simp; omega) e)
        have s6 := slI_putO3 (b := w.heap.size + 1 + 1) (o' := (.cells #[.int .i64 G2.num, .int .i64 G2.den, .slice a5 G2.cyc.length c5] 95 (0, 0))) s5 hF5 (slI_nil w) (by omega) (by omega)
        have b16 := (World.putObj_heap_other (w := w5) (o := (.cells #[.int .i64 G2.num, .int .i64 G2.den, .slice a5 G2.cyc.length c5] 95 (0, 0))) (show w.heap.size ≠ w.heap.size + 1 + 1 by omega)).trans (blk_keep b1 hb45)
        have b36 := (World.putObj_heap_other (w := w5) (o := (.cells #[.int .i64 G2.num, .int .i64 G2.den, .slice a5 G2.cyc.length c5] 95 (0, 0))) (show w.heap.size + 1 ≠ w.heap.size + 1 + 1 by omega)).trans (blk_keep b3 hb45)
        have b26 := World.putObj_heap_same (w := w5) (o := (.cells #[.int .i64 G2.num, .int .i64 G2.den, .slice a5 G2.cyc.length c5] 95 (0, 0))) (lt_blk b25)
        have hB6 := below_putObj (o := (.cells #[.int .i64 G2.num, .int .i64 G2.den, .slice a5 G2.cyc.length c5] 95 (0, 0))) (hBq.trans (hb45.mono hBq.size)) (show w.heap.size ≤ w.heap.size + 1 + 1 by omega)
        have hs6 : wl ≤ (w5.putObj (w.heap.size + 1 + 1) (.cells #[.int .i64 G2.num, .int .i64 G2.den, .slice a5 G2.cyc.length c5] 95 (0, 0))).heap.size := by simp; omega
        go_roundw
        case rel => exact ⟨j + 1, _, by go_num, by omega, by rw [HG2.out.1]; exact s6, b16, by rw [HG2.out.1]; exact b26, b36, hB6, hF5, hs6⟩
        case measure => simp [intOf]; omega
      · have hgb : decide (fj ≤ tj) = false := by rw [decide_eq_false_iff_not]; exact hge
        have hgo := HT.out.1
        rw [if_neg hge] at hgo
        have HSK := Lib.hid hgo
        clear hge hgo
        go_wp2
        go_quiet (fail)
        have hBq := below_drewN hB nq
        go_wp2
        go_roundw
        case rel => exact ⟨j + 1, _, by go_num, by omega, by rw [HSK.out]; exact HMG.out ▸ HVG.out, b1, by rw [HSK.out]; exact b2, b3, hBq, HMG.out ▸ HVF.out, hwx⟩
        case measure => simp [intOf]; omega
    · have hjn2 : j = ws.length := by omega
      have hRG : R = G := by rw [HR.out, HG.out, hjn2]
      subst hjn2 hRG
      go_wp2_with (first | (refine wpList_load_blk rfl 95 _ rfl _ rfl b2 Try.underlying95 rfl size95 rfl ?_) | (refine wpList_store_blk rfl 95 _ _ rfl _ rfl rfl b3 size95 rfl rfl (by simp [Value.oneCell']) ?_))
      exact bodyPost_ret (results_blk rfl _ _ (w.heap.size + 1) rfl (World.putObj_heap_same (lt_blk b3)) Try.underlying95 rfl size95 rfl) rfl ⟨_, rfl, by rw [HMG.out]; exact slI_putO3 HVG.out HVF.out (slI_nil w) (by omega) (by omega), below_putObj hB (by omega)⟩
theorem field95 (a b : Int) (c : Value) (W : World) : (Instr.field 95 (.agg #[.int .i64 a, .int .i64 b, c]) 0).run Try.prog W = .ok (.agg #[.int .i64 a, .int .i64 b]) W := by kernel_rfl
/-- What Slowest answers, by the pace's own names. -/
theorem slow6_any (m : Nat) (v : Value) (ws : List Wa) (w : World) (hV : Val m ws) (hs : NS ws) (hv : SlA w v ws) :
    Calls Try.prog 53 #[.agg #[.int .i64 m, v]] w fun e w' => ∃ (ad : Option Addr) (c : Nat) (l : List Nat), e = .returned (.agg #[.int .i64 (pnum m ws : Nat), .int .i64 (pden m ws : Nat), .slice ad l.length c]) ∧ (l = [] ↔ pnum m ws = 0) ∧ Below w.heap.size w w' := by
  refine (slowest_any m v ws w hV hs hv).mono ?_
  rintro e w' ⟨vr, rfl, h1, h2⟩
  obtain ⟨e1, e2, e3⟩ := slowest_pace hV hs
  obtain ⟨ad, c, rfl⟩ := slI_form h1
  rw [List.length_map, e1, e2]
  exact ⟨ad, c, _, rfl, e3, h2⟩
set_option maxRecDepth 100000 in
set_option maxHeartbeats 8000000 in
theorem rpace_any (n : Int) (v : Value) (ws : List Wa) (w : World) (hv : SlA w v ws) :
    Calls Try.prog 19 #[.agg #[.int .i64 n, v]] w fun e w' => e = .returned (.tuple #[.agg #[.int .i64 (pnum n ws : Nat), .int .i64 (pden n ws : Nat)], .int .i64 (chkE n ws)]) ∧ Below w.heap.size w w' := by
  have HV := Lib.hid hv
  obtain ⟨ad, cap, rfl, -, -, -⟩ := hv
  go_enter Try.func19, Try.ntmps19
  refine wp_seq_k (fun K hK => ?_)
  have HK := Lib.hid hK; clear hK
  go_wp2
  refine HK.out _ _ ?_; clear HK K
  generalize hw1 : World.alloc _ _ = w1
  obtain ⟨b1, b2, hB, hs1⟩ := blk2 hw1
  clear hw1
  have h23 := rcheck_any n _ ws w1 (HV.out.below hB (Nat.le_refl _))
  obtain ⟨E, hE⟩ : ∃ E, E = chkE n ws := ⟨_, rfl⟩
  rw [← hE] at h23 ⊢
  have HE := Lib.hid hE
  clear hE
  by_cases h0 : E = 0
  · obtain ⟨m, l0, rfl, hV, hns, -⟩ := pace_ok (HE.out.symm.trans h0)
    subst h0
    have h53 := fun W hW => slow6_any m _ ws W hV hns (HV.out.below hW (Nat.le_refl _))
    have HH := Lib.hid h53
    clear h53
    have H23 := Lib.hid h23
    clear h23 HE
    have hf95 := field95
    go_wp2_with (first | (refine wpList_load_blk rfl 31 _ rfl _ rfl b12 Try.underlying31 rfl size31 rfl ?_) | (refine wpList_load_blk rfl 31 _ rfl _ rfl b1 Try.underlying31 rfl size31 rfl ?_) | (go_at_call 23; refine H23.out.mono ?_; rintro e w2 ⟨rfl, hb2⟩; have b12 := blk_keep b1 hb2; have b22 := blk_keep b2 hb2; have hB2 := btr hB hb2 (Nat.le_refl _)) |
      (go_at_call 53; refine (HH.out w2 hB2).mono ?_; rintro e w3 ⟨aa, cc, l, rfl, -, hb3⟩; have b23 := blk_keep b22 hb3; have hB3 := btr hB2 hb3 (Nat.le_refl _)) |
      (refine wpList_store_blk rfl 36 _ _ rfl _ rfl rfl b23 size36 rfl rfl (by simp [Value.oneCell']) ?_))
    exact bodyPost_ret (results_agg_tmp rfl _ _ (w.heap.size + 1) rfl (World.putObj_heap_same (lt_blk b23)) Try.underlying36 rfl size36 rfl) rfl ⟨rfl, below_putObj hB3 (by omega)⟩
  · have hne : (E != 0) = true := by simpa using h0
    obtain ⟨p1, p2⟩ := pace_err (by rw [← HE.out]; exact h0 : chkE n ws ≠ 0)
    rw [p1, p2]
    have H23 := Lib.hid h23
    clear h23 HE h0
    go_wp2_with (first | (refine wpList_load_blk rfl 31 _ rfl _ rfl b1 Try.underlying31 rfl size31 rfl ?_) | (go_at_call 23; refine H23.out.mono ?_; rintro e w2 ⟨rfl, hb2⟩; have b22 := blk_keep b2 hb2; have hB2 := btr hB hb2 (Nat.le_refl _)) | (refine wpList_store_blk rfl 36 _ _ rfl _ rfl rfl b22 size36 rfl rfl (by simp [Value.oneCell']) ?_))
    exact bodyPost_ret (results_agg_tmp rfl _ _ (w.heap.size + 1) rfl (World.putObj_heap_same (lt_blk b22)) Try.underlying36 rfl size36 rfl) rfl ⟨rfl, below_putObj hB2 (by omega)⟩
set_option maxRecDepth 100000 in
set_option maxHeartbeats 8000000 in
theorem rhold_any (n : Int) (v : Value) (ws : List Wa) (w : World) (hv : SlA w v ws) :
    Calls Try.prog 25 #[.agg #[.int .i64 n, v]] w fun e w' => (∃ c, e = .returned (.tuple #[c, .int .i64 (holdE n ws)])) ∧ Below w.heap.size w w' := by
  have HV := Lib.hid hv
  obtain ⟨ad, cap, rfl, -, -, -⟩ := hv
  go_enter Try.func25, Try.ntmps25
  refine wp_seq_k (fun K hK => ?_)
  have HK := Lib.hid hK; clear hK
  go_wp2
  refine HK.out _ _ ?_; clear HK K
  generalize hw1 : World.alloc _ _ = w1
  obtain ⟨b1, hB, hs1⟩ := blk1 hw1
  clear hw1
  have h23 := rcheck_any n _ ws w1 (HV.out.below hB (Nat.le_refl _))
  obtain ⟨E, hE⟩ : ∃ E, E = chkE n ws := ⟨_, rfl⟩
  rw [← hE] at h23
  have HE := Lib.hid hE
  clear hE
  by_cases h0 : E = 0
  · obtain ⟨m, l0, rfl, hV, hns, -⟩ := pace_ok (HE.out.symm.trans h0)
    subst h0
    have h53 := fun W hW => slow6_any m _ ws W hV hns (HV.out.below hW (Nat.le_refl _))
    have HH := Lib.hid h53
    clear h53
    have H23 := Lib.hid h23
    clear h23
    refine wp_seq_k (fun K hK => ?_)
    have HK := Lib.hid hK; clear hK
    go_wp2_with (first | (refine wpList_load_blk rfl 31 _ rfl _ rfl b1 Try.underlying31 rfl size31 rfl ?_) | (go_at_call 23; refine H23.out.mono ?_; rintro e w2 ⟨rfl, hb2⟩))
    refine HK.out _ _ ?_; clear HK K H23
    replace b1 := blk_keep b1 hb2
    replace hB := btr hB hb2 (Nat.le_refl _)
    have h53 := HH.out _ hB
    clear HH
    refine wp_seq_k (fun K hK => ?_)
    have HK := Lib.hid hK; clear hK
    go_wp2
    refine HK.out _ _ ?_; clear HK K
    refine wp_seq_k (fun K hK => ?_)
    have HK := Lib.hid hK; clear hK
    go_wp2_with (first | (refine wpList_load_blk rfl 31 _ rfl _ rfl b1 Try.underlying31 rfl size31 rfl ?_) | (go_at_call 53; refine h53.mono ?_; rintro e w3 ⟨aa, cc, l, rfl, hl, hb3⟩))
    refine HK.out _ _ ?_; clear HK K
    have hB3 := (btr hB hb3 (Nat.le_refl _))
    have hB4 := hB3.alloc hB3.size (.cells #[.int .i64 (pnum m ws : Nat), .int .i64 (pden m ws : Nat), .slice aa l.length cc] 95)
    have b5 : (w3.alloc (.cells #[.int .i64 (pnum m ws : Nat), .int .i64 (pden m ws : Nat), .slice aa l.length cc] 95)).heap[w3.heap.size]? = _ := heap_newI rfl
    have c2 := cell_blk (i := 2) b5
    simp only [List.getElem?_toArray, List.getElem?_cons_zero, List.getElem?_cons_succ] at c2
    have HL := Lib.hid hl
    clear h53 hl
    by_cases hn0 : pnum m ws = 0
    · obtain rfl : l = [] := HL.out.2 hn0
      have HN0 := Lib.hid hn0
      clear hn0
      go_wp2
      go_ret2
      exact ⟨⟨_, by rw [holdE_none HE.out.symm HN0.out]; rfl⟩, hB4⟩
    · have hlz : l.length ≠ 0 := fun e => hn0 (HL.out.1 (List.length_eq_zero_iff.1 e))
      have hlb : ((l.length : Int) == 0) = false := by rw [beq_eq_false_iff_ne]; omega
      have HN0 := Lib.hid hn0
      clear hn0 hlz
      go_wp2
      go_ret2
      exact ⟨⟨_, by rw [holdE_ok HE.out.symm (Nat.pos_of_ne_zero HN0.out)]; rfl⟩, hB4⟩
  · have hne : (E != 0) = true := by simpa using h0
    have H23 := Lib.hid h23
    have H0 := Lib.hid h0
    clear h23 h0
    go_wp2_with (first | (refine wpList_load_blk rfl 31 _ rfl _ rfl b1 Try.underlying31 rfl size31 rfl ?_) | (go_at_call 23; refine H23.out.mono ?_; rintro e w2 ⟨rfl, hb2⟩; have hB2 := btr hB hb2 (Nat.le_refl _)))
    go_ret2
    exact ⟨⟨_, by rw [holdE_err (by rw [← HE.out]; exact H0.out), ← HE.out]; rfl⟩, hB2⟩
set_option maxRecDepth 100000 in
set_option maxHeartbeats 8000000 in
theorem rkept_any (n : Int) (v : Value) (ws : List Wa) (num den : Int) (w : World) (hv : SlA w v ws) :
    Calls Try.prog 21 #[.agg #[.int .i64 n, v], .agg #[.int .i64 num, .int .i64 den]] w fun e w' => e = .returned (.tuple #[.bool (keptB n ws num den), .int .i64 (keptE n ws num den)]) ∧ Below w.heap.size w w' := by
  have HV := Lib.hid hv
  obtain ⟨ad, cap, rfl, -, -, -⟩ := hv
  go_enter Try.func21, Try.ntmps21
  refine wp_seq_k (fun K hK => ?_)
  have HK := Lib.hid hK; clear hK
  go_wp2
  refine HK.out _ _ ?_; clear HK K
  generalize hw1 : World.alloc _ _ = w1
  obtain ⟨b1, b2, hB, hs1⟩ := blk2 hw1
  clear hw1
  have h23 := rcheck_any n _ ws w1 (HV.out.below hB (Nat.le_refl _))
  obtain ⟨E, hE⟩ : ∃ E, E = chkE n ws := ⟨_, rfl⟩
  obtain ⟨N, hN⟩ : ∃ N, N = pnum n ws := ⟨_, rfl⟩
  obtain ⟨D, hD⟩ : ∃ D, D = pden n ws := ⟨_, rfl⟩
  rw [← hE] at h23
  unfold keptB keptE
  rw [← hE, ← hN, ← hD]
  have HE := Lib.hid (And.intro hE (And.intro hN hD))
  clear hE hN hD
  refine wp_seq_k (fun K hK => ?_)
  have HK := Lib.hid hK; clear hK
  go_wp2_with (first | (refine wpList_load_blk rfl 31 _ rfl _ rfl b1 Try.underlying31 rfl size31 rfl ?_) | (go_at_call 23; refine h23.mono ?_; rintro e w2 ⟨rfl, hb2⟩))
  refine HK.out _ _ ?_; clear HK K h23
  replace b1 := blk_keep b1 hb2
  replace b2 := blk_keep b2 hb2
  replace hB := btr hB hb2 (Nat.le_refl _)
  clear hb2
  by_cases h0 : E = 0
  · subst h0
    obtain ⟨m, l0, rfl, hV, hns, hsl⟩ := pace_ok HE.out.1.symm
    rw [← HE.out.2.1, ← HE.out.2.2] at hsl
    have hb := hsl.b
    clear hsl
    have h56 := fun W => pgood6_any num den W
    rw [if_neg (by simp : ¬ ((0 : Int) ≠ 0)), if_neg (by simp : ¬ ((0 : Int) ≠ 0))]
    obtain ⟨G, hG⟩ : ∃ G, G = goodP num den := ⟨_, rfl⟩
    rw [← hG] at h56 ⊢
    have HG := Lib.hid hG
    clear hG
    cases G
    · rw [if_neg (by simp), if_neg (by simp)]
      go_wp2_with (first | (refine wpList_load_blk rfl 36 _ rfl _ rfl b2 Try.underlying36 rfl size36 rfl ?_) | (go_at_call 56; refine (h56 _).mono ?_; rintro e w4 ⟨rfl, hb4⟩))
      go_ret2
      exact ⟨rfl, btr hB hb4 (Nat.le_refl _)⟩
    · rw [if_pos rfl, if_pos rfl]
      have hg := HG.out.symm
      unfold goodP at hg
      rw [Bool.and_eq_true, btw_true, btw_true] at hg
      obtain ⟨⟨g1, g2⟩, g3, g4⟩ := hg
      have p1 : 0 ≤ num * (D : Int) := Int.mul_nonneg g1 (by omega)
      have p2 : num * (D : Int) ≤ 1000000000 * 40 := Int.mul_le_mul g2 (by omega) (by omega) (by omega)
      have p3 : 0 ≤ (N : Int) * den := Int.mul_nonneg (by omega) (by omega)
      have p4 : (N : Int) * den ≤ 100000 * 1000 := Int.mul_le_mul (by omega) g4 (by omega) (by omega)
      have q1 : IntKind.i64.wrap (num * (D : Int)) = num * (D : Int) := by rw [IntKind.wrap_i64]; omega
      have q2 : IntKind.i64.wrap ((N : Int) * den) = (N : Int) * den := by rw [IntKind.wrap_i64]; omega
      have h57 := fun W => pless6_any num den N D W q1 q2
      generalize hlt : decide (num * (D : Int) < (N : Int) * den) = lt at *
      have H57 := Lib.hid h57
      clear p1 p2 p3 p4 q1 q2 h57 hlt
      refine wp_seq_k (fun K hK => ?_)
      have HK := Lib.hid hK; clear hK
      go_wp2
      refine HK.out _ _ ?_; clear HK K
      refine wp_seq_k (fun K hK => ?_)
      have HK := Lib.hid hK; clear hK
      go_wp2_with (first | (refine wpList_load_blk rfl 36 _ rfl _ rfl b2 Try.underlying36 rfl size36 rfl ?_) | (go_at_call 56; refine (h56 _).mono ?_; rintro e w4 ⟨rfl, hb4⟩))
      refine HK.out _ _ ?_; clear HK K h56
      replace b1 := blk_keep b1 hb4
      replace b2 := blk_keep b2 hb4
      replace hB := btr hB hb4 (Nat.le_refl _)
      clear hb4
      go_wp2
      have hf95 := field95
      refine wp_region_z (z := 7) (S := fun U : World => U.heap[w.heap.size]? = some (Obj.cells #[.int .i64 m, .slice ad ws.length cap] 31 (0, 0)) ∧ U.heap[w.heap.size + 1]? = some (Obj.cells #[.int .i64 num, .int .i64 den] 36 (0, 0))) (by kernel_rfl) ?_
      change wpAnyZ _ _ _ _ _ _ _ _ _ (World.drew w4)
      replace b1 : (World.drew w4).heap[w.heap.size]? = _ := b1
      replace b2 : (World.drew w4).heap[w.heap.size + 1]? = _ := b2
      replace hB := hB.drew
      generalize World.drew w4 = wq at *
      have hS0 : wq.heap[w.heap.size]? = some (Obj.cells #[.int .i64 m, .slice ad ws.length cap] 31 (0, 0)) ∧ wq.heap[w.heap.size + 1]? = some (Obj.cells #[.int .i64 num, .int .i64 den] 36 (0, 0)) := ⟨b1, b2⟩
      have h53 := slow6_any m _ ws wq hV hns (HV.out.below hB (Nat.le_refl _))
      refine wpAnyZ_take (i := 0) (oi := { dst := some 15, op := _, type := _, pos := _, after := _, guard := _ }) (v := .agg #[.int .i64 num, .int .i64 den]) rfl (by kernel_rfl) (by kernel_rfl) (by kernel_rfl) (fun _ _ _ h => h) (Or.inl ⟨by rfl, yields_load_blk 36 (.tmp 3) rfl _ rfl (fun U hU => hU.2) Try.underlying36 rfl size36 rfl⟩) hS0 ?_
      simp only [Act.put, List.setIfInBounds_toArray, List.set_cons_zero, List.set_cons_succ]
      refine wpAnyZ_take (i := 1) (oi := { dst := some 16, op := _, type := _, pos := _, after := _, guard := _ }) (v := .agg #[.int .i64 m, .slice ad ws.length cap]) rfl (by kernel_rfl) (by kernel_rfl) (by kernel_rfl) (fun _ _ _ h => h) (Or.inl ⟨by rfl, yields_load_blk 31 (.tmp 2) rfl _ rfl (fun U hU => hU.1) Try.underlying31 rfl size31 rfl⟩) hS0 ?_
      simp only [Act.put, List.setIfInBounds_toArray, List.set_cons_zero, List.set_cons_succ]
      refine wpAnyZ_one (i := 2) (o := { dst := some 17, op := _, type := _, pos := _, after := _, guard := _ }) (by kernel_rfl) rfl (by rfl) (fun K1 hK1 => ?_)
      have HK1 := Lib.hid hK1; clear hK1
      refine oper_callg (f := 53) (lb := #[]) rfl rfl (enters_of Try.func53 (by kernel_rfl) rfl) rfl (R := fun u W => ∃ (aa : Option Addr) (cc k : Nat), u = .agg #[.int .i64 N, .int .i64 D, .slice aa k cc] ∧ Below wq.heap.size wq W) (h53.mono ?_) ?_
      · rintro e w5 ⟨aa, cc, l, rfl, -, h5⟩
        exact ⟨_, rfl, aa, cc, l.length, by rw [HE.out.2.1, HE.out.2.2], h5⟩
      rintro u w5 ⟨aa, cc, k, rfl, hb5⟩
      clear h53
      refine HK1.out _ _ (fun _ => (⟨blk_keep b1 hb5, blk_keep b2 hb5⟩ : _ ∧ _)) ?_
      clear HK1 K1
      try simp only [Act.put, List.setIfInBounds_toArray, List.set_cons_zero, List.set_cons_succ]
      replace b1 := blk_keep b1 hb5
      replace b2 := blk_keep b2 hb5
      replace hB := btr hB hb5 (Nat.le_refl _)
      replace hS0 : w5.heap[w.heap.size]? = some (Obj.cells #[.int .i64 m, .slice ad ws.length cap] 31 (0, 0)) ∧ w5.heap[w.heap.size + 1]? = some (Obj.cells #[.int .i64 num, .int .i64 den] 36 (0, 0)) := ⟨b1, b2⟩
      refine wpAnyZ_one (i := 3) (o := { dst := some 18, op := _, type := _, pos := _, after := _, guard := _ }) (by kernel_rfl) rfl (by rfl) (fun K1 hK1 => ?_)
      have HK1 := Lib.hid hK1; clear hK1
      go_simp
      refine HK1.out _ _ (fun _ => hS0) ?_
      clear HK1 K1
      try simp only [Act.put, List.setIfInBounds_toArray, List.set_cons_zero, List.set_cons_succ]
      refine wpAnyZ_one (i := 4) (o := { dst := some 19, op := _, type := _, pos := _, after := _, guard := _ }) (by kernel_rfl) rfl (by rfl) (fun K1 hK1 => ?_)
      have HK1 := Lib.hid hK1; clear hK1
      refine oper_callg (f := 57) (lb := #[]) rfl rfl (enters_of Try.func57 (by kernel_rfl) rfl) rfl (R := fun u W => u = .bool lt ∧ Below w5.heap.size w5 W) ((H57.out w5).mono ?_) ?_
      · rintro e w6 ⟨rfl, h6⟩
        exact ⟨_, rfl, rfl, h6⟩
      rintro u w6 ⟨rfl, hb6⟩
      refine HK1.out _ _ (fun _ => (⟨blk_keep b1 hb6, blk_keep b2 hb6⟩ : _ ∧ _)) ?_
      clear HK1 K1
      try simp only [Act.put, List.setIfInBounds_toArray, List.set_cons_zero, List.set_cons_succ]
      replace hS0 : w6.heap[w.heap.size]? = some (Obj.cells #[.int .i64 m, .slice ad ws.length cap] 31 (0, 0)) ∧ w6.heap[w.heap.size + 1]? = some (Obj.cells #[.int .i64 num, .int .i64 den] 36 (0, 0)) := ⟨blk_keep b1 hb6, blk_keep b2 hb6⟩
      replace hB := btr hB hb6 (Nat.le_refl _)
      refine wpAnyZ_one (i := 5) (o := { dst := some 20, op := _, type := _, pos := _, after := _, guard := _ }) (by kernel_rfl) rfl (by rfl) (fun K1 hK1 => ?_)
      have HK1 := Lib.hid hK1; clear hK1
      go_simp
      refine HK1.out _ _ (fun _ => hS0) ?_
      clear HK1 K1
      try simp only [Act.put, List.setIfInBounds_toArray, List.set_cons_zero, List.set_cons_succ]
      refine wpAnyZ_one (i := 6) (o := { dst := some 4, op := _, type := _, pos := _, after := _, guard := _ }) (by kernel_rfl) rfl (by rfl) (fun K1 hK1 => ?_)
      have HK1 := Lib.hid hK1; clear hK1
      go_simp
      refine HK1.out _ _ (fun _ => hS0) ?_
      clear HK1 K1
      try simp only [Act.put, List.setIfInBounds_toArray, List.set_cons_zero, List.set_cons_succ]
      refine wpAnyZ_last (o := { dst := some 5, op := _, type := _, pos := _, after := _, guard := _ }) (by kernel_rfl) (by kernel_rfl) rfl (by rfl) (fun K1 hK1 => ?_)
      have HK1 := Lib.hid hK1; clear hK1
      go_simp
      refine HK1.out _ _ ?_
      clear HK1 K1
      try simp only [Act.put, List.setIfInBounds_toArray, List.set_cons_zero, List.set_cons_succ]
      go_wp2
      go_ret2
      exact ⟨rfl, hB⟩
  · have hne : (E != 0) = true := by simpa using h0
    rw [if_pos h0, if_pos h0]
    clear h0
    go_wp2
    go_ret2
    exact ⟨rfl, hB⟩
end Yteileadcmekkoaa
end Go.Proofs
