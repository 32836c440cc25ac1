/- Laws of rotation: the reference: Count. -/
import Derived.Test.YtnjgglnpmhjmiaaRx
import Derived.Test.YtnjgglnpmhjmiaaRc
open Go Go.RowKit Go.YtnjgglnpmhjmiaaIt
open Rest
namespace Go.Proofs
namespace Ytnjgglnpmhjmiaa
theorem sumTo_le {f g : Nat → Int} (hf : ∀ t, 0 ≤ f t) (hg : ∀ t, 0 ≤ g t ∧ g t ≤ 1) : ∀ n, 0 ≤ sumTo (fun t => f t * g t) n ∧ sumTo (fun t => f t * g t) n ≤ sumTo f n
  | 0 => by simp [sumTo]
  | n + 1 => by
    have h := sumTo_le hf hg n
    simp only [sumTo]
    have h1 := hf n
    obtain ⟨h2, h3⟩ := hg n
    rcases (show g n = 0 ∨ g n = 1 by omega) with e | e
    · rw [e]; omega
    · rw [e]; omega
theorem fin_bd {l : Lw} (ho : l.Fit) {N s : Nat} (hN : N ≤ 25) (hs : s ≤ l.nx.length) : 0 ≤ sumTo (fun t => fwd l N t * cnt0 l t) s ∧ sumTo (fun t => fwd l N t * cnt0 l t) s ≤ 1125899906842624 := by
  have h1 := sumTo_le (f := fwd l N) (g := cnt0 l) (fwd_nn l N) (fun t => by unfold cnt0; split <;> omega) s
  have h2 := sumTo_mono (fwd_nn l N) hs
  have h3 := fwd_sum ho N
  have h4 := pow25 hN
  omega
set_option maxRecDepth 100000 in
set_option maxHeartbeats 8000000 in
theorem rcount_any {v : Value} {l : Lw} {n : Int} {w : World} (h : LawA w v l) : Calls Try.prog 24 #[v, .int .i64 n] w fun e w' => e = .returned (.tuple #[.int .i64 (countE l n).1, .int .i64 (countE l n).2]) ∧ Below w.heap.size w w' := by
  have H0 := Lib.hid h
  obtain ⟨vn, vg, rfl, hn, hg⟩ := h
  obtain ⟨ag, cg, rfl, -⟩ := id hg
  obtain ⟨an, cn, rfl, hcn⟩ := slII_form hn
  have hX := LawA.box (⟨_, _, rfl, hn, hg⟩ : LawA w (.agg #[.slice an l.nx.length cn, .slice ag (l.gd.map Value.bool).length cg]) l) 29
  rw [List.length_map] at *
  have hB1 := (Below.refl w.heap.size w).alloc (Nat.le_refl _) (.cells #[.slice an l.nx.length cn, .slice ag l.gd.length cg] 29)
  obtain ⟨w1, hw1⟩ : ∃ q, q = w.alloc (.cells #[.slice an l.nx.length cn, .slice ag l.gd.length cg] 29) := ⟨_, rfl⟩
  obtain ⟨g, hgw⟩ : ∃ q, q = w.heap.size := ⟨_, rfl⟩
  go_enter Try.func24, Try.ntmps24
  refine wp_seq_k (fun K hK => ?_)
  have HK := Lib.hid hK; clear hK
  have HW := Lib.hid (And.intro hw1 hgw)
  clear hw1 hgw
  go_wp2
  refine HK.out _ _ ?_; clear HK
  obtain ⟨hw1, hgw⟩ := HW.out
  have HB0 := Lib.hid (show Below w.heap.size w w1 by rw [hw1]; exact hB1)
  rw [← hw1] at hX ⊢
  rw [← hgw] at hX ⊢
  have HBg := Lib.hid (show Below g w w1 by rw [hgw]; exact HB0.out)
  have HB := Lib.hid hX.blk
  have lgw := lt_blk hX.blk
  have HX := Lib.hid hX
  have H52 := Lib.hid (rcheck_any (H0.out.below HB0.out (Nat.le_refl _)))
  have H64 := Lib.hid (fun W => is_any n 0 25 W)
  clear hw1 hgw HW hX hB1 hn hg H0
  have FIN : Hid (∀ A B w', (A, B) = countE l n → Below w1.heap.size w1 w' → (Ending.returned (.tuple #[.int .i64 A, .int .i64 B]) = Ending.returned (.tuple #[.int .i64 (countE l n).1, .int .i64 (countE l n).2]) ∧ Below g w w')) := Lib.hid fun A B w' hE hw => ⟨by rw [← hE], HBg.out.trans (hw.mono (Nat.le_of_lt lgw))⟩
  have HE : Hid (countE l n = if chkL l = 0 then (if btw 0 n 25 = true then (cntF l n.toNat 0, 0) else (0, 2)) else (0, chkL l)) := Lib.hid rfl
  obtain ⟨E, hE⟩ : ∃ E, E = chkL l := ⟨_, rfl⟩
  rw [← hE] at H52 HE
  have HCE := Lib.hid hE
  clear hE
  by_cases h0 : E = 0
  case neg =>
    have hb0 : (E != 0) = true := by simpa using h0
    have hb0' : (E == 0) = false := by simpa using h0
    have HE1 : Hid (((0 : Int), E) = countE l n) := Lib.hid (by rw [HE.out, if_neg h0])
    clear h0
    go_wp2_with (first | (refine wpList_load_blk rfl 29 _ rfl _ rfl HB.out Try.underlying29 rfl size29 rfl ?_) | (go_at_call 53; refine H52.out.mono ?_; rintro e w3 ⟨rfl, hb3⟩))
    refine bodyPost_ret (results_tmp2 rfl _ _ _) rfl ?_
    exact FIN.out _ _ _ HE1.out hb3
  have HOK := Lib.hid (chkL_ok (l := l) (by rw [← HCE.out]; exact h0))
  have HE2 : Hid (countE l n = if btw 0 n 25 = true then (cntF l n.toNat 0, 0) else (0, 2)) := Lib.hid (by rw [HE.out, if_pos h0])
  clear HE
  subst h0
  obtain ⟨bt, hbt⟩ : ∃ q, q = btw 0 n 25 := ⟨_, rfl⟩
  rw [← hbt] at H64 HE2
  have HBT := Lib.hid hbt
  clear hbt
  refine wp_seq_k (fun K hK => ?_)
  have HK := Lib.hid hK; clear hK
  go_wp2_with (first | (refine wpList_load_blk rfl 29 _ rfl _ rfl HB.out Try.underlying29 rfl size29 rfl ?_) | (go_at_call 53; refine H52.out.mono ?_; rintro e w3 ⟨rfl, hb3⟩))
  refine HK.out _ _ ?_; clear HK
  have HB3 := Lib.hid hb3
  clear hb3
  cases bt with
  | false =>
    have HE1 : Hid (((0 : Int), (2 : Int)) = countE l n) := Lib.hid (by rw [HE2.out, if_neg (by simp)])
    clear HE2
    go_wp2_with (go_at_call 59; refine (H64.out _).mono ?_; rintro e w4 ⟨rfl, rfl⟩)
    refine bodyPost_ret (results_tmp2 rfl _ _ _) rfl ?_
    exact FIN.out _ _ _ HE1.out HB3.out
  | true =>
  have hn25 : 0 ≤ n ∧ n ≤ 25 := by have h := HBT.out; simp [btw] at h; omega
  obtain ⟨N, hN⟩ : ∃ N : Nat, n = (N : Int) := ⟨n.toNat, by omega⟩
  subst hN
  have hN25 : N ≤ 25 := by omega
  have HE1 : Hid ((cntF l N 0, (0 : Int)) = countE l N) := Lib.hid (by rw [HE2.out, if_pos rfl]; rfl)
  clear HE2 hn25
  refine wp_seq_k (fun K hK => ?_)
  have HK := Lib.hid hK; clear hK
  go_wp2
  refine HK.out _ _ ?_; clear HK
  refine wp_seq_k (fun K hK => ?_)
  have HK := Lib.hid hK; clear hK
  go_wp2_with (go_at_call 59; refine (H64.out _).mono ?_; rintro e w4 ⟨rfl, rfl⟩)
  refine HK.out _ _ ?_; clear HK
  obtain ⟨i3, hi3, hz1, hz2, hz3⟩ := info_parts info3
  have HI := Lib.hid (And.intro hi3 (And.intro hz1 (And.intro hz2 hz3)))
  clear hi3 hz1 hz2 hz3
  obtain ⟨m, hm⟩ : ∃ m, m = l.nx.length := ⟨_, rfl⟩
  have HM := Lib.hid hm
  have hm40 : m ≤ 40 := by rw [hm]; exact HOK.out.n40
  have hm1 : 1 ≤ m := by rw [hm]; exact HOK.out.n1
  have hgm : l.gd.length = m := by rw [hm]; exact HOK.out.gd
  rw [← hm, hgm] at HX HB ⊢
  clear hm hgm
  have hwn := HB3.out.size
  have HGL := Lib.hid lgw
  have HBR := Lib.hid (fun W (hW : Below w3.heap.size w3 W) => blk_keep HB.out (btr HB3.out hW (Nat.le_refl _)))
  have c0 := cell_blk (i := 0) (HBR.out w3 (Below.refl _ _))
  simp only [List.getElem?_toArray, List.getElem?_cons_zero] at c0
  have HK5 : Hid (∀ W, Below w3.heap.size w3 W → Calls Try.prog 65 #[.agg #[.slice an m cn, .slice ag m cg]] W fun e w' => e = .returned (.int .i64 (l.k : Nat)) ∧ Below W.heap.size W w') := Lib.hid fun W hW => rcrops_any (HX.out.below (btr HB3.out hW (Nat.le_refl _))).law HOK.out.ne
  obtain ⟨kk, hkq⟩ : ∃ q, q = l.k := ⟨_, rfl⟩
  have hk4 : kk ≤ 4 := by rw [hkq]; exact HOK.out.k4
  rw [← hkq] at HK5
  have HKQ := Lib.hid hkq
  clear hkq
  refine wp_seq_k (fun K hK => ?_)
  have HK := Lib.hid hK; clear hK
  go_wp2_with (at_make; refine wpList_make_full w3 rfl (.tmp 24) (.tmp 24) 40 rfl w3.heap.size 3 i3 (.int .i64 0) 1 Try.underlying40 HI.out.1 HI.out.2.1 HI.out.2.2.1 .i64 .i64 _ _ m rfl rfl rfl rfl (by rw [HI.out.2.2.2]; omega) (Nat.le_trans (by omega : m ≤ 100) (by decide)) (Nat.le_refl _) ?_; intro w5 q1 q2)
  refine HK.out _ _ ?_; clear HK
  rw [made_rep _ rfl] at q1
  have hb5 : Below w3.heap.size w3 w5 := ⟨q2.os, q2.tape, q2.output, q2.size, fun k hk => q2.block k hk (by simp)⟩
  have q3 := row_full q1
  rw [← rowX_zero] at q3
  obtain ⟨f0, hf0⟩ : ∃ f, f = w3.heap.size := ⟨_, rfl⟩
  have lf0 : w3.heap.size ≤ f0 := by omega
  rw [← hf0] at q3 ⊢
  clear hf0 q1 q2 c0
  have x0 := cell_blk (i := 0) q3
  rw [List.getElem?_toArray, rowX_get _ (by omega)] at x0
  have x1 := free_blk (i := 0) q3
  have hmi : (0 : Int) < (m : Int) := by omega
  have HQ3 := Lib.hid (show (w5.setCell ⟨f0, 0, none⟩ (.int .i64 1)).heap[f0]? = some (.cells (rowX m (fwd l 0)).toArray 3) by
    rw [heap_set_blk q3, rowX_set _ (fwd l 0) _ fun v _ => ?_]
    simp only [fwd])
  have HB5 := Lib.hid (hb5.setCell (p := ⟨f0, 0, none⟩) lf0 (.int .i64 1))
  clear hb5 q3
  go_wp2
  go_loopw [7, 8] (fun vf i wr => ∃ k f : Nat, k ≤ N ∧ i = .int .i64 k ∧ vf = .slice (some ⟨f, 0, none⟩) m m ∧ w3.heap.size ≤ f ∧ Hid (wr.heap[f]? = some (.cells (rowX m (fwd l k)).toArray 3)) ∧ Below w3.heap.size w3 wr) (fun _ i _ => N - (intOf i).toNat)
  case atStart => exact ⟨0, f0, Nat.zero_le _, rfl, rfl, lf0, HQ3, HB5.out⟩
  case round =>
    clear HQ3 HB5 lf0 hmi x0 x1
    obtain ⟨k, f, hk, rfl, rfl, lf, HF, hbr⟩ := hrel
    obtain ⟨wp, rfl⟩ : ∃ q, q = wr := ⟨_, rfl⟩
    have HBP := Lib.hid hbr
    clear hbr
    by_cases hkn : k < N
    · have hki : (k : Int) < (N : Int) := by omega
      have hwps := HBP.out.size
      go_wp2_with (at_make; refine wpList_make_full wp rfl (.tmp 34) (.tmp 34) 40 rfl wp.heap.size 3 i3 (.int .i64 0) 1 Try.underlying40 HI.out.1 HI.out.2.1 HI.out.2.2.1 .i64 .i64 _ _ m rfl rfl rfl rfl (by rw [HI.out.2.2.2]; omega) (Nat.le_trans (by omega : m ≤ 100) (by decide)) (Nat.le_refl _) ?_; intro w7 q1 q2; refine cutme ?_)
      refine ⟨?_⟩
      rw [made_rep _ rfl] at q1
      have hb7 : Below wp.heap.size wp w7 := ⟨q2.os, q2.tape, q2.output, q2.size, fun k hk => q2.block k hk (by simp)⟩
      have q3 := row_full q1
      rw [← rowX_zero] at q3
      have lf7 := lt_blk HF.out
      obtain ⟨gq, hgq⟩ : ∃ f, f = wp.heap.size := ⟨_, rfl⟩
      have lgq : w3.heap.size ≤ gq := by omega
      have lfg : f < gq := by omega
      rw [← hgq] at q3 ⊢
      have HQ3 := Lib.hid q3
      have HB7 := Lib.hid (btr HBP.out hb7 (Nat.le_refl _))
      have HF7 := Lib.hid (blk_keep HF.out hb7)
      clear hgq q1 q2 q3 hb7 lf7 hwps HF
      go_wp2
      go_loopw [10] (fun i wr => ∃ s : Nat, s ≤ m ∧ i = .int .i64 s ∧ Hid (wr.heap[gq]? = some (.cells (rowX m (outG l (fwd l k) s)).toArray 3)) ∧ Hid (wr.heap[f]? = some (.cells (rowX m (fwd l k)).toArray 3)) ∧ Below w3.heap.size w3 wr) (fun i _ => m - (intOf i).toNat)
      case atStart => exact ⟨0, Nat.zero_le _, rfl, Lib.hid (by rw [HQ3.out]; rfl), HF7, HB7.out⟩
      case round =>
        clear HQ3 HF7 HB7
        obtain ⟨s, hs, rfl, HG3, HF3, hb8⟩ := hrel
        obtain ⟨wq, rfl⟩ : ∃ q, q = wr := ⟨_, rfl⟩
        by_cases hsm : s < m
        · have hsi : (s : Int) < (m : Int) := by omega
          have HB8 := Lib.hid hb8
          clear hb8
          go_wp2
          go_loopw [11] (fun i wr => ∃ c : Nat, c ≤ kk ∧ i = .int .i64 c ∧ Hid (wr.heap[gq]? = some (.cells (rowX m (inG l (fwd l k) s c (outG l (fwd l k) s))).toArray 3)) ∧ Hid (wr.heap[f]? = some (.cells (rowX m (fwd l k)).toArray 3)) ∧ Below w3.heap.size w3 wr) (fun i _ => kk - (intOf i).toNat)
          case atStart => exact ⟨0, Nat.zero_le _, rfl, HG3, HF3, HB8.out⟩
          case round =>
            clear HG3 HF3 HB8
            obtain ⟨c, hc, rfl, HG4, HF4, hb9⟩ := hrel
            obtain ⟨wz, rfl⟩ : ∃ q, q = wr := ⟨_, rfl⟩
            have HB9 := Lib.hid hb9
            have HXz := Lib.hid (HBR.out wz hb9)
            have H65 := Lib.hid (HK5.out wz hb9)
            clear hb9
            by_cases hck : c < kk
            · have hci : (c : Int) < (kk : Int) := by omega
              go_wp2_with (first | (refine wpList_load_blk rfl 29 _ rfl _ rfl HXz.out Try.underlying29 rfl size29 rfl ?_) | (go_at_call 65; refine H65.out.mono ?_; rintro e wv ⟨rfl, hbv⟩; refine cutme ?_))
              refine ⟨?_⟩
              have hbw := btr HB9.out hbv (Nat.le_refl _)
              obtain ⟨b, off, b2, off2, cc, cap, e4, hb, hcell1, hb2, hcell2⟩ := (HX.out.below HB3.out).ent HOK.out.fit (m := s) (c := c) (by rw [← HM.out]; exact hsm) (by rw [← HKQ.out]; exact hck)
              rw [← HM.out] at e4
              injection e4 with e4 e5 e6
              subst e4
              obtain ⟨tn, etn, htl⟩ := (HOK.out.cl (s := (s : Int)) ⟨by omega, by rw [← HM.out]; omega⟩ (c := c) (by rw [← HKQ.out]; exact hck)).nat
              rw [etn] at hcell2
              rw [← HKQ.out] at hcell1
              have htn : tn < m := by rw [HM.out]; exact htl
              have hti : (tn : Int) < (m : Int) := by omega
              have hXb := part_bd (l := l) HOK.out.fit (y := k) (by omega) (s := s) (c := c) (by rw [← HM.out]; exact hsm) (by rw [← HKQ.out]; omega) (t := tn) htl
              have hY0 := fwd_nn l k s
              have hY1 := (sumTo_ge (fwd_nn l k) (n := l.nx.length) (i := s) (by rw [← HM.out]; exact hsm)).1
              have hY2 := fwd_sum HOK.out.fit k
              have hY3 := pow25 (n := k) (by omega)
              obtain ⟨X, hX⟩ : ∃ X, X = inG l (fwd l k) s c (outG l (fwd l k) s) tn := ⟨_, rfl⟩
              obtain ⟨Y, hY⟩ : ∃ Y, Y = fwd l k s := ⟨_, rfl⟩
              rw [← hX] at hXb
              rw [← hY] at hY0 hY1
              have hwb : -4000000000000000000 ≤ X + Y ∧ X + Y < 4000000000000000000 := by omega
              have hG5 := blk_keep HG4.out hbv
              have hF5 := blk_keep HF4.out hbv
              have HBW := Lib.hid hbw
              have HXX := Lib.hid (And.intro hX (And.intro hY etn))
              have HC1 := Lib.hid (And.intro hb hcell1)
              have HC2 := Lib.hid (And.intro hb2 hcell2)
              have HGF := Lib.hid (And.intro hG5 hF5)
              clear e5 e6 hXb hY0 hY1 hY2 hY3 hX hY hb hcell1 hb2 hcell2 etn htl hbv HG4 HF4 HB9 H65 HXz hG5 hF5 hbw
              go_wp2
              refine wp_region_x (R := fun U => Below w3.heap.size w3 U) (S := fun U => U.heap[gq]? = some (.cells (rowX m (inG l (fwd l k) s c (outG l (fwd l k) s))).toArray 3 (0, 0)) ∧ U.heap[f]? = some (.cells (rowX m (fwd l k)).toArray 3 (0, 0))) (z := 17) rfl ?_
              change wpAnyX _ _ _ _ _ _ _ _ _ _ wv.drew
              have hBd : Below w3.heap.size w3 wv.drew := HBW.out.drew
              have hSd : wv.drew.heap[gq]? = some (.cells (rowX m (inG l (fwd l k) s c (outG l (fwd l k) s))).toArray 3 (0, 0)) ∧ wv.drew.heap[f]? = some (.cells (rowX m (fwd l k)).toArray 3 (0, 0)) := HGF.out
              obtain ⟨wd, hwd⟩ : ∃ q, q = wv.drew := ⟨_, rfl⟩
              rw [← hwd] at hBd hSd ⊢
              clear hwd
              refine wpAnyX_keep (i := 0) (oi := { dst := some 48, op := _, type := _, pos := _, after := _, guard := none }) (v := ?_) rfl (by kernel_rfl) (by kernel_rfl) (by kernel_rfl) (fun _ _ _ h => h) (Or.inl ⟨by rfl, ?_⟩) ⟨hBd, fun _ => hSd⟩ ?_
              rotate_left
              · intro U hU
                go_simp
                all_goals with_reducible rfl
              simp only [Act.put, List.setIfInBounds_toArray, List.set_cons_zero, List.set_cons_succ]
              refine wpAnyX_keep (i := 1) (oi := { dst := some 49, op := _, type := _, pos := _, after := _, guard := none }) (v := ?_) rfl (by kernel_rfl) (by kernel_rfl) (by kernel_rfl) (fun _ _ _ h => h) (Or.inl ⟨by rfl, ?_⟩) ⟨hBd, fun _ => hSd⟩ ?_
              rotate_left
              · intro U hU
                go_simp
                all_goals with_reducible rfl
              simp only [Act.put, List.setIfInBounds_toArray, List.set_cons_zero, List.set_cons_succ]
              refine wpAnyX_take (i := 2) (oi := { dst := some 50, op := _, type := _, pos := _, after := _, guard := none }) (v := ?_) rfl (by kernel_rfl) (by kernel_rfl) (by kernel_rfl) (fun _ _ _ h => h) (Or.inl ⟨by rfl, ?_⟩) ⟨hBd, fun _ => hSd⟩ ?_
              rotate_left
              · intro U hU
                have u0 := cell_blk (i := 0) (HBR.out U hU.1)
                simp only [List.getElem?_toArray, List.getElem?_cons_zero] at u0
                go_simp
                all_goals with_reducible rfl
              simp only [Act.put, List.setIfInBounds_toArray, List.set_cons_zero, List.set_cons_succ]
              refine wpAnyX_keep (i := 3) (oi := { dst := some 51, op := _, type := _, pos := _, after := _, guard := none }) (v := ?_) rfl (by kernel_rfl) (by kernel_rfl) (by kernel_rfl) (fun _ _ _ h => h) (Or.inl ⟨by rfl, ?_⟩) ⟨hBd, fun _ => hSd⟩ ?_
              rotate_left
              · intro U hU
                go_simp
                all_goals with_reducible rfl
              simp only [Act.put, List.setIfInBounds_toArray, List.set_cons_zero, List.set_cons_succ]
              refine wpAnyX_keep (i := 4) (oi := { dst := some 52, op := _, type := _, pos := _, after := _, guard := none }) (v := ?_) rfl (by kernel_rfl) (by kernel_rfl) (by kernel_rfl) (fun _ _ _ h => h) (Or.inl ⟨by rfl, ?_⟩) ⟨hBd, fun _ => hSd⟩ ?_
              rotate_left
              · intro U hU
                go_simp
                all_goals with_reducible rfl
              simp only [Act.put, List.setIfInBounds_toArray, List.set_cons_zero, List.set_cons_succ]
              refine wpAnyX_take (i := 5) (oi := { dst := some 53, op := _, type := _, pos := _, after := _, guard := none }) (v := ?_) rfl (by kernel_rfl) (by kernel_rfl) (by kernel_rfl) (fun _ _ _ h => h) (Or.inl ⟨by rfl, ?_⟩) ⟨hBd, fun _ => hSd⟩ ?_
              rotate_left
              · intro U hU
                have u0 := (hU.1.cell (p := ⟨b, off + s, none⟩) HC1.out.1).trans HC1.out.2
                go_simp
                all_goals with_reducible rfl
              simp only [Act.put, List.setIfInBounds_toArray, List.set_cons_zero, List.set_cons_succ]
              refine wpAnyX_keep (i := 6) (oi := { dst := some 54, op := _, type := _, pos := _, after := _, guard := none }) (v := ?_) rfl (by kernel_rfl) (by kernel_rfl) (by kernel_rfl) (fun _ _ _ h => h) (Or.inl ⟨by rfl, ?_⟩) ⟨hBd, fun _ => hSd⟩ ?_
              rotate_left
              · intro U hU
                go_simp
                all_goals with_reducible rfl
              simp only [Act.put, List.setIfInBounds_toArray, List.set_cons_zero, List.set_cons_succ]
              refine wpAnyX_keep (i := 7) (oi := { dst := some 55, op := _, type := _, pos := _, after := _, guard := none }) (v := ?_) rfl (by kernel_rfl) (by kernel_rfl) (by kernel_rfl) (fun _ _ _ h => h) (Or.inl ⟨by rfl, ?_⟩) ⟨hBd, fun _ => hSd⟩ ?_
              rotate_left
              · intro U hU
                go_simp
                all_goals with_reducible rfl
              simp only [Act.put, List.setIfInBounds_toArray, List.set_cons_zero, List.set_cons_succ]
              refine wpAnyX_take (i := 8) (oi := { dst := some 56, op := _, type := _, pos := _, after := _, guard := none }) (v := ?_) rfl (by kernel_rfl) (by kernel_rfl) (by kernel_rfl) (fun _ _ _ h => h) (Or.inl ⟨by rfl, ?_⟩) ⟨hBd, fun _ => hSd⟩ ?_
              rotate_left
              · intro U hU
                have u0 := (hU.1.cell (p := ⟨b2, off2 + c, none⟩) HC2.out.1).trans HC2.out.2
                go_simp
                all_goals with_reducible rfl
              simp only [Act.put, List.setIfInBounds_toArray, List.set_cons_zero, List.set_cons_succ]
              refine wpAnyX_keep (i := 9) (oi := { dst := some 57, op := _, type := _, pos := _, after := _, guard := none }) (v := ?_) rfl (by kernel_rfl) (by kernel_rfl) (by kernel_rfl) (fun _ _ _ h => h) (Or.inl ⟨by rfl, ?_⟩) ⟨hBd, fun _ => hSd⟩ ?_
              rotate_left
              · intro U hU
                go_simp
                all_goals with_reducible rfl
              simp only [Act.put, List.setIfInBounds_toArray, List.set_cons_zero, List.set_cons_succ]
              refine wpAnyX_take (i := 10) (oi := { dst := some 58, op := _, type := _, pos := _, after := _, guard := none }) (v := ?_) rfl (by kernel_rfl) (by kernel_rfl) (by kernel_rfl) (fun _ _ _ h => h) (Or.inl ⟨by rfl, ?_⟩) ⟨hBd, fun _ => hSd⟩ ?_
              rotate_left
              · intro U hU
                have u0 := cell_blk (i := tn) hU.2.1
                rw [List.getElem?_toArray, rowX_get _ htn, ← HXX.out.1] at u0
                go_simp
                all_goals with_reducible rfl
              simp only [Act.put, List.setIfInBounds_toArray, List.set_cons_zero, List.set_cons_succ]
              refine wpAnyX_keep (i := 11) (oi := { dst := some 59, op := _, type := _, pos := _, after := _, guard := none }) (v := ?_) rfl (by kernel_rfl) (by kernel_rfl) (by kernel_rfl) (fun _ _ _ h => h) (Or.inl ⟨by rfl, ?_⟩) ⟨hBd, fun _ => hSd⟩ ?_
              rotate_left
              · intro U hU
                go_simp
                all_goals with_reducible rfl
              simp only [Act.put, List.setIfInBounds_toArray, List.set_cons_zero, List.set_cons_succ]
              refine wpAnyX_keep (i := 12) (oi := { dst := some 60, op := _, type := _, pos := _, after := _, guard := none }) (v := ?_) rfl (by kernel_rfl) (by kernel_rfl) (by kernel_rfl) (fun _ _ _ h => h) (Or.inl ⟨by rfl, ?_⟩) ⟨hBd, fun _ => hSd⟩ ?_
              rotate_left
              · intro U hU
                go_simp
                all_goals with_reducible rfl
              simp only [Act.put, List.setIfInBounds_toArray, List.set_cons_zero, List.set_cons_succ]
              refine wpAnyX_keep (i := 13) (oi := { dst := some 61, op := _, type := _, pos := _, after := _, guard := none }) (v := ?_) rfl (by kernel_rfl) (by kernel_rfl) (by kernel_rfl) (fun _ _ _ h => h) (Or.inl ⟨by rfl, ?_⟩) ⟨hBd, fun _ => hSd⟩ ?_
              rotate_left
              · intro U hU
                go_simp
                all_goals with_reducible rfl
              simp only [Act.put, List.setIfInBounds_toArray, List.set_cons_zero, List.set_cons_succ]
              refine wpAnyX_take (i := 14) (oi := { dst := some 62, op := _, type := _, pos := _, after := _, guard := none }) (v := ?_) rfl (by kernel_rfl) (by kernel_rfl) (by kernel_rfl) (fun _ _ _ h => h) (Or.inl ⟨by rfl, ?_⟩) ⟨hBd, fun _ => hSd⟩ ?_
              rotate_left
              · intro U hU
                have u0 := cell_blk (i := s) hU.2.2
                rw [List.getElem?_toArray, rowX_get _ hsm, ← HXX.out.2.1] at u0
                go_simp
                all_goals with_reducible rfl
              simp only [Act.put, List.setIfInBounds_toArray, List.set_cons_zero, List.set_cons_succ]
              refine wpAnyX_keep (i := 15) (oi := { dst := some 63, op := _, type := _, pos := _, after := _, guard := none }) (v := ?_) rfl (by kernel_rfl) (by kernel_rfl) (by kernel_rfl) (fun _ _ _ h => h) (Or.inl ⟨by rfl, ?_⟩) ⟨hBd, fun _ => hSd⟩ ?_
              rotate_left
              · intro U hU
                go_simp
                all_goals with_reducible rfl
              simp only [Act.put, List.setIfInBounds_toArray, List.set_cons_zero, List.set_cons_succ]
              rw [c64 hwb]
              refine wpAnyX_keep (i := 16) (oi := { dst := some 64, op := _, type := _, pos := _, after := _, guard := none }) (v := ?_) rfl (by kernel_rfl) (by kernel_rfl) (by kernel_rfl) (fun _ _ _ h => h) (Or.inl ⟨by rfl, ?_⟩) ⟨hBd, fun _ => hSd⟩ ?_
              rotate_left
              · intro U hU
                go_simp
                all_goals with_reducible rfl
              simp only [Act.put, List.setIfInBounds_toArray, List.set_cons_zero, List.set_cons_succ]
              refine wpAnyX_one (i := 17) (o := { dst := none, op := _, type := _, pos := _, after := _, guard := none }) (by kernel_rfl) rfl (by rfl) (fun K1 hK1 => ?_)
              have HK1 := Lib.hid hK1; clear hK1
              have y0 := cell_blk (i := tn) hSd.1
              rw [List.getElem?_toArray, rowX_get _ htn] at y0
              have y1 := free_blk (i := tn) hSd.1
              go_simp
              have hB10 : Below w3.heap.size w3 (wd.setCell ⟨gq, tn, none⟩ (.int .i64 (X + Y))) := hBd.setCell (p := ⟨gq, tn, none⟩) lgq _
              refine HK1.out _ _ ⟨hB10, fun h => by simp at h⟩ ?_
              clear HK1
              try simp only [Act.put, List.setIfInBounds_toArray, List.set_cons_zero, List.set_cons_succ]
              refine wpAnyX_done (by kernel_rfl) ?_ _
              have hgq : (wd.setCell ⟨gq, tn, none⟩ (.int .i64 (X + Y))).heap[gq]? = some (.cells (rowX m (inG l (fwd l k) s (c + 1) (outG l (fwd l k) s))).toArray 3) := by
                rw [heap_set_blk hSd.1, rowX_set _ (inG l (fwd l k) s (c + 1) (outG l (fwd l k) s)) _ fun v _ => ?_]
                show addG l (fwd l k) s c (inG l (fwd l k) s c (outG l (fwd l k) s)) v = _
                unfold addG
                rw [HXX.out.2.2, Int.toNat_natCast]
                by_cases hv : v = tn
                · subst hv; rw [if_pos rfl, if_pos rfl, HXX.out.1, HXX.out.2.1]
                · rw [if_neg hv, if_neg hv]
              have hff : (wd.setCell ⟨gq, tn, none⟩ (.int .i64 (X + Y))).heap[f]? = some (.cells (rowX m (fwd l k)).toArray 3) := (heap_set_other (by omega)).trans hSd.2
              have HFIN := Lib.hid (And.intro hgq (And.intro hff hB10))
              clear hgq hff hB10 y0 y1 hSd hBd HGF HBW
              go_wp2
              exact ⟨⟨c + 1, by omega, by go_num, Lib.hid HFIN.out.1, Lib.hid HFIN.out.2.1, HFIN.out.2.2⟩, by simp only [intOf]; omega⟩
            · have hci : ¬ (c : Int) < (kk : Int) := by omega
              have HCE : Hid (c = l.k) := Lib.hid (by have := HKQ.out; omega)
              go_wp2_with (first | (refine wpList_load_blk rfl 29 _ rfl _ rfl HXz.out Try.underlying29 rfl size29 rfl ?_) | (go_at_call 65; refine H65.out.mono ?_; rintro e wv ⟨rfl, hbv⟩; have HBV := Lib.hid hbv; clear hbv))
              refine ⟨⟨s + 1, by omega, by go_num, Lib.hid ?_, Lib.hid (blk_keep HF4.out HBV.out), btr HB9.out HBV.out (Nat.le_refl _)⟩, by simp only [intOf]; omega⟩
              have := blk_keep HG4.out HBV.out
              rw [HCE.out] at this
              exact this
        · have hsi : ¬ (s : Int) < (m : Int) := by omega
          have HFN := Lib.hid (show wq.heap[gq]? = some (.cells (rowX m (fwd l (k + 1))).toArray 3) by
            rw [HG3.out]
            have : s = l.nx.length := by rw [← HM.out]; omega
            rw [this]; rfl)
          have HB8 := Lib.hid hb8
          clear hb8 HG3 HF3
          go_wp2
          exact ⟨⟨k + 1, gq, by omega, by go_num, rfl, lgq, HFN, HB8.out⟩, by simp only [intOf]; omega⟩
    · have HKN : Hid (k = N) := Lib.hid (by omega)
      have hki : ¬ (k : Int) < (N : Int) := by omega
      go_wp2
      go_loopw [12, 13] (fun u i wr => ∃ s : Nat, s ≤ m ∧ i = .int .i64 s ∧ u = .int .i64 (sumTo (fun t => fwd l N t * cnt0 l t) s) ∧ wr = wp) (fun _ i _ => m - (intOf i).toNat)
      case atStart => exact ⟨0, Nat.zero_le _, rfl, rfl, rfl⟩
      case round =>
        obtain ⟨s, hs, rfl, rfl, rfl⟩ := hrel
        obtain ⟨wp, rfl⟩ : ∃ q, q = wr := ⟨_, rfl⟩
        by_cases hsm : s < m
        · have hsi : (s : Int) < (m : Int) := by omega
          obtain ⟨bg, og, cgq, egq, hbg, hcg⟩ := (HX.out.below (btr HB3.out HBP.out (Nat.le_refl _))).gdF HOK.out.fit (m := s) (by rw [← HM.out]; exact hsm)
          rw [← HM.out] at egq
          injection egq with egq eg2 eg3
          subst egq
          obtain ⟨r, hr⟩ : ∃ r, r = l.good (s : Int) := ⟨_, rfl⟩
          rw [← hr] at hcg
          have c1 := cell_blk (i := 1) (HBR.out wp HBP.out)
          simp only [List.getElem?_toArray, List.getElem?_cons_zero, List.getElem?_cons_succ] at c1
          have y0 := cell_blk (i := s) HF.out
          rw [List.getElem?_toArray, rowX_get _ hsm, HKN.out] at y0
          have hb1 := fin_bd HOK.out.fit (N := N) (s := s) (by omega) (by rw [← HM.out]; omega)
          have hb2 := fin_bd HOK.out.fit (N := N) (s := s + 1) (by omega) (by rw [← HM.out]; omega)
          have hnx : sumTo (fun t => fwd l N t * cnt0 l t) (s + 1) = sumTo (fun t => fwd l N t * cnt0 l t) s + fwd l N s * cnt0 l s := rfl
          have hc0 : cnt0 l s = if r = true then 1 else 0 := by unfold cnt0; rw [hr]
          rw [hc0] at hnx
          obtain ⟨SS, hSS⟩ : ∃ q, q = sumTo (fun t => fwd l N t * cnt0 l t) s := ⟨_, rfl⟩
          obtain ⟨FS, hFS⟩ : ∃ q, q = fwd l N s := ⟨_, rfl⟩
          rw [← hSS, ← hFS] at hnx
          rw [← hFS] at y0
          rw [← hSS] at hb1 ⊢
          cases r with
          | false =>
            have HNX : Hid (sumTo (fun t => fwd l N t * cnt0 l t) (s + 1) = SS) := Lib.hid (by rw [hnx]; simp)
            clear hnx hc0 hSS hFS hr eg2 eg3 hb1 hb2
            go_wp2
            exact ⟨⟨s + 1, by omega, by go_num, by rw [HNX.out], trivial⟩, by simp only [intOf]; omega⟩
          | true =>
            have HNX : Hid (sumTo (fun t => fwd l N t * cnt0 l t) (s + 1) = SS + FS) := Lib.hid (by rw [hnx]; simp)
            have hw : wrap64 (SS + FS) = SS + FS := IntWalk.wrap64_in _ (by rw [HNX.out] at hb2; omega)
            clear hnx hc0 hSS hFS hr eg2 eg3 hb1 hb2
            go_wp2
            exact ⟨⟨s + 1, by omega, by go_num, by rw [HNX.out, hw], trivial⟩, by simp only [intOf]; omega⟩
        · have hsi : ¬ (s : Int) < (m : Int) := by omega
          have hfin : sumTo (fun t => fwd l N t * cnt0 l t) s = cntF l N 0 := by
            have h := fwd_cnt HOK.out.fit N 0
            rw [Nat.add_zero, ← HM.out, show m = s by omega] at h
            exact h
          rw [hfin]
          clear hfin
          go_wp2
          refine bodyPost_ret (results_tmp2 rfl _ _ _) rfl ?_
          exact FIN.out _ _ _ HE1.out (btr HB3.out HBP.out (Nat.le_refl _))
end Ytnjgglnpmhjmiaa
end Go.Proofs
