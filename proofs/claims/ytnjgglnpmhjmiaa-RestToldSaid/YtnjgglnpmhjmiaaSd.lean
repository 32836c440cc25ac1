/- Laws of rotation: the reference: Tell. -/
import Derived.Test.YtnjgglnpmhjmiaaSb
import Derived.Test.YtnjgglnpmhjmiaaRu
import Derived.Test.YtnjgglnpmhjmiaaB6
open Go Go.RowKit Go.YtnjgglnpmhjmiaaIt
open Rest
namespace Go.Proofs
namespace Ytnjgglnpmhjmiaa
theorem stop_exists {α : Type} (x : RSys α) (sts : List α) : ∃ r, Stop x sts r := by
 apply Classical.byContradiction
 intro h
 have h2 : ∀ r, 1 ≤ r → cntN x sts r + 1 ≤ cntN x sts (r + 1) := fun r hr => by
  have h1 : cntN x sts r ≤ cntN x sts (r + 1) := cnt_mono _ _ _
  have hne : cntN x sts (r + 1) ≠ cntN x sts r := fun e => h ⟨r + 1, by omega, e⟩
  omega
 have h3 : ∀ n, n ≤ cntN x sts (n + 1) := fun n => by
  induction n with
  | zero => exact Nat.zero_le _
  | succ n ih => have := h2 (n + 1) (by omega); omega
 have h4 := h3 (sts.length + 1)
 have h5 : cntN x sts (sts.length + 1 + 1) ≤ sts.length := cnt_le _ _ _
 omega
theorem tell_least {l : Lw} (h : l.Fit) : LeastT l.k (Fut (sysL l) 0) (tellT l) := by
 obtain ⟨r, hr⟩ := stop_exists (sysL l) (stsL l)
 obtain ⟨L, hL, -⟩ := mrgL_walk h r
 have h2 := mrgL_least h hr hL
 unfold tellT
 rw [theT_eq h2]
 exact h2
set_option maxRecDepth 100000 in
set_option maxHeartbeats 4000000 in
theorem rtell_any {v : Value} {l : Lw} {w : World} (h : LawA w v l) : Calls Try.prog 32 #[v] w fun e w' => ∃ vs ve, e = .returned (.tuple #[vs, ve, .int .i64 (chkL l)]) ∧ SlII w' vs ((tellS l).map nI) ∧ SlII w' ve ((tellD l).map nI) ∧ Below w.heap.size w w' := by
 obtain ⟨vn, vg, rfl, hn, hg⟩ := h
 have hX := LawA.box (⟨_, _, rfl, hn, hg⟩ : LawA w (.agg #[vn, vg]) l) 29
 have hB1 : Below w.heap.size w (w.alloc (.cells #[vn, vg] 29)) := (Below.refl _ _).alloc (Nat.le_refl _) _
 obtain ⟨w1, hw1⟩ : ∃ q, q = w.alloc (.cells #[vn, vg] 29) := ⟨_, rfl⟩
 obtain ⟨g, hgw⟩ : ∃ q, q = w.heap.size := ⟨_, rfl⟩
 have HW := Lib.hid (And.intro hw1 hgw)
 rw [← hw1] at hX hB1
 rw [← hgw] at hX hB1
 have HX := Lib.hid hX
 have HB1 := Lib.hid hB1
 have HGW := Lib.hid (show g ≤ w1.heap.size from Nat.le_of_lt (lt_blk HX.out.blk))
 have H53 := Lib.hid (rcheck_any HX.out.law)
 obtain ⟨E, hE⟩ : ∃ E, E = chkL l := ⟨_, rfl⟩
 rw [← hE] at H53 ⊢
 have HE := Lib.hid hE
 clear hn hg hX hB1 hw1 hgw hE
 go_enter Try.func32, Try.ntmps32
 refine wp_seq_k (fun K hK => ?_)
 have HK := Lib.hid hK; clear hK
 go_wp2
 refine HK.out _ _ ?_; clear HK
 rw [← HW.out.1, ← HW.out.2]
 clear HW
 refine wp_seq_k (fun K hK => ?_)
 have HK := Lib.hid hK; clear hK
 go_wp2_with (first | (refine wpList_load_blk rfl 29 _ rfl _ rfl HX.out.blk Try.underlying29 rfl size29 rfl ?_) | (go_at_call 53; refine H53.out.mono ?_; rintro e w2 ⟨rfl, hb2⟩; have HB2 := Lib.hid hb2; clear hb2))
 refine HK.out _ _ ?_; clear HK
 by_cases h0 : E = 0
 case neg =>
  have hb0 : (E != 0) = true := by simpa using h0
  have e1 : tellS l = [] := by unfold tellS; rw [if_neg (by rw [← HE.out]; exact h0)]
  have e2 : tellD l = [] := by unfold tellD; rw [if_neg (by rw [← HE.out]; exact h0)]
  rw [e1, e2]
  clear h0 e1 e2
  go_wp2
  exact bodyPost_ret (results_tmp3 rfl _ _ _) rfl ⟨_, _, rfl, (EndR.nil _ 0).slII (by simp), (EndR.nil _ 0).slII (by simp), HB1.out.trans (HB2.out.mono HGW.out)⟩
 subst h0
 have HOK := Lib.hid (chkL_ok (l := l) HE.out.symm)
 have HX2 := Lib.hid (HX.out.below HB2.out)
 have H60 := Lib.hid (rtable_any HX2.out.law HOK.out.fit)
 have hLT := tell_least HOK.out.fit
 have e1 : tellS l = (tellT l).st := by unfold tellS; rw [if_pos HE.out.symm]
 have e2 : tellD l = endsK (tabL (tellT l)) (tellT l).st.length (tellT l).st.length := by unfold tellD; rw [if_pos HE.out.symm]
 rw [e1, e2]
 clear e1 e2
 obtain ⟨T, hT⟩ : ∃ T, T = tellT l := ⟨_, rfl⟩
 have hT' : theT l.k (Fut (sysL l) 0) = T := hT.symm
 rw [← hT] at hLT ⊢
 rw [hT'] at H60
 clear hT hT'
 have hb0 : ((0 : Int) != 0) = false := rfl
 have HLT := Lib.hid hLT
 clear hLT
 refine wp_seq_k (fun K hK => ?_)
 have HK := Lib.hid hK; clear hK
 go_wp2
 refine HK.out _ _ ?_; clear HK
 refine wp_seq_k (fun K hK => ?_)
 have HK := Lib.hid hK; clear hK
 go_wp2_with (first | (refine wpList_load_blk rfl 29 _ rfl _ rfl HX2.out.blk Try.underlying29 rfl size29 rfl ?_) | (go_at_call 60; refine H60.out.mono ?_; rintro e w3 ⟨tn, tg, ts, rfl, hb3, hT⟩; have HT := Lib.hid hT; have HB3 := Lib.hid hb3; have HTL := Lib.hid (hT.law (Nat.le_refl _) fun _ _ _ => rfl); clear hb3 hT) | (refine wpList_store_blk rfl 29 _ _ rfl _ rfl rfl (heap_newI rfl) size29 rfl rfl HTL.out.one ?_))
 refine HK.out _ _ ?_; clear HK
 generalize hw4 : World.putObj _ _ _ = W
 obtain ⟨hx4, hb4⟩ := storedT HTL.out hw4
 obtain ⟨g6, hg6⟩ : ∃ g, g = w3.heap.size := ⟨_, rfl⟩
 have hTW := HT.out W hb4.size fun i _ h2 => hb4.block i h2
 rw [← hg6] at hx4 ⊢
 obtain ⟨sa, sc, rfl, -⟩ := slII_form hTW.2.2
 obtain ⟨ta, tc, rfl, -⟩ := slII_form hTW.1
 obtain ⟨hto, htk, htl⟩ := leastL_ok HOK.out HLT.out
 have hBW : Below g w W := HB1.out.trans ((HB2.out.trans ((HB3.out.trans (hb4.mono HB3.out.size)).mono HB2.out.size)).mono HGW.out)
 have hn40 : T.st.length ≤ 40 := by have := HOK.out.n40; omega
 have hnx : T.nx.length = T.st.length := (least_ok HLT.out).nx
 rw [List.length_map, hnx] at hx4
 rw [List.length_map, List.length_map, hnx]
 have hgW : g ≤ W.heap.size := by have := HGW.out; have := HB2.out.size; have := HB3.out.size; have := hb4.size; omega
 have HF := Lib.hid (And.intro hx4 (And.intro hTW.2.2 (And.intro hto (And.intro hBW (And.intro hnx hgW)))))
 clear hw4 hx4 hb4 hg6 hTW hto htk htl hBW hnx hgW HT HTL HB3 HB2 HX2 HB1 H60 H53 HGW HX
 have H68 : Hid (∀ U, Below W.heap.size W U → ∀ i j : Nat, i < T.st.length → j < T.st.length → Calls Try.prog 68 #[.agg #[.slice ta T.st.length tc, tg], .agg #[.slice ta T.st.length tc, tg], .agg #[.int .i64 (i : Nat), .int .i64 (j : Nat)]] U fun e w' => ∃ va n1 vc b, e = .returned (.tuple #[.slice va n1 vc, .bool b]) ∧ SlI w' (.slice va n1 vc) (nI (endO (tabL T) i j)) ∧ (∀ g off n c, Value.slice va n1 vc = .slice (some ⟨g, off, none⟩) n c → U.heap.size ≤ g) ∧ Below U.heap.size U w') := Lib.hid fun U hU i j hi hj => by
  have hlen : (tabL T).nx.length = T.st.length := by simp [tabL, HF.out.2.2.2.2.1]
  refine (rapart_any (s1 := (i : Int)) (s2 := (j : Int)) (HF.out.1.below hU).law (HF.out.1.below hU).law HF.out.2.2.1 HF.out.2.2.1 rfl ⟨⟨by simp, by simp only [hlen]; omega⟩, ⟨by simp, by simp only [hlen]; omega⟩⟩).mono ?_
  rintro e w' ⟨v, rfl, h1, h2, h3⟩
  obtain ⟨va, vc, rfl⟩ := slI_form h1
  exact ⟨_, _, _, _, rfl, h1, h2, h3⟩
 obtain ⟨n, hn⟩ : ∃ n, n = T.st.length := ⟨_, rfl⟩
 have HX6 : Hid (∀ U, Below W.heap.size W U → U.heap[g6]? = some (.cells #[.slice ta n tc, tg] 29 (0, 0))) := Lib.hid fun U hU => by rw [hn]; exact (HF.out.1.below hU).blk
 rw [← hn] at H68 hn40 ⊢
 have HN := Lib.hid hn
 clear hn
 refine wp_seq_k (fun K hK => ?_)
 have HK := Lib.hid hK; clear hK
 go_wp2
 refine HK.out _ _ ?_; clear HK
 refine wp_seq_k (fun K hK => ?_)
 have HK := Lib.hid hK; clear hK
 go_wp2
 obtain ⟨t, ht⟩ : ∃ t, t = tabL T := ⟨_, rfl⟩
 have HTT := Lib.hid ht
 rw [← ht] at H68
 clear ht
 go_loopw [8, 9] (fun ve i wr => ∃ k : Nat, k ≤ n ∧ i = .int .i64 k ∧ Hid (EndR wr W.heap.size ve (endsK t n k)) ∧ Below W.heap.size W wr) (fun _ i _ => n - (intOf i).toNat)
 case atStart => exact ⟨0, Nat.zero_le _, rfl, Lib.hid (EndR.nil _ _), Below.refl _ _⟩
 case round =>
  obtain ⟨k, hk, rfl, HR, hbr⟩ := hrel
  obtain ⟨wo, rfl⟩ : ∃ q, q = wr := ⟨_, rfl⟩
  obtain ⟨av, cv, rfl⟩ := HR.out.len
  obtain ⟨nl, hnl⟩ : ∃ q, q = (endsK t n k).length := ⟨_, rfl⟩
  rw [← hnl] at HR ⊢
  clear hnl
  have x6 := cell_blk (i := 0) (HX6.out wo hbr)
  simp only [List.getElem?_toArray, List.getElem?_cons_zero] at x6
  by_cases hkn : k < n
  ·have hki : (k : Int) < (n : Int) := by omega
   go_wp2
   go_loopw [8, 10] (fun ve j wr => ∃ d : Nat, d ≤ n - 1 - k ∧ j = .int .i64 ((k + 1 + d : Nat) : Int) ∧ Hid (EndR wr W.heap.size ve (endsK t n k ++ rowD t k d)) ∧ Below W.heap.size W wr) (fun _ j _ => n - (intOf j).toNat)
   case atStart => exact ⟨0, Nat.zero_le _, by go_num, Lib.hid (by simpa [rowD] using HR.out), hbr⟩
   case round =>
    clear hbr x6
    obtain ⟨d, hd, rfl, HQ, hbq⟩ := hrel
    obtain ⟨wq, rfl⟩ : ∃ q, q = wr := ⟨_, rfl⟩
    obtain ⟨aq, cq, rfl⟩ := HQ.out.len
    obtain ⟨nq, hnq⟩ : ∃ q, q = (endsK t n k ++ rowD t k d).length := ⟨_, rfl⟩
    rw [← hnq] at HQ ⊢
    have HNQ := Lib.hid hnq
    clear hnq
    obtain ⟨j, hj⟩ : ∃ j, j = k + 1 + d := ⟨_, rfl⟩
    rw [← hj]
    have HJ := Lib.hid hj
    have x6 := cell_blk (i := 0) (HX6.out wq hbq)
    simp only [List.getElem?_toArray, List.getElem?_cons_zero] at x6
    by_cases hdn : d < n - 1 - k
    ·have hjn : j < n := by omega
     have hji : (j : Int) < (n : Int) := by omega
     clear hj
     have HBQ := Lib.hid hbq
     clear hbq
     go_wp2_with (first | (refine wpList_load_blk rfl 29 (.tmp 6) rfl _ rfl (HX6.out wq HBQ.out) Try.underlying29 rfl size29 rfl ?_) | (go_at_call 68; refine (H68.out wq HBQ.out k j hkn hjn).mono ?_; rintro e w9 ⟨va1, n1, vc1, b1, rfl, hv1, hf1, hb9⟩; have H9 := Lib.hid (And.intro hv1 (And.intro hf1 hb9)); clear hv1 hf1 hb9) | (at_builtin; refine cutme ?_))
     refine ⟨?_⟩
     refine wpList_plain rfl fun K1 hK1 => ?_
     have HK1' := Lib.hid hK1; clear hK1
     obtain ⟨hv1, hf1, hB9⟩ := H9.out
     have hzq := HBQ.out.size
     have hz9 := hB9.size
     have hll : (endsK t n k ++ rowD t k d).length ≤ 9000 := by
      have h1 := endsK_len t n k
      have h2 : (rowD t k d).length = d := by simp [rowD]
      have h3 := Nat.mul_le_mul (show k ≤ 40 by omega) (show n ≤ 40 by omega)
      rw [List.length_append]
      omega
     have hR9 := HQ.out.below hB9
     refine EndR.push (.tmp 48) (.tmp 50) rfl (d := endO t k j) hR9 hll hv1 (fun _ g off n c e1 e2 => ?_) (by omega) rfl rfl ?_
     ·have h1 := hf1 g off n c e1
      obtain ⟨vs, -, q2, -⟩ := HQ.out
      have h2 := (own_lt q2 e2).2.1
      omega
     intro v10 w10 hR10 hk10 ho10
     refine HK1'.out _ _ ?_; clear HK1'
     have hown : ∀ i, i < W.heap.size → (Value.slice aq nq cq).ownBlock ≠ some i := fun i hi e => by
      obtain ⟨vs, -, q2, -⟩ := HQ.out
      have := (own_lt q2 e).1
      omega
     have hB10 : Below W.heap.size W w10 := by
      have h9 : Below W.heap.size W w9 := btr HBQ.out hB9 (Nat.le_refl _)
      exact ⟨ho10.1.trans h9.os, ho10.2.1.trans h9.tape, ho10.2.2.1.trans h9.output, by omega, fun i hi => (hk10 i (by omega) (hown i hi)).trans (h9.block i hi)⟩
     have hR11 : EndR w10 W.heap.size v10 (endsK t n k ++ rowD t k (d + 1)) := by rw [rowD_succ, ← List.append_assoc, ← HJ.out]; exact hR10
     have HR11 := Lib.hid hR11
     have HB10 := Lib.hid hB10
     obtain ⟨a11, c11, e11⟩ := hR10.len
     subst e11
     obtain ⟨n11, hn11⟩ : ∃ q, q = (endsK t n k ++ rowD t k d ++ [endO t k j]).length := ⟨_, rfl⟩
     rw [← hn11] at HR11 ⊢
     have hJ11 : Hid ((j : Int) + 1 = ((k + 1 + (d + 1) : Nat) : Int)) := Lib.hid (by have := HJ.out; omega)
     clear hn11 hR10 hk10 ho10 hown hB10 hR11 hv1 hf1 hB9 hll hR9 x6
     go_wp2
     refine ⟨⟨d + 1, by omega, by have := hJ11.out; go_num, HR11, HB10.out⟩, ?_⟩
     have := HJ.out
     simp only [intOf]; omega
    ·have hde : d = n - 1 - k := by omega
     have hji : ¬ (j : Int) < (n : Int) := by omega
     have HRK := Lib.hid (show EndR wq W.heap.size (.slice aq nq cq) (endsK t n (k + 1)) by rw [endsK_succ, ← hde]; exact HQ.out)
     have HBQ := Lib.hid hbq
     clear hj hde hbq
     go_wp2
     refine ⟨⟨k + 1, by omega, by go_num, HRK, HBQ.out⟩, ?_⟩
     simp only [intOf]; omega
  ·have hki : ¬ (k : Int) < (n : Int) := by omega
   have hke : k = n := by omega
   subst hke
   have HBR := Lib.hid hbr
   clear hbr
   go_wp2
   refine HK.out _ _ ?_
   clear HK
   go_wp2
   obtain ⟨hXT, hTW, hto, hBW, hnx, hgW⟩ := HF.out
   have hTW' : SlII W (.slice sa k sc) (T.st.map nI) := by
    have h := hTW
    rw [List.length_map, ← HN.out] at h
    exact h
   have hlen := endsK_len t k k
   have h3 := Nat.mul_le_mul hn40 hn40
   refine bodyPost_ret (results_tmp3 rfl _ _ _) rfl ⟨_, _, rfl, hTW'.below HBR.out (Nat.le_refl _), ?_, hBW.trans (HBR.out.mono hgW)⟩
   rw [← HTT.out]
   exact HR.out.slII (by omega)
end Ytnjgglnpmhjmiaa
end Go.Proofs
