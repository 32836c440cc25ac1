/- For each work, period and table the law PanTables returns true. -/
import Derived.Test.YteileadcmekkoaaRt
import Derived.Test.YteileadcmekkoaaLawWk
open Go Go.RowKit Go.YteileadcmekkoaaIt
namespace Go.Proofs
namespace Yteileadcmekkoaa
set_option maxRecDepth 100000 in
set_option maxHeartbeats 8000000 in
theorem pantables_any (n num den : Int) (vt : Value) (tab : List Int) (v : Value) (ws : List Wa) (w : World) (ht : SlI w vt tab) (hv : SlA w v ws) :
    Calls Try.prog 5 #[.agg #[.int .i64 n, v], .agg #[.int .i64 num, .int .i64 den], vt] w fun e w' => e = .returned (.bool true) ∧ Below w.heap.size w w' := by
  have HV := Lib.hid hv
  have HT := Lib.hid ht
  obtain ⟨ad, cap, rfl, -, -, -⟩ := hv
  obtain ⟨at_', ct, rfl, -, -, -⟩ := ht
  go_enter Try.func5, Try.ntmps5
  refine wp_seq_k (fun K hK => ?_)
  have HK := Lib.hid hK; clear hK
  go_wp2
  refine HK.out _ _ ?_; clear HK K
  generalize hw1 : World.alloc _ _ = w1
  obtain ⟨b3, b4, B, hs1⟩ := blk2 hw1
  clear hw1
  replace HV := Lib.hid (HV.out.below B (Nat.le_refl _))
  replace HT := Lib.hid (HT.out.below B (Nat.le_refl _))
  have h15 := large_any n _ ws w1 HV.out
  obtain ⟨lg, hlg⟩ : ∃ lg, lg = largeB ws.length := ⟨_, rfl⟩
  rw [← hlg] at h15
  have HLG := Lib.hid hlg
  have H15 := Lib.hid h15
  clear hlg h15
  cases lg
  · by_cases h20 : (tab.length : Int) > 20
    · go_wp2_with (first | (refine wpList_load_blk rfl 24 _ rfl _ rfl b3 Try.underlying24 rfl size24 rfl ?_) | (go_at_call 15; refine H15.out.mono ?_; rintro e w2 ⟨rfl, hb⟩) | (go_at_call 16; refine (works_any _).mono ?_; rintro e w9 ⟨rfl, hb9⟩))
      go_ret
      exact ⟨rfl, btr (btr B hb (Nat.le_refl _)) hb9 (Nat.le_refl _)⟩
    · refine wp_seq_k (fun K hK => ?_)
      have HK := Lib.hid hK; clear hK
      go_wp2_with (first | (refine wpList_load_blk rfl 24 _ rfl _ rfl b3 Try.underlying24 rfl size24 rfl ?_) | (go_at_call 15; refine H15.out.mono ?_; rintro e w2 ⟨rfl, hb⟩))
      refine HK.out _ _ ?_; clear HK K H15
      have hl80 : ws.length ≤ 100 := by
        have h := HLG.out
        unfold largeB at h
        simp at h
        omega
      clear HLG
      replace b3 := blk_keep b3 hb
      replace b4 := blk_keep b4 hb
      replace HV := Lib.hid (HV.out.below hb (Nat.le_refl _))
      replace HT := Lib.hid (HT.out.below hb (Nat.le_refl _))
      replace B := btr B hb (Nat.le_refl _)
      clear hb
      refine wp_seq_k (fun K hK => ?_)
      have HK := Lib.hid hK; clear hK
      go_wp2_with (first | (refine wpList_load_blk rfl 24 _ rfl _ rfl b3 Try.underlying24 rfl size24 rfl ?_) | (go_at_call 17; refine (given_any _ _ ws _ HV.out hl80).mono ?_; rintro e w3 ⟨⟨v3, rfl, hv3⟩, hb⟩; obtain ⟨ag, cg, hvg, -, -, -⟩ := id hv3; subst hvg))
      refine HK.out _ _ ?_; clear HK K
      replace b3 := blk_keep b3 hb
      replace b4 := blk_keep b4 hb
      replace HV := Lib.hid (HV.out.below hb (Nat.le_refl _))
      replace HT := Lib.hid (HT.out.below hb (Nat.le_refl _))
      replace B := btr B hb (Nat.le_refl _)
      clear hb
      have HX := Lib.hid hv3
      clear hv3
      generalize hwn : World.alloc _ _ = wn
      obtain ⟨b7, hBn, hsn⟩ := blk1 hwn
      clear hwn
      replace b3 := blk_keep b3 hBn
      replace b4 := blk_keep b4 hBn
      replace HV := Lib.hid (HV.out.below hBn (Nat.le_refl _))
      replace HT := Lib.hid (HT.out.below hBn (Nat.le_refl _))
      replace HX := Lib.hid (HX.out.below hBn (Nat.le_refl _))
      replace B := btr B hBn (Nat.le_refl _)
      clear hBn hsn
      generalize w3.heap.size = g7 at *
      refine wp_seq_k (fun K hK => ?_)
      have HK := Lib.hid hK; clear hK
      go_wp2_with (first | (refine wpList_load_blk rfl 24 _ rfl _ rfl b3 Try.underlying24 rfl size24 rfl ?_) | (go_at_call 28; refine (table_any _ _ ws _ HV.out).mono ?_; rintro e w4 ⟨⟨v8, rfl, hv8⟩, hb⟩; obtain ⟨a8, c8, hv8'⟩ := slI_form hv8; subst hv8'))
      refine HK.out _ _ ?_; clear HK K
      replace b3 := blk_keep b3 hb
      replace b4 := blk_keep b4 hb
      replace b7 := blk_keep b7 hb
      replace HV := Lib.hid (HV.out.below hb (Nat.le_refl _))
      replace HT := Lib.hid (HT.out.below hb (Nat.le_refl _))
      replace HX := Lib.hid (HX.out.below hb (Nat.le_refl _))
      replace B := btr B hb (Nat.le_refl _)
      clear hb
      have HA := Lib.hid hv8
      clear hv8
      refine wp_seq_k (fun K hK => ?_)
      have HK := Lib.hid hK; clear hK
      go_wp2_with (first | (refine wpList_load_blk rfl 31 _ rfl _ rfl b7 Try.underlying31 rfl size31 rfl ?_) | (go_at_call 29; refine (rtable_any _ _ ws _ HX.out).mono ?_; rintro e w5 ⟨⟨v10, rfl, hv10⟩, hb⟩; obtain ⟨a10, c10, hv10'⟩ := slI_form hv10; subst hv10'))
      refine HK.out _ _ ?_; clear HK K
      replace b3 := blk_keep b3 hb
      replace b4 := blk_keep b4 hb
      replace b7 := blk_keep b7 hb
      replace HV := Lib.hid (HV.out.below hb (Nat.le_refl _))
      replace HT := Lib.hid (HT.out.below hb (Nat.le_refl _))
      replace HX := Lib.hid (HX.out.below hb (Nat.le_refl _))
      replace HA := Lib.hid (HA.out.below hb (Nat.le_refl _))
      replace B := btr B hb (Nat.le_refl _)
      clear hb
      have HC := Lib.hid hv10
      clear hv10
      obtain ⟨E, hE⟩ : ∃ E, E = chkE n ws := ⟨_, rfl⟩
      rw [← hE]
      obtain ⟨L, hL⟩ : ∃ L, L = verE n ws num den tab := ⟨_, rfl⟩
      have h30 := fun (X : Ab w5.heap.size w5) => numbers_any _ _ _ _ X.val (HA.out.below X.ok (Nat.le_refl _)) (HC.out.below X.ok (Nat.le_refl _))
      have h31 := fun (X : Ab w5.heap.size w5) => verify_any n _ _ ws num den tab X.val (HV.out.below X.ok (Nat.le_refl _)) (HT.out.below X.ok (Nat.le_refl _))
      have h32 := fun (X : Ab w5.heap.size w5) => rverify_any n _ _ ws num den tab X.val (HX.out.below X.ok (Nat.le_refl _)) (HT.out.below X.ok (Nat.le_refl _))
      rw [← hL] at h31 h32
      simp only [decide_true] at h30
      clear hE hL
      have H30 := Lib.hid h30
      have H31 := Lib.hid h31
      have H32 := Lib.hid h32
      clear h30 h31 h32
      go_wp2
      refine wp_region_ab w5.heap.size w5 (by kernel_rfl) (by kernel_rfl) (Below.refl _ _) ?_
      have B3 : ∀ W, AbC w5.heap.size w5 W → W.heap[w.heap.size]? = _ := fun W ⟨X, hX⟩ => hX ▸ blk_keep b3 X.ok
      have B4 : ∀ W, AbC w5.heap.size w5 W → W.heap[w.heap.size + 1]? = _ := fun W ⟨X, hX⟩ => hX ▸ blk_keep b4 X.ok
      have B7 : ∀ W, AbC w5.heap.size w5 W → W.heap[g7]? = _ := fun W ⟨X, hX⟩ => hX ▸ blk_keep b7 X.ok
      unfold AbC
      repeat (first | (refine wpQuiet_load_blk rfl 24 _ rfl _ rfl B3 Try.underlying24 rfl size24 rfl ?_; simp only [Act.put, List.setIfInBounds_toArray, List.set_cons_succ, List.set_cons_zero]) | (refine wpQuiet_load_blk rfl 26 _ rfl _ rfl B4 Try.underlying26 rfl size26 rfl ?_; simp only [Act.put, List.setIfInBounds_toArray, List.set_cons_succ, List.set_cons_zero]) | (refine wpQuiet_load_blk rfl 31 _ rfl _ rfl B7 Try.underlying31 rfl size31 rfl ?_; simp only [Act.put, List.setIfInBounds_toArray, List.set_cons_succ, List.set_cons_zero]) | go_big_quiet_step (first | (go_at_call 30; exact Calls.ab _ (Nat.le_refl _) (H30.out _)) | (go_at_call 31; exact Calls.ab _ (Nat.le_refl _) (H31.out _)) | (go_at_call 32; exact Calls.ab _ (Nat.le_refl _) (H32.out _)) | (go_at_call 16; exact Calls.ab _ (Nat.le_refl _) (works_any _))))
      refine wpQuiet_nil ?_
      rintro W' ⟨X0, rfl⟩
      have hX := X0.ok
      go_wp2
      go_ret
      exact ⟨rfl, btr B hX (Nat.le_refl _)⟩
  · go_wp2_with (first | (refine wpList_load_blk rfl 24 _ rfl _ rfl b3 Try.underlying24 rfl size24 rfl ?_) | (go_at_call 15; refine H15.out.mono ?_; rintro e w2 ⟨rfl, hb⟩) | (go_at_call 16; refine (works_any _).mono ?_; rintro e w9 ⟨rfl, hb9⟩))
    go_ret
    exact ⟨rfl, btr (btr B hb (Nat.le_refl _)) hb9 (Nat.le_refl _)⟩
end Yteileadcmekkoaa
end Go.Proofs
