/- For each field and weeks the law RipeClashes returns true. -/
import Derived.Test.YtgnjeefanbcbkaaS2
import Derived.Test.YtgnjeefanbcbkaaB7
import Derived.Test.YtgnjeefanbcbkaaC4
import Derived.Test.YtgnjeefanbcbkaaR2
open Go Go.RowKit Go.YtgnjeefanbcbkaaIt
namespace Go.Proofs
namespace Ytgnjeefanbcbkaa
/-- A clash that is found is accepted. -/
theorem clR_ver {n lo hi : Int} {ss : List Smp} {W : World} {v : Value} (h : ClR n lo hi ss W v) (h0 : clE n lo hi ss = 0) : ∃ xs, SlI W v xs ∧ xs.length = 3 ∧ verE n lo hi ss xs = 0 := by
  rcases h with ⟨-, m, i, j, k, rfl, qi, qj, qk, hh, hs⟩ | ⟨h, -⟩
  · refine ⟨_, hs, rfl, ?_⟩
    have h1 : chkE m lo hi ss = 0 := by
      unfold clE at h0
      by_cases h : chkE m lo hi ss ≠ 0
      · rw [if_pos h] at h0; exact absurd h0 h
      · simpa using h
    have q : ∀ x : Nat, x < m → btw 0 (x : Int) ((m : Int) - 1) = true := fun x hx => btw_true.2 ⟨by omega, by omega⟩
    unfold verE
    rw [if_neg (by simpa using h1), if_neg (by simp), if_neg (by simp [q i qi, q j qj, q k qk])]
    have e : hol (lowAt lo ss) (highAt hi ss) (at0 [(i : Int), (j : Int), (k : Int)] 0).toNat (at0 [(i : Int), (j : Int), (k : Int)] 1).toNat (at0 [(i : Int), (j : Int), (k : Int)] 2).toNat = hol (lowAt lo ss) (highAt hi ss) i j k := rfl
    rw [e, hh, if_pos rfl]
  · exact absurd h0 h
set_option maxRecDepth 100000 in
set_option maxHeartbeats 8000000 in
theorem ripeclashes_any (n lo hi : Int) (v : Value) (ss : List Smp) (vt : Value) (tab : List Int) (w : World) (hv : SlS w v ss) (ht : SlI w vt tab) :
    Calls Try.prog 4 #[.agg #[.int .i64 n, .int .i64 lo, .int .i64 hi, v], vt] w fun e w' => e = .returned (.bool true) ∧ Below w.heap.size w w' := by
  have HV := Lib.hid hv
  have HT := Lib.hid ht
  obtain ⟨ad, cap, rfl, -, -, -⟩ := hv
  obtain ⟨at_', ct, rfl, -, -, -⟩ := ht
  go_enter Try.func4, Try.ntmps4
  refine wp_seq_k (fun K hK => ?_)
  have HK := Lib.hid hK; clear hK
  go_wp2
  refine HK.out _ _ ?_; clear HK K
  generalize hw1 : World.alloc _ _ = w1
  obtain ⟨b2, B, hs1⟩ := blk1 hw1
  clear hw1
  have c3 := cell_blk (i := 3) b2
  simp only [List.getElem?_toArray, List.getElem?_cons_zero, List.getElem?_cons_succ] at c3
  replace HV := Lib.hid (HV.out.below B (Nat.le_refl _))
  replace HT := Lib.hid (HT.out.below B (Nat.le_refl _))
  by_cases h200 : (ss.length : Int) > 200
  · go_wp2_with (go_at_call 13; refine (works_any _).mono ?_; rintro e w9 ⟨rfl, hb9⟩)
    go_ret
    exact ⟨rfl, btr B hb9 (Nat.le_refl _)⟩
  · by_cases h10 : (tab.length : Int) > 10
    · go_wp2_with (go_at_call 13; refine (works_any _).mono ?_; rintro e w9 ⟨rfl, hb9⟩)
      go_ret
      exact ⟨rfl, btr B hb9 (Nat.le_refl _)⟩
    · have hl2 : ss.length ≤ 200 := by omega
      refine wp_seq_k (fun K hK => ?_)
      have HK := Lib.hid hK; clear hK
      go_wp2
      refine HK.out _ _ ?_; clear HK K
      clear c3
      refine wp_seq_k (fun K hK => ?_)
      have HK := Lib.hid hK; clear hK
      go_wp2_with (first | (refine wpList_load_blk rfl 26 _ rfl _ rfl b2 Try.underlying26 rfl size26 rfl ?_) | (go_at_call 16; refine (givenF_any _ _ _ _ ss _ HV.out hl2).mono ?_; rintro e w3 ⟨⟨v3, rfl, hv3⟩, hb⟩; obtain ⟨ag, cg, hvg, -, -, -⟩ := id hv3; subst hvg))
      refine HK.out _ _ ?_; clear HK K
      generalize hwn : World.alloc _ _ = wn
      obtain ⟨b5, hBn, hsn⟩ := blk1 hwn
      clear hwn
      have HX := Lib.hid (hv3.below hBn (Nat.le_refl _))
      replace hb := btr hb hBn (Nat.le_refl _)
      replace b2 := blk_keep b2 hb
      replace HV := Lib.hid (HV.out.below hb (Nat.le_refl _))
      replace HT := Lib.hid (HT.out.below hb (Nat.le_refl _))
      replace B := btr B hb (Nat.le_refl _)
      clear hb hv3 hBn hsn
      generalize w3.heap.size = g5 at *
      refine wp_seq_k (fun K hK => ?_)
      have HK := Lib.hid hK; clear hK
      go_wp2_with (first | (refine wpList_load_blk rfl 26 _ rfl _ rfl b2 Try.underlying26 rfl size26 rfl ?_) | (go_at_call 20; refine (clashF_any _ _ _ _ ss _ HV.out).mono ?_; rintro e w4 ⟨v4, rfl, hcl, hb⟩))
      refine HK.out _ _ ?_; clear HK K
      replace b2 := blk_keep b2 hb
      replace b5 := blk_keep b5 hb
      replace HV := Lib.hid (HV.out.below hb (Nat.le_refl _))
      replace HT := Lib.hid (HT.out.below hb (Nat.le_refl _))
      replace HX := Lib.hid (HX.out.below hb (Nat.le_refl _))
      replace B := btr B hb (Nat.le_refl _)
      clear hb
      have HCL := Lib.hid hcl
      clear hcl
      obtain ⟨E, hE⟩ : ∃ E, E = clE n lo hi ss := ⟨_, rfl⟩
      have h21 := rclashF_any n lo hi _ ss w4 HX.out
      rw [← hE] at h21
      rw [← hE]
      have HE := Lib.hid hE
      have H21 := Lib.hid h21
      clear hE h21
      refine wp_seq_k (fun K hK => ?_)
      have HK := Lib.hid hK; clear hK
      go_wp2_with (first | (refine wpList_load_blk rfl 35 _ rfl _ rfl b5 Try.underlying35 rfl size35 rfl ?_) | (go_at_call 21; refine H21.out.mono ?_; rintro e w5 ⟨v5, rfl, hb⟩))
      refine HK.out _ _ ?_; clear HK K H21
      replace b2 := blk_keep b2 hb
      replace b5 := blk_keep b5 hb
      replace HV := Lib.hid (HV.out.below hb (Nat.le_refl _))
      replace HT := Lib.hid (HT.out.below hb (Nat.le_refl _))
      replace HX := Lib.hid (HX.out.below hb (Nat.le_refl _))
      replace B := btr B hb (Nat.le_refl _)
      have HC0 : Hid (E = 0 → ∃ xs, SlI w5 v4 xs ∧ xs.length = 3 ∧ verE n lo hi ss xs = 0) := Lib.hid fun h => by
        obtain ⟨xs, h1, h2⟩ := clR_ver HCL.out (HE.out.symm.trans h)
        exact ⟨xs, h1.below hb (Nat.le_refl _), h2⟩
      have HC1 : Hid (E ≠ 0 → v4 = .slice none 0 0) := Lib.hid fun h => by
        rcases HCL.out with ⟨h1, -⟩ | ⟨-, h1⟩
        · rw [← HE.out] at h1; exact absurd h1 h
        · exact h1
      clear hb HCL HE
      obtain ⟨L, hL⟩ : ∃ L, L = verE n lo hi ss tab := ⟨_, rfl⟩
      have h31 := fun (X : Ab w5.heap.size w5) => verify_any n lo hi _ _ ss tab X.val (HV.out.below X.ok (Nat.le_refl _)) (HT.out.below X.ok (Nat.le_refl _))
      have h32 := fun (X : Ab w5.heap.size w5) => rverify_any n lo hi _ _ ss tab X.val (HX.out.below X.ok (Nat.le_refl _)) (HT.out.below X.ok (Nat.le_refl _))
      rw [← hL] at h31 h32
      clear hL
      have H31 := Lib.hid h31
      have H32 := Lib.hid h32
      clear h31 h32
      go_wp2
      refine wp_region_ab w5.heap.size w5 (by kernel_rfl) (by kernel_rfl) (Below.refl _ _) ?_
      have B2 : ∀ W, AbC w5.heap.size w5 W → W.heap[w.heap.size]? = _ := fun W ⟨X, hX⟩ => hX ▸ blk_keep b2 X.ok
      have B5 : ∀ W, AbC w5.heap.size w5 W → W.heap[g5]? = _ := fun W ⟨X, hX⟩ => hX ▸ blk_keep b5 X.ok
      unfold AbC
      repeat (first | (refine wpQuiet_load_blk rfl 26 _ rfl _ rfl B2 Try.underlying26 rfl size26 rfl ?_; simp only [Act.put, List.setIfInBounds_toArray, List.set_cons_succ, List.set_cons_zero]) | (refine wpQuiet_load_blk rfl 35 _ rfl _ rfl B5 Try.underlying35 rfl size35 rfl ?_; simp only [Act.put, List.setIfInBounds_toArray, List.set_cons_succ, List.set_cons_zero]) | go_big_quiet_step (first | (go_at_call 22; exact Calls.ab _ (Nat.le_refl _) (H31.out _)) | (go_at_call 23; exact Calls.ab _ (Nat.le_refl _) (H32.out _))))
      refine wpQuiet_nil ?_
      rintro W' ⟨X0, rfl⟩
      have hX := X0.ok
      generalize X0.val = V at *
      clear H31 H32 B2 B5
      have b5V := blk_keep b5 hX
      have BV := btr B hX (Nat.le_refl _)
      clear b2 b5 HV HT
      by_cases hE0 : E = 0
      · obtain ⟨xs, h1, h2, h3⟩ := HC0.out hE0
        have h23 := rverify_any n lo hi _ _ ss xs V (HX.out.below hX (Nat.le_refl _)) (h1.below hX (Nat.le_refl _))
        rw [h3] at h23
        have H23 := Lib.hid h23
        clear h1 h2 h3 h23 HC0 HC1 HX hX
        subst hE0
        go_wp2_with (first | (refine wpList_load_blk rfl 35 _ rfl _ rfl b5V Try.underlying35 rfl size35 rfl ?_) | (go_at_call 23; refine H23.out.mono ?_; rintro e w6 ⟨rfl, hb6⟩) | (go_at_call 13; refine (works_any _).mono ?_; rintro e w9 ⟨rfl, hb9⟩))
        go_ret
        exact ⟨rfl, btr (btr BV hb6 (Nat.le_refl _)) hb9 (Nat.le_refl _)⟩
      · have hv4 := HC1.out hE0
        subst hv4
        have hne : (E != 0) = true := by simpa using hE0
        clear HC0 HC1 HX hX
        go_wp2_with (first | (go_at_call 13; refine (works_any _).mono ?_; rintro e w9 ⟨rfl, hb9⟩))
        go_ret
        exact ⟨rfl, btr BV hb9 (Nat.le_refl _)⟩
end Ytgnjeefanbcbkaa
end Go.Proofs
