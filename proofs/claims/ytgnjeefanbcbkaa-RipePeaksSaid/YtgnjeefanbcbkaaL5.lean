/- For each field and sweetness the law RipePeaks returns true. -/
import Derived.Test.YtgnjeefanbcbkaaS5
import Derived.Test.YtgnjeefanbcbkaaC4
import Derived.Test.YtgnjeefanbcbkaaR2
open Go Go.RowKit Go.YtgnjeefanbcbkaaIt
namespace Go.Proofs
namespace Ytgnjeefanbcbkaa
set_option maxRecDepth 100000 in
set_option maxHeartbeats 8000000 in
theorem ripepeaks_any (n lo hi : Int) (v : Value) (ss : List Smp) (x : Int) (w : World) (hv : SlS w v ss) :
    Calls Try.prog 5 #[.agg #[.int .i64 n, .int .i64 lo, .int .i64 hi, v], .int .i64 x] w fun e w' => e = .returned (.bool true) ∧ Below w.heap.size w w' := by
  have HV := Lib.hid hv
  obtain ⟨ad, cap, rfl, -, -, -⟩ := hv
  go_enter Try.func5, Try.ntmps5
  refine wp_seq_k (fun K hK => ?_)
  have HK := Lib.hid hK; clear hK
  go_wp2
  refine HK.out _ _ ?_; clear HK K
  generalize hw1 : World.alloc _ _ = w1
  obtain ⟨b2, B, hs1⟩ := blk1 hw1
  clear hw1
  have c3 := cell_blk (i := 3) b2
  simp only [List.getElem?_toArray, List.getElem?_cons_zero, List.getElem?_cons_succ] at c3
  replace HV := Lib.hid (HV.out.below B (Nat.le_refl _))
  by_cases h200 : (ss.length : Int) > 200
  · go_wp2_with (go_at_call 13; refine (works_any _).mono ?_; rintro e w9 ⟨rfl, hb9⟩)
    go_ret
    exact ⟨rfl, btr B hb9 (Nat.le_refl _)⟩
  · have hl2 : ss.length ≤ 200 := by omega
    refine wp_seq_k (fun K hK => ?_)
    have HK := Lib.hid hK; clear hK
    go_wp2
    refine HK.out _ _ ?_; clear HK K
    clear c3
    refine wp_seq_k (fun K hK => ?_)
    have HK := Lib.hid hK; clear hK
    go_wp2_with (first | (refine wpList_load_blk rfl 26 _ rfl _ rfl b2 Try.underlying26 rfl size26 rfl ?_) | (go_at_call 16; refine (givenF_any _ _ _ _ ss _ HV.out hl2).mono ?_; rintro e w3 ⟨⟨v3, rfl, hv3⟩, hb⟩; obtain ⟨ag, cg, hvg, -, -, -⟩ := id hv3; subst hvg))
    refine HK.out _ _ ?_; clear HK K
    generalize hwn : World.alloc _ _ = wn
    obtain ⟨b5, hBn, hsn⟩ := blk1 hwn
    clear hwn
    have HX := Lib.hid (hv3.below hBn (Nat.le_refl _))
    replace hb := btr hb hBn (Nat.le_refl _)
    replace b2 := blk_keep b2 hb
    replace HV := Lib.hid (HV.out.below hb (Nat.le_refl _))
    replace B := btr B hb (Nat.le_refl _)
    clear hb hv3 hBn hsn
    generalize w3.heap.size = g5 at *
    obtain ⟨E, hE⟩ : ∃ E, E = posE n lo hi ss := ⟨_, rfl⟩
    obtain ⟨l1, hl1⟩ : ∃ l, l = peaksL n lo hi ss := ⟨_, rfl⟩
    obtain ⟨l3, hl3⟩ : ∃ l, l = surelyL n lo hi ss x := ⟨_, rfl⟩
    obtain ⟨l4, hl4⟩ : ∃ l, l = perhapsL n lo hi ss x := ⟨_, rfl⟩
    have h24 := peaks_any n lo hi _ ss _ HV.out
    rw [← hE, ← hl1] at h24
    refine wp_seq_k (fun K hK => ?_)
    have HK := Lib.hid hK; clear hK
    go_wp2_with (first | (refine wpList_load_blk rfl 26 _ rfl _ rfl b2 Try.underlying26 rfl size26 rfl ?_) | (go_at_call 24; refine (h24).mono ?_; rintro e wc ⟨q1, rfl, g1, hb⟩))
    refine HK.out _ _ ?_; clear HK K
    replace b2 := blk_keep b2 hb
    replace b5 := blk_keep b5 hb
    replace HV := Lib.hid (HV.out.below hb (Nat.le_refl _))
    replace HX := Lib.hid (HX.out.below hb (Nat.le_refl _))
    replace B := btr B hb (Nat.le_refl _)
    clear hb
    have G1 := Lib.hid g1
    clear g1
    clear h24
    have h25 := rpeaks_any n lo hi _ ss _ HX.out
    rw [← hE, ← hl1] at h25
    refine wp_seq_k (fun K hK => ?_)
    have HK := Lib.hid hK; clear hK
    go_wp2_with (first | (refine wpList_load_blk rfl 35 _ rfl _ rfl b5 Try.underlying35 rfl size35 rfl ?_) | (go_at_call 25; refine (h25).mono ?_; rintro e wc ⟨q2, rfl, g2, hb⟩))
    refine HK.out _ _ ?_; clear HK K
    replace b2 := blk_keep b2 hb
    replace b5 := blk_keep b5 hb
    replace HV := Lib.hid (HV.out.below hb (Nat.le_refl _))
    replace HX := Lib.hid (HX.out.below hb (Nat.le_refl _))
    replace G1 := Lib.hid (G1.out.below hb (Nat.le_refl _))
    replace B := btr B hb (Nat.le_refl _)
    clear hb
    have G2 := Lib.hid g2
    clear g2
    clear h25
    have h26 := ripe_any n lo hi _ ss x _ HV.out
    rw [← hE, ← hl3, ← hl4] at h26
    refine wp_seq_k (fun K hK => ?_)
    have HK := Lib.hid hK; clear hK
    go_wp2_with (first | (refine wpList_load_blk rfl 26 _ rfl _ rfl b2 Try.underlying26 rfl size26 rfl ?_) | (go_at_call 26; refine (h26).mono ?_; rintro e wc ⟨q3, q4, rfl, g3, g4, hb⟩))
    refine HK.out _ _ ?_; clear HK K
    replace b2 := blk_keep b2 hb
    replace b5 := blk_keep b5 hb
    replace HV := Lib.hid (HV.out.below hb (Nat.le_refl _))
    replace HX := Lib.hid (HX.out.below hb (Nat.le_refl _))
    replace G1 := Lib.hid (G1.out.below hb (Nat.le_refl _))
    replace G2 := Lib.hid (G2.out.below hb (Nat.le_refl _))
    replace B := btr B hb (Nat.le_refl _)
    clear hb
    have G3 := Lib.hid g3
    clear g3
    have G4 := Lib.hid g4
    clear g4
    clear h26
    have h27 := rripe_any n lo hi _ ss x _ HX.out
    rw [← hE, ← hl3, ← hl4] at h27
    refine wp_seq_k (fun K hK => ?_)
    have HK := Lib.hid hK; clear hK
    go_wp2_with (first | (refine wpList_load_blk rfl 35 _ rfl _ rfl b5 Try.underlying35 rfl size35 rfl ?_) | (go_at_call 27; refine (h27).mono ?_; rintro e wc ⟨q5, q6, rfl, k5, k6, hb⟩))
    refine HK.out _ _ ?_; clear HK K
    replace b2 := blk_keep b2 hb
    replace b5 := blk_keep b5 hb
    replace HV := Lib.hid (HV.out.below hb (Nat.le_refl _))
    replace HX := Lib.hid (HX.out.below hb (Nat.le_refl _))
    replace G1 := Lib.hid (G1.out.below hb (Nat.le_refl _))
    replace G2 := Lib.hid (G2.out.below hb (Nat.le_refl _))
    replace G3 := Lib.hid (G3.out.below hb (Nat.le_refl _))
    replace G4 := Lib.hid (G4.out.below hb (Nat.le_refl _))
    replace B := btr B hb (Nat.le_refl _)
    clear hb
    have G5 := Lib.hid k5
    clear k5
    have G6 := Lib.hid k6
    clear k6
    clear h27 hE hl1 hl3 hl4
    have n1 := fun W (hW : Below wc.heap.size wc W) => numbers_any _ _ _ _ W (G1.out.below hW (Nat.le_refl _)) (G2.out.below hW (Nat.le_refl _))
    have n2 := fun W (hW : Below wc.heap.size wc W) => numbers_any _ _ _ _ W (G3.out.below hW (Nat.le_refl _)) (G5.out.below hW (Nat.le_refl _))
    have n3 := fun W (hW : Below wc.heap.size wc W) => numbers_any _ _ _ _ W (G4.out.below hW (Nat.le_refl _)) (G6.out.below hW (Nat.le_refl _))
    simp only [decide_true] at n1 n2 n3
    have N1 := Lib.hid n1
    have N2 := Lib.hid n2
    have N3 := Lib.hid n3
    clear n1 n2 n3
    go_wp2_with (first | (have _m := hb6; go_at_call 28; refine (N3.out _ (btr hb5 hb6 (Nat.le_refl _))).mono ?_; rintro e w7 ⟨rfl, hb7⟩) | (have _m := hb5; go_at_call 28; refine (N2.out _ hb5).mono ?_; rintro e w6 ⟨rfl, hb6⟩) | (go_at_call 28; refine (N1.out _ (Below.refl _ _)).mono ?_; rintro e w5 ⟨rfl, hb5⟩) | (go_at_call 13; refine (works_any _).mono ?_; rintro e w8 ⟨rfl, hb8⟩))
    go_ret
    exact ⟨rfl, btr (btr (btr (btr B hb5 (Nat.le_refl _)) hb6 (Nat.le_refl _)) hb7 (Nat.le_refl _)) hb8 (Nat.le_refl _)⟩
end Ytgnjeefanbcbkaa
end Go.Proofs
