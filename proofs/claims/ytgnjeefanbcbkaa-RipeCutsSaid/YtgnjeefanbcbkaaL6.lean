/- For each field and week the law RipeCuts returns true. -/
import Derived.Test.YtgnjeefanbcbkaaS7
import Derived.Test.YtgnjeefanbcbkaaC4
import Derived.Test.YtgnjeefanbcbkaaR2
open Go Go.RowKit Go.YtgnjeefanbcbkaaIt
namespace Go.Proofs
namespace Ytgnjeefanbcbkaa
set_option maxRecDepth 100000 in
set_option maxHeartbeats 8000000 in
theorem ripecuts_any (n lo hi : Int) (v : Value) (ss : List Smp) (x : Int) (w : World) (hv : SlS w v ss) :
    Calls Try.prog 6 #[.agg #[.int .i64 n, .int .i64 lo, .int .i64 hi, v], .int .i64 x] w fun e w' => e = .returned (.bool true) ∧ Below w.heap.size w w' := by
  have HV := Lib.hid hv
  obtain ⟨ad, cap, rfl, -, -, -⟩ := hv
  go_enter Try.func6, Try.ntmps6
  refine wp_seq_k (fun K hK => ?_)
  have HK := Lib.hid hK; clear hK
  go_wp2
  refine HK.out _ _ ?_; clear HK K
  generalize hw1 : World.alloc _ _ = w1
  obtain ⟨b2, B, hs1⟩ := blk1 hw1
  clear hw1
  have c3 := cell_blk (i := 3) b2
  simp only [List.getElem?_toArray, List.getElem?_cons_zero, List.getElem?_cons_succ] at c3
  replace HV := Lib.hid (HV.out.below B (Nat.le_refl _))
  by_cases h200 : (ss.length : Int) > 200
  · go_wp2_with (go_at_call 13; refine (works_any _).mono ?_; rintro e w9 ⟨rfl, hb9⟩)
    go_ret
    exact ⟨rfl, btr B hb9 (Nat.le_refl _)⟩
  · have hl2 : ss.length ≤ 200 := by omega
    refine wp_seq_k (fun K hK => ?_)
    have HK := Lib.hid hK; clear hK
    go_wp2
    refine HK.out _ _ ?_; clear HK K
    clear c3
    refine wp_seq_k (fun K hK => ?_)
    have HK := Lib.hid hK; clear hK
    go_wp2_with (first | (refine wpList_load_blk rfl 26 _ rfl _ rfl b2 Try.underlying26 rfl size26 rfl ?_) | (go_at_call 16; refine (givenF_any _ _ _ _ ss _ HV.out hl2).mono ?_; rintro e w3 ⟨⟨v3, rfl, hv3⟩, hb⟩; obtain ⟨ag, cg, hvg, -, -, -⟩ := id hv3; subst hvg))
    refine HK.out _ _ ?_; clear HK K
    generalize hwn : World.alloc _ _ = wn
    obtain ⟨b5, hBn, hsn⟩ := blk1 hwn
    clear hwn
    have HX := Lib.hid (hv3.below hBn (Nat.le_refl _))
    replace hb := btr hb hBn (Nat.le_refl _)
    replace b2 := blk_keep b2 hb
    replace HV := Lib.hid (HV.out.below hb (Nat.le_refl _))
    replace B := btr B hb (Nat.le_refl _)
    clear hb hv3 hBn hsn
    generalize w3.heap.size = g5 at *
    obtain ⟨E, hE⟩ : ∃ E, posE n lo hi ss = E := ⟨_, rfl⟩
    obtain ⟨RE, hRE⟩ : ∃ l, regretE n lo hi ss x = l := ⟨_, rfl⟩
    obtain ⟨RV, hRV⟩ : ∃ l, regretV n lo hi ss x = l := ⟨_, rfl⟩
    obtain ⟨CW, hCW⟩ : ∃ l, cutW n lo hi ss = l := ⟨_, rfl⟩
    obtain ⟨CV, hCV⟩ : ∃ l, cutV n lo hi ss = l := ⟨_, rfl⟩
    have h29 := regretF_any n lo hi _ ss x _ HV.out
    rw [hRE, hRV] at h29
    refine wp_seq_k (fun K hK => ?_)
    have HK := Lib.hid hK; clear hK
    go_wp2_with (first | (refine wpList_load_blk rfl 26 _ rfl _ rfl b2 Try.underlying26 rfl size26 rfl ?_) | (go_at_call 29; refine (h29).mono ?_; rintro e wc ⟨rfl, hb⟩))
    refine HK.out _ _ ?_; clear HK K
    replace b2 := blk_keep b2 hb
    replace b5 := blk_keep b5 hb
    replace HV := Lib.hid (HV.out.below hb (Nat.le_refl _))
    replace HX := Lib.hid (HX.out.below hb (Nat.le_refl _))
    replace B := btr B hb (Nat.le_refl _)
    clear hb
    clear h29
    have h30 := rregretF_any n lo hi _ ss x _ HX.out
    rw [hRE, hRV] at h30
    refine wp_seq_k (fun K hK => ?_)
    have HK := Lib.hid hK; clear hK
    go_wp2_with (first | (refine wpList_load_blk rfl 35 _ rfl _ rfl b5 Try.underlying35 rfl size35 rfl ?_) | (go_at_call 30; refine (h30).mono ?_; rintro e wc ⟨rfl, hb⟩))
    refine HK.out _ _ ?_; clear HK K
    replace b2 := blk_keep b2 hb
    replace b5 := blk_keep b5 hb
    replace HV := Lib.hid (HV.out.below hb (Nat.le_refl _))
    replace HX := Lib.hid (HX.out.below hb (Nat.le_refl _))
    replace B := btr B hb (Nat.le_refl _)
    clear hb
    clear h30 hRE hRV
    have c0 := cell_blk (i := 0) b2
    simp only [List.getElem?_toArray, List.getElem?_cons_zero] at c0
    by_cases h12 : n > 12 ∧ RE = 0
    · obtain ⟨h12, rfl⟩ := h12
      go_wp2_with (go_at_call 13; refine (works_any _).mono ?_; rintro e w9 ⟨rfl, hb9⟩)
      go_ret
      exact ⟨rfl, btr B hb9 (Nat.le_refl _)⟩
    · have h31 := cut_any n lo hi _ ss _ HV.out
      have h32 := fun W (hW : Below wc.heap.size wc W) => rcut_any n lo hi _ ss W (HX.out.below hW (Nat.le_refl _))
      rw [hE, hCW, hCV] at h31 h32
      have H31 := Lib.hid h31
      have H32 := Lib.hid h32
      clear h31 h32 hE hCW hCV
      have b5k : ∀ W, Below wc.heap.size wc W → W.heap[g5]? = _ := fun W hW => blk_keep b5 hW
      have B5 := Lib.hid b5k
      clear b5k
      by_cases hn12 : n > 12
      · have hre : ¬ RE = 0 := fun h => h12 ⟨hn12, h⟩
        have hre2 : (RE == 0) = false := by simpa using hre
        clear h12
        refine wp_seq_k (fun K hK => ?_)
        have HK := Lib.hid hK; clear hK
        go_wp2
        refine HK.out _ _ ?_; clear HK K
        refine wp_seq_k (fun K hK => ?_)
        have HK := Lib.hid hK; clear hK
        go_wp2
        refine HK.out _ _ ?_; clear HK K
        clear c0
        go_wp2_with (first | (refine wpList_load_blk rfl 26 _ rfl _ rfl b2 Try.underlying26 rfl size26 rfl ?_) | (refine wpList_load_blk rfl 35 _ rfl _ rfl (B5.out _ hb5) Try.underlying35 rfl size35 rfl ?_) | (go_at_call 31; refine H31.out.mono ?_; rintro e w5 ⟨rfl, hb5⟩) | (go_at_call 32; refine (H32.out _ hb5).mono ?_; rintro e w6 ⟨rfl, hb6⟩) | (go_at_call 13; refine (works_any _).mono ?_; rintro e w7 ⟨rfl, hb7⟩))
        go_ret
        exact ⟨rfl, btr (btr (btr B hb5 (Nat.le_refl _)) hb6 (Nat.le_refl _)) hb7 (Nat.le_refl _)⟩
      · clear h12
        refine wp_seq_k (fun K hK => ?_)
        have HK := Lib.hid hK; clear hK
        go_wp2
        refine HK.out _ _ ?_; clear HK K
        refine wp_seq_k (fun K hK => ?_)
        have HK := Lib.hid hK; clear hK
        go_wp2
        refine HK.out _ _ ?_; clear HK K
        clear c0
        go_wp2_with (first | (refine wpList_load_blk rfl 26 _ rfl _ rfl b2 Try.underlying26 rfl size26 rfl ?_) | (refine wpList_load_blk rfl 35 _ rfl _ rfl (B5.out _ hb5) Try.underlying35 rfl size35 rfl ?_) | (go_at_call 31; refine H31.out.mono ?_; rintro e w5 ⟨rfl, hb5⟩) | (go_at_call 32; refine (H32.out _ hb5).mono ?_; rintro e w6 ⟨rfl, hb6⟩) | (go_at_call 13; refine (works_any _).mono ?_; rintro e w7 ⟨rfl, hb7⟩))
        go_ret
        exact ⟨rfl, btr (btr (btr B hb5 (Nat.le_refl _)) hb6 (Nat.le_refl _)) hb7 (Nat.le_refl _)⟩
end Ytgnjeefanbcbkaa
end Go.Proofs
