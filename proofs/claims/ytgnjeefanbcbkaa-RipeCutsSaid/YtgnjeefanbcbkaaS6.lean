/- Fields: the reference's Regret. -/
import Derived.Test.YtgnjeefanbcbkaaS3
import Derived.Test.YtgnjeefanbcbkaaB8
import Derived.Test.YtgnjeefanbcbkaaR9
open Go Go.RowKit Go.YtgnjeefanbcbkaaIt
namespace Go.Proofs
namespace Ytgnjeefanbcbkaa
set_option maxRecDepth 100000 in
set_option maxHeartbeats 8000000 in
theorem rregretF_any (n lo hi : Int) (v : Value) (ss : List Smp) (x : Int) (w : World) (hv : SlS w v ss) :
    Calls Try.prog 30 #[.agg #[.int .i64 n, .int .i64 lo, .int .i64 hi, v], .int .i64 x] w fun e w' => e = .returned (.tuple #[.int .i64 (regretV n lo hi ss x), .int .i64 (regretE n lo hi ss x)]) ∧ Below w.heap.size w w' := by
  have HV := Lib.hid hv
  obtain ⟨ad, cap, rfl, -, -, -⟩ := hv
  obtain ⟨RE, hRE⟩ : ∃ R, R = regretE n lo hi ss x := ⟨_, rfl⟩
  obtain ⟨RV, hRV⟩ : ∃ R, R = regretV n lo hi ss x := ⟨_, rfl⟩
  rw [← hRE, ← hRV]
  have HRE := Lib.hid hRE
  have HRV := Lib.hid hRV
  clear hRE hRV
  go_enter Try.func30, Try.ntmps30
  refine wp_seq_k (fun K hK => ?_)
  have HK := Lib.hid hK; clear hK
  go_wp2
  refine HK.out _ _ ?_; clear HK K
  generalize hw1 : World.alloc _ _ = w1
  obtain ⟨b1, hB, hs1⟩ := blk1 hw1
  clear hw1
  have h15 := rknown_any n lo hi _ ss w1 (HV.out.below hB (Nat.le_refl _))
  obtain ⟨E, hE⟩ : ∃ E, E = posE n lo hi ss := ⟨_, rfl⟩
  rw [← hE] at h15
  have HE := Lib.hid hE
  have H15 := Lib.hid h15
  clear hE h15
  by_cases h0 : E = 0
  · obtain ⟨m, rfl, hV, -⟩ := posE_zero (HE.out.symm.trans h0)
    subst h0
    have HVAL := Lib.hid hV
    have hn1 := hV.n1
    have hn30 := hV.n30
    have HB := Lib.hid hV.bds
    have h45 := fun W (hW : Below w.heap.size w W) => ends_any m lo hi (.slice ad ss.length cap) ss W HVAL.out (HV.out.below hW (Nat.le_refl _))
    have H45 := Lib.hid h45
    have hre : RE = if btw 0 x ((m : Int) - 1) = false then 5 else 0 := by rw [HRE.out]; unfold regretE; rw [if_neg (by rw [← HE.out]; simp)]
    have hm1 : IntKind.i64.wrap ((m : Int) - 1) = (m : Int) - 1 := by rw [IntKind.wrap_i64]; omega
    obtain ⟨t, ht⟩ : ∃ t, t = btw 0 x ((m : Int) - 1) := ⟨_, rfl⟩
    have h52 := fun W => is_any x 0 ((m : Int) - 1) W
    rw [← ht] at h52 hre
    have HT := Lib.hid ht
    have H52 := Lib.hid h52
    clear hV h45 hs1 ht h52
    refine wp_seq_k (fun K hK => ?_)
    have HK := Lib.hid hK; clear hK
    go_wp2_with (first | (refine wpList_load_blk rfl 35 _ rfl _ rfl b1 Try.underlying35 rfl size35 rfl ?_) | (go_at_call 15; refine H15.out.mono ?_; rintro e w2 ⟨p2, rfl, -, hb2⟩))
    refine HK.out _ _ ?_; clear HK K H15
    replace b1 := blk_keep b1 hb2
    replace hB := btr hB hb2 (Nat.le_refl _)
    have h45 := H45.out w2 hB
    have c0 := cell_blk (i := 0) b1
    simp only [List.getElem?_toArray, List.getElem?_cons_zero] at c0
    clear H45 hb2
    refine wp_seq_k (fun K hK => ?_)
    have HK := Lib.hid hK; clear hK
    go_wp2
    refine HK.out _ _ ?_; clear HK K
    cases t
    · have hr : RE = 5 := by rw [hre]; rfl
      have hr2 : RV = 0 := by rw [HRV.out]; unfold regretV; rw [← HRE.out, hr]; rfl
      subst hr hr2
      clear hre
      go_wp2_with (go_at_call 52; refine (H52.out _).mono ?_; rintro e w3 ⟨rfl, rfl⟩)
      go_ret2
      exact ⟨rfl, hB⟩
    · have hr : RE = 0 := by rw [hre]; rfl
      have hbx := btw_true.1 HT.out.symm
      have hr2 : RV = (regF (lowAt lo ss) (highAt hi ss) m x.toNat).ceil := by rw [HRV.out]; unfold regretV; rw [← HRE.out, if_pos hr]; rfl
      clear HRV HRE hre HT
      obtain ⟨y, rfl⟩ := Int.eq_ofNat_of_zero_le hbx.1
      have hy : y < m := by omega
      have hr3 : RV = (regR (lowAt lo ss) (highAt hi ss) m y).ceil := by
        rw [hr2]
        exact ceil_same (reg_bd HB.out hy).pos (regR_bd HB.out hy).pos (reg_same hy)
      subst hr
      have HR3 := Lib.hid hr3
      clear hr2 hr3
      refine wp_seq_k (fun K hK => ?_)
      have HK := Lib.hid hK; clear hK
      go_wp2_with (go_at_call 52; refine (H52.out _).mono ?_; rintro e w3 ⟨rfl, rfl⟩)
      refine HK.out _ _ ?_; clear HK K H52
      refine wp_seq_k (fun K hK => ?_)
      have HK := Lib.hid hK; clear hK
      go_wp2_with (first | (refine wpList_load_blk rfl 35 _ rfl _ rfl b1 Try.underlying35 rfl size35 rfl ?_) | (go_at_call 45; refine h45.mono ?_; rintro e w4 ⟨p, q, rfl, hp, hq, hb4⟩))
      refine HK.out _ _ ?_; clear HK K h45
      replace hB := btr hB hb4 (Nat.le_refl _)
      have h70 := rregret_any HB.out hy hp hq
      have hbr := regR_bd HB.out hy
      generalize regR (lowAt lo ss) (highAt hi ss) m y = z at *
      have h49 := fun W => rceil_any z W hbr
      rw [← HR3.out] at h49
      have H70 := Lib.hid h70
      have H49 := Lib.hid h49
      clear hp hq h70 h49 hbr HR3 hb4 b1 c0
      go_wp2_with (first | (go_at_call 70; refine H70.out.mono ?_; rintro e w5 ⟨rfl, hb5⟩) | (go_at_call 49; refine (H49.out _).mono ?_; rintro e w6 ⟨rfl, hb6⟩))
      go_ret2
      exact ⟨rfl, btr (btr hB hb5 (Nat.le_refl _)) hb6 (Nat.le_refl _)⟩
  · have hne : (E != 0) = true := by simpa using h0
    have hr : RE = E := by rw [HRE.out]; unfold regretE; rw [← HE.out, if_pos h0]
    have hr2 : RV = 0 := by rw [HRV.out]; unfold regretV; rw [← HRE.out, hr, if_neg h0]
    subst hr hr2
    clear h0
    go_wp2_with (first | (refine wpList_load_blk rfl 35 _ rfl _ rfl b1 Try.underlying35 rfl size35 rfl ?_) | (go_at_call 15; refine H15.out.mono ?_; rintro e w2 ⟨p2, rfl, -, hb2⟩))
    go_ret2
    exact ⟨rfl, btr hB hb2 (Nat.le_refl _)⟩
end Ytgnjeefanbcbkaa
end Go.Proofs
