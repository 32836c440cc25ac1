/- Fields: the reference's Clash. -/
import Derived.Lib.SliceRun
import Derived.Test.YtgnjeefanbcbkaaB6
import Derived.Test.YtgnjeefanbcbkaaR1
import Derived.Test.YtgnjeefanbcbkaaR3
import Derived.Test.YtgnjeefanbcbkaaR5
open Go Go.RowKit Go.YtgnjeefanbcbkaaIt
namespace Go.Proofs
namespace Ytgnjeefanbcbkaa
set_option maxRecDepth 100000 in
set_option maxHeartbeats 4000000 in
theorem rclashF_any (n lo hi : Int) (v : Value) (ss : List Smp) (w : World) (hv : SlS w v ss) :
    Calls Try.prog 21 #[.agg #[.int .i64 n, .int .i64 lo, .int .i64 hi, v]] w fun e w' => ∃ p, e = .returned (.tuple #[p, .int .i64 (clE n lo hi ss)]) ∧ Below w.heap.size w w' := by
  have HV := Lib.hid hv
  obtain ⟨ad, cap, rfl, -, -, -⟩ := hv
  have qT : ∀ (w : World) (a : Option Addr) (n c n' c' : Nat), (binOp .eql 41 (.slice a n c) (.slice none n' c')).run Try.prog w = .ok (.bool a.isNone) w := fun w a n c n' c' => Lib.run_eql_slice_nil w _ _ a n c n' c' Try.underlying41
  go_enter Try.func21, Try.ntmps21
  refine wp_seq_k (fun K hK => ?_)
  have HK := Lib.hid hK; clear hK
  go_wp2
  refine HK.out _ _ ?_; clear HK K
  generalize hw1 : World.alloc _ _ = w1
  obtain ⟨b1, hB, hs1⟩ := blk1 hw1
  clear hw1
  have h18 := rcheck_any n lo hi _ ss w1 (HV.out.below hB (Nat.le_refl _))
  obtain ⟨E, hE⟩ : ∃ E, E = chkE n lo hi ss := ⟨_, rfl⟩
  rw [← hE] at h18
  have HE := Lib.hid hE
  have H18 := Lib.hid h18
  clear hE h18
  by_cases h0 : E = 0
  · obtain ⟨m, rfl, hV⟩ := chk_ok (HE.out.symm.trans h0)
    subst h0
    have HVAL := Lib.hid hV
    have h53 := fun W (hW : Below w.heap.size w W) => ends_any m lo hi (.slice ad ss.length cap) ss W HVAL.out (HV.out.below hW (Nat.le_refl _))
    have H53 := Lib.hid h53
    have hpe : clE m lo hi ss = if noB (lowAt lo ss) (highAt hi ss) m = true then 5 else 0 := by
      unfold clE; rw [if_neg (by rw [← HE.out]; simp)]; rfl
    have HPE := Lib.hid hpe
    clear hV h53 hpe
    refine wp_seq_k (fun K hK => ?_)
    have HK := Lib.hid hK; clear hK
    go_wp2_with (first | (refine wpList_load_blk rfl 35 _ rfl _ rfl b1 Try.underlying35 rfl size35 rfl ?_) | (go_at_call 19; refine H18.out.mono ?_; rintro e w2 ⟨rfl, hb2⟩))
    refine HK.out _ _ ?_; clear HK K H18
    replace b1 := blk_keep b1 hb2
    replace hB := btr hB hb2 (Nat.le_refl _)
    have h53 := H53.out w2 hB
    clear H53 hs1
    refine wp_seq_k (fun K hK => ?_)
    have HK := Lib.hid hK; clear hK
    go_wp2
    refine HK.out _ _ ?_; clear HK K
    refine wp_seq_k (fun K hK => ?_)
    have HK := Lib.hid hK; clear hK
    go_wp2_with (first | (refine wpList_load_blk rfl 35 _ rfl _ rfl b1 Try.underlying35 rfl size35 rfl ?_) | (go_at_call 45; refine h53.mono ?_; rintro e w3 ⟨p, q, rfl, hp, hq, hb3⟩))
    refine HK.out _ _ ?_; clear HK K h53
    have h54 := rclash_any HVAL.out.bds hp hq
    refine wp_seq_k (fun K hK => ?_)
    have HK := Lib.hid hK; clear hK
    go_wp2_with (go_at_call 46; refine h54.mono ?_; rintro e w4 ⟨v4, rfl, hcl, hb4⟩)
    refine HK.out _ _ ?_; clear HK K h54
    have hB4 := btr (btr hB hb3 (Nat.le_refl _)) hb4 (Nat.le_refl _)
    clear hp hq
    rcases hcl with ⟨i, j, k, g, q1, q2, q3, hh, rfl, -⟩ | ⟨rfl, hno⟩
    · have hnb : ¬ (noB (lowAt lo ss) (highAt hi ss) m = true) := fun h => by
        have := noB_true.1 h i j k q1 q2 q3
        rw [hh] at this; cases this
      have hp0 : clE m lo hi ss = 0 := by rw [HPE.out, if_neg hnb]
      have HP0 := Lib.hid hp0
      clear hnb hp0 hh q1 q2 q3
      go_wp2
      go_ret2
      exact ⟨_, by rw [HP0.out]; rfl, hB4⟩
    · have hp0 : clE m lo hi ss = 5 := by rw [HPE.out, if_pos (noB_true.2 hno)]
      have HP0 := Lib.hid hp0
      clear hno hp0
      go_wp2
      go_ret2
      exact ⟨_, by rw [HP0.out]; rfl, hB4⟩
  · have hne : (E != 0) = true := by simpa using h0
    have hpe : clE n lo hi ss = E := by unfold clE; rw [← HE.out, if_pos h0]
    have HPE := Lib.hid hpe
    have H0 := Lib.hid h0
    clear hpe h0
    go_wp2_with (first | (refine wpList_load_blk rfl 35 _ rfl _ rfl b1 Try.underlying35 rfl size35 rfl ?_) | (go_at_call 19; refine H18.out.mono ?_; rintro e w2 ⟨rfl, hb2⟩))
    go_ret2
    exact ⟨_, by rw [HPE.out]; rfl, btr hB hb2 (Nat.le_refl _)⟩
end Ytgnjeefanbcbkaa
end Go.Proofs
