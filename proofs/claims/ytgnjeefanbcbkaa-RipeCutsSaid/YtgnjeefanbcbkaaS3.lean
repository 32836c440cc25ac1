/- Fields: the reference's Known. -/
import Derived.Test.YtgnjeefanbcbkaaS1
import Derived.Test.YtgnjeefanbcbkaaB5
import Derived.Test.YtgnjeefanbcbkaaR7
open Go Go.RowKit Go.YtgnjeefanbcbkaaIt
namespace Go.Proofs
namespace Ytgnjeefanbcbkaa
theorem posE_zero {n lo hi : Int} {ss : List Smp} (h : posE n lo hi ss = 0) : ∃ m : Nat, n = m ∧ Val m lo hi ss ∧ noB (lowAt lo ss) (highAt hi ss) m = true := by
  unfold posE at h
  by_cases h1 : chkE n lo hi ss = 0
  · rw [if_neg (by simpa using h1)] at h
    obtain ⟨m, rfl, hV⟩ := chk_ok h1
    refine ⟨m, rfl, hV, ?_⟩
    by_cases h2 : noB (lowAt lo ss) (highAt hi ss) (m : Int).toNat = true
    · exact h2
    · rw [if_neg h2] at h; cases h
  · rw [if_pos h1] at h; exact absurd h h1
set_option maxRecDepth 100000 in
set_option maxHeartbeats 8000000 in
theorem rknown_any (n lo hi : Int) (v : Value) (ss : List Smp) (w : World) (hv : SlS w v ss) :
    Calls Try.prog 15 #[.agg #[.int .i64 n, .int .i64 lo, .int .i64 hi, v]] w fun e w' => ∃ p, e = .returned (.tuple #[p, .int .i64 (posE n lo hi ss)]) ∧ SlR w' p (knownL n lo hi ss) ∧ Below w.heap.size w w' := by
  have HV := Lib.hid hv
  obtain ⟨ad, cap, rfl, -, -, -⟩ := hv
  obtain ⟨i23, hi23, hz1, hz2, hz3⟩ := info_parts info23
  have HI := Lib.hid (And.intro hi23 (And.intro hz1 (And.intro hz2 hz3)))
  clear hi23 hz1 hz2 hz3
  have qT : ∀ (w : World) (a : Option Addr) (n c n' c' : Nat), (binOp .neq 41 (.slice a n c) (.slice none n' c')).run Try.prog w = .ok (.bool (!a.isNone)) w := fun w a n c n' c' => by
    simp only [binOp]
    simp [Op.equal, Op.maxDepth, Lib.run_equalIn_slice_nil w 9999 41 3 a n c n' c' Try.underlying41]
  go_enter Try.func15, Try.ntmps15
  refine wp_seq_k (fun K hK => ?_)
  have HK := Lib.hid hK; clear hK
  go_wp2
  refine HK.out _ _ ?_; clear HK K
  generalize hw1 : World.alloc _ _ = w1
  obtain ⟨b1, hB, hs1⟩ := blk1 hw1
  clear hw1
  have h18 := rcheck_any n lo hi _ ss w1 (HV.out.below hB (Nat.le_refl _))
  obtain ⟨E, hE⟩ : ∃ E, E = chkE n lo hi ss := ⟨_, rfl⟩
  rw [← hE] at h18
  have HE := Lib.hid hE
  have H18 := Lib.hid h18
  clear hE h18
  by_cases h0 : E = 0
  · obtain ⟨m, rfl, hV⟩ := chk_ok (HE.out.symm.trans h0)
    subst h0
    have HVAL := Lib.hid hV
    have hn30 := hV.n30
    have h53 := fun W (hW : Below w.heap.size w W) => ends_any m lo hi (.slice ad ss.length cap) ss W HVAL.out (HV.out.below hW (Nat.le_refl _))
    have H53 := Lib.hid h53
    have hpe : posE m lo hi ss = if noB (lowAt lo ss) (highAt hi ss) m = true then 0 else 12 := by
      unfold posE; rw [if_neg (by rw [← HE.out]; simp)]; rfl
    have HPE := Lib.hid hpe
    clear hV h53 hpe
    refine wp_seq_k (fun K hK => ?_)
    have HK := Lib.hid hK; clear hK
    go_wp2_with (first | (refine wpList_load_blk rfl 35 _ rfl _ rfl b1 Try.underlying35 rfl size35 rfl ?_) | (go_at_call 19; refine H18.out.mono ?_; rintro e w2 ⟨rfl, hb2⟩))
    refine HK.out _ _ ?_; clear HK K H18
    replace b1 := blk_keep b1 hb2
    replace hB := btr hB hb2 (Nat.le_refl _)
    have h53 := H53.out w2 hB
    clear H53 hs1
    refine wp_seq_k (fun K hK => ?_)
    have HK := Lib.hid hK; clear hK
    go_wp2
    refine HK.out _ _ ?_; clear HK K
    refine wp_seq_k (fun K hK => ?_)
    have HK := Lib.hid hK; clear hK
    go_wp2_with (first | (refine wpList_load_blk rfl 35 _ rfl _ rfl b1 Try.underlying35 rfl size35 rfl ?_) | (go_at_call 45; refine h53.mono ?_; rintro e w3 ⟨p, q, rfl, hp, hq, hb3⟩))
    refine HK.out _ _ ?_; clear HK K h53
    have HB := Lib.hid HVAL.out.bds
    have h54 := rclash_any HB.out hp hq
    replace b1 := blk_keep b1 hb3
    replace hB := btr hB hb3 (Nat.le_refl _)
    have HP := Lib.hid hp
    have HQ := Lib.hid hq
    clear hp hq hb3
    refine wp_seq_k (fun K hK => ?_)
    have HK := Lib.hid hK; clear hK
    go_wp2_with (go_at_call 46; refine h54.mono ?_; rintro e w4 ⟨v4, rfl, hcl, hb4⟩; rcases hcl with ⟨i, j, k, g, q1, q2, q3, hh, rfl, -⟩ | ⟨rfl, hno⟩)
    · have hnb : ¬ (noB (lowAt lo ss) (highAt hi ss) m = true) := fun h => by
        have := noB_true.1 h i j k q1 q2 q3
        rw [hh] at this; cases this
      have hp0 : posE m lo hi ss = 12 := by rw [HPE.out, if_neg hnb]
      have hkl : knownL m lo hi ss = [] := by unfold knownL; rw [if_neg (by rw [hp0]; decide)]
      have HP0 := Lib.hid hp0
      have HKL := Lib.hid hkl
      clear hnb hp0 hh q1 q2 q3 hkl
      go_wp2
      go_ret2
      exact ⟨_, by rw [HP0.out]; rfl, by rw [HKL.out]; exact slG_nil _ _ _, btr hB hb4 (Nat.le_refl _)⟩
    · have hp0 : posE m lo hi ss = 0 := by rw [HPE.out, if_pos (noB_true.2 hno)]
      have hkl : knownL m lo hi ss = (List.range m).map (spanAt (lowAt lo ss) (highAt hi ss) m) := by unfold knownL; rw [if_pos hp0]; rfl
      have HP0 := Lib.hid hp0
      have HKL := Lib.hid hkl
      clear hno hp0 hkl
      refine HK.out _ _ ?_; clear HK K h54
      replace b1 := blk_keep b1 hb4
      have c0 := cell_blk (i := 0) b1
      simp only [List.getElem?_toArray, List.getElem?_cons_zero] at c0
      go_wp2
      clear c0
      go_loopw [7, 8] (fun q i wr => ∃ k : Nat, k ≤ m ∧ i = .int .i64 k ∧ wr.ownsRow w4.heap.size 23 2 q k (((List.range k).map (spanAt (lowAt lo ss) (highAt hi ss) m)).flatMap encR) ∧ Below w4.heap.size w4 wr) (fun _ i _ => m - (intOf i).toNat)
      case atStart => exact ⟨0, Nat.zero_le _, rfl, World.ownsRow_nil _ _ _ _, Below.refl _ _⟩
      case round =>
        obtain ⟨k, hk, rfl, ro, hBk⟩ := hrel
        obtain ⟨aq, cq, rfl⟩ := form_of ro
        have b1r := blk_keep b1 hBk
        have c0 := cell_blk (i := 0) b1r
        simp only [List.getElem?_toArray, List.getElem?_cons_zero] at c0
        by_cases hkm : k < m
        · have hki : (k : Int) < (m : Int) := by omega
          have h41 := fun W (hW : Below w4.heap.size w4 W) => rlower_any HB.out hkm ((HP.out.below hb4 (Nat.le_refl _)).below hW (Nat.le_refl _))
          have h43 := fun W (hW : Below w4.heap.size w4 W) => rupper_any HB.out hkm ((HP.out.below hb4 (Nat.le_refl _)).below hW (Nat.le_refl _)) ((HQ.out.below hb4 (Nat.le_refl _)).below hW (Nat.le_refl _))
          have hl := toBig (lower_bd HB.out hkm)
          have hu := toBig (upper_bd HB.out hkm)
          have hsp : spanAt (lowAt lo ss) (highAt hi ss) m k = ((lowerF (lowAt lo ss) m k).floor, (upperF (lowAt lo ss) (highAt hi ss) m k).ceil) := rfl
          generalize lowerF (lowAt lo ss) m k = zl at *
          generalize upperF (lowAt lo ss) (highAt hi ss) m k = zu at *
          have h42 := fun W => rfloor_any zl W hl
          have h44 := fun W => rceil_any zu W hu
          generalize zl.floor = fl at *
          generalize zu.ceil = cu at *
          have e9 : ((List.range (k + 1)).map (spanAt (lowAt lo ss) (highAt hi ss) m)).flatMap encR = (((List.range k).map (spanAt (lowAt lo ss) (highAt hi ss) m)).flatMap encR) ++ [.int .i64 fl, .int .i64 cu] := by
            rw [List.range_succ, List.map_append, List.flatMap_append]; simp [encR, hsp]
          have HE9 := Lib.hid e9
          have H41 := Lib.hid h41
          have H42 := Lib.hid h42
          have H43 := Lib.hid h43
          have H44 := Lib.hid h44
          clear e9 h41 h42 h43 h44 hl hu hsp
          go_wp2_with (first | (go_at_call 48; refine (H41.out _ hBk).mono ?_; rintro e w3 ⟨rfl, hb3⟩; have hB3 := btr hBk hb3 (Nat.le_refl _)) | (go_at_call 47; refine (H42.out _).mono ?_; rintro e w5 ⟨rfl, hb4⟩; have hB4 := btr hB3 hb4 (Nat.le_refl _)) | (go_at_call 50; refine (H43.out _ hB4).mono ?_; rintro e w5 ⟨rfl, hb5⟩; have hB5 := btr hB4 hb5 (Nat.le_refl _)) | (go_at_call 49; refine (H44.out _).mono ?_; rintro e w6 ⟨rfl, hb6⟩; have hB6 := btr hB5 hb6 (Nat.le_refl _); have hbr := (hb3.trans (hb4.mono hb3.size)).trans ((hb5.mono (Nat.le_trans hb3.size hb4.size)).trans (hb6.mono (Nat.le_trans (Nat.le_trans hb3.size hb4.size) hb5.size))); have ro6 := row_below ro hbr; have hz6 := hB6.size) |
            (at_builtin; refine wpList_append_own _ rfl _ _ 28 rfl w4.heap.size 23 i23 (.agg #[.int .i64 0, .int .i64 0]) 2 16 Try.underlying28 HI.out.1 HI.out.2.1 HI.out.2.2.1 HI.out.2.2.2 rfl (by decide) _ _ _ rfl (ro6.alloc _) ⟨w6.heap.size, 0, none⟩ 1 1 [.int .i64 fl, .int .i64 cu] rfl rfl (cell_newL rfl) (by intro u hu; simp at hu; rcases hu with rfl | rfl <;> rfl) (Nat.le_trans (by omega : k + 1 ≤ 200) (by decide)) (by omega) (by rw [World.size_alloc]; omega) ?_; intro v' w7 r1 r2 _))
          obtain ⟨hk7, hs7, ee1, ee2, ee3⟩ := append_same1 ro6 r2
          have hB7 : Below w4.heap.size w4 w7 := ⟨ee1.trans hB6.os, ee2.trans hB6.tape, ee3.trans hB6.output, by omega, fun b hb => (hk7 b (by omega) (fun e => by have := (ro6.lt _ e).1; omega)).trans (hB6.block b hb)⟩
          have hq1 : IntKind.i64.wrap ((k : Int) + 1) = ((k + 1 : Nat) : Int) := by rw [IntKind.wrap_i64]; omega
          refine ⟨⟨k + 1, by omega, by go_num, ?_, hB7⟩, by simp [intOf]; omega⟩
          rw [HE9.out]
          exact r1
        · have hki : ¬ ((k : Int) < (m : Int)) := by omega
          have hkk : k = m := by omega
          subst hkk
          have hso := slG_own encR_len ro (by simp) (by simp; omega)
          rw [← HKL.out] at hso
          have HSO := Lib.hid hso
          clear hso ro
          go_wp2
          go_ret2
          exact ⟨_, by rw [HP0.out]; rfl, HSO.out, btr (btr hB hb4 (Nat.le_refl _)) hBk (Nat.le_refl _)⟩
  · have hne : (E != 0) = true := by simpa using h0
    have hpe : posE n lo hi ss = E := by unfold posE; rw [← HE.out, if_pos h0]
    have hkl : knownL n lo hi ss = [] := by unfold knownL; rw [if_neg (by rw [hpe]; exact h0)]
    have HPE := Lib.hid hpe
    have HKL := Lib.hid hkl
    clear hpe h0 hkl
    go_wp2_with (first | (refine wpList_load_blk rfl 35 _ rfl _ rfl b1 Try.underlying35 rfl size35 rfl ?_) | (go_at_call 19; refine H18.out.mono ?_; rintro e w2 ⟨rfl, hb2⟩))
    go_ret2
    exact ⟨_, by rw [HPE.out]; rfl, by rw [HKL.out]; exact slG_nil _ _ _, btr hB hb2 (Nat.le_refl _)⟩
end Ytgnjeefanbcbkaa
end Go.Proofs
