/- Fields: the reference's Ripe. -/
import Derived.Test.YtgnjeefanbcbkaaS4
open Go Go.RowKit Go.YtgnjeefanbcbkaaIt
namespace Go.Proofs
namespace Ytgnjeefanbcbkaa
set_option maxRecDepth 100000 in
set_option maxHeartbeats 8000000 in
theorem rripe_any (n lo hi : Int) (v : Value) (ss : List Smp) (least : Int) (w : World) (hv : SlS w v ss) :
    Calls Try.prog 27 #[.agg #[.int .i64 n, .int .i64 lo, .int .i64 hi, v], .int .i64 least] w fun e w' => ∃ p q, e = .returned (.tuple #[p, q, .int .i64 (posE n lo hi ss)]) ∧ SlI w' p (surelyL n lo hi ss least) ∧ SlI w' q (perhapsL n lo hi ss least) ∧ Below w.heap.size w w' := by
  have HV := Lib.hid hv
  obtain ⟨ad, cap, rfl, -, -, -⟩ := hv
  obtain ⟨i3, hi3, hz1, hz2, hz3⟩ := info_parts info3
  have HI := Lib.hid (And.intro hi3 (And.intro hz1 (And.intro hz2 hz3)))
  clear hi3 hz1 hz2 hz3
  go_enter Try.func27, Try.ntmps27
  refine wp_seq_k (fun K hK => ?_)
  have HK := Lib.hid hK; clear hK
  go_wp2
  refine HK.out _ _ ?_; clear HK K
  generalize hw1 : World.alloc _ _ = w1
  obtain ⟨b1, hB, hs1⟩ := blk1 hw1
  clear hw1
  have h15 := rknown_any n lo hi _ ss w1 (HV.out.below hB (Nat.le_refl _))
  obtain ⟨E, hE⟩ : ∃ E, E = posE n lo hi ss := ⟨_, rfl⟩
  rw [← hE] at h15
  have HE := Lib.hid hE
  have H15 := Lib.hid h15
  clear hE h15
  by_cases h0 : E = 0
  · obtain ⟨m, rfl, hV, -⟩ := posE_zero (HE.out.symm.trans h0)
    subst h0
    have HVAL := Lib.hid hV
    have hn1 := hV.n1
    have hn30 := hV.n30
    have HB := Lib.hid hV.bds
    have hkl : surelyL m lo hi ss least = chosenL (fun x => !(lowerF (lowAt lo ss) m x).lt (whole (goalF least))) m := by unfold surelyL; rw [if_pos HE.out.symm]; rfl
    have hkp : perhapsL m lo hi ss least = chosenL (fun x => !(upperF (lowAt lo ss) (highAt hi ss) m x).lt (whole (goalF least))) m := by unfold perhapsL; rw [if_pos HE.out.symm]; rfl
    have HKL := Lib.hid hkl
    have HKP := Lib.hid hkp
    have h45 := fun W (hW : Below w.heap.size w W) => ends_any m lo hi (.slice ad ss.length cap) ss W HVAL.out (HV.out.below hW (Nat.le_refl _))
    have H45 := Lib.hid h45
    clear hkl hkp hV h45 hs1
    refine wp_seq_k (fun K hK => ?_)
    have HK := Lib.hid hK; clear hK
    go_wp2_with (first | (refine wpList_load_blk rfl 35 _ rfl _ rfl b1 Try.underlying35 rfl size35 rfl ?_) | (go_at_call 15; refine H15.out.mono ?_; rintro e w2 ⟨p2, rfl, -, hb2⟩))
    refine HK.out _ _ ?_; clear HK K H15
    replace b1 := blk_keep b1 hb2
    replace hB := btr hB hb2 (Nat.le_refl _)
    have h45 := H45.out w2 hB
    clear H45
    refine wp_seq_k (fun K hK => ?_)
    have HK := Lib.hid hK; clear hK
    go_wp2
    refine HK.out _ _ ?_; clear HK K
    refine wp_seq_k (fun K hK => ?_)
    have HK := Lib.hid hK; clear hK
    go_wp2_with (first | (refine wpList_load_blk rfl 35 _ rfl _ rfl b1 Try.underlying35 rfl size35 rfl ?_) | (go_at_call 45; refine h45.mono ?_; rintro e w3 ⟨p, q, rfl, hp, hq, hb3⟩))
    refine HK.out _ _ ?_; clear HK K h45
    replace b1 := blk_keep b1 hb3
    replace hB := btr hB hb3 (Nat.le_refl _)
    have HP := Lib.hid hp
    have HQ := Lib.hid hq
    clear hp hq hb3 hb2
    obtain ⟨p1, hp1⟩ : ∃ f : Nat → Bool, f = fun x => !(lowerF (lowAt lo ss) m x).lt (whole (goalF least)) := ⟨_, rfl⟩
    obtain ⟨p2, hp2⟩ : ∃ f : Nat → Bool, f = fun x => !(upperF (lowAt lo ss) (highAt hi ss) m x).lt (whole (goalF least)) := ⟨_, rfl⟩
    rw [← hp1] at HKL
    rw [← hp2] at HKP
    have HP1 := Lib.hid hp1
    have HP2 := Lib.hid hp2
    clear hp1 hp2
    go_wp2
    go_loopw [11, 12, 13] (fun r1 r2 i w5 => ∃ k : Nat, k ≤ m ∧ i = .int .i64 k ∧ w5.ownsRow w3.heap.size 3 1 r1 (chosenL p1 k).length ((chosenL p1 k).map (.int .i64)) ∧ w5.ownsRow w3.heap.size 3 1 r2 (chosenL p2 k).length ((chosenL p2 k).map (.int .i64)) ∧ Hid (∀ g, r1.ownBlock = some g → r2.ownBlock ≠ some g) ∧ Below w3.heap.size w3 w5) (fun _ _ i _ => m - (intOf i).toNat)
    case atStart => exact ⟨0, Nat.zero_le _, rfl, World.ownsRow_nil _ _ _ _, World.ownsRow_nil _ _ _ _, Lib.hid (fun g h => by cases h), Below.refl _ _⟩
    case round =>
      obtain ⟨k, hk, rfl, ro, rq, HD, hB5⟩ := hrel
      have b15 := blk_keep b1 hB5
      have c5 := cell_blk (i := 0) b15
      simp only [List.getElem?_toArray, List.getElem?_cons_zero] at c5
      have hlen1 := chosen_len p1 k
      have hlen2 := chosen_len p2 k
      have hcs1 := chosen_succ p1 k
      have hcs2 := chosen_succ p2 k
      have hend1 : Hid (k = m → chosenL p1 m = chosenL p1 k) := Lib.hid fun h => by rw [h]
      have hend2 : Hid (k = m → chosenL p2 m = chosenL p2 k) := Lib.hid fun h => by rw [h]
      generalize chosenL p1 k = l1 at *
      generalize chosenL p2 k = l2 at *
      obtain ⟨a1, c1, rfl⟩ := form_of ro
      obtain ⟨a2, c2, rfl⟩ := form_of rq
      by_cases hkn : k < m
      · have hki : (k : Int) < (m : Int) := by omega
        have h48 := rlower_any HB.out hkn (HP.out.below hB5 (Nat.le_refl _))
        have h50 := fun W (hW : Below w3.heap.size w3 W) => rupper_any HB.out hkn (HP.out.below hW (Nat.le_refl _)) (HQ.out.below hW (Nat.le_refl _))
        have hlb := toBig (lower_bd HB.out hkn)
        have hub := toBig (upper_bd HB.out hkn)
        rw [show p1 k = !(lowerF (lowAt lo ss) m k).lt (whole (goalF least)) by rw [HP1.out]] at hcs1
        rw [show p2 k = !(upperF (lowAt lo ss) (highAt hi ss) m k).lt (whole (goalF least)) by rw [HP2.out]] at hcs2
        generalize lowerF (lowAt lo ss) m k = zl at *
        generalize upperF (lowAt lo ss) (highAt hi ss) m k = zu at *
        have h68a := fun W => at_any zl least W hlb
        have h68b := fun W => at_any zu least W hub
        generalize (!zl.lt (whole (goalF least))) = t1 at *
        generalize (!zu.lt (whole (goalF least))) = t2 at *
        have HCS1 := Lib.hid hcs1
        have HCS2 := Lib.hid hcs2
        have H48 := Lib.hid h48
        have H50 := Lib.hid h50
        have H68a := Lib.hid h68a
        have H68b := Lib.hid h68b
        have hq1 : IntKind.i64.wrap ((k : Int) + 1) = ((k + 1 : Nat) : Int) := by rw [IntKind.wrap_i64]; omega
        have hbk1 : l1.length + 1 ≤ 200 := by omega
        have hbk2 : l2.length + 1 ≤ 200 := by omega
        have hsz5 := hB5.size
        clear hcs1 hcs2 h48 h50 h68a h68b hlb hub hlen1 hlen2
        cases t1 <;> cases t2
        · go_wp2_with (first | (go_at_call 48; refine H48.out.mono ?_; rintro e w6 ⟨rfl, hb6⟩; have hB6 := btr hB5 hb6 (Nat.le_refl _)) | (have _m := hB9; go_at_call 68; refine (H68b.out _).mono ?_; rintro e w10 ⟨rfl, hb10⟩; have hB10 := btr hB9 hb10 (Nat.le_refl _); have hbr2 := hb9.trans (hb10.mono hb9.size); have ro10 := row_below ro8 hbr2; have rq10 := row_below rq8 hbr2; have hz10 := hB10.size) | (go_at_call 50; refine (H50.out _ hB8).mono ?_; rintro e w9 ⟨rfl, hb9⟩; have hB9 := btr hB8 hb9 (Nat.le_refl _)) | (go_at_call 68; refine (H68a.out _).mono ?_; rintro e w7 ⟨rfl, hb7⟩; have hB7 := btr hB6 hb7 (Nat.le_refl _); have hbr := hb6.trans (hb7.mono hb6.size); have ro7 := row_below ro hbr; have rq7 := row_below rq hbr; have hz7 := hB7.size; have ro8 := ro7; have rq8 := rq7; have hB8 := hB7; have hz8 := hz7; have hD8 := HD.out))
          have e1 : chosenL p1 (k + 1) = l1 := by rw [HCS1.out]; simp
          have e2 : chosenL p2 (k + 1) = l2 := by rw [HCS2.out]; simp
          exact ⟨⟨k + 1, by omega, by go_num, by rw [e1]; exact ro10, by rw [e2]; exact rq10, Lib.hid hD8, hB10⟩, by simp [intOf]; omega⟩
        · go_wp2_with (first | (at_builtin; refine wpList_append_any _ rfl _ _ 41 rfl w3.heap.size 3 i3 (.int .i64 0) 1 8 Try.underlying41 HI.out.1 HI.out.2.1 HI.out.2.2.1 HI.out.2.2.2 rfl (by decide) _ _ _ rfl (rq10.alloc _) _ _ 1 1 _ rfl reads_one (by intro u hu; simp at hu; subst hu; rfl) (Nat.le_trans hbk2 (by decide)) (by omega) (by rw [World.size_alloc]; omega) ?_; intro v11 w11 rq11 g11 o11; obtain ⟨ro11, hD11⟩ := push_two rq10 ro10 (fun g h1 h2 => hD8 g h2 h1) g11 o11; have hB11 := grown_below1 g11 rq10 (Nat.le_refl _) hz10 hB10) | (go_at_call 48; refine H48.out.mono ?_; rintro e w6 ⟨rfl, hb6⟩; have hB6 := btr hB5 hb6 (Nat.le_refl _)) | (have _m := hB9; go_at_call 68; refine (H68b.out _).mono ?_; rintro e w10 ⟨rfl, hb10⟩; have hB10 := btr hB9 hb10 (Nat.le_refl _); have hbr2 := hb9.trans (hb10.mono hb9.size); have ro10 := row_below ro8 hbr2; have rq10 := row_below rq8 hbr2; have hz10 := hB10.size) | (go_at_call 50; refine (H50.out _ hB8).mono ?_; rintro e w9 ⟨rfl, hb9⟩; have hB9 := btr hB8 hb9 (Nat.le_refl _)) | (go_at_call 68; refine (H68a.out _).mono ?_; rintro e w7 ⟨rfl, hb7⟩; have hB7 := btr hB6 hb7 (Nat.le_refl _); have hbr := hb6.trans (hb7.mono hb6.size); have ro7 := row_below ro hbr; have rq7 := row_below rq hbr; have hz7 := hB7.size; have ro8 := ro7; have rq8 := rq7; have hB8 := hB7; have hz8 := hz7; have hD8 := HD.out))
          have e1 : chosenL p1 (k + 1) = l1 := by rw [HCS1.out]; simp
          have e2 : chosenL p2 (k + 1) = l2 ++ [(k : Int)] := by rw [HCS2.out]; simp
          exact ⟨⟨k + 1, by omega, by go_num, by rw [e1]; exact ro11, by rw [e2, List.length_append, List.map_append]; exact rq11, Lib.hid (fun g h1 h2 => hD11 g h2 h1), hB11⟩, by simp [intOf]; omega⟩
        · go_wp2_with (first | (at_builtin; refine wpList_append_any _ rfl _ _ 41 rfl w3.heap.size 3 i3 (.int .i64 0) 1 8 Try.underlying41 HI.out.1 HI.out.2.1 HI.out.2.2.1 HI.out.2.2.2 rfl (by decide) _ _ _ rfl (ro7.alloc _) _ _ 1 1 _ rfl reads_one (by intro u hu; simp at hu; subst hu; rfl) (Nat.le_trans hbk1 (by decide)) (by omega) (by rw [World.size_alloc]; omega) ?_; intro v8 w8 ro8 g8 o8; obtain ⟨rq8, hD8⟩ := push_two ro7 rq7 HD.out g8 o8; have hB8 := grown_below1 g8 ro7 (Nat.le_refl _) hz7 hB7; have hz8 := hB8.size; have hD8' := Lib.hid hD8) | (go_at_call 48; refine H48.out.mono ?_; rintro e w6 ⟨rfl, hb6⟩; have hB6 := btr hB5 hb6 (Nat.le_refl _)) | (have _m := hB9; go_at_call 68; refine (H68b.out _).mono ?_; rintro e w10 ⟨rfl, hb10⟩; have hB10 := btr hB9 hb10 (Nat.le_refl _); have hbr2 := hb9.trans (hb10.mono hb9.size); have ro10 := row_below ro8 hbr2; have rq10 := row_below rq8 hbr2; have hz10 := hB10.size) | (go_at_call 50; refine (H50.out _ hB8).mono ?_; rintro e w9 ⟨rfl, hb9⟩; have hB9 := btr hB8 hb9 (Nat.le_refl _)) | (go_at_call 68; refine (H68a.out _).mono ?_; rintro e w7 ⟨rfl, hb7⟩; have hB7 := btr hB6 hb7 (Nat.le_refl _); have hbr := hb6.trans (hb7.mono hb6.size); have ro7 := row_below ro hbr; have rq7 := row_below rq hbr; have hz7 := hB7.size))
          have e1 : chosenL p1 (k + 1) = l1 ++ [(k : Int)] := by rw [HCS1.out]; simp
          have e2 : chosenL p2 (k + 1) = l2 := by rw [HCS2.out]; simp
          exact ⟨⟨k + 1, by omega, by go_num, by rw [e1, List.length_append, List.map_append]; exact ro10, by rw [e2]; exact rq10, Lib.hid hD8, hB10⟩, by simp [intOf]; omega⟩
        · go_wp2_with (first | (at_builtin; refine wpList_append_any _ rfl _ _ 41 rfl w3.heap.size 3 i3 (.int .i64 0) 1 8 Try.underlying41 HI.out.1 HI.out.2.1 HI.out.2.2.1 HI.out.2.2.2 rfl (by decide) _ _ _ rfl (rq10.alloc _) _ _ 1 1 _ rfl reads_one (by intro u hu; simp at hu; subst hu; rfl) (Nat.le_trans hbk2 (by decide)) (by omega) (by rw [World.size_alloc]; omega) ?_; intro v11 w11 rq11 g11 o11; obtain ⟨ro11, hD11⟩ := push_two rq10 ro10 (fun g h1 h2 => hD8 g h2 h1) g11 o11; have hB11 := grown_below1 g11 rq10 (Nat.le_refl _) hz10 hB10) | (at_builtin; refine wpList_append_any _ rfl _ _ 41 rfl w3.heap.size 3 i3 (.int .i64 0) 1 8 Try.underlying41 HI.out.1 HI.out.2.1 HI.out.2.2.1 HI.out.2.2.2 rfl (by decide) _ _ _ rfl (ro7.alloc _) _ _ 1 1 _ rfl reads_one (by intro u hu; simp at hu; subst hu; rfl) (Nat.le_trans hbk1 (by decide)) (by omega) (by rw [World.size_alloc]; omega) ?_; intro v8 w8 ro8 g8 o8; obtain ⟨rq8, hD8⟩ := push_two ro7 rq7 HD.out g8 o8; have hB8 := grown_below1 g8 ro7 (Nat.le_refl _) hz7 hB7; have hz8 := hB8.size; have hD8' := Lib.hid hD8) | (go_at_call 48; refine H48.out.mono ?_; rintro e w6 ⟨rfl, hb6⟩; have hB6 := btr hB5 hb6 (Nat.le_refl _)) | (have _m := hB9; go_at_call 68; refine (H68b.out _).mono ?_; rintro e w10 ⟨rfl, hb10⟩; have hB10 := btr hB9 hb10 (Nat.le_refl _); have hbr2 := hb9.trans (hb10.mono hb9.size); have ro10 := row_below ro8 hbr2; have rq10 := row_below rq8 hbr2; have hz10 := hB10.size) | (go_at_call 50; refine (H50.out _ hB8).mono ?_; rintro e w9 ⟨rfl, hb9⟩; have hB9 := btr hB8 hb9 (Nat.le_refl _)) | (go_at_call 68; refine (H68a.out _).mono ?_; rintro e w7 ⟨rfl, hb7⟩; have hB7 := btr hB6 hb7 (Nat.le_refl _); have hbr := hb6.trans (hb7.mono hb6.size); have ro7 := row_below ro hbr; have rq7 := row_below rq hbr; have hz7 := hB7.size))
          have e1 : chosenL p1 (k + 1) = l1 ++ [(k : Int)] := by rw [HCS1.out]; simp
          have e2 : chosenL p2 (k + 1) = l2 ++ [(k : Int)] := by rw [HCS2.out]; simp
          exact ⟨⟨k + 1, by omega, by go_num, by rw [e1, List.length_append, List.map_append]; exact ro11, by rw [e2, List.length_append, List.map_append]; exact rq11, Lib.hid (fun g h1 h2 => hD11 g h2 h1), hB11⟩, by simp [intOf]; omega⟩
      · have hki : ¬ ((k : Int) < (m : Int)) := by omega
        have hso := slI_own ro (by simp) (by omega)
        have hsq := slI_own rq (by simp) (by omega)
        have hll1 : surelyL m lo hi ss least = l1 := by rw [HKL.out, hend1.out (by omega)]
        have hll2 : perhapsL m lo hi ss least = l2 := by rw [HKP.out, hend2.out (by omega)]
        have HLL1 := Lib.hid hll1
        have HLL2 := Lib.hid hll2
        have HSO := Lib.hid hso
        have HSQ := Lib.hid hsq
        clear hso hsq hcs1 hcs2 ro rq hll1 hll2
        go_wp2
        go_ret3
        exact ⟨_, _, by rw [← HE.out]; rfl, by rw [HLL1.out]; exact HSO.out, by rw [HLL2.out]; exact HSQ.out, btr hB hB5 (Nat.le_refl _)⟩
  · have hne : (E != 0) = true := by simpa using h0
    have hkl : surelyL n lo hi ss least = [] := by unfold surelyL; rw [if_neg (by rw [← HE.out]; exact h0)]
    have hkp : perhapsL n lo hi ss least = [] := by unfold perhapsL; rw [if_neg (by rw [← HE.out]; exact h0)]
    have HKL := Lib.hid hkl
    have HKP := Lib.hid hkp
    clear hkl hkp h0
    go_wp2_with (first | (refine wpList_load_blk rfl 35 _ rfl _ rfl b1 Try.underlying35 rfl size35 rfl ?_) | (go_at_call 15; refine H15.out.mono ?_; rintro e w2 ⟨p2, rfl, -, hb2⟩))
    go_ret3
    exact ⟨_, _, by rw [HE.out]; rfl, by rw [HKL.out]; exact slI_nil _, by rw [HKP.out]; exact slI_nil _, btr hB hb2 (Nat.le_refl _)⟩
end Ytgnjeefanbcbkaa
end Go.Proofs
