/- Laws of rotation: the reference: Rest. -/
import Derived.Test.YtnjgglnpmhjmiaaRv
open Go Go.RowKit Go.YtnjgglnpmhjmiaaIt
open Rest
namespace Go.Proofs
namespace Ytnjgglnpmhjmiaa
set_option maxRecDepth 100000 in
set_option maxHeartbeats 4000000 in
theorem rrest_any (n crop years : Int) (w : World) : Calls Try.prog 16 #[.int .i64 n, .int .i64 crop, .int .i64 years] w fun e w' => ∃ vn vg, e = .returned (.tuple #[.agg #[vn, vg], .int .i64 (madeE n crop 0 years)]) ∧ LawA w' (.agg #[vn, vg]) (resL (restL n crop years) (madeE n crop 0 years)) ∧ Below w.heap.size w w' := by
  obtain ⟨w1, hw1⟩ : ∃ q, q = w.alloc (.cells #[.slice none 0 0, .slice none 0 0] 29) := ⟨_, rfl⟩
  obtain ⟨g6, hg6⟩ : ∃ q, q = w.heap.size := ⟨_, rfl⟩
  have HW := Lib.hid (And.intro hw1 hg6)
  have c6 : w1.heap[g6]? = some (.cells #[.slice none 0 0, .slice none 0 0] 29 (0, 0)) := by rw [hw1, hg6]; exact heap_newI rfl
  have HC6 := Lib.hid c6
  have HB1 := Lib.hid (show Below g6 w w1 by rw [hw1, hg6]; exact (Below.refl _ _).alloc (Nat.le_refl _) _)
  have HZ1 := Lib.hid (show w1.heap.size = g6 + 1 by rw [hw1, hg6, World.size_alloc])
  obtain ⟨E, hE⟩ : ∃ E, E = madeE n crop 0 years := ⟨_, rfl⟩
  rw [← hE]
  have HE := Lib.hid hE
  have ERR : Hid (∀ E', E' = E → E' ≠ 0 → ∀ w', Below g6 w w' → ∃ vn vg, Ending.returned (.tuple #[.agg #[.slice none 0 0, .slice none 0 0], .int .i64 E']) = Ending.returned (.tuple #[.agg #[vn, vg], .int .i64 E]) ∧ LawA w' (.agg #[vn, vg]) (resL (restL n crop years) E) ∧ Below g6 w w') := Lib.hid fun E' h h0 w' hb => ⟨.slice none 0 0, .slice none 0 0, by rw [h], by unfold resL; rw [if_neg (by rw [← h]; exact h0)]; exact lawA_nil _, hb⟩
  clear hw1 hg6 c6 hE
  go_enter Try.func16, Try.ntmps16
  refine wp_seq_k (fun K hK => ?_)
  have HK := Lib.hid hK; clear hK
  go_wp2
  refine HK.out _ _ ?_; clear HK
  rw [← HW.out.1, ← HW.out.2]
  clear HW
  obtain ⟨b1, hb1⟩ : ∃ b, b = btw 1 n 4 := ⟨_, rfl⟩
  have H591 := Lib.hid (fun W => is_any n 1 4 W)
  rw [← hb1] at H591
  have HBB1 := Lib.hid hb1
  clear hb1
  cases b1 with
  | false =>
    have HE2 : Hid ((2 : Int) = E) := Lib.hid (by rw [HE.out, madeE, if_pos HBB1.out.symm])
    go_wp2_with (first | (go_at_call 59; refine (H591.out _).mono ?_; rintro e w3 ⟨rfl, rfl⟩; have hd1 : True := trivial) | (refine wpList_store_blk rfl 29 _ _ rfl _ rfl rfl HC6.out size29 rfl rfl (by simp [Value.oneCell']) ?_))
    refine bodyPost_ret (results_agg_tmp rfl _ _ g6 rfl (World.putObj_heap_same (lt_blk HC6.out)) Try.underlying29 rfl size29 rfl) rfl ?_
    exact ERR.out 2 HE2.out (by decide) _ (below_putObj HB1.out (Nat.le_refl _))
  | true =>
  have hn4 : 1 ≤ n ∧ n ≤ 4 := btw_true.1 HBB1.out.symm
  obtain ⟨k, rfl⟩ : ∃ k : Nat, n = (k : Int) := ⟨n.toNat, by omega⟩
  have hk4 : 1 ≤ k ∧ k ≤ 4 := by omega
  obtain ⟨b2, hb2⟩ : ∃ b, b = btw 0 crop ((k : Int) - 1) := ⟨_, rfl⟩
  have H592 := Lib.hid (fun W => is_any crop 0 ((k : Int) - 1) W)
  rw [← hb2] at H592
  have HBB2 := Lib.hid hb2
  have hsub : wrap64 ((k : Int) - 1) = (k : Int) - 1 := IntWalk.wrap64_in _ (by omega)
  clear hb2 hn4
  cases b2 with
  | false =>
    have HE2 : Hid ((5 : Int) = E) := Lib.hid (by rw [HE.out, madeE, if_neg (by rw [← HBB1.out]; simp), if_pos HBB2.out.symm])
    go_wp2_with (first | (have _m := hd1; go_at_call 59; refine (H592.out _).mono ?_; rintro e w3 ⟨rfl, rfl⟩; have hd2 : True := trivial) | (go_at_call 59; refine (H591.out _).mono ?_; rintro e w3 ⟨rfl, rfl⟩; have hd1 : True := trivial) | (refine wpList_store_blk rfl 29 _ _ rfl _ rfl rfl HC6.out size29 rfl rfl (by simp [Value.oneCell']) ?_))
    refine bodyPost_ret (results_agg_tmp rfl _ _ g6 rfl (World.putObj_heap_same (lt_blk HC6.out)) Try.underlying29 rfl size29 rfl) rfl ?_
    exact ERR.out 5 HE2.out (by decide) _ (below_putObj HB1.out (Nat.le_refl _))
  | true =>
  have hc4 : 0 ≤ crop ∧ crop ≤ (k : Int) - 1 := btw_true.1 HBB2.out.symm
  obtain ⟨b3, hb3⟩ : ∃ b, b = btw 0 years 20 := ⟨_, rfl⟩
  have H593 := Lib.hid (fun W => is_any years 0 20 W)
  rw [← hb3] at H593
  have HBB3 := Lib.hid hb3
  clear hb3
  cases b3 with
  | false =>
    have HE2 : Hid ((2 : Int) = E) := Lib.hid (by rw [HE.out, madeE, if_neg (by rw [← HBB1.out]; simp), if_neg (by rw [← HBB2.out]; simp), if_pos HBB3.out.symm])
    go_wp2_with (first | (have _m := hd2; go_at_call 59; refine (H593.out _).mono ?_; rintro e w3 ⟨rfl, rfl⟩) | (have _m := hd1; go_at_call 59; refine (H592.out _).mono ?_; rintro e w3 ⟨rfl, rfl⟩; have hd2 : True := trivial) | (go_at_call 59; refine (H591.out _).mono ?_; rintro e w3 ⟨rfl, rfl⟩; have hd1 : True := trivial) | (refine wpList_store_blk rfl 29 _ _ rfl _ rfl rfl HC6.out size29 rfl rfl (by simp [Value.oneCell']) ?_))
    refine bodyPost_ret (results_agg_tmp rfl _ _ g6 rfl (World.putObj_heap_same (lt_blk HC6.out)) Try.underlying29 rfl size29 rfl) rfl ?_
    exact ERR.out 2 HE2.out (by decide) _ (below_putObj HB1.out (Nat.le_refl _))
  | true =>
  have hy4 : 0 ≤ years ∧ years ≤ 20 := btw_true.1 HBB3.out.symm
  obtain ⟨Y, rfl⟩ : ∃ k : Nat, years = (k : Int) := ⟨years.toNat, by omega⟩
  have hY : Y ≤ 20 := by omega
  have hYw : wrap64 ((Y : Int) + 1) = (Y : Int) + 1 := IntWalk.wrap64_in _ (by omega)
  have HE0 : Hid (E = 0) := Lib.hid (by rw [HE.out, madeE, if_neg (by rw [← HBB1.out]; simp), if_neg (by rw [← HBB2.out]; simp), if_neg (by rw [← HBB3.out]; simp)])
  clear hy4 ERR
  go_wp2_with (first | (have _m := hd2; go_at_call 59; refine (H593.out _).mono ?_; rintro e w3 ⟨rfl, rfl⟩) | (have _m := hd1; go_at_call 59; refine (H592.out _).mono ?_; rintro e w3 ⟨rfl, rfl⟩; have hd2 : True := trivial) | (go_at_call 59; refine (H591.out _).mono ?_; rintro e w3 ⟨rfl, rfl⟩; have hd1 : True := trivial))
  obtain ⟨w2, hw2⟩ : ∃ q, q = w1.alloc (.cells #[.slice none 0 0, .slice none 0 0] 29) := ⟨_, rfl⟩
  have hb12 : Below w1.heap.size w1 w2 := by rw [hw2]; exact (Below.refl _ _).alloc (Nat.le_refl _) _
  have c8 : w2.heap[w1.heap.size]? = some (.cells #[.slice none 0 0, .slice none 0 0] 29 (0, 0)) := by rw [hw2]; exact heap_newI rfl
  rw [← hw2]
  obtain ⟨g8, hg8⟩ : ∃ q, q = w1.heap.size := ⟨_, rfl⟩
  rw [← hg8] at c8 ⊢
  obtain ⟨bs, hbs⟩ : ∃ q, q = w1.heap.size := ⟨_, rfl⟩
  rw [← hbs] at hb12
  have HBS := Lib.hid hbs
  have HG8 := Lib.hid (show bs = g6 + 1 ∧ g8 = bs from ⟨by rw [hbs, HZ1.out], by rw [hg8, hbs]⟩)
  have hbsg : bs ≤ g8 := by rw [hg8, hbs]; exact Nat.le_refl _
  obtain ⟨FF, hFF⟩ : ∃ q, q = restF crop Y := ⟨_, rfl⟩
  obtain ⟨GF, hGF⟩ : ∃ q, q = restG Y := ⟨_, rfl⟩
  have HFF := Lib.hid (And.intro hFF hGF)
  have HJ0 := Lib.hid (And.intro (RJ.start (base := bs) c8) hb12)
  clear hw2 hb12 c8 hg8 hbs HZ1 hFF hGF
  go_loopw [9] (fun i wr => ∃ (s : Nat) (Z : Nat → Prop) (vn vg : Value) (us : List Value), s ≤ Y + 2 ∧ i = .int .i64 s ∧ Hid (RJ bs g8 Z wr (.slice none 0 0) vn vg [] us (lawOf s k FF GF).nx (lawOf s k FF GF).gd ∧ Below bs w1 wr)) (fun i _ => Y + 2 - (intOf i).toNat)
  case atStart => exact ⟨0, _, _, _, [], Nat.zero_le _, rfl, HJ0⟩
  case round =>
    clear HJ0
    obtain ⟨s, Z, vn, vg, us, hs, rfl, HJ1⟩ := hrel
    obtain ⟨wo, rfl⟩ : ∃ q, q = wr := ⟨_, rfl⟩
    by_cases hsY : s ≤ Y + 1
    · have hsi : (s : Int) ≤ (Y : Int) + 1 := by omega
      go_wp2
      go_loopw [10, 11] (fun v10 i wr => ∃ c : Nat, c ≤ k ∧ i = .int .i64 c ∧ Hid (RJ bs g8 Z wr v10 vn vg (rowOf c FF s) us (lawOf s k FF GF).nx (lawOf s k FF GF).gd ∧ Below bs w1 wr)) (fun _ i _ => k - (intOf i).toNat)
      case atStart => exact ⟨0, Nat.zero_le _, rfl, HJ1⟩
      case round =>
        clear HJ1
        obtain ⟨c, hc, rfl, HJ2⟩ := hrel
        obtain ⟨wp, rfl⟩ : ∃ q, q = wr := ⟨_, rfl⟩
        by_cases hck : c < k
        · have hci : (c : Int) < (k : Int) := by omega
          by_cases hcc : (c : Int) = crop
          · have hcb : ((c : Int) == crop) = true := by simpa using hcc
            by_cases hs1 : s = Y + 1
            · have ha : ((s : Int) == (Y : Int) + 1) = true := by simp; omega
              have HVAL : Hid (((Y : Int) + 1) = FF s c) := Lib.hid (by rw [HFF.out.1, restF, if_pos (.inl hs1)]; omega)
              clear hcc hs1
              go_wp2_with (at_builtin; refine cutme ?_)
              refine ⟨?_⟩
              obtain ⟨hJ, hB⟩ := HJ2.out
              have hbsz : bs ≤ wp.heap.size := by rw [HBS.out]; rw [HBS.out] at hB; exact hB.size
              have hJa := hJ.quiet ((Below.refl _ wp).alloc (Nat.le_refl _) (.cells #[.int .i64 ((Y : Int) + 1)] 3))
              refine wpList_app rfl (.tmp 58) (.tmp 61) 40 3 rfl Try.underlying40 info3 rfl (by decide) (xs := (rowOf c FF s).map (Value.int .i64)) (by rw [List.length_map]; exact hJa.o10) (by rw [List.length_map, rowOf_len]; omega) rfl rfl (heap_newI rfl) rfl (by rw [World.size_alloc]; omega) ?_
              intro v10' w9 q9 g9 e9
              rw [List.length_map] at q9
              have hJ9 := hJa.app10 q9 g9 e9
              have hB9 := below_own HBS.out (hB.alloc hbsz _) hJa.o10 g9
              rw [HVAL.out, ← rowOf_succ] at hJ9
              have HJ9 := Lib.hid (And.intro hJ9 hB9)
              clear hJ hB hbsz hJa q9 g9 e9 hJ9 hB9 HVAL
              go_wp2
              exact ⟨⟨c + 1, by omega, by go_num, HJ9⟩, by simp only [intOf]; omega⟩
            · have ha : ((s : Int) == (Y : Int) + 1) = false := by simp; omega
              by_cases hs0 : 0 < s
              · have hb : (0 : Int) < (s : Int) := by omega
                have HVAL : Hid (((Y : Int) + 1) = FF s c) := Lib.hid (by rw [HFF.out.1, restF, if_pos (.inr ⟨hs0, hcc⟩)]; omega)
                clear hcc hs1 hs0
                go_wp2_with (at_builtin; refine cutme ?_)
                refine ⟨?_⟩
                obtain ⟨hJ, hB⟩ := HJ2.out
                have hbsz : bs ≤ wp.heap.size := by rw [HBS.out]; rw [HBS.out] at hB; exact hB.size
                have hJa := hJ.quiet ((Below.refl _ wp).alloc (Nat.le_refl _) (.cells #[.int .i64 ((Y : Int) + 1)] 3))
                refine wpList_app rfl (.tmp 58) (.tmp 61) 40 3 rfl Try.underlying40 info3 rfl (by decide) (xs := (rowOf c FF s).map (Value.int .i64)) (by rw [List.length_map]; exact hJa.o10) (by rw [List.length_map, rowOf_len]; omega) rfl rfl (heap_newI rfl) rfl (by rw [World.size_alloc]; omega) ?_
                intro v10' w9 q9 g9 e9
                rw [List.length_map] at q9
                have hJ9 := hJa.app10 q9 g9 e9
                have hB9 := below_own HBS.out (hB.alloc hbsz _) hJa.o10 g9
                rw [HVAL.out, ← rowOf_succ] at hJ9
                have HJ9 := Lib.hid (And.intro hJ9 hB9)
                clear hJ hB hbsz hJa q9 g9 e9 hJ9 hB9 HVAL
                go_wp2
                exact ⟨⟨c + 1, by omega, by go_num, HJ9⟩, by simp only [intOf]; omega⟩
              · have hb : ¬ (0 : Int) < (s : Int) := by omega
                by_cases hy0 : 1 ≤ Y
                · have hle : (1 : Int) ≤ (Y : Int) := by omega
                  have hmn : min (1 : Int) (Y : Int) = 1 := by omega
                  have HVAL : Hid ((1 : Int) = FF s c) := Lib.hid (by rw [HFF.out.1, restF, if_neg (by omega), if_pos hcc]; omega)
                  clear hcc hs1 hs0
                  go_wp2_with (at_builtin; refine cutme ?_)
                  refine ⟨?_⟩
                  obtain ⟨hJ, hB⟩ := HJ2.out
                  have hbsz : bs ≤ wp.heap.size := by rw [HBS.out]; rw [HBS.out] at hB; exact hB.size
                  have hJa := hJ.quiet ((Below.refl _ wp).alloc (Nat.le_refl _) (.cells #[.int .i64 (1)] 3))
                  refine wpList_app rfl (.tmp 67) (.tmp 70) 40 3 rfl Try.underlying40 info3 rfl (by decide) (xs := (rowOf c FF s).map (Value.int .i64)) (by rw [List.length_map]; exact hJa.o10) (by rw [List.length_map, rowOf_len]; omega) rfl rfl (heap_newI rfl) rfl (by rw [World.size_alloc]; omega) ?_
                  intro v10' w9 q9 g9 e9
                  rw [List.length_map] at q9
                  have hJ9 := hJa.app10 q9 g9 e9
                  have hB9 := below_own HBS.out (hB.alloc hbsz _) hJa.o10 g9
                  rw [HVAL.out, ← rowOf_succ] at hJ9
                  have HJ9 := Lib.hid (And.intro hJ9 hB9)
                  clear hJ hB hbsz hJa q9 g9 e9 hJ9 hB9 HVAL
                  go_wp2
                  exact ⟨⟨c + 1, by omega, by go_num, HJ9⟩, by simp only [intOf]; omega⟩
                · have hle : ¬ (1 : Int) ≤ (Y : Int) := by omega
                  have hmn : min (1 : Int) (Y : Int) = (Y : Int) := by omega
                  have HVAL : Hid (((Y : Int)) = FF s c) := Lib.hid (by rw [HFF.out.1, restF, if_neg (by omega), if_pos hcc]; omega)
                  clear hcc hs1 hs0
                  go_wp2_with (at_builtin; refine cutme ?_)
                  refine ⟨?_⟩
                  obtain ⟨hJ, hB⟩ := HJ2.out
                  have hbsz : bs ≤ wp.heap.size := by rw [HBS.out]; rw [HBS.out] at hB; exact hB.size
                  have hJa := hJ.quiet ((Below.refl _ wp).alloc (Nat.le_refl _) (.cells #[.int .i64 ((Y : Int))] 3))
                  refine wpList_app rfl (.tmp 67) (.tmp 70) 40 3 rfl Try.underlying40 info3 rfl (by decide) (xs := (rowOf c FF s).map (Value.int .i64)) (by rw [List.length_map]; exact hJa.o10) (by rw [List.length_map, rowOf_len]; omega) rfl rfl (heap_newI rfl) rfl (by rw [World.size_alloc]; omega) ?_
                  intro v10' w9 q9 g9 e9
                  rw [List.length_map] at q9
                  have hJ9 := hJa.app10 q9 g9 e9
                  have hB9 := below_own HBS.out (hB.alloc hbsz _) hJa.o10 g9
                  rw [HVAL.out, ← rowOf_succ] at hJ9
                  have HJ9 := Lib.hid (And.intro hJ9 hB9)
                  clear hJ hB hbsz hJa q9 g9 e9 hJ9 hB9 HVAL
                  go_wp2
                  exact ⟨⟨c + 1, by omega, by go_num, HJ9⟩, by simp only [intOf]; omega⟩
          · have hcb : ((c : Int) == crop) = false := by simpa using hcc
            by_cases hs1 : s = Y + 1
            · have ha : ((s : Int) == (Y : Int) + 1) = true := by simp; omega
              have HVAL : Hid (((Y : Int) + 1) = FF s c) := Lib.hid (by rw [HFF.out.1, restF, if_pos (.inl hs1)]; omega)
              clear hcc hs1
              go_wp2_with (at_builtin; refine cutme ?_)
              refine ⟨?_⟩
              obtain ⟨hJ, hB⟩ := HJ2.out
              have hbsz : bs ≤ wp.heap.size := by rw [HBS.out]; rw [HBS.out] at hB; exact hB.size
              have hJa := hJ.quiet ((Below.refl _ wp).alloc (Nat.le_refl _) (.cells #[.int .i64 ((Y : Int) + 1)] 3))
              refine wpList_app rfl (.tmp 58) (.tmp 61) 40 3 rfl Try.underlying40 info3 rfl (by decide) (xs := (rowOf c FF s).map (Value.int .i64)) (by rw [List.length_map]; exact hJa.o10) (by rw [List.length_map, rowOf_len]; omega) rfl rfl (heap_newI rfl) rfl (by rw [World.size_alloc]; omega) ?_
              intro v10' w9 q9 g9 e9
              rw [List.length_map] at q9
              have hJ9 := hJa.app10 q9 g9 e9
              have hB9 := below_own HBS.out (hB.alloc hbsz _) hJa.o10 g9
              rw [HVAL.out, ← rowOf_succ] at hJ9
              have HJ9 := Lib.hid (And.intro hJ9 hB9)
              clear hJ hB hbsz hJa q9 g9 e9 hJ9 hB9 HVAL
              go_wp2
              exact ⟨⟨c + 1, by omega, by go_num, HJ9⟩, by simp only [intOf]; omega⟩
            · have ha : ((s : Int) == (Y : Int) + 1) = false := by simp; omega
              by_cases hs0 : 0 < s
              · have hb : (0 : Int) < (s : Int) := by omega
                have hz : ((s : Int) == 0) = false := by simp; omega
                by_cases hsy : s = Y
                · have hy : ((s : Int) == (Y : Int)) = true := by simp; omega
                  have HVAL : Hid ((0 : Int) = FF s c) := Lib.hid (by rw [HFF.out.1, restF, if_neg (by omega), if_neg hcc, if_pos (.inr hsy)])
                  clear hcc hs1 hs0 hsy
                  go_wp2_with (at_builtin; refine cutme ?_)
                  refine ⟨?_⟩
                  obtain ⟨hJ, hB⟩ := HJ2.out
                  have hbsz : bs ≤ wp.heap.size := by rw [HBS.out]; rw [HBS.out] at hB; exact hB.size
                  have hJa := hJ.quiet ((Below.refl _ wp).alloc (Nat.le_refl _) (.cells #[.int .i64 (0)] 3))
                  refine wpList_app rfl (.tmp 80) (.tmp 81) 40 3 rfl Try.underlying40 info3 rfl (by decide) (xs := (rowOf c FF s).map (Value.int .i64)) (by rw [List.length_map]; exact hJa.o10) (by rw [List.length_map, rowOf_len]; omega) rfl rfl (heap_newI rfl) rfl (by rw [World.size_alloc]; omega) ?_
                  intro v10' w9 q9 g9 e9
                  rw [List.length_map] at q9
                  have hJ9 := hJa.app10 q9 g9 e9
                  have hB9 := below_own HBS.out (hB.alloc hbsz _) hJa.o10 g9
                  rw [HVAL.out, ← rowOf_succ] at hJ9
                  have HJ9 := Lib.hid (And.intro hJ9 hB9)
                  clear hJ hB hbsz hJa q9 g9 e9 hJ9 hB9 HVAL
                  go_wp2
                  exact ⟨⟨c + 1, by omega, by go_num, HJ9⟩, by simp only [intOf]; omega⟩
                · have hy : ((s : Int) == (Y : Int)) = false := by simp; omega
                  have HVAL : Hid (((s : Int) + 1) = FF s c) := Lib.hid (by rw [HFF.out.1, restF, if_neg (by omega), if_neg hcc, if_neg (by omega)]; omega)
                  clear hcc hs1 hs0 hsy
                  go_wp2_with (at_builtin; refine cutme ?_)
                  refine ⟨?_⟩
                  obtain ⟨hJ, hB⟩ := HJ2.out
                  have hbsz : bs ≤ wp.heap.size := by rw [HBS.out]; rw [HBS.out] at hB; exact hB.size
                  have hJa := hJ.quiet ((Below.refl _ wp).alloc (Nat.le_refl _) (.cells #[.int .i64 ((s : Int) + 1)] 3))
                  refine wpList_app rfl (.tmp 39) (.tmp 42) 40 3 rfl Try.underlying40 info3 rfl (by decide) (xs := (rowOf c FF s).map (Value.int .i64)) (by rw [List.length_map]; exact hJa.o10) (by rw [List.length_map, rowOf_len]; omega) rfl rfl (heap_newI rfl) rfl (by rw [World.size_alloc]; omega) ?_
                  intro v10' w9 q9 g9 e9
                  rw [List.length_map] at q9
                  have hJ9 := hJa.app10 q9 g9 e9
                  have hB9 := below_own HBS.out (hB.alloc hbsz _) hJa.o10 g9
                  rw [HVAL.out, ← rowOf_succ] at hJ9
                  have HJ9 := Lib.hid (And.intro hJ9 hB9)
                  clear hJ hB hbsz hJa q9 g9 e9 hJ9 hB9 HVAL
                  go_wp2
                  exact ⟨⟨c + 1, by omega, by go_num, HJ9⟩, by simp only [intOf]; omega⟩
              · have hb : ¬ (0 : Int) < (s : Int) := by omega
                have hz : ((s : Int) == 0) = true := by simp; omega
                have HVAL : Hid ((0 : Int) = FF s c) := Lib.hid (by rw [HFF.out.1, restF, if_neg (by omega), if_neg hcc, if_pos (.inl (by omega))])
                clear hcc hs1 hs0
                go_wp2_with (at_builtin; refine cutme ?_)
                refine ⟨?_⟩
                obtain ⟨hJ, hB⟩ := HJ2.out
                have hbsz : bs ≤ wp.heap.size := by rw [HBS.out]; rw [HBS.out] at hB; exact hB.size
                have hJa := hJ.quiet ((Below.refl _ wp).alloc (Nat.le_refl _) (.cells #[.int .i64 (0)] 3))
                refine wpList_app rfl (.tmp 80) (.tmp 81) 40 3 rfl Try.underlying40 info3 rfl (by decide) (xs := (rowOf c FF s).map (Value.int .i64)) (by rw [List.length_map]; exact hJa.o10) (by rw [List.length_map, rowOf_len]; omega) rfl rfl (heap_newI rfl) rfl (by rw [World.size_alloc]; omega) ?_
                intro v10' w9 q9 g9 e9
                rw [List.length_map] at q9
                have hJ9 := hJa.app10 q9 g9 e9
                have hB9 := below_own HBS.out (hB.alloc hbsz _) hJa.o10 g9
                rw [HVAL.out, ← rowOf_succ] at hJ9
                have HJ9 := Lib.hid (And.intro hJ9 hB9)
                clear hJ hB hbsz hJa q9 g9 e9 hJ9 hB9 HVAL
                go_wp2
                exact ⟨⟨c + 1, by omega, by go_num, HJ9⟩, by simp only [intOf]; omega⟩
        · have hci : ¬ (c : Int) < (k : Int) := by omega
          have HCE : Hid (c = k) := Lib.hid (by omega)
          obtain ⟨wv, rfl⟩ : ∃ q, q = wp := ⟨_, rfl⟩
          obtain ⟨hJv, hBv⟩ := HJ2.out
          rw [HCE.out] at hJv
          obtain ⟨a10, c10, e10, -⟩ := own_form hJv.o10
          rw [rowOf_len] at e10
          obtain ⟨NX, hNX⟩ : ∃ q, q = (lawOf s k FF GF).nx := ⟨_, rfl⟩
          obtain ⟨GS, hGS⟩ : ∃ q, q = (lawOf s k FF GF).gd := ⟨_, rfl⟩
          rw [← hNX, ← hGS] at hJv
          have hul : us.length = s := by rw [hJv.rn.1, hNX, (lawOf_len s k FF GF).1]
          have hgl : GS.length = s := by rw [hGS, (lawOf_len s k FF GF).2]
          obtain ⟨an', cn', en', -⟩ := own_form hJv.on
          obtain ⟨ag', cg', eg', -⟩ := own_form hJv.og
          rw [hul] at en'
          rw [hgl] at eg'
          subst e10 en' eg'
          have HNG := Lib.hid (And.intro hNX hGS)
          have HJV := Lib.hid (And.intro hJv (And.intro hBv (And.intro hul hgl)))
          obtain ⟨cd, hcd⟩ : ∃ q, q = GF s := ⟨_, rfl⟩
          have HCD := Lib.hid hcd
          have hcdv : cd = decide (s ≤ Y) := by rw [hcd, HFF.out.2, restG]
          clear hNX hGS HJ2 hJv hBv hul hgl hcd
          go_wp2
          obtain ⟨hJv, hBv, hul, hgl⟩ := HJV.out
          refine wp_region_x (R := fun _ => True) (S := fun U => U.heap[g8]? = some (.cells #[.slice an' s cn', .slice ag' s cg'] 29 (0, 0))) (z := 13) rfl ?_
          change wpAnyX _ _ _ _ _ _ _ _ _ _ wv.drew
          have hJd := hJv.quiet ((Below.refl _ wv).drew)
          have hBd := hBv.drew
          obtain ⟨wq, hwq⟩ : ∃ q, q = wv.drew := ⟨_, rfl⟩
          rw [← hwq] at hJd hBd ⊢
          have hSq := hJd.box
          clear hwq
          refine wpAnyX_keep (i := 0) (oi := { dst := some 83, op := _, type := _, pos := _, after := _, guard := none }) (v := ?_) rfl (by kernel_rfl) (by kernel_rfl) (by kernel_rfl) (fun _ _ _ h => h) (Or.inl ⟨by rfl, ?_⟩) ⟨trivial, fun _ => hSq⟩ ?_
          rotate_left
          · intro U hU
            go_simp
            all_goals with_reducible rfl
          simp only [Act.put, List.setIfInBounds_toArray, List.set_cons_zero, List.set_cons_succ]
          refine wpAnyX_take (i := 1) (oi := { dst := some 84, op := _, type := _, pos := _, after := _, guard := none }) (v := ?_) rfl (by kernel_rfl) (by kernel_rfl) (by kernel_rfl) (fun _ _ _ h => h) (Or.inl ⟨by rfl, ?_⟩) ⟨trivial, fun _ => hSq⟩ ?_
          rotate_left
          · intro U hU
            have u0 := cell_blk (i := 0) hU.2
            simp only [List.getElem?_toArray, List.getElem?_cons_zero] at u0
            go_simp
            all_goals with_reducible rfl
          simp only [Act.put, List.setIfInBounds_toArray, List.set_cons_zero, List.set_cons_succ]
          refine wpAnyX_keep (i := 2) (oi := { dst := some 85, op := _, type := _, pos := _, after := _, guard := none }) (v := ?_) rfl (by kernel_rfl) (by kernel_rfl) (by kernel_rfl) (fun _ _ _ h => h) (Or.inl ⟨by rfl, ?_⟩) ⟨trivial, fun _ => hSq⟩ ?_
          rotate_left
          · intro U hU
            go_simp
            all_goals with_reducible rfl
          simp only [Act.put, List.setIfInBounds_toArray, List.set_cons_zero, List.set_cons_succ]
          refine wpAnyX_keep (i := 5) (oi := { dst := some 88, op := _, type := _, pos := _, after := _, guard := none }) (v := ?_) rfl (by kernel_rfl) (by kernel_rfl) (by kernel_rfl) (fun _ _ _ h => h) (Or.inl ⟨by rfl, ?_⟩) ⟨trivial, fun _ => hSq⟩ ?_
          rotate_left
          · intro U hU
            go_simp
            all_goals with_reducible rfl
          simp only [Act.put, List.setIfInBounds_toArray, List.set_cons_zero, List.set_cons_succ]
          refine wpAnyX_take (i := 6) (oi := { dst := some 89, op := _, type := _, pos := _, after := _, guard := none }) (v := ?_) rfl (by kernel_rfl) (by kernel_rfl) (by kernel_rfl) (fun _ _ _ h => h) (Or.inl ⟨by rfl, ?_⟩) ⟨trivial, fun _ => hSq⟩ ?_
          rotate_left
          · intro U hU
            have u0 := cell_blk (i := 1) hU.2
            simp only [List.getElem?_toArray, List.getElem?_cons_zero, List.getElem?_cons_succ] at u0
            go_simp
            all_goals with_reducible rfl
          simp only [Act.put, List.setIfInBounds_toArray, List.set_cons_zero, List.set_cons_succ]
          refine wpAnyX_keep (i := 7) (oi := { dst := some 90, op := _, type := _, pos := _, after := _, guard := none }) (v := ?_) rfl (by kernel_rfl) (by kernel_rfl) (by kernel_rfl) (fun _ _ _ h => h) (Or.inl ⟨by rfl, ?_⟩) ⟨trivial, fun _ => hSq⟩ ?_
          rotate_left
          · intro U hU
            go_simp
            all_goals with_reducible rfl
          simp only [Act.put, List.setIfInBounds_toArray, List.set_cons_zero, List.set_cons_succ]
          refine wpAnyX_keep (i := 8) (oi := { dst := some 91, op := _, type := _, pos := _, after := _, guard := none }) (v := ?_) rfl (by kernel_rfl) (by kernel_rfl) (by kernel_rfl) (fun _ _ _ h => h) (Or.inl ⟨by rfl, ?_⟩) ⟨trivial, fun _ => hSq⟩ ?_
          rotate_left
          · intro U hU
            go_simp
            all_goals with_reducible rfl
          simp only [Act.put, List.setIfInBounds_toArray, List.set_cons_zero, List.set_cons_succ]
          refine wpAnyX_keep (i := 9) (oi := { dst := some 92, op := _, type := _, pos := _, after := _, guard := none }) (v := ?_) rfl (by kernel_rfl) (by kernel_rfl) (by kernel_rfl) (fun _ _ _ h => h) (Or.inl ⟨by rfl, ?_⟩) ⟨trivial, fun _ => hSq⟩ ?_
          rotate_left
          · intro U hU
            go_simp
            all_goals with_reducible rfl
          simp only [Act.put, List.setIfInBounds_toArray, List.set_cons_zero, List.set_cons_succ]
          refine (fun (FIN : KeyP (?P9 : Prop)) => ?main9) ⟨?key9⟩
          case main9 =>
            refine wpAnyX_ready (rs := [3, 10]) (by kernel_rfl) (by simp) ?_
            refine AllReadyX.cons (o := { dst := some 86, op := _, type := _, pos := _, after := _, guard := none }) rfl (by rfl) (fun K1 hK1 => ?_) ?_
            · have HK1 := Lib.hid hK1; clear hK1
              have hK1 := HK1.out
              clear HK1
              go_simp
              obtain ⟨wa, hwa⟩ : ∃ q, q = wq.alloc (.cells #[.slice a10 k c10] 40) := ⟨_, rfl⟩
              rw [← hwa]
              have hbwa : Below wq.heap.size wq wa := by rw [hwa]; exact (Below.refl _ _).alloc (Nat.le_refl _) _
              obtain ⟨p3, hp3⟩ : ∃ g, g = wq.heap.size := ⟨_, rfl⟩
              have bp3 : wa.heap[p3]? = some (.cells #[.slice a10 k c10] 40 (0, 0)) := by rw [hwa, hp3]; exact heap_newI rfl
              rw [← hp3]
              clear hwa hp3
              have hJwa := hJd.quiet hbwa
              have hBwa := hBd.trans (hbwa.mono (by have := hBd.size; rw [HBS.out] at *; omega))
              refine hK1 _ _ ⟨trivial, fun _ => hJwa.box⟩ ?_
              clear hK1
              try simp only [Act.put, List.setIfInBounds_toArray, List.set_cons_zero, List.set_cons_succ]
              refine wpAnyX_ready (rs := [4, 10]) (by kernel_rfl) (by simp) ?_
              refine AllReadyX.cons (o := { dst := some 87, op := _, type := _, pos := _, after := _, guard := none }) rfl (by rfl) (fun K1 hK1 => ?_) ?_
              · have HK1 := Lib.hid hK1; clear hK1
                have hbz1 : bs ≤ wa.heap.size := by have := hBwa.size; rw [HBS.out] at *; omega
                refine oper_app (.tmp 84) (.tmp 86) 22 40 rfl Try.underlying22 info40 rfl (by decide) (xs := us) hJwa.on (by rw [hul]; omega) rfl rfl bp3 rfl hbz1 ?_
                intro vn' wb qn gn en
                obtain ⟨an2, cn2, en2, -⟩ := own_form qn
                rw [hul] at en2
                subst en2
                have hSwb : wb.heap[g8]? = some (.cells #[.slice an' s cn', .slice ag' s cg'] 29 (0, 0)) := (gn.block g8 (lt_blk hJwa.box) (fun e => by have := own_ty hJwa.on e.symm hJwa.box; cases this)).trans hJwa.box
                have hBwb := below_own HBS.out hBwa hJwa.on gn
                have ogwb : wb.ownsRow bs 4 1 (.slice ag' s cg') GS.length (GS.map Value.bool) := own_grown hJwa.og hJwa.on (by decide) gn
                refine HK1.out _ _ ⟨trivial, fun _ => hSwb⟩ ?_
                clear HK1
                try simp only [Act.put, List.setIfInBounds_toArray, List.set_cons_zero, List.set_cons_succ]
                refine wpAnyX_keep (i := 12) (oi := { dst := some 95, op := _, type := _, pos := _, after := _, guard := none }) (v := ?_) rfl (by kernel_rfl) (by kernel_rfl) (by kernel_rfl) (fun _ _ _ h => h) (Or.inl ⟨by rfl, ?_⟩) ⟨trivial, fun _ => hSwb⟩ ?_
                rotate_left
                · intro U hU
                  go_simp
                  all_goals with_reducible rfl
                simp only [Act.put, List.setIfInBounds_toArray, List.set_cons_zero, List.set_cons_succ]
                refine wpAnyX_one (i := 10) (o := { dst := some 93, op := _, type := _, pos := _, after := _, guard := none }) (by kernel_rfl) rfl (by rfl) (fun K1 hK1 => ?_)
                have HK1 := Lib.hid hK1; clear hK1
                have hK1 := HK1.out
                clear HK1
                go_simp
                obtain ⟨wc, hwc⟩ : ∃ q, q = wb.alloc (.cells #[.bool (decide (s ≤ Y))] 4) := ⟨_, rfl⟩
                rw [← hwc]
                have hbwc : Below wb.heap.size wb wc := by rw [hwc]; exact (Below.refl _ _).alloc (Nat.le_refl _) _
                obtain ⟨p10, hp10⟩ : ∃ g, g = wb.heap.size := ⟨_, rfl⟩
                have bp10 : wc.heap[p10]? = some (.cells #[.bool (decide (s ≤ Y))] 4 (0, 0)) := by rw [hwc, hp10]; exact heap_newI rfl
                rw [← hp10]
                clear hwc hp10
                have hSwc := blk_keep hSwb hbwc
                have hBwc := hBwb.trans (hbwc.mono (by have := hBwb.size; rw [HBS.out] at *; omega))
                have ogwc := own_same ogwb fun i hi => hbwc.block i (own_lt ogwb hi).2.1
                refine hK1 _ _ ⟨trivial, fun _ => hSwc⟩ ?_
                clear hK1
                try simp only [Act.put, List.setIfInBounds_toArray, List.set_cons_zero, List.set_cons_succ]
                refine wpAnyX_one (i := 11) (o := { dst := some 94, op := _, type := _, pos := _, after := _, guard := none }) (by kernel_rfl) rfl (by rfl) (fun K1 hK1 => ?_)
                have HK1 := Lib.hid hK1; clear hK1
                have hbz3 : bs ≤ wc.heap.size := by have := hBwc.size; rw [HBS.out] at *; omega
                refine oper_app (.tmp 89) (.tmp 93) 23 4 rfl Try.underlying23 info4 rfl (by decide) (xs := GS.map Value.bool) (by rw [List.length_map]; exact ogwc) (by rw [List.length_map, hgl]; omega) rfl rfl bp10 rfl hbz3 ?_
                intro vg' we qg gg eg
                rw [List.length_map] at qg
                obtain ⟨ag2, cg2, eg2, -⟩ := own_form qg
                rw [hgl] at eg2
                subst eg2
                have hBwe := below_own HBS.out hBwc ogwc gg
                have hRG := hJd.rowG (by rw [rowOf_len]; omega) hbwa qn gn en hbwc qg gg
                have hfin : RJ bs g8 (fun i => Z i ∨ (Value.slice a10 k c10).ownBlock = some i) ((we.setCell ⟨g8, 0, none⟩ (.slice an2 (s + 1) cn2)).setCell ⟨g8, 1, none⟩ (.slice ag2 (s + 1) cg2)) (.slice none 0 0) (.slice an2 (s + 1) cn2) (.slice ag2 (s + 1) cg2) [] (us ++ [.slice a10 k c10]) (NX ++ [rowOf k FF s]) (GS ++ [(decide (s ≤ Y))]) ∧ we.heap[g8]? = some (.cells #[.slice an' s cn', .slice ag' s cg'] 29 (0, 0)) ∧ Below bs w1 we := ⟨hRG.1, hRG.2, hBwe⟩
                have hS4 := hRG.2
                refine HK1.out _ _ ⟨trivial, fun _ => hS4⟩ ?_
                clear HK1
                try simp only [Act.put, List.setIfInBounds_toArray, List.set_cons_zero, List.set_cons_succ]
                clear hRG hS4 hBwe hbz1 hbz3 eg gg qg ogwc hBwc hSwc bp10 hbwc ogwb hBwb hSwb en gn qn hJwa hBwa bp3 hbwa
                revert hfin; revert we; revert cg2; revert ag2; revert cn2; revert an2; revert p10; revert p3
                exact FIN.out
              refine AllReadyX.cons (o := { dst := some 93, op := _, type := _, pos := _, after := _, guard := none }) rfl (by rfl) (fun K1 hK1 => ?_) AllReadyX.nil
              have HK1 := Lib.hid hK1; clear hK1
              have hK1 := HK1.out
              clear HK1
              go_simp
              obtain ⟨wc, hwc⟩ : ∃ q, q = wa.alloc (.cells #[.bool (decide (s ≤ Y))] 4) := ⟨_, rfl⟩
              rw [← hwc]
              have hbwc : Below wa.heap.size wa wc := by rw [hwc]; exact (Below.refl _ _).alloc (Nat.le_refl _) _
              obtain ⟨p10, hp10⟩ : ∃ g, g = wa.heap.size := ⟨_, rfl⟩
              have bp10 : wc.heap[p10]? = some (.cells #[.bool (decide (s ≤ Y))] 4 (0, 0)) := by rw [hwc, hp10]; exact heap_newI rfl
              rw [← hp10]
              clear hwc hp10
              have hJwc := hJwa.quiet hbwc
              have hBwc := hBwa.trans (hbwc.mono (by have := hBwa.size; rw [HBS.out] at *; omega))
              refine hK1 _ _ ⟨trivial, fun _ => hJwc.box⟩ ?_
              clear hK1
              try simp only [Act.put, List.setIfInBounds_toArray, List.set_cons_zero, List.set_cons_succ]
              refine wpAnyX_one (i := 4) (o := { dst := some 87, op := _, type := _, pos := _, after := _, guard := none }) (by kernel_rfl) rfl (by rfl) (fun K1 hK1 => ?_)
              have HK1 := Lib.hid hK1; clear hK1
              have hbz1 : bs ≤ wc.heap.size := by have := hBwc.size; rw [HBS.out] at *; omega
              refine oper_app (.tmp 84) (.tmp 86) 22 40 rfl Try.underlying22 info40 rfl (by decide) (xs := us) hJwc.on (by rw [hul]; omega) rfl rfl (blk_keep bp3 hbwc) rfl hbz1 ?_
              intro vn' wb qn gn en
              obtain ⟨an2, cn2, en2, -⟩ := own_form qn
              rw [hul] at en2
              subst en2
              have hSwb : wb.heap[g8]? = some (.cells #[.slice an' s cn', .slice ag' s cg'] 29 (0, 0)) := (gn.block g8 (lt_blk hJwc.box) (fun e => by have := own_ty hJwc.on e.symm hJwc.box; cases this)).trans hJwc.box
              have hBwb := below_own HBS.out hBwc hJwc.on gn
              have ogwb : wb.ownsRow bs 4 1 (.slice ag' s cg') GS.length (GS.map Value.bool) := own_grown hJwc.og hJwc.on (by decide) gn
              refine HK1.out _ _ ⟨trivial, fun _ => hSwb⟩ ?_
              clear HK1
              try simp only [Act.put, List.setIfInBounds_toArray, List.set_cons_zero, List.set_cons_succ]
              refine wpAnyX_keep (i := 12) (oi := { dst := some 95, op := _, type := _, pos := _, after := _, guard := none }) (v := ?_) rfl (by kernel_rfl) (by kernel_rfl) (by kernel_rfl) (fun _ _ _ h => h) (Or.inl ⟨by rfl, ?_⟩) ⟨trivial, fun _ => hSwb⟩ ?_
              rotate_left
              · intro U hU
                go_simp
                all_goals with_reducible rfl
              simp only [Act.put, List.setIfInBounds_toArray, List.set_cons_zero, List.set_cons_succ]
              have bp10b := blk_grown hJwc.on gn bp10 (by decide)
              refine wpAnyX_one (i := 11) (o := { dst := some 94, op := _, type := _, pos := _, after := _, guard := none }) (by kernel_rfl) rfl (by rfl) (fun K1 hK1 => ?_)
              have HK1 := Lib.hid hK1; clear hK1
              have hbz3 : bs ≤ wb.heap.size := by have := hBwb.size; rw [HBS.out] at *; omega
              refine oper_app (.tmp 89) (.tmp 93) 23 4 rfl Try.underlying23 info4 rfl (by decide) (xs := GS.map Value.bool) (by rw [List.length_map]; exact ogwb) (by rw [List.length_map, hgl]; omega) rfl rfl bp10b rfl hbz3 ?_
              intro vg' we qg gg eg
              rw [List.length_map] at qg
              obtain ⟨ag2, cg2, eg2, -⟩ := own_form qg
              rw [hgl] at eg2
              subst eg2
              have hBwe := below_own HBS.out hBwb ogwb gg
              have hRG := hJd.rowG (by rw [rowOf_len]; omega) (btr hbwa hbwc (Nat.le_refl _)) qn gn en (Below.refl _ _) qg gg
              have hfin : RJ bs g8 (fun i => Z i ∨ (Value.slice a10 k c10).ownBlock = some i) ((we.setCell ⟨g8, 0, none⟩ (.slice an2 (s + 1) cn2)).setCell ⟨g8, 1, none⟩ (.slice ag2 (s + 1) cg2)) (.slice none 0 0) (.slice an2 (s + 1) cn2) (.slice ag2 (s + 1) cg2) [] (us ++ [.slice a10 k c10]) (NX ++ [rowOf k FF s]) (GS ++ [(decide (s ≤ Y))]) ∧ we.heap[g8]? = some (.cells #[.slice an' s cn', .slice ag' s cg'] 29 (0, 0)) ∧ Below bs w1 we := ⟨hRG.1, hRG.2, hBwe⟩
              have hS4 := hRG.2
              refine HK1.out _ _ ⟨trivial, fun _ => hS4⟩ ?_
              clear HK1
              try simp only [Act.put, List.setIfInBounds_toArray, List.set_cons_zero, List.set_cons_succ]
              exact FIN.out p3 p10 an2 cn2 ag2 cg2 we hfin
            refine AllReadyX.cons (o := { dst := some 93, op := _, type := _, pos := _, after := _, guard := none }) rfl (by rfl) (fun K1 hK1 => ?_) AllReadyX.nil
            have HK1 := Lib.hid hK1; clear hK1
            have hK1 := HK1.out
            clear HK1
            go_simp
            obtain ⟨wa, hwa⟩ : ∃ q, q = wq.alloc (.cells #[.bool (decide (s ≤ Y))] 4) := ⟨_, rfl⟩
            rw [← hwa]
            have hbwa : Below wq.heap.size wq wa := by rw [hwa]; exact (Below.refl _ _).alloc (Nat.le_refl _) _
            obtain ⟨p10, hp10⟩ : ∃ g, g = wq.heap.size := ⟨_, rfl⟩
            have bp10 : wa.heap[p10]? = some (.cells #[.bool (decide (s ≤ Y))] 4 (0, 0)) := by rw [hwa, hp10]; exact heap_newI rfl
            rw [← hp10]
            clear hwa hp10
            have hJwa := hJd.quiet hbwa
            have hBwa := hBd.trans (hbwa.mono (by have := hBd.size; rw [HBS.out] at *; omega))
            refine hK1 _ _ ⟨trivial, fun _ => hJwa.box⟩ ?_
            clear hK1
            try simp only [Act.put, List.setIfInBounds_toArray, List.set_cons_zero, List.set_cons_succ]
            refine wpAnyX_one (i := 3) (o := { dst := some 86, op := _, type := _, pos := _, after := _, guard := none }) (by kernel_rfl) rfl (by rfl) (fun K1 hK1 => ?_)
            have HK1 := Lib.hid hK1; clear hK1
            have hK1 := HK1.out
            clear HK1
            go_simp
            obtain ⟨wc, hwc⟩ : ∃ q, q = wa.alloc (.cells #[.slice a10 k c10] 40) := ⟨_, rfl⟩
            rw [← hwc]
            have hbwc : Below wa.heap.size wa wc := by rw [hwc]; exact (Below.refl _ _).alloc (Nat.le_refl _) _
            obtain ⟨p3, hp3⟩ : ∃ g, g = wa.heap.size := ⟨_, rfl⟩
            have bp3 : wc.heap[p3]? = some (.cells #[.slice a10 k c10] 40 (0, 0)) := by rw [hwc, hp3]; exact heap_newI rfl
            rw [← hp3]
            clear hwc hp3
            have hJwc := hJwa.quiet hbwc
            have hBwc := hBwa.trans (hbwc.mono (by have := hBwa.size; rw [HBS.out] at *; omega))
            have bp10c := blk_keep bp10 hbwc
            refine hK1 _ _ ⟨trivial, fun _ => hJwc.box⟩ ?_
            clear hK1
            try simp only [Act.put, List.setIfInBounds_toArray, List.set_cons_zero, List.set_cons_succ]
            refine wpAnyX_one (i := 4) (o := { dst := some 87, op := _, type := _, pos := _, after := _, guard := none }) (by kernel_rfl) rfl (by rfl) (fun K1 hK1 => ?_)
            have HK1 := Lib.hid hK1; clear hK1
            have hbz1 : bs ≤ wc.heap.size := by have := hBwc.size; rw [HBS.out] at *; omega
            refine oper_app (.tmp 84) (.tmp 86) 22 40 rfl Try.underlying22 info40 rfl (by decide) (xs := us) hJwc.on (by rw [hul]; omega) rfl rfl bp3 rfl hbz1 ?_
            intro vn' wb qn gn en
            obtain ⟨an2, cn2, en2, -⟩ := own_form qn
            rw [hul] at en2
            subst en2
            have hSwb : wb.heap[g8]? = some (.cells #[.slice an' s cn', .slice ag' s cg'] 29 (0, 0)) := (gn.block g8 (lt_blk hJwc.box) (fun e => by have := own_ty hJwc.on e.symm hJwc.box; cases this)).trans hJwc.box
            have hBwb := below_own HBS.out hBwc hJwc.on gn
            have ogwb : wb.ownsRow bs 4 1 (.slice ag' s cg') GS.length (GS.map Value.bool) := own_grown hJwc.og hJwc.on (by decide) gn
            refine HK1.out _ _ ⟨trivial, fun _ => hSwb⟩ ?_
            clear HK1
            try simp only [Act.put, List.setIfInBounds_toArray, List.set_cons_zero, List.set_cons_succ]
            refine wpAnyX_keep (i := 12) (oi := { dst := some 95, op := _, type := _, pos := _, after := _, guard := none }) (v := ?_) rfl (by kernel_rfl) (by kernel_rfl) (by kernel_rfl) (fun _ _ _ h => h) (Or.inl ⟨by rfl, ?_⟩) ⟨trivial, fun _ => hSwb⟩ ?_
            rotate_left
            · intro U hU
              go_simp
              all_goals with_reducible rfl
            simp only [Act.put, List.setIfInBounds_toArray, List.set_cons_zero, List.set_cons_succ]
            have bp10b := blk_grown hJwc.on gn bp10c (by decide)
            refine wpAnyX_one (i := 11) (o := { dst := some 94, op := _, type := _, pos := _, after := _, guard := none }) (by kernel_rfl) rfl (by rfl) (fun K1 hK1 => ?_)
            have HK1 := Lib.hid hK1; clear hK1
            have hbz3 : bs ≤ wb.heap.size := by have := hBwb.size; rw [HBS.out] at *; omega
            refine oper_app (.tmp 89) (.tmp 93) 23 4 rfl Try.underlying23 info4 rfl (by decide) (xs := GS.map Value.bool) (by rw [List.length_map]; exact ogwb) (by rw [List.length_map, hgl]; omega) rfl rfl bp10b rfl hbz3 ?_
            intro vg' we qg gg eg
            rw [List.length_map] at qg
            obtain ⟨ag2, cg2, eg2, -⟩ := own_form qg
            rw [hgl] at eg2
            subst eg2
            have hBwe := below_own HBS.out hBwb ogwb gg
            have hRG := hJd.rowG (by rw [rowOf_len]; omega) (btr hbwa hbwc (Nat.le_refl _)) qn gn en (Below.refl _ _) qg gg
            have hfin : RJ bs g8 (fun i => Z i ∨ (Value.slice a10 k c10).ownBlock = some i) ((we.setCell ⟨g8, 0, none⟩ (.slice an2 (s + 1) cn2)).setCell ⟨g8, 1, none⟩ (.slice ag2 (s + 1) cg2)) (.slice none 0 0) (.slice an2 (s + 1) cn2) (.slice ag2 (s + 1) cg2) [] (us ++ [.slice a10 k c10]) (NX ++ [rowOf k FF s]) (GS ++ [(decide (s ≤ Y))]) ∧ we.heap[g8]? = some (.cells #[.slice an' s cn', .slice ag' s cg'] 29 (0, 0)) ∧ Below bs w1 we := ⟨hRG.1, hRG.2, hBwe⟩
            have hS4 := hRG.2
            refine HK1.out _ _ ⟨trivial, fun _ => hS4⟩ ?_
            clear HK1
            try simp only [Act.put, List.setIfInBounds_toArray, List.set_cons_zero, List.set_cons_succ]
            exact FIN.out p3 p10 an2 cn2 ag2 cg2 we hfin
          case key9 =>
            intro p3 p10 an2 cn2 ag2 cg2 we hfin
            have y0 := cell_blk (i := 0) hfin.2.1
            have f0 := free_blk (i := 0) hfin.2.1
            simp only [List.getElem?_toArray, List.getElem?_cons_zero] at y0
            refine wpAnyX_one (i := 13) (o := { dst := none, op := _, type := _, pos := _, after := _, guard := none }) (by kernel_rfl) rfl (by rfl) (fun K1 hK1 => ?_)
            have HK1 := Lib.hid hK1; clear hK1
            go_simp
            have hb1' := heap_set_blk (i := 0) (v := .slice an2 (s + 1) cn2) hfin.2.1
            refine HK1.out _ _ ⟨trivial, fun h => by simp at h⟩ ?_
            clear HK1
            try simp only [Act.put, List.setIfInBounds_toArray, List.set_cons_zero, List.set_cons_succ]
            refine wpAnyX_keep (i := 14) (oi := { dst := some 96, op := _, type := _, pos := _, after := _, guard := none }) (v := ?_) rfl (by kernel_rfl) (by kernel_rfl) (by kernel_rfl) (fun _ _ _ h => h) (Or.inl ⟨by rfl, ?_⟩) ⟨trivial, fun h => by simp at h⟩ ?_
            rotate_left
            · intro U hU
              go_simp
              all_goals with_reducible rfl
            simp only [Act.put, List.setIfInBounds_toArray, List.set_cons_zero, List.set_cons_succ]
            have y1 := cell_blk (i := 1) hb1'
            have f1 := free_blk (i := 1) hb1'
            simp only [List.getElem?_toArray, List.setIfInBounds_toArray, List.set_cons_zero, List.getElem?_cons_zero, List.getElem?_cons_succ] at y1
            refine wpAnyX_one (i := 15) (o := { dst := none, op := _, type := _, pos := _, after := _, guard := none }) (by kernel_rfl) rfl (by rfl) (fun K1 hK1 => ?_)
            have HK1 := Lib.hid hK1; clear hK1
            go_simp
            refine HK1.out _ _ ⟨trivial, fun h => by simp at h⟩ ?_
            clear HK1
            try simp only [Act.put, List.setIfInBounds_toArray, List.set_cons_zero, List.set_cons_succ]
            refine wpAnyX_done (by kernel_rfl) ?_ _
            obtain ⟨hR, -, hB4⟩ := hfin
            have hBf : Below bs w1 ((we.setCell ⟨g8, 0, none⟩ (.slice an2 (s + 1) cn2)).setCell ⟨g8, 1, none⟩ (.slice ag2 (s + 1) cg2)) := (hB4.setCell (p := ⟨g8, 0, none⟩) hbsg _).setCell (p := ⟨g8, 1, none⟩) hbsg _
            have hnx : NX ++ [rowOf k FF s] = (lawOf (s + 1) k FF GF).nx := by rw [lawOf_succ_nx, ← HNG.out.1]
            have hgd : GS ++ [decide (s ≤ Y)] = (lawOf (s + 1) k FF GF).gd := by rw [lawOf_succ_gd, ← HNG.out.2, ← HCD.out, hcdv]
            rw [hnx, hgd] at hR
            have HF := Lib.hid (And.intro hR hBf)
            clear hR hB4 hBf hnx hgd hSq hJd hBd hJv hBv hcdv
            go_wp2
            exact ⟨⟨s + 1, _, _, _, _, by omega, by go_num, HF⟩, by simp only [intOf]; omega⟩
    · have HSE : Hid (s = Y + 2) := Lib.hid (by omega)
      have hsi : ¬ (s : Int) ≤ (Y : Int) + 1 := by omega
      obtain ⟨hJ, hB⟩ := HJ1.out
      rw [HSE.out] at hJ
      have hul : us.length = Y + 2 := by rw [hJ.rn.1, (lawOf_len (Y + 2) k FF GF).1]
      have hX := hJ.law (by rw [hul]; omega) (by rw [(lawOf_len (Y + 2) k FF GF).2]; omega)
      have hfit : (lawOf (Y + 2) k FF GF).Fit := lawOf_fit (by omega) (by omega) (by omega) (by omega) fun s c hsq _ => by rw [HFF.out.1]; exact restF_bd crop Y s c (by assumption)
      have h60 := rtable_any (l := lawOf (Y + 2) k FF GF) hX.law hfit
      rw [lawOf_k FF GF (by omega), HFF.out.1, HFF.out.2, rest_fut (by omega) crop Y] at h60
      have H60 := Lib.hid h60
      have HXB := Lib.hid hX.blk
      have HB := Lib.hid hB
      have HC := Lib.hid ((hB.block g6 (by rw [HG8.out.1]; omega)).trans HC6.out)
      clear hJ hB hul hX hfit h60 HJ1
      go_wp2_with (first | (refine wpList_load_blk rfl 29 (.tmp 8) rfl _ rfl HXB.out Try.underlying29 rfl size29 rfl ?_) | (go_at_call 60; refine H60.out.mono ?_; rintro e w3 ⟨tn, tg, ts, rfl, hb3, hT⟩; have HT := Lib.hid hT; have HB3 := Lib.hid hb3; have HTL := Lib.hid (hT.law (Nat.le_refl _) fun _ _ _ => rfl); clear hb3 hT) | (refine wpList_store_blk rfl 29 _ _ rfl _ rfl rfl (heap_newI rfl) size29 rfl rfl HTL.out.one ?_; refine cutme ?_))
      refine ⟨?_⟩
      generalize hw4 : World.putObj _ _ _ = w4
      obtain ⟨hx4, hb4⟩ := storedT HTL.out hw4
      obtain ⟨g5, hg5⟩ : ∃ g, g = w3.heap.size := ⟨_, rfl⟩
      rw [← hg5] at hx4 ⊢
      have HX4 := Lib.hid hx4
      have HB4 := Lib.hid hb4
      have HC4 := Lib.hid (blk_keep (blk_keep HC.out HB3.out) hb4)
      clear hx4 hb4 hw4 hg5
      go_wp2_with (first | (refine wpList_load_blk rfl 29 (.tmp 12) rfl _ rfl HX4.out.blk Try.underlying29 rfl size29 rfl ?_) | (refine wpList_store_blk rfl 29 _ _ rfl _ rfl rfl HC4.out size29 rfl rfl HX4.out.law.one ?_))
      refine bodyPost_ret (results_agg_tmp rfl _ _ g6 rfl (World.putObj_heap_same (lt_blk HC4.out)) Try.underlying29 rfl size29 rfl) rfl ?_
      have hz := HG8.out.1
      have hwo := HB.out.size
      have hs3 := HB3.out.size
      have hs4 := HB4.out.size
      refine ⟨_, _, by rw [HE0.out]; rfl, ?_, ?_⟩
      · rw [HE0.out]
        refine HT.out.law (by rw [World.putObj_size]; exact hs4) (fun i hi hi' => ?_)
        have h1 := HB1.out.size
        have h2 := HBS.out
        rw [World.putObj_heap_other (by omega)]
        exact HB4.out.block i hi'
      · have h1 : Below g6 w wo := HB1.out.trans (HB.out.mono (by omega))
        have h2 := HB1.out.size
        have h3 := HBS.out
        exact below_putObj ((h1.trans (HB3.out.mono (by omega))).trans (HB4.out.mono (by omega))) (Nat.le_refl _)
end Ytnjgglnpmhjmiaa
end Go.Proofs
