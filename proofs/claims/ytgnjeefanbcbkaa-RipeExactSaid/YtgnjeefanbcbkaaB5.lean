/- Fields: possible fields, and what is known of them. -/
import Derived.Test.YtgnjeefanbcbkaaB2
import Derived.Test.YtgnjeefanbcbkaaB4
open Go Go.RowKit Go.YtgnjeefanbcbkaaIt
namespace Go.Proofs
namespace Ytgnjeefanbcbkaa
/-- No three weeks clash. -/
def noB (L H : Nat → Int) (n : Nat) : Bool := (List.range n).all fun i => (List.range n).all fun j => (List.range n).all fun k => !hol L H i j k
theorem noB_true {L H : Nat → Int} {n : Nat} : noB L H n = true ↔ ∀ i j k : Nat, i < n → j < n → k < n → hol L H i j k = false := by
  simp only [noB, List.all_eq_true, List.mem_range, Bool.not_eq_true']
  exact ⟨fun h i j k h1 h2 h3 => h i h1 j h2 k h3, fun h i h1 j h2 k h3 => h i j k h1 h2 h3⟩
/-- What is wrong with a field, clashes too. -/
def posE (n lo hi : Int) (ss : List Smp) : Int := if chkE n lo hi ss ≠ 0 then chkE n lo hi ss else if noB (lowAt lo ss) (highAt hi ss) n.toNat = true then 0 else 12
def PosR (n lo hi : Int) (ss : List Smp) (W : World) (p : Value) : Prop :=
  (posE n lo hi ss = 0 ∧ ∃ m b : Nat, n = m ∧ Val m lo hi ss ∧ noB (lowAt lo ss) (highAt hi ss) m = true ∧ p = .pointer (some ⟨b, 0, none⟩) ∧ Yr W b m (lowAt lo ss) (highAt hi ss)) ∨ (posE n lo hi ss ≠ 0 ∧ p = .pointer none)
theorem pos_chk {n lo hi : Int} {ss : List Smp} (h : posE n lo hi ss = 0) : chkE n lo hi ss = 0 := by
  unfold posE at h
  by_cases h1 : chkE n lo hi ss ≠ 0
  · rw [if_pos h1] at h; exact absurd h h1
  · simpa using h1
set_option maxRecDepth 100000 in
set_option maxHeartbeats 4000000 in
theorem possible_any (n lo hi : Int) (v : Value) (ss : List Smp) (w : World) (hv : SlS w v ss) :
    Calls Try.prog 40 #[.agg #[.int .i64 n, .int .i64 lo, .int .i64 hi, v]] w fun e w' => ∃ p, e = .returned (.tuple #[p, .int .i64 (posE n lo hi ss)]) ∧ PosR n lo hi ss w' p ∧ Below w.heap.size w w' := by
  have HV := Lib.hid hv
  obtain ⟨ad, cap, rfl, -, -, -⟩ := hv
  go_enter Try.func40, Try.ntmps40
  refine wp_seq_k (fun K hK => ?_)
  have HK := Lib.hid hK; clear hK
  go_wp2
  refine HK.out _ _ ?_; clear HK K
  generalize hw1 : World.alloc _ _ = w1
  obtain ⟨b1, hB, hs1⟩ := blk1 hw1
  clear hw1
  have h18 := check_any n lo hi _ ss w1 (HV.out.below hB (Nat.le_refl _))
  obtain ⟨E, hE⟩ : ∃ E, E = chkE n lo hi ss := ⟨_, rfl⟩
  rw [← hE] at h18
  have HE := Lib.hid hE
  have H18 := Lib.hid h18
  clear hE h18
  by_cases h0 : E = 0
  · obtain ⟨m, rfl, hV⟩ := chk_ok (HE.out.symm.trans h0)
    subst h0
    have HVAL := Lib.hid hV
    have h53 := fun W (hW : Below w.heap.size w W) => year_any m lo hi (.slice ad ss.length cap) ss W HVAL.out (HV.out.below hW (Nat.le_refl _))
    have H53 := Lib.hid h53
    clear hV h53
    refine wp_seq_k (fun K hK => ?_)
    have HK := Lib.hid hK; clear hK
    go_wp2_with (first | (refine wpList_load_blk rfl 26 _ rfl _ rfl b1 Try.underlying26 rfl size26 rfl ?_) | (go_at_call 18; refine H18.out.mono ?_; rintro e w2 ⟨rfl, hb2⟩))
    refine HK.out _ _ ?_; clear HK K H18
    replace b1 := blk_keep b1 hb2
    replace hB := btr hB hb2 (Nat.le_refl _)
    have h53 := H53.out w2 hB
    clear H53 hs1
    refine wp_seq_k (fun K hK => ?_)
    have HK := Lib.hid hK; clear hK
    go_wp2_with (first | (refine wpList_load_blk rfl 26 _ rfl _ rfl b1 Try.underlying26 rfl size26 rfl ?_) | (go_at_call 53; refine h53.mono ?_; rintro e w3 ⟨b, rfl, hyr, hb3, hlb⟩))
    refine HK.out _ _ ?_; clear HK K h53
    have h54 := clash_any HVAL.out.bds hyr
    refine wp_seq_k (fun K' hK' => ?_)
    have HK' := Lib.hid hK'; clear hK'
    refine wp_seq_k (fun K hK => ?_)
    have HK := Lib.hid hK; clear hK
    go_wp2_with (go_at_call 54; refine h54.mono ?_; rintro e w4 ⟨v4, t4, rfl, hcl, hb4⟩)
    refine HK.out _ _ ?_; clear HK K h54
    have hyr4 := hyr.keep hb4
    have hB4 := btr (btr hB hb3 (Nat.le_refl _)) hb4 (Nat.le_refl _)
    have hpe : posE m lo hi ss = if noB (lowAt lo ss) (highAt hi ss) m = true then 0 else 12 := by
      unfold posE; rw [if_neg (by rw [← HE.out]; simp)]; rfl
    have HPE := Lib.hid hpe
    clear hpe hyr
    cases t4
    · rcases hcl with ⟨h, -⟩ | ⟨-, -, hno⟩
      · cases h
      · have hnb := noB_true.2 hno
        have hp0 : posE m lo hi ss = 0 := by rw [HPE.out, if_pos hnb]
        have HP0 := Lib.hid hp0
        have HNB := Lib.hid hnb
        clear hno hnb hp0
        go_wp2
        refine HK'.out _ _ ?_
        go_wp2
        go_ret2
        exact ⟨_, by rw [HP0.out]; rfl, .inl ⟨HP0.out, m, b, rfl, HVAL.out, HNB.out, rfl, hyr4⟩, hB4⟩
    · rcases hcl with ⟨-, i, j, k, q1, q2, q3, hh, -⟩ | ⟨h, -⟩
      · have hnb : ¬ (noB (lowAt lo ss) (highAt hi ss) m = true) := fun h => by
          have := noB_true.1 h i j k q1 q2 q3
          rw [hh] at this; cases this
        have hp0 : posE m lo hi ss = 12 := by rw [HPE.out, if_neg hnb]
        rw [hp0]
        have HP0 := Lib.hid hp0
        clear hnb hp0 hh q1 q2 q3
        go_wp2
        go_ret2
        exact ⟨_, rfl, .inr ⟨by rw [HP0.out]; decide, rfl⟩, hB4⟩
      · cases h
  · have hne : (E != 0) = true := by simpa using h0
    have hpe : posE n lo hi ss = E := by unfold posE; rw [← HE.out, if_pos h0]
    rw [hpe]
    have HPE := Lib.hid hpe
    have H0 := Lib.hid h0
    clear hpe h0
    go_wp2_with (first | (refine wpList_load_blk rfl 26 _ rfl _ rfl b1 Try.underlying26 rfl size26 rfl ?_) | (go_at_call 18; refine H18.out.mono ?_; rintro e w2 ⟨rfl, hb2⟩))
    go_ret2
    exact ⟨_, rfl, .inr ⟨by rw [HPE.out]; exact H0.out, rfl⟩, btr hB hb2 (Nat.le_refl _)⟩
/-- Spans. -/
def encR (x : Int × Int) : List Value := [.int .i64 x.1, .int .i64 x.2]
theorem encR_len (x : Int × Int) : (encR x).length = 2 := rfl
abbrev SlR (w : World) (v : Value) (xs : List (Int × Int)) : Prop := SlG encR 2 w v xs
def spanAt (L H : Nat → Int) (n w : Nat) : Int × Int := ((lowerF L n w).floor, (upperF L H n w).ceil)
def knownL (n lo hi : Int) (ss : List Smp) : List (Int × Int) := if posE n lo hi ss = 0 then (List.range n.toNat).map (spanAt (lowAt lo ss) (highAt hi ss) n.toNat) else []
theorem info23 : (Try.prog.info? 23).map (fun i => (i.zero, i.size, i.bytes)) = some (some (.agg #[.int .i64 0, .int .i64 0]), 2, 16) := by kernel_rfl
set_option maxRecDepth 100000 in
set_option maxHeartbeats 4000000 in
theorem known_any (n lo hi : Int) (v : Value) (ss : List Smp) (w : World) (hv : SlS w v ss) :
    Calls Try.prog 14 #[.agg #[.int .i64 n, .int .i64 lo, .int .i64 hi, v]] w fun e w' => ∃ p, e = .returned (.tuple #[p, .int .i64 (posE n lo hi ss)]) ∧ SlR w' p (knownL n lo hi ss) ∧ Below w.heap.size w w' := by
  have HV := Lib.hid hv
  obtain ⟨ad, cap, rfl, -, -, -⟩ := hv
  obtain ⟨i23, hi23, hz1, hz2, hz3⟩ := info_parts info23
  have HI := Lib.hid (And.intro hi23 (And.intro hz1 (And.intro hz2 hz3)))
  clear hi23 hz1 hz2 hz3
  go_enter Try.func14, Try.ntmps14
  refine wp_seq_k (fun K hK => ?_)
  have HK := Lib.hid hK; clear hK
  go_wp2
  refine HK.out _ _ ?_; clear HK K
  generalize hw1 : World.alloc _ _ = w1
  obtain ⟨b1, hB, hs1⟩ := blk1 hw1
  clear hw1
  have h40 := possible_any n lo hi _ ss w1 (HV.out.below hB (Nat.le_refl _))
  obtain ⟨E, hE⟩ : ∃ E, E = posE n lo hi ss := ⟨_, rfl⟩
  rw [← hE] at h40
  have HE := Lib.hid hE
  have H40 := Lib.hid h40
  clear hE h40
  by_cases h0 : E = 0
  · subst h0
    refine wp_seq_k (fun K hK => ?_)
    have HK := Lib.hid hK; clear hK
    go_wp2_with (first | (refine wpList_load_blk rfl 26 _ rfl _ rfl b1 Try.underlying26 rfl size26 rfl ?_) | (go_at_call 40; refine H40.out.mono ?_; rintro e w2 ⟨p, rfl, hpr, hb2⟩))
    refine HK.out _ _ ?_; clear HK K H40
    replace b1 := blk_keep b1 hb2
    replace hB := btr hB hb2 (Nat.le_refl _)
    rcases hpr with ⟨-, m, b, rfl, hV, -, rfl, hyr⟩ | ⟨h, -⟩
    · have HVAL := Lib.hid hV
      have hn30 := hV.n30
      have HB := Lib.hid hV.bds
      have hkl : knownL m lo hi ss = (List.range m).map (spanAt (lowAt lo ss) (highAt hi ss) m) := by unfold knownL; rw [if_pos HE.out.symm]; rfl
      have HKL := Lib.hid hkl
      clear hkl hV hb2 hs1
      have c0 := cell_blk (i := 0) b1
      simp only [List.getElem?_toArray, List.getElem?_cons_zero] at c0
      go_wp2
      clear c0
      go_loopw [6, 18] (fun q i wr => ∃ k : Nat, k ≤ m ∧ i = .int .i64 k ∧ wr.ownsRow w2.heap.size 23 2 q k (((List.range k).map (spanAt (lowAt lo ss) (highAt hi ss) m)).flatMap encR) ∧ Below w2.heap.size w2 wr) (fun _ i _ => m - (intOf i).toNat)
      case atStart => exact ⟨0, Nat.zero_le _, rfl, World.ownsRow_nil _ _ _ _, Below.refl _ _⟩
      case round =>
        obtain ⟨k, hk, rfl, ro, hBk⟩ := hrel
        obtain ⟨aq, cq, rfl⟩ := form_of ro
        by_cases hkm : k < m
        · have hki : (k : Int) < (m : Int) := by omega
          have h41 := fun W (hW : Below w2.heap.size w2 W) => lower_any HB.out hkm (hyr.keep hW)
          have h43 := fun W (hW : Below w2.heap.size w2 W) => upper_any HB.out hkm (hyr.keep hW)
          have hl := toBig (lower_bd HB.out hkm)
          have hu := toBig (upper_bd HB.out hkm)
          have hsp : spanAt (lowAt lo ss) (highAt hi ss) m k = ((lowerF (lowAt lo ss) m k).floor, (upperF (lowAt lo ss) (highAt hi ss) m k).ceil) := rfl
          generalize lowerF (lowAt lo ss) m k = zl at *
          generalize upperF (lowAt lo ss) (highAt hi ss) m k = zu at *
          have h42 := fun W => floor_any zl W hl
          have h44 := fun W => ceil_any zu W hu
          generalize zl.floor = fl at *
          generalize zu.ceil = cu at *
          have e9 : ((List.range (k + 1)).map (spanAt (lowAt lo ss) (highAt hi ss) m)).flatMap encR = (((List.range k).map (spanAt (lowAt lo ss) (highAt hi ss) m)).flatMap encR) ++ [.int .i64 fl, .int .i64 cu] := by
            rw [List.range_succ, List.map_append, List.flatMap_append]; simp [encR, hsp]
          have HE9 := Lib.hid e9
          have H41 := Lib.hid h41
          have H42 := Lib.hid h42
          have H43 := Lib.hid h43
          have H44 := Lib.hid h44
          clear e9 h41 h42 h43 h44 hl hu hsp
          go_wp2_with (first | (go_at_call 41; refine (H41.out _ hBk).mono ?_; rintro e w3 ⟨rfl, hb3⟩; have hB3 := btr hBk hb3 (Nat.le_refl _)) | (go_at_call 42; refine (H42.out _).mono ?_; rintro e w4 ⟨rfl, hb4⟩; have hB4 := btr hB3 hb4 (Nat.le_refl _)) | (go_at_call 43; refine (H43.out _ hB4).mono ?_; rintro e w5 ⟨rfl, hb5⟩; have hB5 := btr hB4 hb5 (Nat.le_refl _)) | (go_at_call 44; refine (H44.out _).mono ?_; rintro e w6 ⟨rfl, hb6⟩; have hB6 := btr hB5 hb6 (Nat.le_refl _); have hbr := (hb3.trans (hb4.mono hb3.size)).trans ((hb5.mono (Nat.le_trans hb3.size hb4.size)).trans (hb6.mono (Nat.le_trans (Nat.le_trans hb3.size hb4.size) hb5.size))); have ro6 := row_below ro hbr; have hz6 := hB6.size) |
            (at_builtin; refine wpList_append_own _ rfl _ _ 28 rfl w2.heap.size 23 i23 (.agg #[.int .i64 0, .int .i64 0]) 2 16 Try.underlying28 HI.out.1 HI.out.2.1 HI.out.2.2.1 HI.out.2.2.2 rfl (by decide) _ _ _ rfl (ro6.alloc _) ⟨w6.heap.size, 0, none⟩ 1 1 [.int .i64 fl, .int .i64 cu] rfl rfl (cell_newL rfl) (by intro u hu; simp at hu; rcases hu with rfl | rfl <;> rfl) (Nat.le_trans (by omega : k + 1 ≤ 200) (by decide)) (by omega) (by rw [World.size_alloc]; omega) ?_; intro v' w7 r1 r2 _))
          obtain ⟨hk7, hs7, ee1, ee2, ee3⟩ := append_same1 ro6 r2
          have hB7 : Below w2.heap.size w2 w7 := ⟨ee1.trans hB6.os, ee2.trans hB6.tape, ee3.trans hB6.output, by omega, fun b hb => (hk7 b (by omega) (fun e => by have := (ro6.lt _ e).1; omega)).trans (hB6.block b hb)⟩
          refine ⟨⟨k + 1, by omega, by go_num, ?_, hB7⟩, by simp [intOf]; omega⟩
          rw [HE9.out]
          exact r1
        · have hki : ¬ ((k : Int) < (m : Int)) := by omega
          have hkk : k = m := by omega
          subst hkk
          have hso := slG_own encR_len ro (by simp) (by simp; omega)
          rw [← HKL.out] at hso
          have HSO := Lib.hid hso
          clear hso ro
          go_wp2
          go_ret2
          exact ⟨_, by rw [← HE.out]; rfl, HSO.out, btr hB hBk (Nat.le_refl _)⟩
    · exact absurd HE.out.symm h
  · have hne : (E != 0) = true := by simpa using h0
    have hkl : knownL n lo hi ss = [] := by unfold knownL; rw [if_neg (by rw [← HE.out]; exact h0)]
    have HKL := Lib.hid hkl
    clear hkl h0
    go_wp2_with (first | (refine wpList_load_blk rfl 26 _ rfl _ rfl b1 Try.underlying26 rfl size26 rfl ?_) | (go_at_call 40; refine H40.out.mono ?_; rintro e w2 ⟨p, rfl, hpr, hb2⟩))
    go_ret2
    exact ⟨_, by rw [HE.out]; rfl, by rw [HKL.out]; exact slG_nil _ _ _, btr hB hb2 (Nat.le_refl _)⟩
end Ytgnjeefanbcbkaa
end Go.Proofs
