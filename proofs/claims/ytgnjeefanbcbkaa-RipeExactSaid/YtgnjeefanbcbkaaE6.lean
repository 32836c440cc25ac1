/- Fields, outright, plainly: a field with one more sample that is right, and lesser errors. -/
import Derived.Test.YtgnjeefanbcbkaaE3
open Go Go.RowKit Go.YtgnjeefanbcbkaaIt
namespace Go.Proofs
namespace Ytgnjeefanbcbkaa
/-- A sample whose error is less by some number, but right. -/
def cutO (T : Nat → Int) (less : Int) (s : Smp) : Smp := ⟨s.week, s.val, max (max (s.val - T s.week.toNat) (T s.week.toNat - s.val)) (s.off - less)⟩
theorem lowAt_append (lo : Int) (w : Nat) : ∀ (a b : List Smp), lowAt lo (a ++ b) w = lowAt (lowAt lo a w) b w := fun a b => by simp [lowAt]
theorem highAt_append (hi : Int) (w : Nat) : ∀ (a b : List Smp), highAt hi (a ++ b) w = highAt (highAt hi a w) b w := fun a b => by simp [highAt]
theorem lowAt_mono2 (T : Nat → Int) (less : Int) (w : Nat) : ∀ {ss : List Smp} {a b : Int}, (∀ s ∈ ss, (cutO T less s).off ≤ s.off) → a ≤ b → lowAt a ss w ≤ lowAt b (ss.map (cutO T less)) w
  | [], _, _, _, h => h
  | s :: ss, a, b, ho, h => by
    show lowAt (if s.week = (w : Int) then max a (s.val - s.off) else a) ss w ≤ lowAt (if s.week = (w : Int) then max b (s.val - (cutO T less s).off) else b) (ss.map (cutO T less)) w
    refine lowAt_mono2 T less w (fun s' hs => ho s' (List.mem_cons_of_mem _ hs)) ?_
    have := ho s (List.mem_cons_self ..)
    split <;> omega
theorem highAt_mono2 (T : Nat → Int) (less : Int) (w : Nat) : ∀ {ss : List Smp} {a b : Int}, (∀ s ∈ ss, (cutO T less s).off ≤ s.off) → b ≤ a → highAt b (ss.map (cutO T less)) w ≤ highAt a ss w
  | [], _, _, _, h => h
  | s :: ss, a, b, ho, h => by
    show highAt (if s.week = (w : Int) then min b (s.val + (cutO T less s).off) else b) (ss.map (cutO T less)) w ≤ highAt (if s.week = (w : Int) then min a (s.val + s.off) else a) ss w
    refine highAt_mono2 T less w (fun s' hs => ho s' (List.mem_cons_of_mem _ hs)) ?_
    have := ho s (List.mem_cons_self ..)
    split <;> omega
theorem lowAt_ge (w : Nat) : ∀ (ss : List Smp) (a : Int), a ≤ lowAt a ss w
  | [], _ => Int.le_refl _
  | s :: ss, a => by
    refine Int.le_trans ?_ (lowAt_ge w ss _)
    show a ≤ if s.week = (w : Int) then max a (s.val - s.off) else a
    split <;> omega
theorem highAt_le (w : Nat) : ∀ (ss : List Smp) (a : Int), highAt a ss w ≤ a
  | [], _ => Int.le_refl _
  | s :: ss, a => by
    refine Int.le_trans (highAt_le w ss _) ?_
    show (if s.week = (w : Int) then min a (s.val + s.off) else a) ≤ a
    split <;> omega
structure BetterA (n : Nat) (lo hi : Int) (ss S2 : List Smp) : Prop where
  pos1 : posE n lo hi ss = 0
  pos2 : posE n lo hi S2 = 0
  lows : ∀ w, w < n → (spanAt (lowAt lo ss) (highAt hi ss) n w).1 ≤ (spanAt (lowAt lo S2) (highAt hi S2) n w).1
  highs : ∀ w, w < n → (spanAt (lowAt lo S2) (highAt hi S2) n w).2 ≤ (spanAt (lowAt lo ss) (highAt hi ss) n w).2
  reg : ∀ w, w < n → (regF (lowAt lo S2) (highAt hi S2) n w).ceil ≤ (regF (lowAt lo ss) (highAt hi ss) n w).ceil
  peak : ∀ x ∈ peaksL n lo hi S2, x ∈ peaksL n lo hi ss
theorem pos_of {n : Nat} {lo hi : Int} {ss : List Smp} (hV : Val n lo hi ss) (h0 : noB (lowAt lo ss) (highAt hi ss) n = true) : posE n lo hi ss = 0 := by
  unfold posE
  rw [if_neg (by rw [chk_val hV]; simp), if_pos (show noB (lowAt lo ss) (highAt hi ss) (n : Int).toNat = true from h0)]
theorem better_all {n : Nat} {lo hi less : Int} {ss : List Smp} {T : Nat → Int} {x : Smp} (hR : Right n lo hi ss T) (hl : 0 ≤ less)
    (hx : (0 ≤ x.week ∧ x.week < n) ∧ (0 ≤ x.off ∧ x.off ≤ 255) ∧ T x.week.toNat - x.off ≤ x.val ∧ x.val ≤ T x.week.toNat + x.off) : BetterA n lo hi ss (ss.map (cutO T less) ++ [x]) := by
  have hT := hR.truth
  have hn := hR.n1
  have ho : ∀ s ∈ ss, (cutO T less s).off ≤ s.off := fun s hs => by
    have := hR.ok s hs
    simp only [cutO]; omega
  have hok : ∀ s ∈ ss.map (cutO T less) ++ [x], (0 ≤ s.week ∧ s.week < n) ∧ (0 ≤ s.off ∧ s.off ≤ 255) ∧ T s.week.toNat - s.off ≤ s.val ∧ s.val ≤ T s.week.toNat + s.off := fun s hs => by
    rcases List.mem_append.1 hs with h | h
    · obtain ⟨s', hs', rfl⟩ := List.mem_map.1 h
      have h1 := hR.ok s' hs'
      have h2 := ho s' hs'
      simp only [cutO] at h2 ⊢
      omega
    · have : s = x := by simpa using h
      subst this; exact hx
  have hV2 : Val n lo hi (ss.map (cutO T less) ++ [x]) := by
    have h0 := hR.inn 0 (by omega)
    refine ⟨hR.n1, by have := hR.n12; omega, hR.lo0, by omega, by have := hR.hi0; omega, by have := hR.len; simp; omega, fun i hi' => ?_⟩
    rw [at_lt hi']
    obtain ⟨h1, h2, h3⟩ := hok _ (List.getElem_mem hi')
    have h4 := hR.inn _ (show ((ss.map (cutO T less) ++ [x])[i]).week.toNat < n by omega)
    have := hR.hi0
    exact ⟨h1, by omega, by omega⟩
  have hT2 : Truth (lowAt lo (ss.map (cutO T less) ++ [x])) (highAt hi (ss.map (cutO T less) ++ [x])) n T :=
    ⟨hR.conc, fun w hw => low_of (hR.inn w hw).1 fun s hs e => by
        have := (hok s hs).2.2
        rw [e] at this
        simp only [Int.toNat_natCast] at this
        omega,
      fun w hw => high_of (hR.inn w hw).2.1 fun s hs e => by
        have := (hok s hs).2.2
        rw [e] at this
        simp only [Int.toNat_natCast] at this
        omega⟩
  have n0 := truth_noB hT2
  have hN := narrow (L := lowAt lo ss) (H := highAt hi ss) n0
    (fun w _ => by rw [lowAt_append]; exact Int.le_trans (lowAt_mono2 T less w ho (Int.le_refl _)) (lowAt_ge w _ _))
    (fun w _ => by rw [highAt_append]; exact Int.le_trans (highAt_le w _ _) (highAt_mono2 T less w ho (Int.le_refl _)))
  have e1 := pos_of hR.val (truth_noB hT)
  have e2 := pos_of hV2 n0
  refine ⟨e1, e2, hN.lo, hN.hi, hN.reg, fun y hy => ?_⟩
  unfold peaksL at hy ⊢
  rw [if_pos e2] at hy
  rw [if_pos e1]
  obtain ⟨i, hi', rfl⟩ := List.mem_map.1 (show y ∈ chosenL _ _ from hy)
  have hm := (mem_chosen (x := i)).1 hy
  simp only [Int.toNat_natCast] at hm ⊢
  exact mem_chosen.2 ⟨hm.1, hN.peak i hm.1 hm.2⟩
end Ytgnjeefanbcbkaa
end Go.Proofs
