/- Fields, outright, plainly: what a truth says of the bounds. -/
import Derived.Test.YtgnjeefanbcbkaaD2
open Go Go.RowKit Go.YtgnjeefanbcbkaaIt
namespace Go.Proofs
namespace Ytgnjeefanbcbkaa
structure Truth (L H : Nat → Int) (n : Nat) (T : Nat → Int) : Prop where
  conc : Conc n T
  low : ∀ w, w < n → L w ≤ T w
  high : ∀ w, w < n → T w ≤ H w
theorem conc_t3r {n : Nat} {T : Nat → Int} (h : Conc n T) {i j k : Nat} (hij : i < j) (hjk : j < k) (hk : k < n) : T3 i (T i) j (T j) k (T k) := by
  unfold T3
  have := cast_le.2 (conc_t3 h hij hjk hk)
  simp only [cast_add, cast_mul, cast_sub] at this
  exact this
theorem T3.mono {i j k : Nat} {a b c a' b' c' : Rat} (h : T3 i a j b k c) (hij : i < j) (hjk : j < k) (ha : a' ≤ a) (hb : b ≤ b') (hc : c' ≤ c) : T3 i a' j b' k c' := by
  unfold T3 at *
  have p1 := sub_posN hij
  have p2 := sub_posN hjk
  have m1 : a' * ((((k : Nat) : Int) : Rat) - ((j : Nat) : Int)) ≤ a * ((((k : Nat) : Int) : Rat) - ((j : Nat) : Int)) := (le_mul p2).1 ha
  have m2 : c' * ((((j : Nat) : Int) : Rat) - ((i : Nat) : Int)) ≤ c * ((((j : Nat) : Int) : Rat) - ((i : Nat) : Int)) := (le_mul p1).1 hc
  have p3 : (0 : Rat) < (((k : Nat) : Int) : Rat) - ((i : Nat) : Int) := sub_posN (by omega)
  have m3 : b * ((((k : Nat) : Int) : Rat) - ((i : Nat) : Int)) ≤ b' * ((((k : Nat) : Int) : Rat) - ((i : Nat) : Int)) := (le_mul p3).1 hb
  grind
theorem truth_lw {L H : Nat → Int} {n : Nat} {T : Nat → Int} (h : Truth L H n T) {w : Nat} (hw : w < n) {v : Rat} (hv : (T w : Rat) ≤ v) : Lw L n w v :=
  ⟨by have := cast_le.2 (h.low w hw); grind, fun i k h1 h2 h3 => (conc_t3r h.conc h1 h2 h3).mono h1 h2 (cast_le.2 (h.low i (by omega))) hv (cast_le.2 (h.low k h3))⟩
theorem truth_up {L H : Nat → Int} {n : Nat} {T : Nat → Int} (h : Truth L H n T) {w : Nat} (hw : w < n) : Up L H n w (T w) :=
  ⟨cast_le.2 (h.high w hw), fun i j h1 h2 _ => (conc_t3r h.conc h1 h2 hw).mono h1 h2 (cast_le.2 (h.low i (by omega))) (cast_le.2 (h.high j (by omega))) (by grind),
   fun j k h1 h2 h3 => (conc_t3r h.conc h1 h2 h3).mono h1 h2 (by grind) (cast_le.2 (h.high j (by omega))) (cast_le.2 (h.low k h3))⟩
theorem truth_lower {L H : Nat → Int} {n : Nat} {T : Nat → Int} (h : Truth L H n T) {w : Nat} (hw : w < n) : (lowerF L n w).v ≤ (T w : Rat) := lw_iff.1 (truth_lw h hw (by grind))
theorem truth_upper {L H : Nat → Int} {n : Nat} {T : Nat → Int} (h : Truth L H n T) {w : Nat} (hw : w < n) : (T w : Rat) ≤ (upperF L H n w).v := (up_iff hw).1 (truth_up h hw)
theorem truth_giv {L H : Nat → Int} {n : Nat} {T : Nat → Int} (h : Truth L H n T) {w k : Nat} (hw : w < n) (hk : k < n) {t : Fr} (ht : 0 < t.u) (htk : (T k : Rat) ≤ t.v) : (givF L n w k t).v ≤ (T w : Rat) + (t.v - (T k : Rat)) := by
  by_cases hne : w = k
  · subst hne
    unfold givF; rw [if_pos rfl]; grind
  · refine (givF_iff ht hne hw).1 ⟨truth_lw h hw (by grind), fun hwk i hi => ?_, fun hkw i hi hin => ?_⟩
    · have h1 := (conc_t3r h.conc hi hwk hk).mono hi hwk (cast_le.2 (h.low i (by omega))) (show (T w : Rat) ≤ T w by grind) (show (T k : Rat) ≤ T k by grind)
      unfold T3 at *
      have p1 := sub_posN hi
      have p2 := sub_posN hwk
      have m1 : 0 * ((((k : Nat) : Int) : Rat) - ((w : Nat) : Int)) ≤ (t.v - (T k : Rat)) * ((((k : Nat) : Int) : Rat) - ((w : Nat) : Int)) := (le_mul p2).1 (by grind)
      grind
    · have h1 := (conc_t3r h.conc hkw hi hin).mono hkw hi (show (T k : Rat) ≤ T k by grind) (show (T w : Rat) ≤ T w by grind) (cast_le.2 (h.low i (by omega)))
      unfold T3 at *
      have p1 := sub_posN hkw
      have p2 := sub_posN hi
      have m1 : 0 * ((((w : Nat) : Int) : Rat) - ((k : Nat) : Int)) ≤ (t.v - (T k : Rat)) * ((((w : Nat) : Int) : Rat) - ((k : Nat) : Int)) := (le_mul p1).1 (by grind)
      grind
/-- No week costs more than its regret. -/
theorem truth_reg {L H : Nat → Int} {n : Nat} {T : Nat → Int} (h : Truth L H n T) {w k : Nat} (hw : w < n) (hk : k < n) : (T k : Rat) - (T w : Rat) ≤ (regF L H n w).v := by
  have h1 := ((reg_iff (L := L) (H := H) hw (v := (regF L H n w).v)).1 (by grind)).2 k hk
  have h2 := truth_giv h hw hk (upper_pos L H n k) (truth_upper h hk)
  grind
theorem truth_noB {L H : Nat → Int} {n : Nat} {T : Nat → Int} (h : Truth L H n T) : noB L H n = true := noB_true.2 fun i j k hi hj hk => by
  unfold hol
  by_cases h1 : i = j ∧ j = k
  · obtain ⟨rfl, rfl⟩ := h1
    rw [if_pos ⟨rfl, rfl⟩]
    have := h.low i hi; have := h.high i hi
    exact decide_eq_false (by omega)
  · rw [if_neg h1]
    by_cases h2 : i < j ∧ j < k
    · rw [if_pos h2]
      have p1 : (0 : Int) ≤ (k : Int) - j := by omega
      have p2 : (0 : Int) ≤ (j : Int) - i := by omega
      have p3 : (0 : Int) ≤ (k : Int) - i := by omega
      have a1 := Int.mul_le_mul_of_nonneg_right (h.low i hi) p1
      have a2 := Int.mul_le_mul_of_nonneg_right (h.low k hk) p2
      have a3 := Int.mul_le_mul_of_nonneg_right (h.high j hj) p3
      have a4 := conc_t3 h.conc h2.1 h2.2 hk
      exact decide_eq_false (by omega)
    · rw [if_neg h2]
end Ytgnjeefanbcbkaa
end Go.Proofs
