/- Fields, outright, plainly: a truth. -/
import Derived.Test.YtgnjeefanbcbkaaB5
open Go Go.RowKit Go.YtgnjeefanbcbkaaIt
namespace Go.Proofs
namespace Ytgnjeefanbcbkaa
/-- Steps never become greater. -/
def Conc (n : Nat) (T : Nat → Int) : Prop := ∀ i, i + 2 < n → T (i + 2) - T (i + 1) ≤ T (i + 1) - T i
theorem conc_le {n : Nat} {T : Nat → Int} (h : Conc n T) (i : Nat) : ∀ m, i + m + 1 < n → T (i + m + 1) - T (i + m) ≤ T (i + 1) - T i
  | 0, _ => Int.le_refl _
  | m + 1, hm => by
    have h1 := conc_le h i m (by omega)
    have h2 := h (i + m) (by omega)
    have e : i + (m + 1) + 1 = i + m + 2 := by omega
    have e2 : i + (m + 1) = i + m + 1 := by omega
    rw [e, e2]; omega
theorem conc_down {n : Nat} {T : Nat → Int} (h : Conc n T) (i : Nat) : ∀ m, i + m < n → T (i + m) - T i ≤ (m : Int) * (T (i + 1) - T i)
  | 0, _ => by simp
  | m + 1, hm => by
    have h1 := conc_down h i m (by omega)
    have h2 := conc_le h i m (by omega)
    have e : ((m + 1 : Nat) : Int) * (T (i + 1) - T i) = (m : Int) * (T (i + 1) - T i) + (T (i + 1) - T i) := by rw [Int.natCast_add, Int.add_mul]; simp
    rw [e, ← Nat.add_assoc]; omega
theorem conc_up {n : Nat} {T : Nat → Int} (h : Conc n T) (j : Nat) (hj : j + 1 < n) : ∀ m, m ≤ j → (m : Int) * (T (j + 1) - T j) ≤ T j - T (j - m)
  | 0, _ => by simp
  | m + 1, hm => by
    have h1 := conc_up h j hj m (by omega)
    have h2 := conc_le h (j - (m + 1)) (m + 1) (by omega)
    have e : ((m + 1 : Nat) : Int) * (T (j + 1) - T j) = (m : Int) * (T (j + 1) - T j) + (T (j + 1) - T j) := by rw [Int.natCast_add, Int.add_mul]; simp
    have e1 : j - (m + 1) + (m + 1) = j := by omega
    have e2 : j - (m + 1) + 1 = j - m := by omega
    rw [e1, e2] at h2
    rw [e]; omega
theorem conc_t3 {n : Nat} {T : Nat → Int} (h : Conc n T) {i j k : Nat} (hij : i < j) (hjk : j < k) (hk : k < n) : T i * ((k : Int) - j) + T k * ((j : Int) - i) ≤ T j * ((k : Int) - i) := by
  have h1 := conc_down h j (k - j) (by omega)
  have h2 := conc_up h j (by omega) (j - i) (by omega)
  rw [show j + (k - j) = k by omega] at h1
  rw [show j - (j - i) = i by omega] at h2
  obtain ⟨a, ha⟩ : ∃ a : Nat, k = j + a := ⟨k - j, by omega⟩
  obtain ⟨b, hb⟩ : ∃ b : Nat, j = i + b := ⟨j - i, by omega⟩
  have e1 : k - j = a := by omega
  have e2 : j - i = b := by omega
  rw [e1] at h1
  rw [e2] at h2
  have f1 : (k : Int) - j = a := by omega
  have f2 : (j : Int) - i = b := by omega
  have f3 : (k : Int) - i = a + b := by omega
  rw [f1, f2, f3]
  generalize T (j + 1) - T j = d at *
  have g1 : (T k - T j) * b ≤ (a : Int) * d * b := Int.mul_le_mul_of_nonneg_right h1 (by omega)
  have g2 : (b : Int) * d * a ≤ (T j - T i) * a := Int.mul_le_mul_of_nonneg_right h2 (by omega)
  grind
end Ytgnjeefanbcbkaa
end Go.Proofs
