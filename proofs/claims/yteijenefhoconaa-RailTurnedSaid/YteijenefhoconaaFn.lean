/- Lists of numbers that are picked in ascending order. Plain Lean. -/
import Derived.Test.YteijenefhoconaaCount
open Go Go.RowKit Go.YteijenefhoconaaIt
namespace Go.Proofs
namespace Yteijenefhoconaa
def fN (p : Nat → Bool) (k : Nat) : List Int := ((List.range k).filter p).map fun (i : Nat) => (i : Int)
theorem fN_split (p : Nat → Bool) (i m : Nat) : fN p (i + m) = fN p i ++ ((List.range' i m).filter p).map fun (i : Nat) => (i : Int) := by
  unfold fN
  rw [List.range_eq_range', List.range_eq_range', ← List.map_append, ← List.filter_append]
  congr 2
  have := List.range'_append (s := 0) (m := i) (n := m) (step := 1)
  simpa [Nat.add_comm] using this.symm
theorem fN_succ (p : Nat → Bool) (i : Nat) : fN p (i + 1) = fN p i ++ if p i then [(i : Int)] else [] := by
  unfold fN
  rw [List.range_succ, List.filter_append, List.map_append]
  congr 1
  by_cases h : p i = true <;> simp [h]
theorem fN_le (p : Nat → Bool) (k : Nat) : (fN p k).length ≤ k := by
  unfold fN; rw [List.length_map]
  exact Nat.le_trans (List.length_filter_le _ _) (by simp)
theorem fN_hit {p : Nat → Bool} {i n : Nat} (hi : i < n) (h : p i = true) : (fN p i).length < (fN p n).length ∧ at0 (fN p n) (fN p i).length = i := by
  obtain ⟨m, rfl⟩ : ∃ m, n = (i + 1) + m := ⟨n - (i + 1), by omega⟩
  rw [fN_split, fN_succ, if_pos h]
  refine ⟨by simp, ?_⟩
  rw [at0_lt (by simp)]
  simp
theorem fN_miss {p : Nat → Bool} {i n : Nat} (hi : i < n) (h : p i = false) (hl : (fN p i).length < (fN p n).length) : at0 (fN p n) (fN p i).length ≠ i := by
  obtain ⟨m, rfl⟩ : ∃ m, n = (i + 1) + m := ⟨n - (i + 1), by omega⟩
  rw [at0_lt hl]
  have e : fN p (i + 1 + m) = fN p i ++ ((List.range' (i + 1) m).filter p).map fun (i : Nat) => (i : Int) := by
    rw [fN_split, fN_succ, h]; simp
  have hmem : (fN p (i + 1 + m))[(fN p i).length] ∈ ((List.range' (i + 1) m).filter p).map fun (i : Nat) => (i : Int) := by
    simp only [e]
    rw [List.getElem_append_right (Nat.le_refl _)]
    exact List.getElem_mem _
  simp only [List.mem_map, List.mem_filter, List.mem_range'_1] at hmem
  obtain ⟨j, ⟨⟨hj, _⟩, _⟩, he⟩ := hmem
  rw [← he]
  omega
theorem fN_nil {p : Nat → Bool} {n : Nat} (h : ∀ i, i < n → p i = false) : fN p n = [] := by
  unfold fN
  rw [List.map_eq_nil_iff, List.filter_eq_nil_iff]
  intro i hi
  rw [h i (by simpa using hi)]; simp
theorem fN_mem {p : Nat → Bool} {n k : Nat} (hk : k < (fN p n).length) : ∃ i, i < n ∧ p i = true ∧ at0 (fN p n) k = i := by
  have hmem : at0 (fN p n) k ∈ fN p n := by rw [at0_lt hk]; exact List.getElem_mem _
  simp only [fN, List.mem_map, List.mem_filter, List.mem_range] at hmem
  obtain ⟨i, ⟨h1, h2⟩, h3⟩ := hmem
  exact ⟨i, h1, h2, h3.symm⟩
theorem fN_pos {p : Nat → Bool} {n i : Nat} (hi : i < n) (h : p i = true) : 0 < (fN p n).length := Nat.lt_of_le_of_lt (Nat.zero_le _) (fN_hit hi h).1
end Yteijenefhoconaa
end Go.Proofs
