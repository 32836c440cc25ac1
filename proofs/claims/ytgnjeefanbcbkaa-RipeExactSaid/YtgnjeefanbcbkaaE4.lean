/- Fields, outright, plainly: weeks next to each other. -/
import Derived.Test.YtgnjeefanbcbkaaE2
open Go Go.RowKit Go.YtgnjeefanbcbkaaIt
namespace Go.Proofs
namespace Ytgnjeefanbcbkaa
/-- What is between two chosen ones is chosen. -/
def Cvx (p : Nat → Bool) (n : Nat) : Prop := ∀ x y z : Nat, x < y → y < z → z < n → p x = true → p z = true → p y = true
theorem chosen_row {p : Nat → Bool} : ∀ {n : Nat}, Cvx p n → ∃ a len : Nat, chosenL p n = (List.range len).map (fun i => ((a + i : Nat) : Int)) ∧ a + len ≤ n ∧ (0 < len → p a = true ∧ ∀ x, a + len ≤ x → x < n → p x = false)
  | 0, _ => ⟨0, 0, rfl, by omega, fun h => by omega⟩
  | n + 1, h => by
    obtain ⟨a, len, h1, h2, h3⟩ := chosen_row (n := n) (fun x y z a b c => h x y z a b (by omega))
    rw [chosen_succ, h1]
    by_cases hp : p n = true
    · rw [if_pos hp]
      rcases Nat.eq_zero_or_pos len with rfl | hl
      · exact ⟨n, 1, rfl, by omega, fun _ => ⟨hp, fun x a b => by omega⟩⟩
      · obtain ⟨h4, h5⟩ := h3 hl
        have he : a + len = n := by
          rcases Nat.lt_or_ge (a + len) n with hlt | hge
          · have := h5 (a + len) (Nat.le_refl _) hlt
            rw [h a (a + len) n (by omega) hlt (by omega) h4 hp] at this
            simp at this
          · omega
        refine ⟨a, len + 1, ?_, by omega, fun _ => ⟨h4, fun x a b => by omega⟩⟩
        rw [List.range_succ, List.map_append, ← he]
        rfl
    · rw [if_neg hp, List.append_nil]
      refine ⟨a, len, rfl, by omega, fun hl => ⟨(h3 hl).1, fun x q r => ?_⟩⟩
      rcases (show x < n ∨ x = n by omega) with hx | rfl
      · exact (h3 hl).2 x q hx
      · simpa using hp
theorem tru_min {L H : Nat → Int} {n : Nat} {T : Nat → Rat} (h : TruQ L H n T) {x y z : Nat} (hxy : x < y) (hyz : y < z) (hz : z < n) {c : Rat} (h1 : c ≤ T x) (h2 : c ≤ T z) : c ≤ T y := by
  have h3 := h.conc x y z hxy hyz hz
  unfold T3 at h3
  have p1 := sub_posN hxy
  have p2 := sub_posN hyz
  have p3 : (0 : Rat) < (((z : Nat) : Int) : Rat) - ((x : Nat) : Int) := sub_posN (by omega)
  refine (le_mul p3).2 ?_
  have m1 := (le_mul p2).1 h1
  have m2 := (le_mul p1).1 h2
  grind
theorem peaks_cvx {L H : Nat → Int} {n : Nat} (h0 : noB L H n = true) : Cvx (peakP L H n) n := fun x y z hxy hyz hz px pz => by
  obtain ⟨t, ht, e⟩ := top_mem L (n - 1)
  rw [peak_iff]
  rcases (show t = y ∨ t < y ∨ y < t by omega) with rfl | hlt | hgt
  · rw [e]
    exact Rat.le_trans ((low_tru h0).low t (by omega)) (up_low h0 (by omega))
  · obtain ⟨T, hT, hm⟩ := (peak_spec h0 (by omega)).1 pz
    have h1 : (topF L (n - 1) : Rat) ≤ T t := by rw [e]; exact hT.low t (by omega)
    exact Rat.le_trans (tru_min hT hlt hyz hz h1 (Rat.le_trans h1 (hm t (by omega)))) (tru_upper hT (by omega))
  · obtain ⟨T, hT, hm⟩ := (peak_spec h0 (by omega)).1 px
    have h1 : (topF L (n - 1) : Rat) ≤ T t := by rw [e]; exact hT.low t (by omega)
    exact Rat.le_trans (tru_min hT hxy hgt (by omega) (Rat.le_trans h1 (hm t (by omega))) h1) (tru_upper hT (by omega))
theorem sure_iff {L : Nat → Int} {n x : Nat} {g : Int} : (!(lowerF L n x).lt (whole g)) = true ↔ g ≤ (lowerF L n x).floor := by
  rw [Bool.not_eq_true', Fr.lt_false (lower_pos _ _ _) (whole_pos _), whole_v, le_floor (lower_pos _ _ _)]
theorem perh_iff {L H : Nat → Int} {n x : Nat} {g : Int} : (!(upperF L H n x).lt (whole g)) = true ↔ (g : Rat) ≤ (upperF L H n x).v := by
  rw [Bool.not_eq_true', Fr.lt_false (upper_pos _ _ _ _) (whole_pos _), whole_v]
theorem sure_cvx {L H : Nat → Int} {n : Nat} (h0 : noB L H n = true) (g : Int) : Cvx (fun x => !(lowerF L n x).lt (whole g)) n := fun x y z hxy hyz hz px pz => by
  simp only [Bool.not_eq_true', Fr.lt_false (lower_pos _ _ _) (whole_pos _), whole_v] at px pz ⊢
  exact tru_min (low_tru h0) hxy hyz hz px pz
/-- Ripe weeks and peaks of a field that has a truth. -/
structure WeeksA (n : Nat) (lo hi : Int) (ss : List Smp) (g : Int) : Prop where
  peak : ∃ a len : Nat, peaksL n lo hi ss = (List.range len).map (fun i => ((a + i : Nat) : Int)) ∧ 0 < len ∧ a + len ≤ n
  sure : ∃ a len : Nat, surelyL n lo hi ss g = (List.range len).map (fun i => ((a + i : Nat) : Int)) ∧ a + len ≤ n
  s1 : ∀ w, w < n → ((w : Int) ∈ surelyL n lo hi ss g ↔ g ≤ (spanAt (lowAt lo ss) (highAt hi ss) n w).1)
  m1 : ∀ w, w < n → (w : Int) ∈ perhapsL n lo hi ss g → g ≤ (spanAt (lowAt lo ss) (highAt hi ss) n w).2
  m2 : ∀ w, w < n → g < (spanAt (lowAt lo ss) (highAt hi ss) n w).2 → (w : Int) ∈ perhapsL n lo hi ss g
  sm : ∀ w, w < n → (w : Int) ∈ surelyL n lo hi ss g → (w : Int) ∈ perhapsL n lo hi ss g
theorem weeks_all {n : Nat} {lo hi : Int} {ss : List Smp} {T : Nat → Int} {g : Int} (hV : Val n lo hi ss) (hT : Truth (lowAt lo ss) (highAt hi ss) n T) (hl : 0 ≤ g ∧ g ≤ 30000) : WeeksA n lo hi ss g := by
  have h0 := truth_noB hT
  have h1 := hV.n1
  have hA := truth_all hV hT hl
  have hE := hA.pos
  have hg : goalF g = g := by unfold goalF; omega
  refine ⟨?_, ?_, fun w hw => ?_, fun w hw h => ?_, fun w hw h => ?_, fun w hw h => ?_⟩
  · obtain ⟨a, len, e1, e2, -⟩ := chosen_row (peaks_cvx h0)
    have e : peaksL n lo hi ss = chosenL (peakP (lowAt lo ss) (highAt hi ss) n) n := by unfold peaksL; rw [if_pos hE]; rfl
    refine ⟨a, len, e.trans e1, ?_, e2⟩
    obtain ⟨k, hk, ek⟩ := top_mem T (n - 1)
    have := hA.peak k (by omega) ek.symm
    rw [e, e1] at this
    rcases Nat.eq_zero_or_pos len with rfl | hp
    · simp at this
    · exact hp
  · obtain ⟨a, len, e1, e2, -⟩ := chosen_row (sure_cvx h0 g)
    have e : surelyL n lo hi ss g = chosenL (fun x => !(lowerF (lowAt lo ss) n x).lt (whole g)) n := by unfold surelyL; rw [if_pos hE, hg]; rfl
    exact ⟨a, len, e.trans e1, e2⟩
  · unfold surelyL
    rw [if_pos hE, hg]
    simp only [Int.toNat_natCast]
    rw [mem_chosen, sure_iff]
    exact ⟨fun h => h.2, fun h => ⟨hw, h⟩⟩
  · unfold perhapsL at h
    rw [if_pos hE, hg] at h
    simp only [Int.toNat_natCast] at h
    have h2 := perh_iff.1 (mem_chosen.1 h).2
    exact cast_le.1 (Rat.le_trans h2 (ceil_v (upper_pos _ _ _ _)))
  · unfold perhapsL
    rw [if_pos hE, hg]
    simp only [Int.toNat_natCast]
    refine mem_chosen.2 ⟨hw, perh_iff.2 ?_⟩
    rcases @Rat.le_total (g : Rat) (upperF (lowAt lo ss) (highAt hi ss) n w).v with h3 | h3
    · exact h3
    · have := (ceil_le (upper_pos _ _ _ _) g).2 h3
      have h : g < (upperF (lowAt lo ss) (highAt hi ss) n w).ceil := h
      omega
  · unfold surelyL at h
    unfold perhapsL
    rw [if_pos hE, hg] at h ⊢
    simp only [Int.toNat_natCast] at h ⊢
    have h2 := sure_iff.1 (mem_chosen.1 h).2
    exact mem_chosen.2 ⟨hw, perh_iff.2 (Rat.le_trans ((le_floor (lower_pos _ _ _) _).1 h2) (up_low h0 hw))⟩
end Ytgnjeefanbcbkaa
end Go.Proofs
