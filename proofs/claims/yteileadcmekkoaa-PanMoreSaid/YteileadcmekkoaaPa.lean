/- Pans: plain. The pace is the greatest period of all cycles; its timetable is accepted. -/
import Derived.Test.YteileadcmekkoaaCy
import Derived.Test.YteileadcmekkoaaLp
open Go Go.RowKit Go.YteileadcmekkoaaIt
namespace Go.Proofs
namespace Yteileadcmekkoaa
open PanPlain (Ed Path Cyc frm rounds)
/-- The slowest of some cycles, as numbers. -/
structure Best (ws : List Wa) (L : List (List Nat)) (b s : Nat) : Prop where
  s1 : 1 ≤ s
  some_ : (b = 0 ∧ s = 1) ∨ ∃ c ∈ L, hiN ws c = b ∧ bkN ws c = s
  up : ∀ c ∈ L, hiN ws c * s ≤ b * bkN ws c
theorem Best.start (ws : List Wa) : Best ws [] 0 1 := ⟨Nat.le_refl _, .inl ⟨rfl, rfl⟩, fun c hc => by cases hc⟩
theorem Best.more {ws : List Wa} {L : List (List Nat)} {b s : Nat} (h : Best ws L b s) {c : List Nat} (hc : 1 ≤ bkN ws c) (hg : b * bkN ws c < hiN ws c * s) : Best ws (L ++ [c]) (hiN ws c) (bkN ws c) := by
  refine ⟨hc, .inr ⟨c, by simp, rfl, rfl⟩, fun c' hc' => ?_⟩
  rcases List.mem_append.1 hc' with h1 | h1
  · exact frac_trans h.s1 (h.up c' h1) (Nat.le_of_lt hg)
  · rw [List.mem_singleton.1 h1]; exact Nat.le_refl _
theorem Best.same {ws : List Wa} {L : List (List Nat)} {b s : Nat} (h : Best ws L b s) {c : List Nat} (hg : ¬ b * bkN ws c < hiN ws c * s) : Best ws (L ++ [c]) b s := by
  refine ⟨h.s1, ?_, fun c' hc' => ?_⟩
  · rcases h.some_ with h1 | ⟨c', h1, h2⟩
    · exact .inl h1
    · exact .inr ⟨c', List.mem_append_left _ h1, h2⟩
  · rcases List.mem_append.1 hc' with h1 | h1
    · exact h.up c' h1
    · rw [List.mem_singleton.1 h1]; omega
theorem best_pace {m : Nat} {ws : List Wa} (hv : Val m ws) (hs : NS ws) {b s : Nat} (h : Best ws (cycs ws (m + 1) []) b s) : pnum m ws * s = b * pden m ws := by
  obtain ⟨l, hS⟩ := paceP hv hs
  apply Nat.le_antisymm
  · rcases hS.cyc with ⟨_, h1, _⟩ | ⟨hC, _⟩
    · rw [h1]; simp
    · obtain ⟨u, hu⟩ := hC.cyc
      have h1 := h.up l ((mem_all hv l).2 ⟨u, hu⟩)
      obtain ⟨g, hg, g1, g2, _, _⟩ := hC.mul
      obtain ⟨s1, s2⟩ := sums_nat hv (path_lt hu.path)
      have k1 : hiN ws l = pnum m ws * g := by omega
      have k2 : bkN ws l = pden m ws * g := by omega
      rw [k1, k2] at h1
      have e1 : pnum m ws * g * s = pnum m ws * s * g := by rw [Nat.mul_assoc, Nat.mul_comm g, Nat.mul_assoc]
      rw [e1, ← Nat.mul_assoc] at h1
      exact Nat.le_of_mul_le_mul_right h1 hg
  · rcases h.some_ with ⟨h1, _⟩ | ⟨c, hc, h1, h2⟩
    · rw [h1]; simp
    · obtain ⟨u, hu⟩ := (mem_all hv c).1 hc
      have h3 := keep_cyc hS.keep hu
      obtain ⟨s1, s2⟩ := sums_nat hv (path_lt hu.path)
      rw [s1, s2, h1, h2] at h3
      have h4 : b * pden m ws ≤ s * pnum m ws := by exact_mod_cast h3
      rw [Nat.mul_comm (pnum m ws)]
      exact h4
theorem kept_same {A D b s num dn : Nat} (h : A * s = b * D) (hD : 1 ≤ D) (hs : 1 ≤ s) : num * D < A * dn ↔ num * s < b * dn := by
  have e1 : num * D * s = num * s * D := by rw [Nat.mul_assoc, Nat.mul_comm D, Nat.mul_assoc]
  have e2 : A * dn * s = b * dn * D := by rw [Nat.mul_assoc, Nat.mul_comm dn, ← Nat.mul_assoc, h, Nat.mul_assoc, Nat.mul_comm D, Nat.mul_assoc]
  constructor
  · intro h1
    have h2 : num * D * s < A * dn * s := Nat.mul_lt_mul_of_pos_right h1 hs
    rw [e1, e2] at h2
    exact Nat.lt_of_mul_lt_mul_right h2
  · intro h1
    have h2 : num * s * D < b * dn * D := Nat.mul_lt_mul_of_pos_right h1 hD
    rw [← e1, ← e2] at h2
    exact Nat.lt_of_mul_lt_mul_right h2
/-- The timetable of the pace is accepted. -/
theorem ver_tab {m : Nat} {ws : List Wa} (h : chkE (m : Int) ws = 0) : verE (m : Int) ws (pnum (m : Int) ws : Nat) (pden (m : Int) ws : Nat) (tabL (m : Int) ws) = 0 := by
  obtain ⟨m', l, e, hv, hs, hS⟩ := pace_ok h
  have : m' = m := by omega
  subst this
  have hb := hS.b
  have hT := tabL_ok h
  have hl : (tabL (m' : Int) ws).length = m' := by rw [hT]; simp
  have hg : goodP (pnum (m' : Int) ws : Nat) (pden (m' : Int) ws : Nat) = true := by
    unfold goodP
    rw [Bool.and_eq_true, btw_true, btw_true]
    omega
  have hat : ∀ v, v < m' → at0 (tabL (m' : Int) ws) v = ptab (m' : Int) ws v := fun v hv => tab_at h hv
  unfold verE
  rw [if_neg (by rw [h]; simp), if_neg (by rw [hg]; simp), if_neg (by rw [hl]; simp), if_neg ?_, if_neg ?_]
  · rw [Bool.not_eq_true, List.any_eq_false]
    intro x hx
    rw [Bool.not_eq_true]
    have h1 := keeps_mem.1 hS.keep x hx
    obtain ⟨k1, k2, _⟩ := (val_mem.1 hv).2.2 x hx
    unfold lateB
    rw [decide_eq_false_iff_not, hat _ (by omega), hat _ (by omega)]
    omega
  · rw [Bool.not_eq_true, List.any_eq_false]
    intro x hx
    rw [hT, List.mem_map] at hx
    obtain ⟨v, hv2, rfl⟩ := hx
    have h1 := hS.nn v
    have h2 := hS.hi v
    have : btw 0 (ptab (m' : Int) ws v) 1000000000 = true := btw_true.2 ⟨h1, by omega⟩
    rw [this]; simp
end Yteileadcmekkoaa
end Go.Proofs
