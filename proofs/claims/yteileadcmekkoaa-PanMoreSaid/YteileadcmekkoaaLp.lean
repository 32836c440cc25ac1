/- Pans: a timetable that is accepted for the pace has no lesser numbers; none is accepted for a lesser period: plain Lean. -/
import Derived.Test.YteileadcmekkoaaTp
open Go Go.RowKit Go.YteileadcmekkoaaIt
namespace Go.Proofs
namespace Yteileadcmekkoaa
theorem ver_zero {n : Int} {ws : List Wa} {num den : Int} {tab : List Int} (h : verE n ws num den tab = 0) : Keeps ws num den (at0 tab) ∧ (∀ x ∈ tab, 0 ≤ x) ∧ (tab.length : Int) = n := by
  unfold verE at h
  by_cases h1 : chkE n ws = 0
  · rw [if_neg (by simpa using h1)] at h
    by_cases h2 : goodP num den = false
    · rw [if_pos h2] at h; simp at h
    · rw [if_neg h2] at h
      by_cases h3 : (tab.length : Int) = n
      · rw [if_neg (by simpa using h3)] at h
        by_cases h4 : (tab.any fun x => !btw 0 x 1000000000) = true
        · rw [if_pos h4] at h; simp at h
        · rw [if_neg h4] at h
          by_cases h5 : (ws.any (lateB num den tab)) = true
          · rw [if_pos h5] at h; simp at h
          · refine ⟨keeps_mem.2 fun x hx => ?_, fun x hx => ?_, h3⟩
            · have h6 : lateB num den tab x = false := by
                cases h7 : lateB num den tab x with
                | false => rfl
                | true => exact absurd (List.any_eq_true.2 ⟨x, hx, h7⟩) h5
              unfold lateB at h6
              have h8 := of_decide_eq_false h6
              omega
            · have h6 : btw 0 x 1000000000 = true := by
                cases h7 : btw 0 x 1000000000 with
                | true => rfl
                | false => exact absurd (List.any_eq_true.2 ⟨x, hx, by rw [h7]; rfl⟩) h4
              exact (btw_true.1 h6).1
      · rw [if_pos (by simpa using h3)] at h; simp at h
  · rw [if_pos (by simpa using h1)] at h; exact absurd h h1
theorem ver_proof {n : Int} {ws : List Wa} {num den : Int} {tab : List Int} (h1 : chkE n ws = 0) (h2 : goodP num den = true) (h3 : (tab.length : Int) = n) (h4 : ∀ x ∈ tab, 0 ≤ x ∧ x ≤ 1000000000) (h5 : ¬ Keeps ws num den (at0 tab)) : verE n ws num den tab = 11 := by
  unfold verE
  rw [if_neg (by simpa using h1), if_neg (by rw [h2]; simp), if_neg (by simpa using h3), if_neg, if_pos]
  · cases h6 : ws.any (lateB num den tab) with
    | true => rfl
    | false =>
      refine absurd (keeps_mem.2 fun x hx => ?_) h5
      have h7 := List.any_eq_false.1 h6 x hx
      unfold lateB at h7
      have h8 : ¬ (at0 tab x.t.toNat < at0 tab x.f.toNat + x.hi * den - x.b * num) := by simpa using h7
      omega
  · intro h6
    obtain ⟨x, hx, h7⟩ := List.any_eq_true.1 h6
    rw [btw_true.2 (h4 x hx)] at h7
    simp at h7
/-- A number of a list is taken one down. -/
def downL (t : List Int) (i : Nat) : List Int := t.set i (at0 t i - 1)
theorem at0_set {t : List Int} {i v : Nat} {x : Int} (h : i < t.length) : at0 (t.set i x) v = if v = i then x else at0 t v := by
  unfold at0
  simp only [List.getD_eq_getElem?_getD, List.getElem?_set]
  by_cases hv : v = i
  · subst hv; simp [h]
  · have : ¬ i = v := fun e => hv e.symm
    simp [hv, this]
theorem tab_at {m : Nat} {ws : List Wa} (h : chkE (m : Int) ws = 0) {s : Nat} (hs : s < m) : at0 (tabL (m : Int) ws) s = ptab m ws s := by
  rw [tabL_ok h]; unfold at0; simp [List.getD_eq_getElem?_getD, hs]
/-- Some other timetable that is accepted has no lesser number. -/
theorem least_ok {m : Nat} {ws : List Wa} (h : chkE (m : Int) ws = 0) {o : List Int} (ho : verE (m : Int) ws (pnum (m : Int) ws : Nat) (pden (m : Int) ws : Nat) o = 0) : ∀ s, s < m → ptab (m : Int) ws s ≤ at0 o s := by
  obtain ⟨m', l, hm, hv, hs, hsl⟩ := pace_ok h
  obtain ⟨hk, hnn, hlen⟩ := ver_zero ho
  have hnn' : ∀ v, 0 ≤ at0 o v := fun v => by
    by_cases hv' : v < o.length
    · rw [at0_lt hv']; exact hnn _ (List.getElem_mem hv')
    · unfold at0; rw [List.getD_eq_getElem?_getD, List.getElem?_eq_none (by omega)]; simp
  exact fun s _ => hsl.least (at0 o) hk hnn' s
theorem down_no {m : Nat} {ws : List Wa} (h : chkE (m : Int) ws = 0) {i : Nat} (hi : i < m) : verE (m : Int) ws (pnum (m : Int) ws : Nat) (pden (m : Int) ws : Nat) (downL (tabL (m : Int) ws) i) ≠ 0 := by
  intro ho
  have h1 := least_ok h ho i hi
  have hl : (tabL (m : Int) ws).length = m := by rw [tabL_ok h]; simp
  unfold downL at h1
  rw [at0_set (by omega), if_pos rfl, tab_at h hi] at h1
  omega
/-- For a lesser period none is accepted. -/
theorem fine_no {m : Nat} {ws : List Wa} (h : chkE (m : Int) ws = 0) {less : Int} (hl : 0 ≤ less) {fine : List Int} (h0 : 0 ≤ (pnum (m : Int) ws : Int) * 20 - 1 - less) (h2 : goodP ((pnum (m : Int) ws : Int) * 20 - 1 - less) ((pden (m : Int) ws : Int) * 20) = true)
    (h3 : fine.length = m) (h4 : ∀ x ∈ fine, 0 ≤ x ∧ x ≤ 1000000000) : verE (m : Int) ws ((pnum (m : Int) ws : Int) * 20 - 1 - less) ((pden (m : Int) ws : Int) * 20) fine = 11 := by
  refine ver_proof h h2 (by omega) h4 fun hk => ?_
  obtain ⟨m', l, hm, hv, hs, hsl⟩ := pace_ok h
  obtain ⟨a, ha⟩ : ∃ a : Nat, (pnum (m : Int) ws : Int) * 20 - 1 - less = (a : Int) := ⟨((pnum (m : Int) ws : Int) * 20 - 1 - less).toNat, by omega⟩
  rw [ha] at hk
  have h5 := hsl.le (a := a) (b := pden (m : Int) ws * 20) (by push_cast; exact hk)
  have hd := hsl.b.2.1
  have h6 : pnum (m : Int) ws * (pden (m : Int) ws * 20) = (pnum (m : Int) ws * 20) * pden (m : Int) ws := by rw [Nat.mul_comm (pden (m : Int) ws) 20, Nat.mul_assoc]
  rw [h6] at h5
  have h7 := Nat.le_of_mul_le_mul_right h5 hd
  omega
end Yteileadcmekkoaa
end Go.Proofs
