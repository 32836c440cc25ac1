/- Pans: no number of the least timetable is greater than as many of the greatest waits as there are steps: plain Lean. -/
import Derived.Test.YteileadcmekkoaaLp
open Go Go.RowKit Go.YteileadcmekkoaaIt
namespace Go.Proofs
namespace Yteileadcmekkoaa
theorem pick_lt {n : Nat} {P : Nat → Nat → Prop} (h : ∀ j, j < n → ∃ u, P j u) : ∃ q : Nat → Nat, ∀ j, j < n → P j (q j) := by
  classical
  refine ⟨fun j => if hj : j < n then (h j hj).choose else 0, fun j hj => ?_⟩
  simp only [dif_pos hj]
  exact (h j hj).choose_spec
theorem nodup_map_of {q : Nat → Nat} : ∀ {l : List Nat}, (∀ a b, a ∈ l → b ∈ l → q a = q b → a = b) → l.Nodup → (l.map q).Nodup
  | [], _, _ => by simp
  | x :: l, h, hn => by
    rw [List.nodup_cons] at hn
    rw [List.map_cons, List.nodup_cons]
    refine ⟨fun hx => ?_, nodup_map_of (fun a b ha hb => h a b (by simp [ha]) (by simp [hb])) hn.2⟩
    obtain ⟨y, hy, e⟩ := List.mem_map.1 hx
    have := h y x (by simp [hy]) (by simp) e
    subst this
    exact hn.1 hy
theorem Slow.gap {m : Nat} {ws : List Wa} {num den : Nat} {X : Nat → Int} {l : List Nat} (h : Slow m ws num den X l) {C g : Int} (hC0 : 0 < C) (hg : 0 ≤ g) (hC : ∀ x ∈ ws, x.hi * (den : Int) - x.b * (num : Int) ≤ C)
    (hgap : ∀ x ∈ ws, (X x.f.toNat ≤ g ∨ g + C < X x.f.toNat)) (v : Nat) : X v ≤ g + C := by
  by_cases hv : X v ≤ g + C
  · exact hv
  · have h1 := h.least (fun v => if g + C < X v then X v - 1 else X v) (keeps_mem.2 fun x hx => ?_) (fun v => ?_) v
    · try simp only at h1
      rw [if_pos (by omega)] at h1
      omega
    · have h2 := keeps_mem.1 h.keep x hx
      have h3 := hC x hx
      have h4 := hgap x hx
      try simp only
      split <;> split <;> omega
    · have := h.nn v
      try simp only
      split <;> omega
theorem Slow.small {m : Nat} {ws : List Wa} {num den : Nat} {X : Nat → Int} {l : List Nat} (h : Slow m ws num den X l) (hv : Val m ws) {C : Int} (hC0 : 0 < C) (hC : ∀ x ∈ ws, x.hi * (den : Int) - x.b * (num : Int) ≤ C) (v : Nat) : X v ≤ (m + 1) * C := by
  -- some j below m + 1 such that no number of a step lies above j * C and not above (j + 1) * C
  have key : ∃ j : Nat, j < m + 1 ∧ ∀ u, u < m → (X u ≤ j * C ∨ j * C + C < X u) := by
    by_cases hj : ∃ j : Nat, j < m + 1 ∧ ∀ u, u < m → (X u ≤ j * C ∨ j * C + C < X u)
    · exact hj
    · exfalso
      have each : ∀ j, j < m + 1 → ∃ u, u < m ∧ (j : Int) * C < X u ∧ X u ≤ (j : Int) * C + C := by
        intro j hjm
        by_cases hu : ∃ u, u < m ∧ (j : Int) * C < X u ∧ X u ≤ (j : Int) * C + C
        · exact hu
        · refine absurd ⟨j, hjm, fun u hu2 => ?_⟩ hj
          by_cases h1 : X u ≤ j * C
          · exact .inl h1
          · refine .inr ?_
            have : ¬ (X u ≤ (j : Int) * C + C) := fun h2 => hu ⟨u, hu2, by omega, h2⟩
            omega
      obtain ⟨q, hq⟩ := pick_lt each
      have hnd : ((List.range (m + 1)).map q).Nodup := by
        refine nodup_map_of (fun a b ha hb e => ?_) List.nodup_range
        have ha' := List.mem_range.1 ha
        have hb' := List.mem_range.1 hb
        have h1 := hq a ha'
        have h2 := hq b hb'
        rw [e] at h1
        have mono : ∀ x y : Nat, x < y → (x : Int) * C + C ≤ (y : Int) * C := fun x y hxy => by
          have h3 : ((x : Int) + 1) * C ≤ (y : Int) * C := Int.mul_le_mul_of_nonneg_right (by omega) (by omega)
          rw [Int.add_mul, Int.one_mul] at h3
          exact h3
        rcases Nat.lt_trichotomy a b with h4 | h4 | h4
        · have := mono a b h4; omega
        · exact h4
        · have := mono b a h4; omega
      have := nodup_len hnd (n := m) (fun v hv => by
        obtain ⟨j, hj, rfl⟩ := List.mem_map.1 hv
        exact (hq j (List.mem_range.1 hj)).1)
      simp at this
      omega
  obtain ⟨j, hj, hg⟩ := key
  have h1 := h.gap (g := j * C) hC0 (Int.mul_nonneg (by omega) (by omega)) hC (fun x hx => by
    obtain ⟨⟨hf0, hf1⟩, -⟩ := (val_mem.1 hv).2.2 x hx
    exact hg _ (by omega)) v
  have h3 : ((j : Int) + 1) * C ≤ ((m : Int) + 1) * C := Int.mul_le_mul_of_nonneg_right (by omega) (by omega)
  rw [Int.add_mul, Int.one_mul] at h3
  omega
end Yteileadcmekkoaa
end Go.Proofs
