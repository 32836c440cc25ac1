/- Fields, outright, plainly: what is said of a valid field and three of its weeks. -/
import Derived.Test.YtgnjeefanbcbkaaE2
open Go Go.RowKit Go.YtgnjeefanbcbkaaIt
namespace Go.Proofs
namespace Ytgnjeefanbcbkaa
theorem proof_cases {n : Nat} {lo hi : Int} {ss : List Smp} (hV : Val n lo hi ss) {a b c : Int} (ha : 0 ≤ a ∧ a < n) (hb : 0 ≤ b ∧ b < n) (hc : 0 ≤ c ∧ c < n) :
    (clE n lo hi ss = 5 ∧ posE n lo hi ss = 0 ∧ verE n lo hi ss [a, b, c] = 11) ∨ (clE n lo hi ss = 0 ∧ posE n lo hi ss = 12 ∧ (verE n lo hi ss [a, b, c] = 0 ∨ verE n lo hi ss [a, b, c] = 11)) := by
  have h0 := chk_val hV
  have hbt : ∀ x : Int, 0 ≤ x ∧ x < n → btw 0 x ((n : Int) - 1) = true := fun x hx => btw_true.2 ⟨hx.1, by omega⟩
  have hv : verE n lo hi ss [a, b, c] = if hol (lowAt lo ss) (highAt hi ss) a.toNat b.toNat c.toNat = true then 0 else 11 := by
    unfold verE
    rw [if_neg (by rw [h0]; simp), if_neg (by simp), if_neg (by simp [hbt a ha, hbt b hb, hbt c hc])]
    rfl
  have e1 : clE n lo hi ss = if noB (lowAt lo ss) (highAt hi ss) n = true then 5 else 0 := by
    unfold clE; rw [if_neg (by rw [h0]; simp)]; rfl
  have e2 : posE n lo hi ss = if noB (lowAt lo ss) (highAt hi ss) n = true then 0 else 12 := by
    unfold posE; rw [if_neg (by rw [h0]; simp)]; rfl
  rw [hv, e1, e2]
  by_cases hn : noB (lowAt lo ss) (highAt hi ss) n = true
  · rw [if_pos hn, if_pos hn]
    left
    refine ⟨rfl, rfl, ?_⟩
    rw [noB_true.1 hn a.toNat b.toNat c.toNat (by omega) (by omega) (by omega), if_neg (by simp)]
  · rw [if_neg hn, if_neg hn]
    right
    refine ⟨rfl, rfl, ?_⟩
    split
    · exact .inl rfl
    · exact .inr rfl
theorem val_append {n : Nat} {lo hi : Int} {ss ex : List Smp} (h : Val n lo hi ss) (hl : ss.length + ex.length ≤ 100) (he : ∀ s ∈ ex, (0 ≤ s.week ∧ s.week < n) ∧ (0 ≤ s.val ∧ s.val ≤ 30000) ∧ (0 ≤ s.off ∧ s.off ≤ 30000)) : Val n lo hi (ss ++ ex) := by
  refine ⟨h.n1, h.n30, h.r0, h.r1, h.r2, by rw [List.length_append]; exact hl, fun i hi' => ?_⟩
  have hm : (ss ++ ex)[i] ∈ ss ++ ex := List.getElem_mem hi'
  rw [at_lt hi']
  rcases List.mem_append.1 hm with h1 | h1
  · obtain ⟨j, hj, e⟩ := List.getElem_of_mem h1
    have := h.ok j hj
    rw [at_lt hj, e] at this
    exact this
  · exact he _ h1
end Ytgnjeefanbcbkaa
end Go.Proofs
