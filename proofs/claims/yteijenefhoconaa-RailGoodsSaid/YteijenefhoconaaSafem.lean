/- What is safe, in plain words. -/
import Derived.Test.YteijenefhoconaaArr
open Go Go.RowKit Go.YteijenefhoconaaIt
namespace Go.Proofs
namespace Yteijenefhoconaa

/-- How many moves trains still have to make. -/
def left (A T : List Int) : Nat := ((List.range T.length).map fun i => (at0 A i - at0 T i).natAbs).sum
def safeF : Nat → List Int → List Int → List Int → Bool
  | 0, _, T, A => decide (wayL A T = [])
  | n + 1, L, T, A => decide (wayL A T = []) || (movL L T A).any fun i => safeF n L T (after L T A i)
def safeB (L T A : List Int) : Bool := safeF (left A T) L T A

theorem at0_set {A : List Int} {i j : Nat} {x : Int} : at0 (A.set i x) j = if i = j ∧ i < A.length then x else at0 A j := by
  unfold at0
  simp only [List.getD_eq_getElem?_getD, List.getElem?_set]
  by_cases h : i = j
  · subst h
    by_cases hl : i < A.length
    · simp [hl]
    · simp [hl]
  · simp [h]
theorem nxt_near {a t : Int} (h : a ≠ t) : (nxt a t - t).natAbs + 1 = (a - t).natAbs := by unfold nxt; split <;> omega
theorem sum_change {n : Nat} {f g : Nat → Nat} {i : Nat} (hi : i < n) (h1 : g i + 1 = f i) (h2 : ∀ j, j ≠ i → g j = f j) : ((List.range n).map g).sum + 1 = ((List.range n).map f).sum := by
  induction n with
  | zero => omega
  | succ n ih =>
    simp only [List.range_succ, List.map_append, List.map_cons, List.map_nil, List.sum_append, List.sum_cons, List.sum_nil]
    by_cases he : i = n
    · subst he
      have : (List.range i).map g = (List.range i).map f := List.map_congr_left (fun j hj => h2 j (by simp at hj; omega))
      rw [this]; omega
    · have := ih (by omega)
      rw [h2 n (fun h => he h.symm)]; omega
theorem left_after {L T A : List Int} {i : Nat} (ok : Okt L T A) (hi : i < T.length) (ho : at0 A i ≠ at0 T i) (hc : canGo L T A i = true) : left (after L T A i) T + 1 = left A T := by
  unfold left after
  rw [if_pos hc]
  have hA := ok.a5
  have ht := ok.t5
  refine sum_change hi ?_ ?_
  · rw [at0_set, if_pos ⟨rfl, by omega⟩]; exact nxt_near ho
  · intro j hj
    rw [at0_set, if_neg (fun h => hj h.1.symm)]
theorem mov_mem {L T A : List Int} {i : Nat} (h : i ∈ movL L T A) : i < T.length ∧ at0 A i ≠ at0 T i ∧ canGo L T A i = true := by
  obtain ⟨h1, h2⟩ := List.mem_filter.1 h
  exact ⟨(way_mem h1).1, (way_mem h1).2, h2⟩
theorem Okt.after {L T A : List Int} (ok : Okt L T A) {i : Nat} (hi : i < T.length) (ho : at0 A i ≠ at0 T i) : Okt L T (after L T A i) := by
  obtain ⟨ha0, ha1⟩ := ok.at_ i hi
  obtain ⟨ht0, ht1⟩ := ok.to_ i hi
  unfold Yteijenefhoconaa.after
  split
  · refine ⟨by rw [List.length_set]; exact ok.a5, ok.t5, ok.l8, ?_, ok.to_, ?_⟩
    rotate_left
    · intro x hx
      have := ok.l8
      rcases List.mem_or_eq_of_mem_set hx with h | rfl
      · exact ok.bnd x h
      · unfold nxt; split <;> omega
    intro j hj
    rw [at0_set]
    split
    · unfold nxt; split <;> omega
    · exact ok.at_ j hj
  · exact ok
theorem left_zero {T A : List Int} (h : left A T = 0) : wayL A T = [] := by
  unfold wayL
  rw [List.filter_eq_nil_iff]
  intro i hi
  have hi' : i < T.length := by simpa using hi
  unfold left at h
  have := List.sum_eq_zero_iff_forall_eq_nat.1 h ((at0 A i - at0 T i).natAbs) (List.mem_map.2 ⟨i, hi, rfl⟩)
  simp [onw]; omega
theorem mov_nil {L T A : List Int} (h : wayL A T = []) : movL L T A = [] := by unfold movL; rw [h]; rfl
theorem any_congr {α : Type} {l : List α} {f g : α → Bool} (h : ∀ x ∈ l, f x = g x) : l.any f = l.any g := by
  induction l with
  | nil => rfl
  | cons x l ih => simp only [List.any_cons]; rw [h x (by simp), ih (fun y hy => h y (by simp [hy]))]
theorem safeF_eq {L T : List Int} : ∀ (n : Nat) (A : List Int), Okt L T A → left A T ≤ n → safeF n L T A = safeB L T A := by
  intro n
  induction n with
  | zero => intro A _ h; unfold safeB; rw [show left A T = 0 by omega]
  | succ n ih =>
    intro A ok h
    unfold safeB
    cases hl : left A T with
    | zero =>
      have hw := left_zero hl
      simp [safeF, hw, mov_nil (L := L) hw]
    | succ m =>
      simp only [safeF]
      congr 1
      refine any_congr (fun i hi => ?_)
      obtain ⟨h1, h2, h3⟩ := mov_mem hi
      have hla := left_after ok h1 h2 h3
      rw [ih _ (ok.after h1 h2) (by omega)]
      unfold safeB
      rw [show left (Yteijenefhoconaa.after L T A i) T = m by omega]
theorem safeB_step {L T A : List Int} (ok : Okt L T A) : safeB L T A = (decide (wayL A T = []) || (movL L T A).any fun i => safeB L T (after L T A i)) := by
  rw [← safeF_eq (left A T + 1) A ok (by omega)]
  simp only [safeF]
  congr 1
  refine any_congr (fun i hi => ?_)
  obtain ⟨h1, h2, h3⟩ := mov_mem hi
  have hla := left_after ok h1 h2 h3
  exact safeF_eq _ _ (ok.after h1 h2) (by omega)

end Yteijenefhoconaa
end Go.Proofs
