/- The plan in terms of trains; how many moves are left; there is room for all. Plain Lean. -/
import Derived.Test.YtnihopdglkhbnaaE31
import Derived.Test.YtnihopdglkhbnaaRefGd
import Derived.Test.YtnihopdglkhbnaaLink
import Derived.Test.YtnihopdglkhbnaaXs
open Go Go.RowKit Go.YtnihopdglkhbnaaIt
namespace Go.Proofs
namespace Ytnihopdglkhbnaa
theorem way_all {us : List Tn} (h5 : us.length ≤ 5) : decide (wayL (pos us) (tos us) = []) = allT us us.length := by
  rw [Bool.eq_iff_iff, decide_eq_true_eq]
  unfold wayL allT
  rw [List.filter_eq_nil_iff, List.all_eq_true, tos_len]
  refine forall_congr' fun i => ?_
  constructor
  · intro h hi
    have hi' : i < us.length := by simpa using hi
    have h1 := h hi
    unfold onw at h1
    rw [pos_at h5 hi', tos_at hi'] at h1
    simpa using h1
  · intro h hi
    have hi' : i < us.length := by simpa using hi
    have h1 := h hi
    unfold onw
    rw [pos_at h5 hi', tos_at hi']
    simpa using h1
theorem leftN_leftT {us : List Tn} (h5 : us.length ≤ 5) : leftN us us.length = (leftT us : Int) := by
  unfold leftN leftT left
  rw [tos_len]
  have : ∀ k, k ≤ us.length → ((List.range k).map (fun i => max (tAt us i - tTo us i) (tTo us i - tAt us i))).sum = ((((List.range k).map fun i => (at0 (pos us) i - at0 (tos us) i).natAbs).sum : Nat) : Int) := by
    intro k
    induction k with
    | zero => intro _; rfl
    | succ k ih =>
      intro hk
      rw [List.range_succ, List.map_append, List.map_append, List.sum_append, List.sum_append, ih (by omega)]
      have e1 : at0 (pos us) k = tAt us k := pos_at h5 (by omega)
      have e2 : at0 (tos us) k = tTo us k := tos_at (by omega)
      simp [e1, e2]
      omega
  exact this _ (Nat.le_refl _)
theorem left_all {us : List Tn} (h5 : us.length ≤ 5) : decide (leftT us = 0) = allT us us.length := by
  rw [← leftN_all, leftN_leftT h5]
  rw [Bool.eq_iff_iff]; simp
theorem plan_cons {L T : List Int} {us : List Tn} (h : Val L T us) (hs : safeT L us = true) (hl : leftT us ≠ 0) :
    ∃ i, i < us.length ∧ possT L us i = true ∧ safeT L (movT us i) = true ∧ planL L T (pos us) = (i : Int) :: planL L T (pos (movT us i)) := by
  have h5 := (vt_of h.1).t5
  have ok := okt_of h.1
  have hw : wayL (pos us) (tos us) ≠ [] := fun e => hl (by have := left_all h5; rw [← way_all h5, e] at this; simpa using this)
  unfold safeT at hs
  rw [safeB_step ok] at hs
  simp only [hw, decide_false, Bool.false_or, List.any_eq_true] at hs
  obtain ⟨j, hj, hjs⟩ := hs
  obtain ⟨i, hi⟩ : ∃ i, (movL L (tos us) (pos us)).find? (fun i => safeB L (tos us) (after L (tos us) (pos us) i)) = some i := Option.isSome_iff_exists.1 (by rw [List.find?_isSome]; exact ⟨j, hj, hjs⟩)
  have hmem := List.mem_of_find?_eq_some hi
  have hsi : safeB L (tos us) (after L (tos us) (pos us) i) = true := List.find?_some (p := fun i => safeB L (tos us) (after L (tos us) (pos us) i)) hi
  have hmem2 := hmem
  rw [movL_eq h5, List.mem_filter, List.mem_range] at hmem2
  obtain ⟨hil, hp⟩ := hmem2
  obtain ⟨_, _, ha⟩ := poss_way h5 hil hp
  refine ⟨i, hil, hp, ?_, ?_⟩
  · unfold safeT; rw [tos_movT, ← ha]; exact hsi
  · have := planL_step ok hi
    rw [ha] at this
    rw [← h.2]; exact this
theorem good_some {L T : List Int} {us : List Tn} (h : Val L T us) (hs : safeT L us = true) (hl : leftT us ≠ 0) : ∃ i, i < us.length ∧ gdT L us i = true := by
  obtain ⟨i, hi, hp, hs', _⟩ := plan_cons h hs hl
  exact ⟨i, hi, by unfold gdT; rw [hp, hs']; rfl⟩
end Ytnihopdglkhbnaa
end Go.Proofs

