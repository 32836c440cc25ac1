/- The numbers of states; what is safe, train by train. Plain Lean. -/
import Derived.Test.YtnihopdglkhbnaaLink
open Go Go.RowKit Go.YtnihopdglkhbnaaIt
namespace Go.Proofs
namespace Ytnihopdglkhbnaa
def numN (ts : List Tn) : Nat → Nat
  | 0 => 0
  | k + 1 => numN ts k * 8 + (tAt ts k).toNat
def num (ts : List Tn) : Nat := numN ts ts.length
/-- A state of these trains. -/
def Val (L T : List Int) (us : List Tn) : Prop := lineE L us = 0 ∧ tos us = T
def safeT (L : List Int) (ts : List Tn) : Bool := safeB L (tos ts) (pos ts)
def leftT (ts : List Tn) : Nat := left (pos ts) (tos ts)
def allT (ts : List Tn) (k : Nat) : Bool := (List.range k).all fun i => tAt ts i == tTo ts i
theorem allT_succ (ts : List Tn) (k : Nat) : allT ts (k + 1) = (allT ts k && tAt ts k == tTo ts k) := by
  unfold allT; rw [List.range_succ, List.all_append]; simp
theorem Val.mov {L T : List Int} {us : List Tn} (h : Val L T us) {i : Nat} (hi : i < us.length) (hp : possT L us i = true) : Val L T (movT us i) := ⟨lineE_mov h.1 hi hp, by rw [tos_movT]; exact h.2⟩
theorem poss_way {L : List Int} {ts : List Tn} (h5 : ts.length ≤ 5) {i : Nat} (hi : i < ts.length) (hp : possT L ts i = true) : tAt ts i ≠ tTo ts i ∧ canGo L (tos ts) (pos ts) i = true ∧ after L (tos ts) (pos ts) i = pos (movT ts i) := by
  have hne : tAt ts i ≠ tTo ts i := by intro he; simp [possT, he] at hp
  have h2 := poss_eq (L := L) h5 hi
  rw [hp] at h2
  have hc : canGo L (tos ts) (pos ts) i = true := by
    cases h : canGo L (tos ts) (pos ts) i with
    | true => rfl
    | false => rw [h, Bool.and_false] at h2; cases h2
  refine ⟨hne, hc, ?_⟩
  unfold after
  rw [if_pos hc, pos_movT h5 hi hne]
theorem leftT_mov {L T : List Int} {us : List Tn} (h : Val L T us) {i : Nat} (hi : i < us.length) (hp : possT L us i = true) : leftT (movT us i) + 1 = leftT us := by
  have ok := okt_of h.1
  have h5 := (vt_of h.1).t5
  obtain ⟨h1, h2, h3⟩ := poss_way h5 hi hp
  have := left_after ok (i := i) (by rw [tos_len]; exact hi) (by rw [pos_at h5 hi, tos_at hi]; exact h1) h2
  unfold leftT
  rw [tos_movT, ← h3]
  exact this
end Ytnihopdglkhbnaa
end Go.Proofs

