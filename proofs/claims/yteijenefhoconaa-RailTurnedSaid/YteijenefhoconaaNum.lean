/- The numbers of states; what is safe, train by train. Plain Lean. -/
import Derived.Test.YteijenefhoconaaLink
open Go Go.RowKit Go.YteijenefhoconaaIt
namespace Go.Proofs
namespace Yteijenefhoconaa
def numN (ts : List Tn) : Nat → Nat
  | 0 => 0
  | k + 1 => numN ts k * 8 + (tAt ts k).toNat
def num (ts : List Tn) : Nat := numN ts ts.length
theorem numN_lt {L : List Int} {ts : List Tn} (h : Vt L ts) : ∀ k, k ≤ ts.length → numN ts k < 8 ^ k
  | 0, _ => by simp [numN]
  | k + 1, hk => by
    have ih := numN_lt h k (by omega)
    have h1 := h.at_ k (by omega)
    have h2 := h.l8
    simp only [numN, Nat.pow_succ]
    omega
theorem numN_inj {L : List Int} {ts us : List Tn} (h : Vt L ts) (h' : Vt L us) (hl : ts.length = us.length) : ∀ k, k ≤ ts.length → numN ts k = numN us k → ∀ j, j < k → tAt ts j = tAt us j
  | 0, _, _ => fun j hj => by omega
  | k + 1, hk, he => by
    have h1 := h.at_ k (by omega)
    have h2 := h'.at_ k (by omega)
    have h3 := h.l8
    simp only [numN] at he
    intro j hj
    have e1 : numN ts k = numN us k ∧ (tAt ts k).toNat = (tAt us k).toNat := by omega
    rcases (show j < k ∨ j = k by omega) with hjk | rfl
    · exact numN_inj h h' hl k (by omega) e1.1 j hjk
    · omega
theorem num_inj {L : List Int} {ts us : List Tn} (h : Vt L ts) (h' : Vt L us) (ht : tos ts = tos us) (he : num ts = num us) : ts = us := by
  have hl : ts.length = us.length := by rw [← tos_len ts, ← tos_len us, ht]
  unfold num at he
  rw [← hl] at he
  refine eq_of_tn hl (fun i hi => ⟨numN_inj h h' hl _ (Nat.le_refl _) he i hi, ?_⟩)
  rw [← tos_at hi, ← tos_at (hl ▸ hi), ht]
/-- A state of these trains. -/
def Val (L T : List Int) (us : List Tn) : Prop := lineE L us = 0 ∧ tos us = T
def safeT (L : List Int) (ts : List Tn) : Bool := safeB L (tos ts) (pos ts)
def leftT (ts : List Tn) : Nat := left (pos ts) (tos ts)
def allT (ts : List Tn) (k : Nat) : Bool := (List.range k).all fun i => tAt ts i == tTo ts i
theorem allT_succ (ts : List Tn) (k : Nat) : allT ts (k + 1) = (allT ts k && tAt ts k == tTo ts k) := by
  unfold allT; rw [List.range_succ, List.all_append]; simp
theorem Val.mov {L T : List Int} {us : List Tn} (h : Val L T us) {i : Nat} (hi : i < us.length) (hp : possT L us i = true) : Val L T (movT us i) := ⟨lineE_mov h.1 hi hp, by rw [tos_movT]; exact h.2⟩
theorem poss_way {L : List Int} {ts : List Tn} (h5 : ts.length ≤ 5) {i : Nat} (hi : i < ts.length) (hp : possT L ts i = true) : tAt ts i ≠ tTo ts i ∧ canGo L (tos ts) (pos ts) i = true ∧ after L (tos ts) (pos ts) i = pos (movT ts i) := by
  have hne : tAt ts i ≠ tTo ts i := by intro he; simp [possT, he] at hp
  have h2 := poss_eq (L := L) h5 hi
  rw [hp] at h2
  have hc : canGo L (tos ts) (pos ts) i = true := by
    cases h : canGo L (tos ts) (pos ts) i with
    | true => rfl
    | false => rw [h, Bool.and_false] at h2; cases h2
  refine ⟨hne, hc, ?_⟩
  unfold after
  rw [if_pos hc, pos_movT h5 hi hne]
theorem leftT_mov {L T : List Int} {us : List Tn} (h : Val L T us) {i : Nat} (hi : i < us.length) (hp : possT L us i = true) : leftT (movT us i) + 1 = leftT us := by
  have ok := okt_of h.1
  have h5 := (vt_of h.1).t5
  obtain ⟨h1, h2, h3⟩ := poss_way h5 hi hp
  have := left_after ok (i := i) (by rw [tos_len]; exact hi) (by rw [pos_at h5 hi, tos_at hi]; exact h1) h2
  unfold leftT
  rw [tos_movT, ← h3]
  exact this
theorem any_filter' {α : Type} (p q : α → Bool) : ∀ l : List α, (l.filter p).any q = l.any fun x => p x && q x
  | [] => rfl
  | x :: l => by
    rw [List.filter_cons]
    cases h : p x <;> simp [h, any_filter' p q l]
theorem safeT_step {L T : List Int} {us : List Tn} (h : Val L T us) : safeT L us = (allT us us.length || (List.range us.length).any fun i => possT L us i && safeT L (movT us i)) := by
  have ok := okt_of h.1
  have h5 := (vt_of h.1).t5
  unfold safeT
  rw [safeB_step ok, movL_eq h5, any_filter']
  congr 1
  · rw [Bool.eq_iff_iff]
    have hw : wayL (pos us) (tos us) = [] ↔ ∀ j, j < us.length → tAt us j = tTo us j := by
      unfold wayL
      rw [tos_len, List.filter_eq_nil_iff]
      constructor
      · intro h j hj
        have := h j (by simpa using hj)
        unfold onw at this
        rw [pos_at h5 hj, tos_at hj] at this
        simpa using this
      · intro h j hj
        have hj' : j < us.length := by simpa using hj
        unfold onw
        rw [pos_at h5 hj', tos_at hj']
        simp [h j hj']
    simp only [decide_eq_true_eq, hw, allT, List.all_eq_true, List.mem_range, beq_iff_eq]
  · refine any_congr (fun i hi => ?_)
    have hi' : i < us.length := by simpa using hi
    cases hp : possT L us i with
    | false => simp
    | true =>
      rw [(poss_way h5 hi' hp).2.2, tos_movT]
end Yteijenefhoconaa
end Go.Proofs
