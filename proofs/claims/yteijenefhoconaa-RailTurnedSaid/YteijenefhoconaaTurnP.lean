/- A line that is turned around, and trains in another order. Plain Lean. -/
import Derived.Test.YteijenefhoconaaRP2
open Go Go.RowKit Go.YteijenefhoconaaIt
namespace Go.Proofs
namespace Yteijenefhoconaa
/-- A train in the line turned around. -/
def mirF (l : Nat) (x : Tn) : Tn := ((l : Int) - 1 - x.1, (l : Int) - 1 - x.2)
/-- The place of train i. -/
def sg (r n i : Nat) : Nat := (i + r) % n
/-- The list in which train i lies at place (i + r) % n. -/
def rotL {α : Type} (r : Nat) (xs : List α) : List α := xs.drop (xs.length - r) ++ xs.take (xs.length - r)
section
variable {α : Type} {r : Nat} {xs : List α}
theorem rot_len : (rotL r xs).length = xs.length := by unfold rotL; rw [List.length_append, List.length_drop, List.length_take]; omega
theorem rot_perm : (rotL r xs).Perm xs := by
  unfold rotL
  exact List.perm_append_comm.trans (by rw [List.take_append_drop])
theorem rot_at (hr : r < xs.length) {i : Nat} (hi : i < xs.length) : (rotL r xs)[sg r xs.length i]? = xs[i]? := by
  unfold rotL sg
  by_cases h : i + r < xs.length
  · rw [Nat.mod_eq_of_lt h, List.getElem?_append_right (by simp; omega), List.length_drop, List.getElem?_take, if_pos (by omega)]
    congr 1; omega
  · have e : (i + r) % xs.length = i + r - xs.length := by rw [Nat.mod_eq_sub_mod (by omega), Nat.mod_eq_of_lt (by omega)]
    rw [e, List.getElem?_append_left (by simp; omega), List.getElem?_drop]
    congr 1; omega
end
theorem sg_lt {r n i : Nat} (hn : 0 < n) : sg r n i < n := Nat.mod_lt _ hn
theorem sg_inj {r n i j : Nat} (hr : r < n) (hi : i < n) (hj : j < n) (h : sg r n i = sg r n j) : i = j := by
  unfold sg at h
  have e : ∀ k, k < n → (k + r) % n = if k + r < n then k + r else k + r - n := fun k hk => by
    split
    · rename_i h; exact Nat.mod_eq_of_lt h
    · rename_i h; rw [Nat.mod_eq_sub_mod (by omega), Nat.mod_eq_of_lt (by omega)]
  rw [e i hi, e j hj] at h
  split at h <;> split at h <;> omega
theorem sg_onto {r n j : Nat} (hr : r < n) (hj : j < n) : ∃ i, i < n ∧ sg r n i = j := by
  by_cases h : r ≤ j
  · exact ⟨j - r, by omega, by unfold sg; rw [show j - r + r = j by omega]; exact Nat.mod_eq_of_lt hj⟩
  · refine ⟨j + n - r, by omega, ?_⟩
    unfold sg
    rw [show j + n - r + r = j + n by omega, Nat.add_mod_right]
    exact Nat.mod_eq_of_lt hj
theorem any_sg {r n : Nat} (hr : r < n) (p q : Nat → Bool) (h : ∀ i, i < n → q (sg r n i) = p i) : (List.range n).any q = (List.range n).any p := by
  rw [Bool.eq_iff_iff, List.any_eq_true, List.any_eq_true]
  constructor
  · rintro ⟨j, hj, hq⟩
    obtain ⟨i, hi, rfl⟩ := sg_onto hr (by simpa using hj : j < n)
    exact ⟨i, by simpa using hi, by rw [← h i hi]; exact hq⟩
  · rintro ⟨i, hi, hp⟩
    have hi' : i < n := by simpa using hi
    exact ⟨sg r n i, by simpa using sg_lt (by omega), by rw [h i hi']; exact hp⟩
theorem nodup_map {n : Nat} {f : Nat → Nat} : ∀ {l : List Nat}, l.Nodup → (∀ i ∈ l, i < n) → (∀ i j, i < n → j < n → f i = f j → i = j) → (l.map f).Nodup
  | [], _, _, _ => List.nodup_nil
  | x :: l, h, hn, hf => by
    rw [List.map_cons, List.nodup_cons]
    rw [List.nodup_cons] at h
    refine ⟨fun hm => ?_, nodup_map h.2 (fun i hi => hn i (by simp [hi])) hf⟩
    obtain ⟨y, hy, he⟩ := List.mem_map.1 hm
    have := hf y x (hn y (by simp [hy])) (hn x (by simp)) he
    subst this
    exact h.1 hy
theorem sg_perm {r n : Nat} (hr : r < n) : ((List.range n).map (sg r n)).Perm (List.range n) := by
  refine (List.perm_ext_iff_of_nodup ?_ List.nodup_range).2 fun j => ?_
  · exact nodup_map (n := n) List.nodup_range (fun i hi => by simpa using hi) (fun i j hi hj h => sg_inj hr hi hj h)
  · simp only [List.mem_map, List.mem_range]
    constructor
    · rintro ⟨i, hi, rfl⟩; exact sg_lt (by omega)
    · intro hj
      obtain ⟨i, hi, h⟩ := sg_onto hr hj
      exact ⟨i, hi, h⟩
theorem len_sg {r n : Nat} (hr : r < n) (p q : Nat → Bool) (h : ∀ i, i < n → q (sg r n i) = p i) : (fN q n).length = (fN p n).length := by
  unfold fN
  rw [List.length_map, List.length_map, ← List.countP_eq_length_filter, ← List.countP_eq_length_filter, ← (sg_perm hr).countP_eq, List.countP_map]
  refine List.countP_congr fun i hi => ?_
  have := h i (by simpa using hi)
  simp [this]
/-- The trains of the turned line. -/
def turnT (l r : Nat) (us : List Tn) : List Tn := rotL r (us.map (mirF l))
theorem turnT_len {l r : Nat} {us : List Tn} : (turnT l r us).length = us.length := by unfold turnT; rw [rot_len]; simp
theorem turn_at {l r : Nat} {us : List Tn} (hr : r < us.length) {i : Nat} (hi : i < us.length) : tAt (turnT l r us) (sg r us.length i) = (l : Int) - 1 - tAt us i ∧ tTo (turnT l r us) (sg r us.length i) = (l : Int) - 1 - tTo us i := by
  have hl : (us.map (mirF l)).length = us.length := by simp
  have e := rot_at (xs := us.map (mirF l)) (r := r) (by rw [hl]; exact hr) (i := i) (by rw [hl]; exact hi)
  rw [hl] at e
  rw [(tn_get _ _).1, (tn_get _ _).2, show turnT l r us = rotL r (us.map (mirF l)) from rfl, e, tAt_lt hi, tTo_lt hi]
  simp [hi, mirF]
theorem inT_turn {l r : Nat} {us : List Tn} (s : Int) : inT (turnT l r us) ((l : Int) - 1 - s) = inT us s := by
  rw [inT_count, inT_count]
  unfold turnT
  rw [rot_perm.countP_eq, List.countP_map]
  refine List.countP_congr fun x _ => ?_
  simp only [Function.comp, mirF, Bool.and_eq_true, beq_iff_eq, bne_iff_ne]
  omega
section
variable {L T : List Int} {us : List Tn} {r : Nat}
theorem rev_at {s : Int} (h0 : 0 ≤ s) (h1 : s < L.length) : at0 L.reverse ((L.length : Int) - 1 - s).toNat = at0 L s.toNat := by
  rw [at0_lt (by simp; omega), at0_lt (by omega), List.getElem_reverse]
  congr 1; omega
theorem turn_val (h : lineE L us = 0) (hr : r < us.length) : lineE L.reverse (turnT L.length r us) = 0 := by
  have hv := vt_of h
  have hrm := lineE_rooms h
  refine lineE_ok (by rw [List.length_reverse]; exact hrm.1) (by simp; exact hv.l8) (fun x hx => hrm.2 x (by simpa using hx)) (by rw [turnT_len]; exact hv.t5) ⟨fun j hj => ?_, fun j hj => ?_, fun s hs => ?_⟩
  · rw [turnT_len] at hj
    obtain ⟨i, hi, rfl⟩ := sg_onto hr hj
    have := hv.at_ i hi
    rw [(turn_at hr hi).1]; simp; omega
  · rw [turnT_len] at hj
    obtain ⟨i, hi, rfl⟩ := sg_onto hr hj
    have := hv.to_ i hi
    rw [(turn_at hr hi).2]; simp; omega
  · have hs' : s < L.length := by simpa using hs
    have e := inT_turn (l := L.length) (r := r) (us := us) ((L.length : Int) - 1 - s)
    rw [show (L.length : Int) - 1 - ((L.length : Int) - 1 - s) = s by omega] at e
    have e2 := rev_at (L := L) (s := (L.length : Int) - 1 - s) (by omega) (by omega)
    rw [show (L.length : Int) - 1 - ((L.length : Int) - 1 - s) = s by omega, Int.toNat_natCast] at e2
    rw [e, e2]
    have := room_ok h (s := ((L.length : Int) - 1 - s).toNat) (by omega)
    rw [Int.toNat_of_nonneg (by omega)] at this
    exact this
theorem turn_nxt (hr : r < us.length) {i : Nat} (hi : i < us.length) (hne : tAt us i ≠ tTo us i) : nxtT (turnT L.length r us) (sg r us.length i) = (L.length : Int) - 1 - nxtT us i := by
  have h := turn_at (l := L.length) hr hi
  unfold nxtT nextT
  rw [h.1, h.2]
  simp only
  split <;> split <;> omega
theorem turn_poss (h : lineE L us = 0) (hr : r < us.length) {i : Nat} (hi : i < us.length) : possT L.reverse (turnT L.length r us) (sg r us.length i) = possT L us i := by
  have ha := turn_at (l := L.length) hr hi
  unfold possT
  by_cases hne : tAt us i = tTo us i
  · rw [ha.1, ha.2, hne]; simp
  · have hn := (vt_of h).nxt hi hne
    rw [turn_nxt hr hi hne, inT_turn, rev_at hn.1 hn.2, ha.1, ha.2]
    rw [Bool.eq_iff_iff]
    simp only [Bool.and_eq_true, Bool.or_eq_true, bne_iff_ne, beq_iff_eq, decide_eq_true_eq]
    omega
theorem turn_mov (hr : r < us.length) {i : Nat} (hi : i < us.length) (hne : tAt us i ≠ tTo us i) : movT (turnT L.length r us) (sg r us.length i) = turnT L.length r (movT us i) := by
  have hl : (movT us i).length = us.length := movT_len _ _
  have hs := sg_lt (r := r) (i := i) (by omega : 0 < us.length)
  refine tn_ext (by rw [movT_len, turnT_len, turnT_len, hl]) fun j hj => ?_
  rw [movT_len, turnT_len] at hj
  obtain ⟨k, hk, rfl⟩ := sg_onto hr hj
  have h1 := movT_at (ts := turnT L.length r us) (i := sg r us.length i) (j := sg r us.length k) (by rw [turnT_len]; exact hs)
  have h2 := turn_at (l := L.length) (us := movT us i) (r := r) (by rw [hl]; exact hr) (i := k) (by rw [hl]; exact hk)
  rw [hl] at h2
  have h3 := movT_at (ts := us) (i := i) (j := k) hi
  have h4 := turn_at (l := L.length) hr hk
  rw [h1.1, h1.2, h2.1, h2.2, h3.1, h3.2, h4.1, h4.2]
  refine ⟨?_, rfl⟩
  by_cases hki : k = i
  · subst hki; rw [if_pos rfl, if_pos rfl, turn_nxt hr hk hne]
  · rw [if_neg hki, if_neg (fun e => hki (sg_inj hr hk hi e))]
theorem turn_safe : ∀ (n : Nat) (us : List Tn), leftT us = n → Val L T us → r < us.length → safeT L.reverse (turnT L.length r us) = safeT L us := by
  intro n
  induction n using Nat.strongRecOn with
  | _ n ih =>
  intro us h0 h hr
  have hV : Val L.reverse (tos (turnT L.length r us)) (turnT L.length r us) := ⟨turn_val h.1 hr, rfl⟩
  rw [safeT_step h, safeT_step hV, turnT_len]
  congr 1
  · unfold allT
    rw [List.all_eq_not_any_not, List.all_eq_not_any_not]
    congr 1
    refine any_sg hr _ _ fun i hi => ?_
    have ha := turn_at (l := L.length) hr hi
    rw [ha.1, ha.2]
    congr 1
    rw [Bool.eq_iff_iff]; simp only [beq_iff_eq]; omega
  · refine any_sg hr _ _ fun i hi => ?_
    rw [turn_poss h.1 hr hi]
    cases hp : possT L us i with
    | false => rfl
    | true =>
      have hne := (poss_way (vt_of h.1).t5 hi hp).1
      rw [turn_mov hr hi hne, ih _ (by have := leftT_mov h hi hp; omega) (movT us i) rfl (h.mov hi hp) (by rw [movT_len]; exact hr)]
theorem turn_good (h : Val L T us) (hr : r < us.length) {i : Nat} (hi : i < us.length) : gdT L.reverse (turnT L.length r us) (sg r us.length i) = gdT L us i := by
  unfold gdT
  rw [turn_poss h.1 hr hi]
  cases hp : possT L us i with
  | false => rfl
  | true =>
    have hne := (poss_way (vt_of h.1).t5 hi hp).1
    rw [turn_mov hr hi hne, turn_safe _ _ rfl (h.mov hi hp) (by rw [movT_len]; exact hr)]
theorem turn_stuck (h : Val L T us) (hr : r < us.length) : (wayT (turnT L.length r us) us.length && !canT L.reverse (turnT L.length r us) us.length) = (wayT us us.length && !canT L us us.length) := by
  unfold wayT canT
  rw [any_sg hr (fun i => tAt us i != tTo us i) (fun i => tAt (turnT L.length r us) i != tTo (turnT L.length r us) i) fun i hi => by
    have ha := turn_at (l := L.length) hr hi
    rw [ha.1, ha.2, Bool.eq_iff_iff]; simp only [bne_iff_ne]; omega, any_sg hr (possT L us) (possT L.reverse (turnT L.length r us)) fun i hi => turn_poss h.1 hr hi]
end
end Yteijenefhoconaa
end Go.Proofs
