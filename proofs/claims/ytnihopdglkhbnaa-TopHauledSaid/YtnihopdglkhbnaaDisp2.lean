/- A dispatcher in terms of trains; round by round all are asked. Plain Lean, and what Dispatch answers. -/
import Derived.Test.YtnihopdglkhbnaaYl
open Go Go.RowKit Go.YtnihopdglkhbnaaIt
namespace Go.Proofs
namespace Ytnihopdglkhbnaa
/-- What a dispatcher lets go, and the state after all asks. -/
def dispT (L : List Int) : List Tn → List Int → List Bool × List Tn
  | us, [] => ([], us)
  | us, m :: ms => if gdT L us m.toNat = true then (true :: (dispT L (movT us m.toNat) ms).1, (dispT L (movT us m.toNat) ms).2) else (false :: (dispT L us ms).1, (dispT L us ms).2)
theorem dispT_yes {L : List Int} {us : List Tn} {m : Int} {ms : List Int} (h : gdT L us m.toNat = true) : dispT L us (m :: ms) = (true :: (dispT L (movT us m.toNat) ms).1, (dispT L (movT us m.toNat) ms).2) := by
  simp only [dispT, if_pos h]
theorem dispT_no {L : List Int} {us : List Tn} {m : Int} {ms : List Int} (h : ¬ gdT L us m.toNat = true) : dispT L us (m :: ms) = (false :: (dispT L us ms).1, (dispT L us ms).2) := by
  simp only [dispT, if_neg h]
theorem gdT_parts {L : List Int} {us : List Tn} {i : Nat} (h : gdT L us i = true) : possT L us i = true ∧ safeT L (movT us i) = true := by
  unfold gdT at h; simpa using h
theorem dispT_val {L T : List Int} : ∀ (ms : List Int) (us : List Tn), Val L T us → (∀ m ∈ ms, 0 ≤ m ∧ m.toNat < us.length) → Val L T (dispT L us ms).2 ∧ (dispT L us ms).2.length = us.length ∧ (safeT L us = true → safeT L (dispT L us ms).2 = true) ∧ leftT (dispT L us ms).2 ≤ leftT us
  | [], us, h, _ => ⟨h, rfl, fun h => h, Nat.le_refl _⟩
  | m :: ms, us, h, hm => by
    have hm0 := hm m (by simp)
    by_cases hg : gdT L us m.toNat = true
    · rw [dispT_yes hg]
      obtain ⟨hp, hs⟩ := gdT_parts hg
      obtain ⟨h1, h2, h3, h4⟩ := dispT_val ms (movT us m.toNat) (h.mov hm0.2 hp) (fun x hx => by rw [movT_len]; exact hm x (by simp [hx]))
      have := leftT_mov h hm0.2 hp
      exact ⟨h1, h2.trans (movT_len _ _), fun _ => h3 hs, Nat.le_trans h4 (by omega)⟩
    · rw [dispT_no hg]
      obtain ⟨h1, h2, h3, h4⟩ := dispT_val ms us h (fun x hx => hm x (by simp [hx]))
      exact ⟨h1, h2, h3, h4⟩
theorem dispT_less {L T : List Int} {i : Nat} : ∀ (ms : List Int) (us : List Tn), Val L T us → (∀ m ∈ ms, 0 ≤ m ∧ m.toNat < us.length) → (i : Int) ∈ ms → gdT L us i = true → leftT (dispT L us ms).2 < leftT us
  | [], _, _, _, hi, _ => by simp at hi
  | m :: ms, us, h, hm, hi, hgi => by
    have hm0 := hm m (by simp)
    by_cases hg : gdT L us m.toNat = true
    · rw [dispT_yes hg]
      obtain ⟨hp, _⟩ := gdT_parts hg
      have h4 := (dispT_val ms (movT us m.toNat) (h.mov hm0.2 hp) (fun x hx => by rw [movT_len]; exact hm x (by simp [hx]))).2.2.2
      have := leftT_mov h hm0.2 hp
      exact Nat.lt_of_le_of_lt h4 (by omega)
    · rw [dispT_no hg]
      have hi' : (i : Int) ∈ ms := by
        rcases List.mem_cons.1 hi with e | e
        · rw [← e, Int.toNat_natCast] at hg; exact absurd hgi hg
        · exact e
      exact dispT_less ms us h (fun x hx => hm x (by simp [hx])) hi' hgi
theorem gd_iff {L T : List Int} {us : List Tn} (h : Val L T us) {m : Int} (h0 : 0 ≤ m) (hm : m.toNat < us.length) : (moveE L T (pos us) m = 0 ∧ safeB L T (moveS L T (pos us) m) = true) ↔ gdT L us m.toNat = true := by
  have h5 := (vt_of h.1).t5
  have hT := h.2
  subst hT
  have hme := moveE_eq (L := L) h5 m
  rw [if_pos (by simp [btw]; omega)] at hme
  constructor
  · rintro ⟨h1, h2⟩
    have hz := moveE_zero h5 h1
    rw [moveS_eq h5 h1] at h2
    unfold gdT safeT
    rw [hz.2.2.2, tos_movT, h2]; rfl
  · intro hg
    obtain ⟨hp, hs⟩ := gdT_parts hg
    have hne := (poss_way h5 hm hp).1
    have e : moveE L (tos us) (pos us) m = 0 := by rw [hme, if_neg hne, if_pos hp]
    refine ⟨e, ?_⟩
    rw [moveS_eq h5 e]
    unfold safeT at hs
    rwa [tos_movT] at hs
theorem disp_eq {L T : List Int} : ∀ (ms : List Int) (us : List Tn), Val L T us → (∀ m ∈ ms, 0 ≤ m ∧ m.toNat < us.length) → dispG L T (pos us) ms = ((dispT L us ms).1, pos (dispT L us ms).2)
  | [], us, _, _ => rfl
  | m :: ms, us, h, hm => by
    have hm0 := hm m (by simp)
    have h5 := (vt_of h.1).t5
    have hiff := gd_iff h hm0.1 hm0.2
    unfold dispG
    by_cases hg : gdT L us m.toNat = true
    · have hc := hiff.2 hg
      rw [if_pos hc, dispT_yes hg]
      obtain ⟨hp, _⟩ := gdT_parts hg
      have e : moveS L T (pos us) m = pos (movT us m.toNat) := by rw [← h.2]; exact moveS_eq h5 (by rw [h.2]; exact hc.1)
      rw [e, disp_eq ms _ (h.mov hm0.2 hp) (fun x hx => by rw [movT_len]; exact hm x (by simp [hx]))]
    · rw [if_neg (fun hc => hg (hiff.1 hc)), dispT_no hg, disp_eq ms us h (fun x hx => hm x (by simp [hx]))]
theorem y25 {vL vt va : Value} {L T asks : List Int} {us : List Tn} (h : Val L T us) (hs : safeT L us = true) (hm : ∀ m ∈ asks, 0 ≤ m ∧ m.toNat < us.length) (hl : asks.length ≤ 500) (W : World) (hL : SlI W vL L) (ht : SlT W vt us) (ha : SlI W va asks) :
    Calls Try.prog 7 #[vL, vt, va] W fun e w' => ∃ v u, e = .returned (.tuple #[v, u, .int .i64 0]) ∧ SlB w' v (dispT L us asks).1 ∧ SlT w' u (dispT L us asks).2 ∧ Below W.heap.size W w' := by
  have h5 := (vt_of h.1).t5
  have e0 : dispE L us asks = 0 := by
    unfold dispE
    unfold safeT at hs
    have hr : asks.any (fun i => !btw 0 i (us.length - 1)) = false := by
      rw [List.any_eq_false]
      intro x hx
      have := hm x hx
      simp [btw]; omega
    rw [h.1, if_neg (by simp), hs, if_neg (by simp), if_neg (by omega), hr, if_neg (by simp)]
  have hv := dispT_val asks us h hm
  refine (disp_any vL vt va L us asks W hL ht ha).mono ?_
  rintro e w' ⟨hb, ⟨h1, _⟩ | ⟨_, v, u, rfl, h1, h2⟩⟩
  · exact absurd e0 h1
  · have hd := disp_eq asks us h hm
    rw [h.2, hd] at h1 h2
    refine ⟨v, u, rfl, h1, ?_, hb⟩
    rw [← hv.1.2, tsOf_pos (by rw [hv.2.1]; exact h5)] at h2
    exact h2
theorem y25n {vL vt va : Value} {L T asks : List Int} {us : List Tn} (h : Val L T us) (hs : safeT L us = false) (W : World) (hL : SlI W vL L) (ht : SlT W vt us) (ha : SlI W va asks) :
    Calls Try.prog 7 #[vL, vt, va] W fun e w' => e = .returned (.tuple #[.slice none 0 0, .slice none 0 0, .int .i64 16]) ∧ Below W.heap.size W w' := by
  have e0 : dispE L us asks = 16 := by
    unfold dispE
    unfold safeT at hs
    rw [h.1, if_neg (by simp), hs, if_pos rfl]
  refine (disp_any vL vt va L us asks W hL ht ha).mono ?_
  rintro e w' ⟨hb, ⟨h1, rfl⟩ | ⟨h1, _⟩⟩
  · exact ⟨by rw [e0], hb⟩
  · rw [e0] at h1; cases h1
/-! ### Rounds of asks -/
end Ytnihopdglkhbnaa
end Go.Proofs

