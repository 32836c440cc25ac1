/- More room, or a train less: what is safe and good remains so. Plain Lean. -/
import Derived.Test.YteijenefhoconaaPlanT
import Derived.Test.YteijenefhoconaaFn
open Go Go.RowKit Go.YteijenefhoconaaIt
namespace Go.Proofs
namespace Yteijenefhoconaa
theorem okM_of {L : List Int} {us : List Tn} (h : lineE L us = 0) : OkM L us := ⟨(vt_of h).at_, (vt_of h).to_, fun _ hs => room_ok h hs⟩
theorem safe_zero {L T : List Int} {us : List Tn} (h : Val L T us) (h0 : leftT us = 0) : safeT L us = true := by
  rw [safeT_step h]
  have := left_all (vt_of h.1).t5
  rw [h0] at this
  rw [← this]; simp
section
variable {L M T : List Int} {us : List Tn}
theorem lineE_more (hl : M.length = L.length) (hle : ∀ s, s < L.length → at0 L s ≤ at0 M s) (hr : ∀ x ∈ M, 1 ≤ x ∧ x ≤ 5) (h1 : 0 < L.length) (h : lineE L us = 0) : lineE M us = 0 := by
  have hv := vt_of h
  refine lineE_ok (by omega) (by have := hv.l8; omega) hr hv.t5 ⟨fun i hi => ?_, fun i hi => ?_, fun s hs => ?_⟩
  · rw [hl]; exact hv.at_ i hi
  · rw [hl]; exact hv.to_ i hi
  · exact Int.le_trans (room_ok h (by omega)) (hle s (by omega))
theorem possT_more (hle : ∀ s, s < L.length → at0 L s ≤ at0 M s) (hv : Vt L us) {i : Nat} (hi : i < us.length) (h : possT L us i = true) : possT M us i = true := by
  unfold possT at h ⊢
  simp only [Bool.and_eq_true, Bool.or_eq_true, bne_iff_ne, decide_eq_true_eq] at h ⊢
  refine ⟨h.1, h.2.imp id fun h2 => ?_⟩
  have hn := hv.nxt hi h.1
  have := hle (nxtT us i).toNat (by omega)
  omega
theorem safeT_more (hle : ∀ s, s < L.length → at0 L s ≤ at0 M s) : ∀ (n : Nat) (us : List Tn), leftT us = n → Val L T us → (∀ us, lineE L us = 0 → lineE M us = 0) → safeT L us = true → safeT M us = true := by
  intro n
  induction n with
  | zero => intro us h0 h hm _; exact safe_zero (T := T) ⟨hm us h.1, h.2⟩ h0
  | succ n ih =>
    intro us h0 h hm hs
    obtain ⟨i, hi, hp, hs', _⟩ := plan_cons h hs (by omega)
    have := leftT_mov h hi hp
    exact safe_yes (T := T) ⟨hm us h.1, h.2⟩ hi (possT_more hle (vt_of h.1) hi hp) (ih _ (by omega) (h.mov hi hp) hm hs')
end
/-! ### A train less -/
def jx (k i : Nat) : Nat := if i < k then i else i - 1
theorem tn_get (us : List Tn) (i : Nat) : tAt us i = ((us[i]?).map (·.1)).getD 0 ∧ tTo us i = ((us[i]?).map (·.2)).getD 0 := by
  unfold tAt tTo
  rw [List.getD_eq_getElem?_getD]
  cases us[i]? <;> simp
theorem erase_at (us : List Tn) {k i : Nat} (hne : i ≠ k) : tAt (us.eraseIdx k) (jx k i) = tAt us i ∧ tTo (us.eraseIdx k) (jx k i) = tTo us i := by
  have e : (us.eraseIdx k)[jx k i]? = us[i]? := by
    unfold jx
    rw [List.getElem?_eraseIdx]
    by_cases h : i < k
    · rw [if_pos h, if_pos h]
    · rw [if_neg h, if_neg (by omega)]
      congr 1; omega
  rw [(tn_get _ _).1, (tn_get _ _).2, e, (tn_get us i).1, (tn_get us i).2]
  exact ⟨rfl, rfl⟩
theorem erase_at' (us : List Tn) (k j : Nat) : ∃ i, (j < k → i = j) ∧ (k ≤ j → i = j + 1) ∧ tAt (us.eraseIdx k) j = tAt us i ∧ tTo (us.eraseIdx k) j = tTo us i := by
  by_cases h : j < k
  · refine ⟨j, fun _ => rfl, fun h' => by omega, ?_⟩
    have := erase_at us (k := k) (i := j) (by omega)
    rwa [show jx k j = j from if_pos h] at this
  · refine ⟨j + 1, fun h' => by omega, fun _ => rfl, ?_⟩
    have := erase_at us (k := k) (i := j + 1) (by omega)
    rwa [show jx k (j + 1) = j by unfold jx; rw [if_neg (by omega)]; rfl] at this
theorem inT_count (us : List Tn) (s : Int) : inT us s = us.countP fun x => x.1 == s && x.1 != x.2 := by
  unfold inT
  rw [← List.countP_eq_length_filter]
  have e : us = (List.range us.length).map fun i => (tAt us i, tTo us i) := by
    apply List.ext_getElem (by simp)
    intro i h1 h2
    rw [List.getElem_map, List.getElem_range, tAt_lt h1, tTo_lt h1]
  conv => rhs; rw [e]
  rw [List.countP_map]
  rfl
theorem inT_erase (us : List Tn) (k : Nat) (s : Int) : inT (us.eraseIdx k) s ≤ inT us s := by
  rw [inT_count, inT_count]
  exact List.Sublist.countP_le (List.eraseIdx_sublist us k)
section
variable {L T : List Int} {us : List Tn} {k : Nat}
theorem erase_len (hk : k < us.length) : (us.eraseIdx k).length = us.length - 1 := List.length_eraseIdx_of_lt hk
theorem lineE_rooms (h : lineE L us = 0) : 0 < L.length ∧ ∀ x ∈ L, 1 ≤ x ∧ x ≤ 5 := by
  unfold lineE at h
  split at h; · cases h
  split at h; · cases h
  split at h
  · cases h
  rename_i h1 _ hr
  refine ⟨by omega, fun x hx => ?_⟩
  unfold roomOut at hr
  have := List.any_eq_false.1 (Bool.eq_false_iff.2 hr) x hx
  simpa [btw] using this
theorem er_lt {n j i : Nat} (h1 : j < k → i = j) (h2 : k ≤ j → i = j + 1) (h : j + 1 < n ∨ j < k ∧ j < n ∨ j + 1 = n ∧ j < k) : i < n := by
  by_cases hjk : j < k
  · have := h1 hjk; omega
  · have := h2 (by omega); omega
theorem erase_val (h : lineE L us = 0) (hk : k < us.length) : lineE L (us.eraseIdx k) = 0 := by
  have hv := vt_of h
  have hr := lineE_rooms h
  have hl := erase_len hk
  refine lineE_ok hr.1 hv.l8 hr.2 (by have := hv.t5; omega) ⟨fun j hj => ?_, fun j hj => ?_, fun s hs => ?_⟩
  · obtain ⟨i, h1, h2, h3, h4⟩ := erase_at' us k j
    rw [hl] at hj
    rw [h3]; exact hv.at_ i (er_lt h1 h2 (by omega))
  · obtain ⟨i, h1, h2, h3, h4⟩ := erase_at' us k j
    rw [hl] at hj
    rw [h4]; exact hv.to_ i (er_lt h1 h2 (by omega))
  · have := inT_erase us k s
    have := room_ok h hs
    omega
theorem erase_poss {i : Nat} (hne : i ≠ k) (h : possT L us i = true) : possT L (us.eraseIdx k) (jx k i) = true := by
  have ha := erase_at us hne
  unfold possT nxtT at h ⊢
  rw [ha.1, ha.2]
  simp only [Bool.and_eq_true, Bool.or_eq_true, bne_iff_ne, decide_eq_true_eq] at h ⊢
  refine ⟨h.1, h.2.imp id fun h2 => ?_⟩
  have := inT_erase us k (nextT (tAt us i, tTo us i))
  omega
theorem erase_mov {i : Nat} (hne : i ≠ k) : (movT us i).eraseIdx k = movT (us.eraseIdx k) (jx k i) := by
  have ha := erase_at us hne
  unfold movT nxtT
  rw [ha.1, ha.2]
  unfold jx
  by_cases h : i < k
  · rw [if_pos h, List.eraseIdx_set_gt h]
  · rw [if_neg h, List.eraseIdx_set_lt (by omega)]
theorem erase_mov_self : (movT us k).eraseIdx k = us.eraseIdx k := by
  unfold movT; rw [List.eraseIdx_set_eq]
theorem jx_lt {i : Nat} (hne : i ≠ k) (hi : i < us.length) (hk : k < us.length) : jx k i < (us.eraseIdx k).length := by
  rw [erase_len hk]; unfold jx; split <;> omega
theorem erase_safe : ∀ (n : Nat) (us : List Tn), leftT us = n → Val L T us → k < us.length → safeT L us = true → safeT L (us.eraseIdx k) = true := by
  intro n
  induction n with
  | zero =>
    intro us h0 h hk _
    have hv := vt_of h.1
    have he := erase_val h.1 hk
    refine safe_zero (T := tos (us.eraseIdx k)) ⟨he, rfl⟩ ?_
    have h5' := (vt_of he).t5
    have ha := left_all hv.t5
    rw [h0] at ha
    have hall : ∀ i, i < us.length → tAt us i = tTo us i := by
      intro i hi
      have h1 : allT us us.length = true := by rw [← ha]; simp
      unfold allT at h1
      have := List.all_eq_true.1 h1 i (by simpa using hi)
      simpa using this
    have hb := left_all h5'
    have : allT (us.eraseIdx k) (us.eraseIdx k).length = true := by
      unfold allT
      rw [List.all_eq_true]
      intro j hj
      have hj' : j < (us.eraseIdx k).length := by simpa using hj
      rw [erase_len hk] at hj'
      obtain ⟨i, h1, h2, h3, h4⟩ := erase_at' us k j
      rw [h3, h4, hall i (er_lt h1 h2 (by omega))]; simp
    rw [this] at hb
    simpa using hb
  | succ n ih =>
    intro us h0 h hk hs
    obtain ⟨i, hi, hp, hs', _⟩ := plan_cons h hs (by omega)
    have hl := leftT_mov h hi hp
    have hr := ih (movT us i) (by omega) (h.mov hi hp) (by rw [movT_len]; exact hk) hs'
    by_cases hik : i = k
    · subst hik
      rwa [erase_mov_self] at hr
    · rw [erase_mov hik] at hr
      exact safe_yes (T := tos (us.eraseIdx k)) ⟨erase_val h.1 hk, rfl⟩ (jx_lt hik hi hk) (erase_poss hik hp) hr
theorem erase_good {i : Nat} (h : Val L T us) (hne : i ≠ k) (hi : i < us.length) (hk : k < us.length) (hg : gdT L us i = true) : gdT L (us.eraseIdx k) (jx k i) = true := by
  unfold gdT at hg ⊢
  simp only [Bool.and_eq_true] at hg ⊢
  refine ⟨erase_poss hne hg.1, ?_⟩
  rw [← erase_mov hne]
  exact erase_safe _ _ rfl (h.mov hi hg.1) (by rw [movT_len]; exact hk) hg.2
end
end Yteijenefhoconaa
end Go.Proofs
