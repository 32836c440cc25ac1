/- Trains in one direction, and trains with room for all, are safe. Plain Lean. -/
import Derived.Test.YteijenefhoconaaRoomP
open Go Go.RowKit Go.YteijenefhoconaaIt
namespace Go.Proofs
namespace Yteijenefhoconaa
theorem max_one (p : Nat → Bool) (f : Nat → Int) : ∀ n, (∃ i, i < n ∧ p i = true) → ∃ i, i < n ∧ p i = true ∧ ∀ j, j < n → p j = true → f j ≤ f i
  | 0, ⟨i, hi, _⟩ => by omega
  | n + 1, ⟨i, hi, hp⟩ => by
    by_cases hn : ∃ i, i < n ∧ p i = true
    · obtain ⟨j, hj, hpj, hmax⟩ := max_one p f n hn
      by_cases hb : p n = true ∧ f j < f n
      · refine ⟨n, by omega, hb.1, fun k hk hpk => ?_⟩
        by_cases hkn : k = n
        · subst hkn; exact Int.le_refl _
        · exact Int.le_trans (hmax k (by omega) hpk) (Int.le_of_lt hb.2)
      · refine ⟨j, by omega, hpj, fun k hk hpk => ?_⟩
        by_cases hkn : k = n
        · subst hkn
          have : ¬ f j < f k := fun h => hb ⟨hpk, h⟩
          omega
        · exact hmax k (by omega) hpk
    · have hin : i = n := by
        refine Classical.byContradiction fun h => hn ⟨i, by omega, hp⟩
      subst hin
      refine ⟨i, by omega, hp, fun k hk hpk => ?_⟩
      by_cases hki : k = i
      · subst hki; exact Int.le_refl _
      · exact absurd ⟨k, by omega, hpk⟩ hn
/-- All trains on the way go in one direction. -/
def OneD (up : Bool) (us : List Tn) : Prop := ∀ i, i < us.length → tAt us i ≠ tTo us i → decide (tTo us i > tAt us i) = up
theorem way_some {us : List Tn} (h5 : us.length ≤ 5) (h : leftT us ≠ 0) : ∃ i, i < us.length ∧ (tAt us i != tTo us i) = true := by
  refine Classical.byContradiction fun hn => h ?_
  have := left_all h5
  have hall : allT us us.length = true := by
    unfold allT
    rw [List.all_eq_true]
    intro i hi
    refine Classical.byContradiction fun hc => hn ⟨i, by simpa using hi, ?_⟩
    simpa using hc
  rw [hall] at this
  simpa using this
theorem inT_zero {us : List Tn} {s : Int} (h : ∀ i, i < us.length → tAt us i ≠ tTo us i → tAt us i ≠ s) : inT us s = 0 := by
  unfold inT
  rw [List.length_eq_zero_iff, List.filter_eq_nil_iff]
  intro i hi
  unfold isIn
  simp only [Bool.and_eq_true, beq_iff_eq, bne_iff_ne]
  rintro ⟨h1, h2⟩
  exact h i (by simpa using hi) h2 h1
theorem one_step {L T : List Int} {up : Bool} {us : List Tn} (h : Val L T us) (hd : OneD up us) (hl : leftT us ≠ 0) : ∃ i, i < us.length ∧ possT L us i = true ∧ OneD up (movT us i) := by
  have hv := vt_of h.1
  have hr := lineE_rooms h.1
  obtain ⟨i, hi, hw, hmax⟩ := max_one (fun i => tAt us i != tTo us i) (fun i => if up then tAt us i else - tAt us i) us.length (way_some hv.t5 hl)
  have hne : tAt us i ≠ tTo us i := by simpa using hw
  have hdi := hd i hi hne
  have hn := hv.nxt hi hne
  have hnx : nxtT us i = if up then tAt us i + 1 else tAt us i - 1 := by
    unfold nxtT nextT
    cases up
    · have : ¬ tTo us i > tAt us i := by simpa using hdi
      simp only; rw [if_neg this]; rfl
    · have : tTo us i > tAt us i := by simpa using hdi
      simp only; rw [if_pos this]; rfl
  have hz : inT us (nxtT us i) = 0 := inT_zero fun j hj hwj => by
    have hm := hmax j hj (by simpa using hwj)
    rw [hnx]
    cases up <;> simp at hm ⊢ <;> omega
  refine ⟨i, hi, ?_, fun j hj hwj => ?_⟩
  · unfold possT
    rw [hz]
    have h1 : 1 ≤ at0 L (nxtT us i).toNat := by
      rw [at0_lt (by omega)]
      exact (hr.2 _ (List.getElem_mem _)).1
    have h2 : decide (((0 : Nat) : Int) < at0 L (nxtT us i).toNat) = true := decide_eq_true (by omega)
    rw [h2, bne_iff_ne.2 hne]; simp
  · rw [movT_len] at hj
    have ha := movT_at (j := j) hi
    rw [ha.1, ha.2] at hwj ⊢
    by_cases hji : j = i
    · subst hji
      rw [if_pos rfl, hnx] at hwj ⊢
      cases up
      · have : ¬ tTo us j > tAt us j := by simpa using hdi
        simp at hwj ⊢; omega
      · have : tTo us j > tAt us j := by simpa using hdi
        simp at hwj ⊢; omega
    · rw [if_neg hji] at hwj ⊢
      exact hd j hj hwj
theorem one_safe {L T : List Int} {up : Bool} : ∀ (n : Nat) (us : List Tn), leftT us = n → Val L T us → OneD up us → safeT L us = true := by
  intro n
  induction n with
  | zero => intro us h0 h _; exact safe_zero h h0
  | succ n ih =>
    intro us h0 h hd
    obtain ⟨i, hi, hp, hd'⟩ := one_step h hd (by omega)
    have := leftT_mov h hi hp
    exact safe_yes h hi hp (ih _ (by omega) (h.mov hi hp) hd')
/-! ### Trains that go the other way have arrived -/
def oneF (up : Bool) (x : Tn) : Tn := if decide (x.2 > x.1) != up then (x.1, x.1) else x
def oneK (up : Bool) (us : List Tn) (k : Nat) : List Tn := (us.take k).map (oneF up) ++ us.drop k
theorem oneK_len (up : Bool) (us : List Tn) (k : Nat) : (oneK up us k).length = us.length := by simp [oneK]; omega
theorem oneK_zero (up : Bool) (us : List Tn) : oneK up us 0 = us := by simp [oneK]
theorem oneK_all (up : Bool) (us : List Tn) : oneK up us us.length = us.map (oneF up) := by simp [oneK]
theorem oneK_at {up : Bool} {us : List Tn} {k : Nat} (hk : k < us.length) : tAt (oneK up us k) k = tAt us k ∧ tTo (oneK up us k) k = tTo us k := by
  have hl : ((us.take k).map (oneF up)).length = k := by simp; omega
  have e : (oneK up us k)[k]? = us[k]? := by
    unfold oneK
    rw [List.getElem?_append_right (by omega), hl, Nat.sub_self, List.getElem?_drop]; rfl
  rw [(tn_get _ _).1, (tn_get _ _).2, e, (tn_get us k).1, (tn_get us k).2]
  exact ⟨rfl, rfl⟩
theorem oneK_succ {up : Bool} {us : List Tn} {k : Nat} (hk : k < us.length) : oneK up us (k + 1) = (oneK up us k).set k (oneF up (tAt us k, tTo us k)) := by
  have hl : ((us.take k).map (oneF up)).length = k := by simp; omega
  unfold oneK
  rw [List.take_succ_eq_append_getElem hk, List.map_append, List.set_append_right _ _ (by omega), hl, Nat.sub_self]
  have hd := List.drop_eq_getElem_cons hk
  rw [tAt_lt hk, tTo_lt hk]
  rw [hd]
  simp only [List.set_cons_zero, List.map_cons, List.map_nil, List.append_assoc, List.cons_append, List.nil_append]
theorem oneM_at {up : Bool} {us : List Tn} {i : Nat} (hi : i < us.length) : tAt (us.map (oneF up)) i = tAt us i ∧ tTo (us.map (oneF up)) i = if decide (tTo us i > tAt us i) != up then tAt us i else tTo us i := by
  have h2 : i < (us.map (oneF up)).length := by simpa using hi
  rw [tAt_lt h2, tTo_lt h2, tAt_lt hi, tTo_lt hi]
  simp only [List.getElem_map, oneF]
  split <;> simp
theorem oneM_dir (up : Bool) (us : List Tn) : OneD up (us.map (oneF up)) := by
  intro i hi hne
  have hi' : i < us.length := by simpa using hi
  have h := oneM_at (up := up) hi'
  rw [h.1, h.2] at hne ⊢
  by_cases hc : (decide (tTo us i > tAt us i) != up) = true
  · rw [if_pos hc] at hne; exact absurd rfl hne
  · rw [if_neg hc]
    simpa using hc
theorem inT_mono {us vs : List Tn} (hl : vs.length = us.length) {s : Int} (h : ∀ i, i < us.length → tAt vs i = s → tAt vs i ≠ tTo vs i → tAt us i = s ∧ tAt us i ≠ tTo us i) : inT vs s ≤ inT us s := by
  unfold inT
  rw [hl, ← List.countP_eq_length_filter, ← List.countP_eq_length_filter]
  refine List.countP_mono_left fun i hi hp => ?_
  unfold isIn at hp ⊢
  simp only [Bool.and_eq_true, beq_iff_eq, bne_iff_ne] at hp ⊢
  exact h i (by simpa using hi) hp.1 hp.2
theorem oneM_val {L : List Int} {up : Bool} {us : List Tn} (h : lineE L us = 0) : lineE L (us.map (oneF up)) = 0 := by
  have hv := vt_of h
  have hr := lineE_rooms h
  have hl : (us.map (oneF up)).length = us.length := by simp
  refine lineE_ok hr.1 hv.l8 hr.2 (by rw [hl]; exact hv.t5) ⟨fun i hi => ?_, fun i hi => ?_, fun s hs => ?_⟩
  · rw [hl] at hi; rw [(oneM_at hi).1]; exact hv.at_ i hi
  · rw [hl] at hi; rw [(oneM_at hi).2]; split
    · exact hv.at_ i hi
    · exact hv.to_ i hi
  · have hm : inT (us.map (oneF up)) s ≤ inT us s := inT_mono hl fun i hi h1 h2 => by
      have h := oneM_at (up := up) hi
      rw [h.1] at h1
      rw [h.1, h.2] at h2
      refine ⟨h1, ?_⟩
      split at h2
      · exact absurd rfl h2
      · exact h2
    have := room_ok h hs
    omega
theorem oneM_safe {L : List Int} {up : Bool} {us : List Tn} (h : lineE L us = 0) : safeT L (us.map (oneF up)) = true :=
  one_safe (T := tos (us.map (oneF up))) _ _ rfl ⟨oneM_val h, rfl⟩ (oneM_dir up us)
/-! ### Room for all -/
def wideL (n : Nat) : List Int := List.replicate n 4
theorem at0_wide {n s : Nat} (h : s < n) : at0 (wideL n) s = 4 := by
  unfold wideL; rw [at0_lt (by simpa using h)]; simp
theorem inT_len (us : List Tn) (s : Int) : inT us s ≤ us.length := by
  unfold inT; exact Nat.le_trans (List.length_filter_le _ _) (by simp)
theorem inT_less {us : List Tn} {s : Int} {i : Nat} (hi : i < us.length) (h : tAt us i ≠ s) : inT us s < us.length := by
  rw [inT_count]
  refine Nat.lt_of_le_of_ne List.countP_le_length fun he => ?_
  have := List.countP_eq_length.1 he (us[i]) (List.getElem_mem _)
  simp only [Bool.and_eq_true, beq_iff_eq] at this
  rw [tAt_lt hi] at h
  exact h this.1
theorem wide_val {L : List Int} {us : List Tn} (h : lineE L us = 0) (h4 : us.length ≤ 4) : lineE (wideL L.length) us = 0 := by
  have hv := vt_of h
  have hr := lineE_rooms h
  have hl : (wideL L.length).length = L.length := by simp [wideL]
  refine lineE_ok (by omega) (by rw [hl]; exact hv.l8) (fun x hx => by simp [wideL] at hx; omega) hv.t5 ⟨fun i hi => by rw [hl]; exact hv.at_ i hi, fun i hi => by rw [hl]; exact hv.to_ i hi, fun s hs => ?_⟩
  rw [hl] at hs
  rw [at0_wide hs]
  have := inT_len us s
  omega
theorem wide_poss {n : Nat} {us : List Tn} (h : lineE (wideL n) us = 0) (h4 : us.length ≤ 4) {i : Nat} (hi : i < us.length) : possT (wideL n) us i = (tAt us i != tTo us i) := by
  have hv := vt_of h
  have hl : (wideL n).length = n := by simp [wideL]
  unfold possT
  by_cases hne : tAt us i = tTo us i
  · simp [hne]
  · have hn := hv.nxt hi hne
    have hx : tAt us i ≠ nxtT us i := by
      unfold nxtT nextT; simp only; split <;> omega
    have := inT_less hi hx
    have h2 : decide ((inT us (nxtT us i) : Int) < at0 (wideL n) (nxtT us i).toNat) = true := decide_eq_true (by rw [at0_wide (by omega)]; omega)
    rw [h2]; simp
theorem wide_safe {n : Nat} {T : List Int} : ∀ (m : Nat) (us : List Tn), leftT us = m → Val (wideL n) T us → us.length ≤ 4 → safeT (wideL n) us = true := by
  intro m
  induction m with
  | zero => intro us h0 h _; exact safe_zero h h0
  | succ m ih =>
    intro us h0 h h4
    obtain ⟨i, hi, hne⟩ := way_some (vt_of h.1).t5 (by omega)
    have hp : possT (wideL n) us i = true := by rw [wide_poss h.1 h4 hi]; exact hne
    have := leftT_mov h hi hp
    exact safe_yes h hi hp (ih _ (by omega) (h.mov hi hp) (by rw [movT_len]; exact h4))
theorem wide_good {n : Nat} {T : List Int} {us : List Tn} (h : Val (wideL n) T us) (h4 : us.length ≤ 4) : fN (gdT (wideL n) us) us.length = fN (fun i => tAt us i != tTo us i) us.length ∧ fN (possT (wideL n) us) us.length = fN (fun i => tAt us i != tTo us i) us.length := by
  have hg : ∀ i, i < us.length → gdT (wideL n) us i = (tAt us i != tTo us i) := fun i hi => by
    have hp := wide_poss h.1 h4 hi
    cases hc : (tAt us i != tTo us i) with
    | false => unfold gdT; rw [hp, hc]; rfl
    | true =>
      rw [hc] at hp
      unfold gdT
      rw [hp, wide_safe _ _ rfl (h.mov hi hp) (by rw [movT_len]; exact h4)]; rfl
  unfold fN
  refine ⟨congrArg _ (filter_range_congr hg), congrArg _ (filter_range_congr fun i hi => wide_poss h.1 h4 hi)⟩
end Yteijenefhoconaa
end Go.Proofs
