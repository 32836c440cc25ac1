/- A table holds just if it is the right one. -/
import Derived.Test.YtndmjginmomfiaaW19
import Derived.Test.YtndmjginmomfiaaW11
open Go Go.RowKit Go.YtndmjginmomfiaaIt
namespace Go.Proofs
namespace Ytndmjginmomfiaa
/-- A table of the right shape, with numbers as they can be. -/
structure Vt (y : Yd) (tab : List (List Int)) : Prop where
  len : tab.length = y.ws.length
  row : ∀ m, m < tab.length → (tabR tab m).length = y.room.toNat + 1
  rg : Rg tab
theorem least_bit {y : Yd} (ok : Ok y) {tab : List (List Int)} (h : Vt y tab) (n : Int) (m s : Nat) : ((leastP tab n).getD m 0).testBit s = (decide (m < y.ws.length) && (decide (s ≤ y.room.toNat) && decide (n ≤ at0 (tabR tab m) s))) := by
  have hn := ok.n1
  unfold leastP lsM
  rw [mapR_get]
  by_cases hm : m < y.ws.length
  · rw [if_pos (by omega), if_pos (by rw [h.len]; exact hm), bw_bit, h.row m (by rw [h.len]; exact hm)]
    have : decide (s < y.room.toNat + 1) = decide (s ≤ y.room.toNat) := by simp; omega
    rw [this]
    simp [hm, lsB]
  · have : decide (m < y.ws.length) = false := by simpa using hm
    rw [this]
    by_cases h4 : m < 4
    · rw [if_pos h4, if_neg (by rw [h.len]; exact hm)]; simp
    · rw [if_neg h4]; simp
theorem least_anti {y : Yd} (ok : Ok y) {tab : List (List Int)} (h : Vt y tab) {n n' : Int} (hn : n ≤ n') : Sub (leastP tab n') (leastP tab n) := by
  intro m s hb
  rw [least_bit ok h] at hb ⊢
  simp only [Bool.and_eq_true, decide_eq_true_eq] at hb ⊢
  exact ⟨hb.1, hb.2.1, by omega⟩
theorem can_st {y : Yd} (ok : Ok y) {tab : List (List Int)} (n : Int) {m s : Nat} (hm : m < y.ws.length) (hs : s ≤ y.room.toNat) : canP y tab n m s = stB y (leastP tab n) m s := by
  have hr := ok.room1
  unfold canP
  rw [hasN_one (by omega) (by omega), Int.toNat_natCast, bef_get y _ ok.n1, if_pos hm, bw_bit]
  have : decide (s < y.room.toNat + 1) = true := by simp; omega
  rw [this, Bool.true_and]
theorem st_mono {y : Yd} (ok : Ok y) {l l' : List Nat} (hs : Sub l l') {m s : Nat} (h : stB y l m s = true) : stB y l' m s = true := by
  unfold stB at h ⊢
  rw [List.any_eq_true] at h ⊢
  obtain ⟨o, ho, hl⟩ := h
  exact ⟨o, ho, leads_mono ok hs hl⟩
/-- Two layers with the same bits lead alike. -/
theorem st_same {y : Yd} (ok : Ok y) {l l' : List Nat} (h : ∀ m s, (l.getD m 0).testBit s = (l'.getD m 0).testBit s) (m s : Nat) : stB y l m s = stB y l' m s := by
  rw [Bool.eq_iff_iff]
  exact ⟨st_mono ok fun m s hb => by rw [← h]; exact hb, st_mono ok fun m s hb => by rw [h]; exact hb⟩
theorem holds_at {y : Yd} {tab : List (List Int)} : holdsB y tab = true ↔ ∀ m, m < tab.length → ∀ s, s < (tabR tab m).length → okT y tab (at0 (tabR tab m) s) m s = true := by
  unfold holdsB rowOk okS
  simp only [List.all_eq_true, List.mem_range]
/-- The layer of all numbers of at least d is the d-th one. -/
theorem holds_lay {y : Yd} (ok : Ok y) {tab : List (List Int)} (h : Vt y tab) (hh : holdsB y tab = true) : ∀ d : Nat, d ≤ 20000 → ∀ m s, ((leastP tab d).getD m 0).testBit s = keepB y d s m
  | 0, _, m, s => by
    rw [least_bit ok h, keep0 ok]
    by_cases hm : m < y.ws.length
    · by_cases hs : s ≤ y.room.toNat
      · have hr := h.rg m (by rw [h.len]; exact hm) s (by rw [h.row m (by rw [h.len]; exact hm)]; omega)
        have : ((0 : Nat) : Int) ≤ at0 (tabR tab m) s := by unfold never at hr; omega
        simp [hm, hs]; exact_mod_cast this
      · simp [hs]
    · simp [hm]
  | d + 1, hd, m, s => by
    have ih := holds_lay ok h hh d (by omega)
    rw [least_bit ok h, keep_succ ok]
    by_cases hm : m < y.ws.length
    · by_cases hs : s ≤ y.room.toNat
      · have hml : m < tab.length := by rw [h.len]; exact hm
        have hsl : s < (tabR tab m).length := by rw [h.row m hml]; omega
        have hr := h.rg m hml s hsl
        have ht := holds_at.1 hh m hml s hsl
        have e1 : stB y (lay y d) m s = stB y (leastP tab d) m s := st_same ok (fun m s => (ih m s).symm) m s
        rw [e1]
        generalize at0 (tabR tab m) s = t at *
        have hnv : never = 1125899906842624 := rfl
        unfold okT at ht
        rw [decide_eq_true hm, decide_eq_true hs, Bool.true_and, Bool.true_and, Bool.true_and, Bool.true_and, Bool.eq_iff_iff, decide_eq_true_eq]
        push_cast
        constructor
        · intro hdt
          by_cases htn : t = never
          · rw [if_pos htn, can_st ok _ hm hs] at ht
            exact st_mono ok (least_anti ok h (by omega)) ht
          · rw [if_neg htn, if_pos (by omega), can_st ok _ hm hs, can_st ok _ hm hs] at ht
            simp only [Bool.not_eq_true', Bool.or_eq_false_iff, Bool.and_eq_false_iff, decide_eq_false_iff_not, Bool.not_eq_false'] at ht
            rcases ht.2 with h0 | h1
            · omega
            · exact st_mono ok (least_anti ok h (by omega)) h1
        · intro hst
          refine Classical.byContradiction fun hn => ?_
          have htn : t ≠ never := by omega
          rw [if_neg htn, if_pos (by omega), can_st ok _ hm hs, can_st ok _ hm hs] at ht
          simp only [Bool.not_eq_true', Bool.or_eq_false_iff] at ht
          have := st_mono ok (least_anti ok h (n := t) (n' := d) (by omega)) hst
          rw [ht.1] at this; cases this
      · simp [hs]
    · simp [hm]
theorem tabP_at {y : Yd} {m s : Nat} (hm : m < y.ws.length) (hs : s ≤ y.room.toNat) : at0 (tabR (tabP y) m) s = termP y s m := by
  rw [tabR_lt (by simp [tabP]; exact hm)]
  have e : (tabP y)[m]'(by simp [tabP]; exact hm) = rowP y m := by simp [tabP]
  rw [e, at0_lt (by rw [rowP_len]; omega)]
  simp [rowP]
theorem tabP_row {y : Yd} {m : Nat} (hm : m < y.ws.length) : tabR (tabP y) m = rowP y m := by
  rw [tabR_lt (by simp [tabP]; exact hm)]; simp [tabP]
theorem tabP_vt {y : Yd} (ok : Ok y) : Vt y (tabP y) := by
  have hl : (tabP y).length = y.ws.length := by simp [tabP]
  refine ⟨hl, fun m hm => ?_, fun m hm s hs => ?_⟩
  · rw [tabP_row (by rw [← hl]; exact hm), rowP_len]
  · have hm2 : m < y.ws.length := by rw [← hl]; exact hm
    rw [tabP_row hm2, rowP_len] at hs
    rw [tabP_at hm2 (by omega)]
    have hc := term_lt ok
    rcases term_cases ok (s := s) (m := m) (by omega) hm2 with ⟨h1, _⟩ | ⟨t, h1, h2, _⟩
    · exact .inl h1
    · exact .inr (by omega)
theorem tabP_lay {y : Yd} (ok : Ok y) {d : Nat} (hd : d ≤ 10000) (m s : Nat) : ((leastP (tabP y) d).getD m 0).testBit s = keepB y d s m := by
  rw [least_bit ok (tabP_vt ok)]
  by_cases hm : m < y.ws.length
  · by_cases hs : s ≤ y.room.toNat
    · rw [tabP_at hm hs, decide_eq_true hm, decide_eq_true hs, Bool.true_and, Bool.true_and, Bool.eq_iff_iff, decide_eq_true_eq]
      exact term_ge ok hs hm hd
    · have : keepB y d s m = false := by rw [Bool.eq_false_iff]; intro hk; exact hs (keep_in ok hk).2
      rw [this]; simp [hs]
  · have : keepB y d s m = false := by rw [Bool.eq_false_iff]; intro hk; exact hm (keep_in ok hk).1
    rw [this]; simp [hm]
theorem tabP_never {y : Yd} (ok : Ok y) (m s : Nat) : ((leastP (tabP y) never).getD m 0).testBit s = keepB y 10000 s m := by
  rw [← tabP_lay ok (Nat.le_refl _), least_bit ok (tabP_vt ok), least_bit ok (tabP_vt ok)]
  by_cases hm : m < y.ws.length
  · by_cases hs : s ≤ y.room.toNat
    · rw [tabP_at hm hs]
      have hc := term_lt ok
      have : decide (never ≤ termP y s m) = decide (((10000 : Nat) : Int) ≤ termP y s m) := by
        rw [decide_eq_decide]
        unfold never
        rcases term_cases ok hs hm with ⟨h1, _⟩ | ⟨t, h1, h2, _⟩
        · rw [h1]; unfold never; omega
        · rw [h1]; omega
      rw [this]
    · simp [hs]
  · simp [hm]
theorem holds_iff {y : Yd} (ok : Ok y) {tab : List (List Int)} (h : Vt y tab) : holdsB y tab = true ↔ tab = tabP y := by
  have hc := term_lt ok
  constructor
  · intro hh
    have hl := holds_lay ok h hh
    have hval : ∀ m s, m < y.ws.length → s ≤ y.room.toNat → at0 (tabR tab m) s = termP y s m := by
      intro m s hm hs
      have hml : m < tab.length := by rw [h.len]; exact hm
      have hr := h.rg m hml s (by rw [h.row m hml]; omega)
      have hiff : ∀ d : Nat, d ≤ 10000 → ((d : Int) ≤ at0 (tabR tab m) s ↔ (d : Int) ≤ termP y s m) := by
        intro d hd
        rw [term_ge ok hs hm hd, ← hl d (by omega) m s, least_bit ok h]
        simp [hm, hs]
      generalize at0 (tabR tab m) s = t at *
      unfold never at hr
      rcases hr with hr | hr
      · have h1 := (hiff 10000 (Nat.le_refl _)).1 (by omega)
        rcases term_cases ok hs hm with ⟨h2, _⟩ | ⟨t', h2, h3, _⟩
        · rw [h2, hr]; rfl
        · omega
      · obtain ⟨n, rfl⟩ := Int.eq_ofNat_of_zero_le hr.1
        have h1 := (hiff n (by omega)).1 (Int.le_refl _)
        have h2 := fun h3 => (hiff (n + 1) (by omega)).2 h3
        push_cast at h2
        refine Classical.byContradiction fun hne => ?_
        have := h2 (by omega)
        omega
    apply List.ext_getElem (by rw [h.len]; simp [tabP])
    intro m h1 h2
    have hm : m < y.ws.length := by rw [← h.len]; exact h1
    have e1 : tab[m] = tabR tab m := (tabR_lt h1).symm
    have e2 : (tabP y)[m] = tabR (tabP y) m := (tabR_lt h2).symm
    rw [e1, e2]
    apply List.ext_getElem (by rw [h.row m h1, tabP_row hm, rowP_len])
    intro s h3 h4
    have hs : s ≤ y.room.toNat := by rw [h.row m h1] at h3; omega
    rw [← at0_lt h3, ← at0_lt h4, hval m s hm hs, tabP_at hm hs]
  · rintro rfl
    rw [holds_at]
    intro m hml s hsl
    have hm : m < y.ws.length := by simpa [tabP] using hml
    rw [tabP_row hm, rowP_len] at hsl
    have hs : s ≤ y.room.toNat := by omega
    rw [tabP_at hm hs]
    have hnv : never = 1125899906842624 := rfl
    have hks := fun d => keep_succ ok d s m
    simp only [decide_eq_true hm, decide_eq_true hs, Bool.true_and] at hks
    unfold okT
    rcases term_cases ok hs hm with ⟨h1, h2⟩ | ⟨t, h1, h2, h3, h4⟩
    · rw [if_pos h1, h1, can_st ok _ hm hs, st_same ok (l' := lay y 10000) (fun m s => tabP_never ok m s), ← hks]
      exact h2 _
    · rw [h1, if_neg (by omega), if_pos (by omega), can_st ok _ hm hs, can_st ok _ hm hs, st_same ok (l' := lay y t) (fun m s => tabP_lay ok (by omega) m s), ← hks, h4]
      simp only [Bool.false_or, Bool.not_eq_true', Bool.and_eq_false_iff, decide_eq_false_iff_not, Bool.not_eq_false']
      by_cases h0 : t = 0
      · exact .inl (by omega)
      · refine .inr ?_
        obtain ⟨q, rfl⟩ : ∃ q, t = q + 1 := ⟨t - 1, by omega⟩
        rw [show ((q + 1 : Nat) : Int) - 1 = (q : Nat) by omega, st_same ok (l' := lay y q) (fun m s => tabP_lay ok (by omega) m s), ← hks]
        exact h3
/-- What Verify says of a table of the right shape. -/
theorem ver_vt {y : Yd} (ok : Ok y) {tab : List (List Int)} (h : Vt y tab) : verE y tab = if tab = tabP y then 0 else 11 := by
  have hr := ok.room0
  have h1 : chkE y = 0 := chk_ok.2 ok
  have h2 : ¬ (tab.length ≠ y.ws.length ∨ tab.any (badL y) = true) := by
    rintro (h3 | h3)
    · exact h3 h.len
    · obtain ⟨r, hr1, hr2⟩ := List.any_eq_true.1 h3
      obtain ⟨m, hm, rfl⟩ := List.getElem_of_mem hr1
      have := h.row m hm
      rw [tabR_lt hm] at this
      simp [badL] at hr2
      omega
  have h3 : ¬ (tab.any (fun r => r.any badT) = true) := by
    intro h3
    obtain ⟨r, hr1, hr2⟩ := List.any_eq_true.1 h3
    obtain ⟨m, hm, rfl⟩ := List.getElem_of_mem hr1
    obtain ⟨t, ht1, ht2⟩ := List.any_eq_true.1 hr2
    obtain ⟨s, hs, rfl⟩ := List.getElem_of_mem ht1
    have := h.rg m hm s (by rw [tabR_lt hm]; exact hs)
    rw [tabR_lt hm, at0_lt hs] at this
    unfold never at this
    simp [badT, btw] at ht2
    omega
  unfold verE
  rw [if_pos h1, if_neg h2, if_neg h3]
  by_cases he : tab = tabP y
  · rw [if_pos he, if_pos ((holds_iff ok h).2 he)]
  · rw [if_neg he, if_neg (fun hh => he ((holds_iff ok h).1 hh))]
end Ytndmjginmomfiaa
end Go.Proofs
