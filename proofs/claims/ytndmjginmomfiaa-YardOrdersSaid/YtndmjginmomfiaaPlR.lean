/- The reference's tables are the terms: plain Lean. -/
import Derived.Test.YtndmjginmomfiaaR3
open Go Go.RowKit Go.YtndmjginmomfiaaIt
namespace Go.Proofs
namespace Ytndmjginmomfiaa
theorem least_bit (tab : List (List Int)) (n : Int) (m s : Nat) (h4 : tab.length ≤ 4) : ((leastP tab n).getD m 0).testBit s = (decide (m < tab.length) && decide (s < (tabR tab m).length) && lsB tab n m s) := by
  rw [List.getD_eq_getElem?_getD]
  by_cases h : m < 4
  · unfold leastP
    rw [lsM_get _ _ _ h]
    by_cases hm : m < tab.length
    · rw [if_pos hm, Option.getD_some, bw_bit]; simp [hm]
    · rw [if_neg hm]; simp [hm]
  · rw [List.getElem?_eq_none (by unfold leastP; rw [lsM_len]; omega)]
    have hm : ¬ m < tab.length := by omega
    simp [hm]
theorem minT_ge (tab : List (List Int)) (n : Int) : ∀ (l : List (Nat × Int)) (a : Int), n ≤ l.foldl (fun a x => min a (at0 (tabR tab x.1) x.2.toNat)) a ↔ n ≤ a ∧ ∀ x ∈ l, n ≤ at0 (tabR tab x.1) x.2.toNat := by
  intro l
  induction l with
  | nil => intro a; simp
  | cons x l ih =>
    intro a
    rw [List.foldl_cons, ih]
    simp only [List.mem_cons, forall_eq_or_imp, Int.le_min]
    exact ⟨fun h => ⟨h.1.1, h.1.2, h.2⟩, fun h => ⟨⟨h.1, h.2.1⟩, h.2.2⟩⟩
theorem mem_suc {y : Yd} {s : Int} {m : Nat} {o : Int} {x : Nat × Int} : x ∈ sucK y s m o y.ws.length ↔ x.1 ∈ folL y m ∧ ∃ c, (y.at_ x.1).lo ≤ c ∧ c ≤ (y.at_ x.1).hi ∧ x.2 = come y s x.1 o - c := by
  unfold sucK folL
  rw [List.mem_flatMap]
  simp only [List.mem_filter, List.mem_range]
  constructor
  · rintro ⟨m', hm, hx⟩
    unfold sucF at hx
    by_cases hn : nx y m m' = true
    · rw [if_pos hn, List.mem_map] at hx
      obtain ⟨c, hc, rfl⟩ := hx
      refine ⟨⟨hm, hn⟩, ?_⟩
      unfold cL at hc
      rw [List.mem_map] at hc
      obtain ⟨i, hi, rfl⟩ := hc
      rw [List.mem_range] at hi
      exact ⟨(y.at_ m').lo + (i : Int), by show (y.at_ m').lo ≤ (y.at_ m').lo + (i : Int); omega, by show (y.at_ m').lo + (i : Int) ≤ (y.at_ m').hi; omega, rfl⟩
    · rw [if_neg hn] at hx; cases hx
  · rintro ⟨⟨hm, hn⟩, c, h1, h2, h3⟩
    refine ⟨x.1, hm, ?_⟩
    unfold sucF
    rw [if_pos hn, List.mem_map]
    refine ⟨x.2, ?_, rfl⟩
    unfold cL
    rw [List.mem_map]
    refine ⟨(c - (y.at_ x.1).lo).toNat, by rw [List.mem_range]; omega, ?_⟩
    rw [h3]; omega
theorem worst_iff {y : Yd} (ok : Ok y) {tab : List (List Int)} (tb : Tb y tab) {n : Int} (h0 : 0 ≤ n) (h1 : n ≤ never) {s : Int} {m : Nat} {o : Int} : n ≤ worstP y tab s m o ↔ leadsB y (leastP tab n) s m o = true := by
  have hn1 := ok.n1
  have hr1 := ok.room1
  have hr0 := ok.room0
  rw [leads_iff ok]
  unfold worstP
  constructor
  · intro h m' hm' c hc1 hc2
    by_cases hall : (sucK y s m o y.ws.length).all (inR y) = true
    · rw [if_pos hall] at h
      have h2 := (minT_ge tab n _ _).1 h
      have hx : ((m', come y s m' o - c) : Nat × Int) ∈ sucK y s m o y.ws.length := mem_suc.2 ⟨hm', c, hc1, hc2, rfl⟩
      have h3 := h2.2 _ hx
      have h4 := btw_true.1 (List.all_eq_true.1 hall _ hx)
      have hlt := fol_lt hm'
      refine ⟨by simp only at h4; omega, ?_⟩
      rw [least_bit _ _ _ _ (by rw [tb.len]; exact hn1)]
      rw [Bool.and_eq_true, Bool.and_eq_true]
      refine ⟨⟨by simp [tb.len, hlt], ?_⟩, by unfold lsB; simpa using h3⟩
      rw [tb.row m' (by rw [tb.len]; exact hlt)]
      simp only at h4
      simp; omega
    · rw [if_neg hall] at h; omega
  · intro h
    have hall : (sucK y s m o y.ws.length).all (inR y) = true := by
      rw [List.all_eq_true]
      intro x hx
      obtain ⟨hm', c, hc1, hc2, hxe⟩ := mem_suc.1 hx
      obtain ⟨h2, h3⟩ := h x.1 hm' c hc1 hc2
      rw [least_bit _ _ _ _ (by rw [tb.len]; exact hn1), Bool.and_eq_true, Bool.and_eq_true] at h3
      have h4 := of_decide_eq_true h3.1.2
      rw [tb.row x.1 (by rw [tb.len]; exact fol_lt hm')] at h4
      exact btw_true.2 (by rw [hxe]; omega)
    rw [if_pos hall]
    refine (minT_ge tab n _ _).2 ⟨h1, fun x hx => ?_⟩
    obtain ⟨hm', c, hc1, hc2, hxe⟩ := mem_suc.1 hx
    obtain ⟨h2, h3⟩ := h x.1 hm' c hc1 hc2
    rw [least_bit _ _ _ _ (by rw [tb.len]; exact hn1), Bool.and_eq_true, Bool.and_eq_true] at h3
    have := h3.2
    unfold lsB at this
    rw [hxe]
    simpa using this
theorem best_iff {y : Yd} (ok : Ok y) {tab : List (List Int)} (tb : Tb y tab) {n : Int} (h0 : 0 ≤ n) (h1 : n ≤ never) {s m : Nat} : n ≤ bestP y tab (s : Int) m ↔ stB y (leastP tab n) m s = true := by
  unfold bestP stB
  have key : ∀ (l : List Int) (a : Int), n ≤ l.foldl (fun a o => max a (worstP y tab (s : Int) m o)) a ↔ n ≤ a ∨ l.any (leadsB y (leastP tab n) s m) = true := by
    intro l
    induction l with
    | nil => intro a; simp
    | cons x l ih =>
      intro a
      rw [List.foldl_cons, ih, List.any_cons, Bool.or_eq_true, ← worst_iff ok tb h0 h1, ← or_assoc]
      have : n ≤ max a (worstP y tab (s : Int) m x) ↔ n ≤ a ∨ n ≤ worstP y tab (s : Int) m x := by omega
      rw [this]
  rw [key]
  constructor
  · rintro (h | h)
    · omega
    · exact h
  · exact .inr
theorem can_iff {y : Yd} (ok : Ok y) {tab : List (List Int)} (tb : Tb y tab) {n : Int} (h0 : 0 ≤ n) (h1 : n ≤ never) {s m : Nat} (hs : s ≤ y.room.toNat) (hm : m < y.ws.length) : canP y tab n m s = decide (n ≤ bestP y tab (s : Int) m) := by
  have hr1 := ok.room1
  unfold canP
  rw [hasN_one (by omega) (by omega), bef_get y _ ok.n1, if_pos hm, Int.toNat_natCast, bw_bit]
  rw [Bool.eq_iff_iff, decide_eq_true_eq, best_iff ok tb h0 h1]
  have : decide (s < y.room.toNat + 1) = true := by simp; omega
  rw [this]; simp
theorem term_nonneg {y : Yd} (ok : Ok y) {s m : Nat} (hs : s ≤ y.room.toNat) (hm : m < y.ws.length) : 0 ≤ termP y s m := by
  rcases term_cases ok hs hm with ⟨h, _⟩ | ⟨t, h, _⟩
  · rw [h]; unfold never; omega
  · rw [h]; omega
/-- A table that holds min r term has the layers. -/
theorem least_lay {y : Yd} (ok : Ok y) {tab : List (List Int)} (tb : Tb y tab) {d : Nat} (hd : d ≤ 10000) (hv : ∀ m s, m < y.ws.length → s ≤ y.room.toNat → ((d : Int) ≤ at0 (tabR tab m) s ↔ (d : Int) ≤ termP y s m)) : leastP tab d = lay y d := by
  apply List.ext_getElem (by unfold leastP; rw [lsM_len, lay_len])
  intro m h1 h2
  apply Nat.eq_of_testBit_eq
  intro s
  have e1 : (leastP tab d)[m].testBit s = ((leastP tab d).getD m 0).testBit s := by rw [List.getD_eq_getElem?_getD, List.getElem?_eq_getElem h1]; rfl
  have e2 : (lay y d)[m].testBit s = keepB y d s m := by unfold keepB; rw [List.getD_eq_getElem?_getD, List.getElem?_eq_getElem h2]; rfl
  rw [e1, e2, least_bit _ _ _ _ (by rw [tb.len]; exact ok.n1), tb.len]
  by_cases hm : m < y.ws.length
  · rw [tb.row m (by rw [tb.len]; exact hm)]
    by_cases hs : s ≤ y.room.toNat
    · have h3 := hv m s hm hs
      rw [term_ge ok hs hm hd] at h3
      unfold lsB
      rw [Bool.eq_iff_iff, ← h3]
      simp [hm]
      intro _; omega
    · have : keepB y d s m = false := by rw [Bool.eq_false_iff]; exact fun hk => hs (keep_in ok hk).2
      rw [this]
      have : decide (s < y.room.toNat + 1) = false := by simp; omega
      rw [this]; simp
  · have : keepB y d s m = false := by rw [Bool.eq_false_iff]; exact fun hk => hm (keep_in ok hk).1
    rw [this]; simp [hm]
theorem rt_val {y : Yd} (ok : Ok y) : ∀ (r : Nat), r ≤ 1000 → ∀ m s, m < y.ws.length → s ≤ y.room.toNat → at0 (tabR (rtP y r) m) s = min (r : Int) (termP y s m)
  | 0, _, m, s, hm, hs => by
    have h0 := term_nonneg ok hs hm
    rw [tabR_lt (by rw [rtP_len]; exact hm)]
    have : at0 ((rtP y 0)[m]'(by rw [rtP_len]; exact hm)) s = 0 := by
      simp only [rtP, List.getElem_map]
      rw [at0_lt (by simp; omega)]; simp
    rw [this]; simp; omega
  | r + 1, hr, m, s, hm, hs => by
    have ih := rt_val ok r (by omega)
    have tb := rtP_tb y r
    have hkey : ∀ d : Nat, d ≤ r → ((d : Int) ≤ bestP y (rtP y r) (s : Int) m ↔ keepB y (d + 1) s m = true) := by
      intro d hd
      rw [best_iff ok tb (by omega) (by unfold never; omega), least_lay ok tb (by omega) (fun m' s' hm' hs' => by rw [ih m' s' hm' hs']; omega), keep_succ ok]
      simp [hm, hs]
    have hge := best_ge y (rtP y r) (s : Int) m
    have hv : at0 (tabR (rtP y (r + 1)) m) s = min ((r + 1 : Nat) : Int) (1 + bestP y (rtP y r) (s : Int) m) := by
      rw [tabR_lt (by rw [rtP_len]; exact hm)]
      simp only [rtP, List.getElem_map, List.getElem_range]
      rw [at0_lt (by simp; omega)]; simp
    rw [hv]
    generalize bestP y (rtP y r) (s : Int) m = b at *
    rcases term_cases ok hs hm with ⟨h1, h2⟩ | ⟨t, h1, h2, h3, h4⟩
    · have := (hkey r (Nat.le_refl _)).2 (h2 _)
      have hN : (2000 : Int) ≤ never := by unfold never; omega
      rw [h1]
      generalize never = N at *
      push_cast; omega
    · rw [h1]
      by_cases ht : r + 1 ≤ t
      · have := (hkey r (Nat.le_refl _)).2 (keep_anti ok ht h3)
        push_cast; omega
      · have hn : ¬ (t : Int) ≤ b := fun h => by have := (hkey t (by omega)).1 h; rw [h4] at this; cases this
        cases t with
        | zero => push_cast; omega
        | succ t =>
          have := (hkey t (by omega)).2 h3
          push_cast at *; omega
theorem tabP_tb (y : Yd) : Tb y (tabP y) := ⟨by simp [tabP], fun m hm => by
  rw [tabR_lt hm]; simp [tabP, rowP_len]⟩
theorem tabP_val (y : Yd) {m s : Nat} (hm : m < y.ws.length) (hs : s ≤ y.room.toNat) : at0 (tabR (tabP y) m) s = termP y s m := by
  rw [tabR_lt (by simpa [tabP] using hm)]
  simp only [tabP, List.getElem_map, List.getElem_range]
  rw [at0_lt (by rw [rowP_len]; omega)]
  simp [rowP]
theorem finP_eq {y : Yd} (ok : Ok y) : finP y = tabP y := by
  have hc := term_lt ok
  have hl1 : (finP y).length = y.ws.length := by simp [finP, rtP_len]
  apply eq_of_tabR (by rw [hl1, (tabP_tb y).len])
  intro m hm
  rw [hl1] at hm
  have e : tabR (finP y) m = (tabR (rtP y (cnt y)) m).map (conv (cnt y)) := by
    rw [tabR_lt (by rw [hl1]; exact hm), tabR_lt (by rw [rtP_len]; exact hm)]
    simp [finP]
  rw [e]
  apply eq_of_at0 (by rw [List.length_map, rtP_row y _ hm, (tabP_tb y).row m (by rw [(tabP_tb y).len]; exact hm)])
  intro s hs
  rw [List.length_map, rtP_row y _ hm] at hs
  rw [tabP_val y hm (by omega), at0_lt (by rw [List.length_map, rtP_row y _ hm]; exact hs), List.getElem_map, ← at0_lt (by rw [rtP_row y _ hm]; exact hs), rt_val ok _ (by omega) m s hm (by omega)]
  unfold conv
  rcases term_cases ok (show s ≤ y.room.toNat by omega) hm with ⟨h1, h2⟩ | ⟨t, h1, h2, h3, h4⟩
  · rw [h1, if_pos (by unfold never; omega)]
  · rw [h1, if_neg (by omega)]; omega
/-- The right table has the layers. -/
theorem least_tab {y : Yd} (ok : Ok y) {d : Nat} (hd : d ≤ 10000) : leastP (tabP y) d = lay y d := least_lay ok (tabP_tb y) hd fun m s hm hs => by rw [tabP_val y hm hs]
end Ytndmjginmomfiaa
end Go.Proofs
