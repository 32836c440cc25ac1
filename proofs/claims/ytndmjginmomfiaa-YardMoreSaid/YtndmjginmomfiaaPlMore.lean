/- With more room, more orders and less that is not known no term is less. -/
import Derived.Test.YtndmjginmomfiaaPlSt
open Go Go.RowKit Go.YtndmjginmomfiaaIt
namespace Go.Proofs
namespace Ytndmjginmomfiaa
/-- One yard can do what another can. -/
structure More (y z : Yd) : Prop where
  oy : Ok y
  oz : Ok z
  room : y.room ≤ z.room
  n : z.ws.length = y.ws.length
  ord : ∀ o, o ∈ ordL y → o ∈ ordL z
  comes : ∀ m, m < y.ws.length → (z.at_ m).comes = (y.at_ m).comes
  lo : ∀ m, m < y.ws.length → (y.at_ m).lo ≤ (z.at_ m).lo
  hi : ∀ m, m < y.ws.length → (z.at_ m).hi ≤ (y.at_ m).hi
  nx : ∀ m m', m < y.ws.length → m' < y.ws.length → nx z m m' = true → nx y m m' = true
theorem More.keep {y z : Yd} (h : More y z) : ∀ d s m, keepB y d s m = true → keepB z d s m = true
  | 0, s, m, hk => by
    have := keep_in h.oy hk
    have hr := h.room
    have hr0 := h.oy.room0
    rw [keep0 h.oz, h.n]
    have h2 : s ≤ z.room.toNat := by omega
    simp [this.1, h2]
  | d + 1, s, m, hk => by
    have ih := h.keep d
    have hin := keep_in h.oy hk
    have hr := h.room
    have hr0 := h.oy.room0
    rw [keep_succ h.oy] at hk
    rw [keep_succ h.oz, h.n]
    simp only [Bool.and_eq_true, decide_eq_true_eq] at hk ⊢
    refine ⟨⟨hin.1, by omega⟩, ?_⟩
    have h2 := hk.2
    unfold stB at h2 ⊢
    rw [List.any_eq_true] at h2 ⊢
    obtain ⟨o, ho, hl⟩ := h2
    refine ⟨o, h.ord o ho, ?_⟩
    rw [leads_iff h.oy] at hl
    rw [leads_iff h.oz]
    intro m' hm' c hc1 hc2
    have hmz : m' < y.ws.length := by rw [← h.n]; exact fol_lt hm'
    have hmy : m' ∈ folL y m := by
      unfold folL at hm' ⊢
      rw [List.mem_filter, List.mem_range] at hm' ⊢
      exact ⟨hmz, h.nx m m' hin.1 hmz hm'.2⟩
    have hl2 := hl m' hmy c (by have := h.lo m' hmz; omega) (by have := h.hi m' hmz; omega)
    have hce : come z s m' o = come y s m' o := by unfold come; rw [h.comes m' hmz]
    rw [hce]
    exact ⟨hl2.1, ih _ _ hl2.2⟩
theorem More.term {y z : Yd} (h : More y z) {s m : Nat} (hs : s ≤ y.room.toNat) (hm : m < y.ws.length) : termP y s m ≤ termP z s m := by
  have hr := h.room
  have hr0 := h.oy.room0
  have hs2 : s ≤ z.room.toNat := by omega
  have hm2 : m < z.ws.length := by rw [h.n]; exact hm
  rcases term_cases h.oz hs2 hm2 with ⟨h1, _⟩ | ⟨t, h1, h2, h3, h4⟩
  · rw [h1]
    have hc := term_lt h.oy
    rcases term_cases h.oy hs hm with ⟨h5, _⟩ | ⟨t, h5, h6, _⟩
    · rw [h5]; exact Int.le_refl _
    · rw [h5]; unfold never; omega
  · rcases term_cases h.oy hs hm with ⟨h5, h6⟩ | ⟨t', h5, h6, h7, _⟩
    · have := h.keep (t + 1) s m (h6 _)
      rw [h4] at this; cases this
    · rw [h1, h5]
      refine Classical.byContradiction fun hn => ?_
      have := h.keep (t + 1) s m (keep_anti h.oy (by omega) h7)
      rw [h4] at this; cases this
/-- Weathers after which the same can be have the same terms. -/
theorem same_next {y : Yd} (ok : Ok y) {m m0 : Nat} (hm : m < y.ws.length) (hm0 : m0 < y.ws.length) (he : (y.at_ m).next = (y.at_ m0).next) (s : Nat) : termP y s m = termP y s m0 := by
  have hf : folL y m = folL y m0 := by
    unfold folL
    congr 1
    funext m'
    unfold nx
    rw [he]
  have hk : ∀ d, keepB y d s m = keepB y d s m0 := fun d => by
    cases d with
    | zero => rw [keep0 ok, keep0 ok, decide_eq_true hm, decide_eq_true hm0]
    | succ d =>
      rw [keep_succ ok, keep_succ ok, decide_eq_true hm, decide_eq_true hm0]
      congr 1
      unfold stB leadsB
      rw [hf]
  unfold termP
  simp only [hk]
theorem same_row {y : Yd} (ok : Ok y) {m m0 : Nat} (hm : m < y.ws.length) (hm0 : m0 < y.ws.length) (he : (y.at_ m).next = (y.at_ m0).next) : (List.range (y.room.toNat + 1)).map (fun s => termP y s m) = (List.range (y.room.toNat + 1)).map (fun s => termP y s m0) := by
  congr 1
  funext s
  exact same_next ok hm hm0 he s
/-- More room. -/
theorem more_room {y : Yd} (ok : Ok y) {r : Int} (h0 : 0 ≤ r) (h1 : y.room + r ≤ 60) : More y ⟨y.room + r, y.most, y.lots, y.ws⟩ where
  oy := ok
  oz := ⟨by have := ok.room0; show 0 ≤ y.room + r; omega, h1, ok.most0, ok.most1, ok.lots0, ok.lots1, ok.n0, ok.n1, ok.each⟩
  room := by show y.room ≤ y.room + r; omega
  n := rfl
  ord := fun _ h => h
  comes := fun _ _ => rfl
  lo := fun _ _ => Int.le_refl _
  hi := fun _ _ => Int.le_refl _
  nx := fun _ _ _ _ h => h
/-- More orders. -/
theorem more_most {y : Yd} (ok : Ok y) {r : Int} (h0 : 0 ≤ r) (h1 : y.most + r ≤ 40) : More y ⟨y.room, y.most + r, y.lots, y.ws⟩ :=
  have oz : Ok ⟨y.room, y.most + r, y.lots, y.ws⟩ := ⟨ok.room0, ok.room1, by have := ok.most0; show 0 ≤ y.most + r; omega, h1, ok.lots0, ok.lots1, ok.n0, ok.n1, ok.each⟩
  { oy := ok, oz := oz, room := Int.le_refl _, n := rfl, ord := fun o h => by
      have h2 := ordL_mem ok h
      exact mem_ordL oz h2.1 (by show o ≤ y.most + r; omega) h2.2.2
    comes := fun _ _ => rfl, lo := fun _ _ => Int.le_refl _, hi := fun _ _ => Int.le_refl _, nx := fun _ _ _ _ h => h }
/-- Lots of one. -/
theorem more_lots {y : Yd} (ok : Ok y) : More y ⟨y.room, y.most, 1, y.ws⟩ :=
  have oz : Ok ⟨y.room, y.most, 1, y.ws⟩ := ⟨ok.room0, ok.room1, ok.most0, ok.most1, Int.le_refl _, by show (1 : Int) ≤ 40; omega, ok.n0, ok.n1, ok.each⟩
  { oy := ok, oz := oz, room := Int.le_refl _, n := rfl, ord := fun o h => by
      have h2 := ordL_mem ok h
      exact mem_ordL oz h2.1 h2.2.1 (by show o % 1 = 0; omega)
    comes := fun _ _ => rfl, lo := fun _ _ => Int.le_refl _, hi := fun _ _ => Int.le_refl _, nx := fun _ _ _ _ h => h }
/-- Weathers of which more is known. -/
theorem more_ws {y : Yd} (ok : Ok y) {vs : List Wt} (hl : vs.length = y.ws.length)
    (h : ∀ m, m < y.ws.length → ((⟨y.room, y.most, y.lots, vs⟩ : Yd).at_ m).comes = (y.at_ m).comes ∧ (y.at_ m).lo ≤ ((⟨y.room, y.most, y.lots, vs⟩ : Yd).at_ m).lo ∧ ((⟨y.room, y.most, y.lots, vs⟩ : Yd).at_ m).lo ≤ (y.at_ m).hi ∧ ((⟨y.room, y.most, y.lots, vs⟩ : Yd).at_ m).hi = (y.at_ m).hi ∧
      (((⟨y.room, y.most, y.lots, vs⟩ : Yd).at_ m).next = (y.at_ m).next ∨ ((y.at_ m).next = 3 ∧ (((⟨y.room, y.most, y.lots, vs⟩ : Yd).at_ m).next = 1 ∨ ((⟨y.room, y.most, y.lots, vs⟩ : Yd).at_ m).next = 2)))) : More y ⟨y.room, y.most, y.lots, vs⟩ :=
  have oz : Ok ⟨y.room, y.most, y.lots, vs⟩ := ⟨ok.room0, ok.room1, ok.most0, ok.most1, ok.lots0, ok.lots1, by show 1 ≤ vs.length; rw [hl]; exact ok.n0, by show vs.length ≤ 4; rw [hl]; exact ok.n1, fun m hm => by
    have hm' : m < y.ws.length := by rw [← hl]; exact hm
    have h1 := h m hm'
    have h2 := ok.each m hm'
    show _ ∧ _ ∧ _ ∧ _ ∧ _ ∧ _ ∧ _ ≤ 2 ^ vs.length - 1
    rw [hl]
    refine ⟨by omega, by omega, by omega, by omega, by omega, by omega, ?_⟩
    rcases h1.2.2.2.2 with h3 | ⟨h3, h4⟩
    · rw [h3]; exact h2.2.2.2.2.2.2
    · have := h2.2.2.2.2.2.2; omega⟩
  { oy := ok, oz := oz, room := Int.le_refl _, n := hl, ord := fun _ h => h
    comes := fun m hm => (h m hm).1, lo := fun m hm => (h m hm).2.1, hi := fun m hm => by have := (h m hm).2.2.2.1; omega
    nx := fun m m' hm hm' hn => by
      have h1 := (h m hm).2.2.2.2
      rcases h1 with h3 | ⟨h3, h4⟩
      · unfold nx at hn ⊢; rw [h3] at hn; exact hn
      · have h2 := (ok.each m hm)
        unfold nx at hn ⊢
        rw [h3]
        rcases h4 with h5 | h5
        · rw [h5] at hn
          match m', hn with
          | 0, _ => decide
          | k + 1, hn =>
            exfalso
            have hp : (2 : Int) ≤ 2 ^ (k + 1) := by
              have h6 : 2 ^ 1 ≤ 2 ^ (k + 1) := Nat.pow_le_pow_right (by omega) (by omega)
              have h7 : ((2 ^ 1 : Nat) : Int) ≤ ((2 ^ (k + 1) : Nat) : Int) := by exact_mod_cast h6
              push_cast at h7; simpa using h7
            rw [Int.ediv_eq_zero_of_lt (by omega) (by omega)] at hn
            simp at hn
        · rw [h5] at hn
          match m', hn with
          | 0, hn => simp at hn
          | 1, _ => decide
          | k + 2, hn =>
            exfalso
            have hp : (4 : Int) ≤ 2 ^ (k + 2) := by
              have h6 : 2 ^ 2 ≤ 2 ^ (k + 2) := Nat.pow_le_pow_right (by omega) (by omega)
              have h7 : ((2 ^ 2 : Nat) : Int) ≤ ((2 ^ (k + 2) : Nat) : Int) := by exact_mod_cast h6
              push_cast at h7; simpa using h7
            rw [Int.ediv_eq_zero_of_lt (by omega) (by omega)] at hn
            simp at hn }
end Ytndmjginmomfiaa
end Go.Proofs
