/- Fields, outright, plainly: what a truth says of all answers. -/
import Derived.Test.YtgnjeefanbcbkaaE1
import Derived.Test.YtgnjeefanbcbkaaD4
import Derived.Test.YtgnjeefanbcbkaaB8
open Go Go.RowKit Go.YtgnjeefanbcbkaaIt
namespace Go.Proofs
namespace Ytgnjeefanbcbkaa
theorem mem_chosen {p : Nat → Bool} {n x : Nat} : ((x : Int) ∈ chosenL p n) ↔ x < n ∧ p x = true := by
  unfold chosenL
  simp only [List.mem_map, List.mem_filter, List.mem_range]
  constructor
  · rintro ⟨a, ⟨h1, h2⟩, h3⟩
    have : a = x := by omega
    subst this; exact ⟨h1, h2⟩
  · rintro ⟨h1, h2⟩; exact ⟨x, ⟨h1, h2⟩, rfl⟩
theorem floor_v {x : Fr} (h : 0 < x.u) : (x.floor : Rat) ≤ x.v := (le_floor h _).1 (Int.le_refl _)
theorem ceil_v {x : Fr} (h : 0 < x.u) : x.v ≤ (x.ceil : Rat) := (ceil_le h _).1 (Int.le_refl _)
theorem floor_mono {x y : Fr} (hx : 0 < x.u) (hy : 0 < y.u) (h : x.v ≤ y.v) : x.floor ≤ y.floor := (le_floor hy _).2 (Rat.le_trans (floor_v hx) h)
theorem ceil_mono {x y : Fr} (hx : 0 < x.u) (hy : 0 < y.u) (h : x.v ≤ y.v) : x.ceil ≤ y.ceil := (ceil_le hx _).2 (Rat.le_trans h (ceil_v hy))
theorem cutS_min (f : Nat → Fr) : ∀ {c : Nat}, (∀ j, j ≤ c → 0 < (f j).u) → ∀ j, j ≤ c → (cutS f c).2.v ≤ (f j).v
  | 0, _, j, hj => by have : j = 0 := by omega
                      subst this; exact Rat.le_refl
  | c + 1, hp, j, hj => by
    have ih := cutS_min f (c := c) (fun j h => hp j (by omega))
    obtain ⟨i, hi, e⟩ := cutS_mem f c
    have hq : 0 < (cutS f c).2.u := by rw [e]; exact hp i (by omega)
    unfold cutS
    by_cases h : (f (c + 1)).lt (cutS f c).2 = true
    · rw [if_pos h]
      have h2 := (Fr.lt_true (hp (c + 1) (by omega)) hq).1 h
      rcases (show j ≤ c ∨ j = c + 1 by omega) with h3 | rfl
      · exact Rat.le_trans (Rat.le_of_lt h2) (ih j h3)
      · exact Rat.le_refl
    · rw [if_neg h]
      have h2 := (Fr.lt_false (hp (c + 1) (by omega)) hq).1 (by simpa using h)
      rcases (show j ≤ c ∨ j = c + 1 by omega) with h3 | rfl
      · exact ih j h3
      · exact h2
theorem cutS_first (f : Nat → Fr) : ∀ {c : Nat}, (∀ j, j ≤ c → 0 < (f j).u) → ∀ j, j < (cutS f c).1 → (cutS f c).2.v < (f j).v
  | 0, _, j, hj => by simp [cutS] at hj
  | c + 1, hp, j, hj => by
    have ih := cutS_first f (c := c) (fun j h => hp j (by omega))
    have im := cutS_min f (c := c) (fun j h => hp j (by omega))
    obtain ⟨i, hi, e⟩ := cutS_mem f c
    have hq : 0 < (cutS f c).2.u := by rw [e]; exact hp i (by omega)
    unfold cutS at hj ⊢
    by_cases h : (f (c + 1)).lt (cutS f c).2 = true
    · rw [if_pos h] at hj ⊢
      have h2 := (Fr.lt_true (hp (c + 1) (by omega)) hq).1 h
      have h3 := im j (by simpa using Nat.lt_succ_iff.1 hj)
      show (f (c + 1)).v < _
      grind
    · rw [if_neg h] at hj ⊢
      exact ih j hj
theorem reg_pos' {L H : Nat → Int} {n : Nat} (hn : 1 ≤ n) : ∀ j, j ≤ n - 1 → 0 < (regF L H n j).u := fun j hj => regF_pos (by omega)
/-- What a truth says of a field's answers. -/
structure TruthA (n : Nat) (lo hi : Int) (ss : List Smp) (T : Nat → Int) (least : Int) : Prop where
  pos : posE n lo hi ss = 0
  val : Val n lo hi ss
  lows : ∀ w, w < n → (spanAt (lowAt lo ss) (highAt hi ss) n w).1 ≤ T w
  highs : ∀ w, w < n → T w ≤ (spanAt (lowAt lo ss) (highAt hi ss) n w).2
  loss : ∀ w, w < n → topF T (n - 1) - T w ≤ (regF (lowAt lo ss) (highAt hi ss) n w).ceil
  cut : ∀ w, w < n → cutV n lo hi ss ≤ (regF (lowAt lo ss) (highAt hi ss) n w).ceil
  peak : ∀ w, w < n → T w = topF T (n - 1) → (w : Int) ∈ peaksL n lo hi ss
  sure : ∀ w, w < n → (w : Int) ∈ surelyL n lo hi ss least → least ≤ T w
  perh : ∀ w, w < n → least ≤ T w → (w : Int) ∈ perhapsL n lo hi ss least
  week : ∃ c : Nat, c < n ∧ cutW n lo hi ss = c ∧ topF T (n - 1) - T c ≤ cutV n lo hi ss
theorem truth_all {n : Nat} {lo hi : Int} {ss : List Smp} {T : Nat → Int} {least : Int} (hV : Val n lo hi ss) (hT : Truth (lowAt lo ss) (highAt hi ss) n T) (hl : 0 ≤ least ∧ least ≤ 30000) : TruthA n lo hi ss T least := by
  have h0 := truth_noB hT
  have h1 := hV.n1
  have hE : posE n lo hi ss = 0 := by
    unfold posE
    rw [if_neg (by rw [chk_val hV]; simp), if_pos (show noB (lowAt lo ss) (highAt hi ss) (n : Int).toNat = true from h0)]
  have hloss : ∀ w, w < n → topF T (n - 1) - T w ≤ (regF (lowAt lo ss) (highAt hi ss) n w).ceil := fun w hw => by
    obtain ⟨k, hk, e⟩ := top_mem T (n - 1)
    rw [e]
    have := Rat.le_trans (truth_reg hT hw (show k < n by omega)) (ceil_v (regF_pos hw))
    rw [← cast_sub] at this
    exact cast_le.1 this
  have hg : goalF least = least := by unfold goalF; omega
  refine ⟨hE, hV, fun w hw => cast_le.1 (Rat.le_trans (floor_v (lower_pos _ _ _)) (truth_lower hT hw)), fun w hw => cast_le.1 (Rat.le_trans (truth_upper hT hw) (ceil_v (upper_pos _ _ _ _))), hloss, fun w hw => ?_, fun w hw h => ?_, fun w hw h => ?_, fun w hw h => ?_, ?_⟩
  · unfold cutV
    rw [if_pos hE]
    obtain ⟨i, hi', e⟩ := cutS_mem (regF (lowAt lo ss) (highAt hi ss) (n : Int).toNat) ((n : Int).toNat - 1)
    have hm := cutS_min (regF (lowAt lo ss) (highAt hi ss) (n : Int).toNat) (c := (n : Int).toNat - 1) (reg_pos' (by omega)) w (by omega)
    rw [e] at hm ⊢
    simp only [Int.toNat_natCast] at hm ⊢ hi'
    exact ceil_mono (regF_pos (by omega)) (regF_pos hw) hm
  · unfold peaksL
    rw [if_pos hE]
    simp only [Int.toNat_natCast]
    refine mem_chosen.2 ⟨hw, peak_iff.2 ?_⟩
    obtain ⟨k, hk, e⟩ := top_mem (lowAt lo ss) (n - 1)
    rw [e]
    refine Rat.le_trans (cast_le.2 ?_) (truth_upper hT hw)
    have := hT.low k (by omega)
    have := top_ge T hk
    omega
  · unfold surelyL at h
    rw [if_pos hE] at h
    simp only [Int.toNat_natCast] at h
    have h2 := (mem_chosen.1 h).2
    rw [Bool.not_eq_true', Fr.lt_false (lower_pos _ _ _) (whole_pos _), whole_v, hg] at h2
    exact cast_le.1 (Rat.le_trans h2 (truth_lower hT hw))
  · unfold perhapsL
    rw [if_pos hE]
    simp only [Int.toNat_natCast]
    refine mem_chosen.2 ⟨hw, ?_⟩
    rw [Bool.not_eq_true', Fr.lt_false (upper_pos _ _ _ _) (whole_pos _), whole_v, hg]
    exact Rat.le_trans (cast_le.2 h) (truth_upper hT hw)
  · obtain ⟨i, hi', e⟩ := cutS_mem (regF (lowAt lo ss) (highAt hi ss) (n : Int).toNat) ((n : Int).toNat - 1)
    refine ⟨i, by omega, ?_, ?_⟩
    · unfold cutW; rw [if_pos hE, e]
    · unfold cutV; rw [if_pos hE, e]
      exact hloss i (by omega)
end Ytgnjeefanbcbkaa
end Go.Proofs
