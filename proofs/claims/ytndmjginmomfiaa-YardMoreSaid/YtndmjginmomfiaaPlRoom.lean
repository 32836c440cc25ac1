/- What YardRoom asks of the least room. -/
import Derived.Test.YtndmjginmomfiaaE38
import Derived.Test.YtndmjginmomfiaaM32
open Go Go.RowKit Go.YtndmjginmomfiaaIt
namespace Go.Proofs
namespace Ytndmjginmomfiaa
theorem everI_eq {y : Yd} (ok : Ok y) {s m r : Nat} (hs : s ≤ r) (hr : r ≤ 60) (hm : m < y.ws.length) : everI y s m r = ever y s m r := by
  have e : wrI y (r : Int) = wr y r := rfl
  unfold everI ever
  rw [e]
  have h0 : stE (wr y r) s m = 0 := stE_ok.2 ⟨wr_ok ok hr, ⟨by omega, by show (s : Int) ≤ (r : Int); omega⟩, ⟨by omega, by show (m : Int) < ((wr y r).ws.length : Int); exact_mod_cast hm⟩⟩
  unfold termE
  rw [if_pos h0, h0, Bool.eq_iff_iff]
  simp [never]
def RoomR (y : Yd) (s m : Int) : Prop :=
  (needE y s m = 21 ∧ needR y s m = 0 ∧ everI y s m 60 = false ∧ everI y s m 25 = false) ∨
  (needE y s m = 0 ∧ ∃ n : Int, needR y s m = n ∧ s ≤ n ∧ n ≤ 60 ∧ everI y s m n = true ∧ (s < n → everI y s m (n - 1) = false) ∧ (n < 60 → everI y s m (n + 1) = true) ∧ (s ≤ y.room → decide (n ≤ y.room) = everI y s m y.room))
theorem room_r {y : Yd} (ok : Ok y) {s m : Nat} (hs : s ≤ 9) (hm : m < y.ws.length) : RoomR y s m := by
  have hc : chkE y = 0 := chk_ok.2 ok
  have hb1 : btw 0 s 60 = true := by unfold btw; simp; omega
  have hb2 : btw 0 m (y.ws.length - 1) = true := by unfold btw; simp; omega
  have hE : needE y s m = if needV y s m = none then 21 else 0 := by
    unfold needE
    rw [if_pos hc, if_pos hb1, if_pos hb2]
    simp
  have hev : ∀ r : Nat, s ≤ r → r ≤ 60 → everI y s m r = ever y s m r := fun r h1 h2 => everI_eq ok h1 h2 hm
  unfold RoomR
  cases hv : needV y s m with
  | none =>
    refine .inl ⟨by rw [hE, hv]; rfl, by unfold needR; rw [hE, hv]; rfl, ?_, ?_⟩
    · have := hev 60 (by omega) (by omega)
      rw [show ((60 : Nat) : Int) = 60 from rfl] at this
      rw [this]
      unfold needV at hv
      rw [List.find?_eq_none] at hv
      have h := hv 60 (by simp)
      simpa [show s ≤ 60 by omega] using h
    · have := hev 25 (by omega) (by omega)
      rw [show ((25 : Nat) : Int) = 25 from rfl] at this
      rw [this]
      unfold needV at hv
      rw [List.find?_eq_none] at hv
      have h := hv 25 (by simp)
      simpa [show s ≤ 25 by omega] using h
  | some n =>
    have hE0 : needE y s m = 0 := by rw [hE, hv]; rfl
    unfold needV at hv
    rw [List.find?_range_eq_some] at hv
    obtain ⟨h1, h2, h3⟩ := hv
    simp only [Bool.and_eq_true, decide_eq_true_eq] at h1
    have hn : n ≤ 60 := by have := List.mem_range.1 h2; omega
    have hless : ∀ r, s ≤ r → r < n → ever y s m r = false := fun r ha hb => by
      have := h3 r hb
      simpa [ha] using this
    refine .inr ⟨hE0, n, ?_, by omega, by omega, ?_, fun h => ?_, fun h => ?_, fun h => ?_⟩
    · unfold needR
      rw [if_pos hE0]
      have : needV y s m = some n := by unfold needV; rw [List.find?_range_eq_some]; exact ⟨by simp [h1], h2, h3⟩
      simp [this]
    · rw [hev n h1.1 hn]; exact h1.2
    · have e : (n : Int) - 1 = ((n - 1 : Nat) : Int) := by omega
      rw [e, hev (n - 1) (by omega) (by omega)]
      exact hless _ (by omega) (by omega)
    · have e : (n : Int) + 1 = ((n + 1 : Nat) : Int) := by omega
      rw [e, hev (n + 1) (by omega) (by omega)]
      exact ever_mono ok hm h1.1 (by omega) (by omega) h1.2
    · obtain ⟨R, hR⟩ := Int.eq_ofNat_of_zero_le ok.room0
      have hR6 := ok.room1
      rw [hR] at h hR6 ⊢
      rw [hev R (by omega) (by omega)]
      by_cases hnr : n ≤ R
      · rw [ever_mono ok hm h1.1 hnr (by omega) h1.2]; simp [hnr]
      · rw [hless R (by omega) (by omega)]; simp; omega
end Ytndmjginmomfiaa
end Go.Proofs
