/- Pans: PanKnown: facts. -/
import Derived.Test.YteileadcmekkoaaQ25
open Go Go.RowKit Go.YteileadcmekkoaaIt
namespace Go.Proofs
namespace Yteileadcmekkoaa
def exS : List Wa := exW ++ [⟨2, 0, 0, 0, 0⟩]
theorem chk_S : chkE 3 exS = 16 := by
  have h := chk_of (m := 3) (ws := exS) ⟨by omega, by decide, by decide⟩
  rw [if_neg ?_] at h
  · exact h
  · rintro ⟨rk, hr⟩
    have h0 := hr 0 (by decide) rfl
    have h1 := hr 1 (by decide) rfl
    have h5 := hr 5 (by decide) rfl
    have e0 : rk 0 < rk 1 := h0
    have e1 : rk 1 < rk 2 := h1
    have e5 : rk 2 < rk 0 := h5
    omega
theorem holds_bad {c : List Int} (hc : c ≠ []) (hi : idxE 5 c c.length = 0) (hn : ¬ ShC exW (c.map Int.toNat)) : holdsE 3 exW c = 3 ∧ perV 3 exW c = (0, 0) := by
  have h : holdsE 3 exW c = 3 := by
    unfold holdsE
    rw [if_neg (by rw [chk_W]; simp), if_neg hc, if_neg (by show ¬ idxE 5 c c.length ≠ 0; simpa using hi), if_neg hn]
  refine ⟨h, ?_⟩
  unfold perV; rw [if_pos (by rw [h]; decide)]
theorem holds_12 : holdsE 3 exW [1, 2] = 3 ∧ perV 3 exW [1, 2] = (0, 0) := holds_bad (by simp) (by decide) fun h => by
  have := h.link 1 (by decide)
  exact absurd this (by decide)
theorem holds_01 : holdsE 3 exW [0, 1] = 3 ∧ perV 3 exW [0, 1] = (0, 0) := holds_bad (by simp) (by decide) fun h => by
  have := h.link 1 (by decide)
  exact absurd this (by decide)
theorem holds_012 : holdsE 3 exW [0, 1, 2] = 0 ∧ perV 3 exW [0, 1, 2] = (75, 1) := by
  have h : holdsE 3 exW [0, 1, 2] = 0 := by
    unfold holdsE
    rw [if_neg (by rw [chk_W]; simp), if_neg (by simp), if_neg (by decide), if_pos ⟨by decide, by decide, by decide⟩]
  refine ⟨h, ?_⟩
  unfold perV
  rw [if_neg (by rw [h]; simp)]
  rfl
theorem ver_W3 : verE 3 exW 75 1 [0, 40, 59] = 11 := by
  unfold verE
  rw [chk_W]
  decide
theorem y26 (c : List Int) (r : Int) (p : Nat × Nat) (hr : holdsE 3 exW c = r ∧ perV 3 exW c = p) (v u : Value) (w : World) (hv : SlA w v exW) (hu : SlI w u c) : Calls Try.prog 26 #[.agg #[.int .i64 3, v], u] w fun e w' => e = .returned (.tuple #[.agg #[.int .i64 (p.1 : Nat), .int .i64 (p.2 : Nat)], .int .i64 r]) ∧ Below w.heap.size w w' := by
  refine (holds_any 3 v u exW c w hv hu).mono ?_
  rintro e w' ⟨rfl, hb⟩
  rw [hr.1, hr.2]; exact ⟨rfl, hb⟩
theorem y31 (v u : Value) (w : World) (hv : SlA w v exW) (hu : SlI w u [0, 40, 59]) : Calls Try.prog 31 #[.agg #[.int .i64 3, v], .agg #[.int .i64 75, .int .i64 1], u] w fun e w' => e = .returned (.int .i64 11) ∧ Below w.heap.size w w' := by
  refine (verify_any 3 v u exW 75 1 _ w hv hu).mono ?_
  rintro e w' ⟨rfl, hb⟩
  rw [ver_W3]; exact ⟨rfl, hb⟩
theorem y22 (v : Value) (w : World) (hv : SlA w v exS) : Calls Try.prog 22 #[.agg #[.int .i64 3, v]] w fun e w' => e = .returned (.int .i64 16) ∧ Below w.heap.size w w' := by
  refine (check_any 3 v exS w hv).mono ?_
  rintro e w' ⟨rfl, hb⟩
  rw [chk_S]; exact ⟨rfl, hb⟩
end Yteileadcmekkoaa
end Go.Proofs
