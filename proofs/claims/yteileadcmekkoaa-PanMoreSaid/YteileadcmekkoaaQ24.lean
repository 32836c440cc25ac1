/- Pans: the examples' calls. -/
import Derived.Test.YteileadcmekkoaaQ23
open Go Go.RowKit Go.YteileadcmekkoaaIt
namespace Go.Proofs
namespace Yteileadcmekkoaa
theorem W2_any (w : World) : Calls Try.prog 49 #[] w fun e w' => ∃ v, e = .returned (.agg #[.int .i64 3, v]) ∧ SlA w' v exW ∧ Below w.heap.size w w' := by
  refine (W_any w).mono ?_
  rintro e w' ⟨g, rfl, hg, -, hb⟩
  exact ⟨_, rfl, slG_new encA_len (xs := exW) (cap := 5) (by decide) (by decide) hg, hb⟩
theorem x18W (v : Value) (w : World) (hv : SlA w v exW) : Calls Try.prog 18 #[.agg #[.int .i64 3, v]] w fun e w' => e = .returned (.tuple #[.agg #[.int .i64 75, .int .i64 1], .int .i64 0]) ∧ Below w.heap.size w w' := by
  refine (pace_any 3 v exW w hv).mono ?_
  rintro e w' ⟨rfl, hb⟩
  rw [chk_W, pace_W.1, pace_W.2.1]; exact ⟨rfl, hb⟩
theorem x18U (v : Value) (w : World) (hv : SlA w v exU) : Calls Try.prog 18 #[.agg #[.int .i64 3, v]] w fun e w' => e = .returned (.tuple #[.agg #[.int .i64 50, .int .i64 1], .int .i64 0]) ∧ Below w.heap.size w w' := by
  refine (pace_any 3 v exU w hv).mono ?_
  rintro e w' ⟨rfl, hb⟩
  rw [chk_U, pace_U.1, pace_U.2]; exact ⟨rfl, hb⟩
theorem x24U (v : Value) (w : World) (hv : SlA w v exU) : Calls Try.prog 24 #[.agg #[.int .i64 3, v]] w fun e w' => ∃ c, e = .returned (.tuple #[c, .int .i64 0]) ∧ SlI w' c [2] ∧ Below w.heap.size w w' := by
  refine (hold_any 3 v exU w hv).mono ?_
  rintro e w' ⟨⟨c, l, rfl, hn, hl⟩, hb⟩
  have h0 : holdE 3 exU = 0 := holdE_ok chk_U (by rw [pace_U.1]; omega)
  have h1 := hold_U hl h0
  subst h1
  rw [h0]
  exact ⟨c, rfl, hn.1, hb⟩
theorem x24W (v : Value) (w : World) (hv : SlA w v exW) : Calls Try.prog 24 #[.agg #[.int .i64 3, v]] w fun e w' => ∃ ad cap, e = .returned (.tuple #[.slice ad 3 cap, .int .i64 0]) ∧ Below w.heap.size w w' := by
  refine (hold_any 3 v exW w hv).mono ?_
  rintro e w' ⟨⟨c, l, rfl, hn, hl⟩, hb⟩
  have h0 : holdE 3 exW = 0 := holdE_ok chk_W (by rw [pace_W.1]; omega)
  have h1 := hold_W hl h0
  obtain ⟨ad, cap, e, -⟩ := hn.1
  rw [List.length_map, h1] at e
  subst e
  rw [h0]
  exact ⟨ad, cap, rfl, hb⟩
theorem x26W (v u : Value) (w : World) (hv : SlA w v exW) (hu : SlI w u [1, 4]) : Calls Try.prog 26 #[.agg #[.int .i64 3, v], u] w fun e w' => e = .returned (.tuple #[.agg #[.int .i64 45, .int .i64 1], .int .i64 0]) ∧ Below w.heap.size w w' := by
  refine (holds_any 3 v u exW [1, 4] w hv hu).mono ?_
  rintro e w' ⟨rfl, hb⟩
  rw [holds_W.1, holds_W.2]; exact ⟨rfl, hb⟩
theorem x28W (v : Value) (w : World) (hv : SlA w v exW) : Calls Try.prog 28 #[.agg #[.int .i64 3, v]] w fun e w' => ∃ t, e = .returned (.tuple #[t, .int .i64 0]) ∧ SlI w' t [0, 40, 60] ∧ Below w.heap.size w w' := by
  refine (table_any 3 v exW w hv).mono ?_
  rintro e w' ⟨⟨t, rfl, ht⟩, hb⟩
  rw [chk_W]
  rw [pace_W.2.2] at ht
  exact ⟨t, rfl, ht, hb⟩
theorem x20a (v : Value) (w : World) (hv : SlA w v exW) : Calls Try.prog 20 #[.agg #[.int .i64 3, v], .agg #[.int .i64 149, .int .i64 2]] w fun e w' => e = .returned (.tuple #[.bool false, .int .i64 0]) ∧ Below w.heap.size w w' := by
  refine (kept_any 3 v exW 149 2 w hv).mono ?_
  rintro e w' ⟨rfl, hb⟩
  rw [kept_W.1, kept_W.2.1]; exact ⟨rfl, hb⟩
theorem x20b (v : Value) (w : World) (hv : SlA w v exW) : Calls Try.prog 20 #[.agg #[.int .i64 3, v], .agg #[.int .i64 150, .int .i64 2]] w fun e w' => e = .returned (.tuple #[.bool true, .int .i64 0]) ∧ Below w.heap.size w w' := by
  refine (kept_any 3 v exW 150 2 w hv).mono ?_
  rintro e w' ⟨rfl, hb⟩
  rw [kept_W.2.2.1, kept_W.2.2.2]; exact ⟨rfl, hb⟩
theorem x31a (v u : Value) (w : World) (hv : SlA w v exW) (hu : SlI w u [0, 40, 60]) : Calls Try.prog 31 #[.agg #[.int .i64 3, v], .agg #[.int .i64 75, .int .i64 1], u] w fun e w' => e = .returned (.int .i64 0) ∧ Below w.heap.size w w' := by
  refine (verify_any 3 v u exW 75 1 _ w hv hu).mono ?_
  rintro e w' ⟨rfl, hb⟩
  rw [ver_W.1]; exact ⟨rfl, hb⟩
theorem x31b (v u : Value) (w : World) (hv : SlA w v exW) (hu : SlI w u [0, 40, 60]) : Calls Try.prog 31 #[.agg #[.int .i64 3, v], .agg #[.int .i64 74, .int .i64 1], u] w fun e w' => e = .returned (.int .i64 11) ∧ Below w.heap.size w w' := by
  refine (verify_any 3 v u exW 74 1 _ w hv hu).mono ?_
  rintro e w' ⟨rfl, hb⟩
  rw [ver_W.2]; exact ⟨rfl, hb⟩
def exR0 : List (Int × Int) := [(0, 0), (30, 40), (50, 60)]
def exR1 : List (Int × Int) := [(60, 75), (90, 115), (110, 135)]
theorem x33W (v : Value) (w : World) (hv : SlA w v exW) : Calls Try.prog 33 #[.agg #[.int .i64 3, v], .int .i64 2] w fun e w' => ∃ b off cap v0 v1, e = .returned (.tuple #[.slice (some ⟨b, off, none⟩) 2 cap, .int .i64 0]) ∧ b < w'.heap.size ∧ w'.cell? ⟨b, off, none⟩ = some v0 ∧ w'.cell? ⟨b, off + 1, none⟩ = some v1 ∧ SlP w' v0 exR0 ∧ SlP w' v1 exR1 ∧ Below w.heap.size w w' := by
  refine (runs_any 3 v exW 2 w hv).mono ?_
  rintro e w' ⟨⟨u, rows, rfl, ⟨vs, hvs, hvl, hvr⟩, -, h0⟩, hb⟩
  obtain ⟨m, N, R, em, eN, hV, hns, -, hR, hrows, -⟩ := h0 runs_W
  have hm : m = 3 := by omega
  have hN : N = 2 := by omega
  subst hm hN
  have hq := RunEq.uniq hV hns hR exR_eq
  have e0 : rows = [exR0, exR1] := by
    rw [hrows]
    show [[R 0 0, R 0 1, R 0 2], [R 1 0, R 1 1, R 1 2]] = _
    rw [hq 0 (by omega) 0 (by omega), hq 0 (by omega) 1 (by omega), hq 0 (by omega) 2 (by omega), hq 1 (by omega) 0 (by omega), hq 1 (by omega) 1 (by omega), hq 1 (by omega) 2 (by omega)]
    rfl
  subst e0
  rw [runs_W]
  match vs, hvl with
  | [v0, v1], _ =>
    obtain ⟨ad, cap, rfl, -, -, hc⟩ := hvs
    obtain ⟨b, off, rfl, hlt, hcell⟩ := hc (by simp)
    exact ⟨b, off, cap, v0, v1, rfl, hlt, hcell 0 (by simp), hcell 1 (by simp), hvr 0 (by simp) (by simp), hvr 1 (by simp) (by simp), hb⟩
end Yteileadcmekkoaa
end Go.Proofs
