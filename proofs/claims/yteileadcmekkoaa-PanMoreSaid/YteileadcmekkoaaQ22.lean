/- Pans: the examples, evaluated. -/
import Derived.Test.YteileadcmekkoaaQ21
open Go Go.RowKit Go.YteileadcmekkoaaIt
namespace Go.Proofs
namespace Yteileadcmekkoaa
theorem val_exW : Val 3 exW := ⟨by omega, by decide, by decide⟩
theorem val_exU : Val 3 exU := ⟨by omega, by decide, by decide⟩
theorem ns_exW : NS exW := ⟨fun v => v, by decide⟩
theorem ns_exU : NS exU := ⟨fun v => v, by decide⟩
def exX : Nat → Int := fun v => if v = 1 then 40 else if v = 2 then 60 else 0
theorem exX_nn (v : Nat) : 0 ≤ exX v := by unfold exX; split; omega; split <;> omega
theorem exX_hi (v : Nat) : exX v ≤ 160000000 := by unfold exX; split; omega; split <;> omega
theorem slow_W : Slow 3 exW 75 1 exX [0, 1, 2] := by
  refine ⟨by omega, Keeps.of (by decide), exX_nn, exX_hi, fun y hy h0 v => ?_, .inr ⟨⟨?_, by decide, 75, 1, by decide, by decide, by omega, by decide, by decide⟩, by omega⟩⟩
  · have h1 := hy.get (i := 0) (by decide)
    have h2 := hy.get (i := 1) (by decide)
    have e1 : y 0 + (40 * 1 - 0 * 75) ≤ y 1 := h1
    have e2 : y 1 + (20 * 1 - 0 * 75) ≤ y 2 := h2
    have := h0 0
    have := h0 v
    unfold exX
    split
    · rename_i h; subst h; omega
    · split
      · rename_i h; subst h; omega
      · omega
  · exact (show ShC exW [0, 1, 2] from ⟨by decide, by decide, by decide⟩).cyc (by decide) 0 1
theorem slow_U : Slow 3 exU 50 1 exX [2] := by
  refine ⟨by omega, Keeps.of (by decide), exX_nn, exX_hi, fun y hy h0 v => ?_, .inr ⟨⟨?_, by decide, 50, 1, by decide, by decide, by omega, by decide, by decide⟩, by omega⟩⟩
  · have h1 := hy.get (i := 0) (by decide)
    have h2 := hy.get (i := 1) (by decide)
    have e1 : y 0 + (40 * 1 - 0 * 50) ≤ y 1 := h1
    have e2 : y 1 + (20 * 1 - 0 * 50) ≤ y 2 := h2
    have := h0 0
    have := h0 v
    unfold exX
    split
    · rename_i h; subst h; omega
    · split
      · rename_i h; subst h; omega
      · omega
  · exact (show ShC exU [2] from ⟨by decide, by decide, by decide⟩).cyc (by decide) 0 1
theorem chk_W : chkE 3 exW = 0 := by have h := chk_of val_exW; rw [if_pos ns_exW] at h; exact h
theorem chk_U : chkE 3 exU = 0 := by have h := chk_of val_exU; rw [if_pos ns_exU] at h; exact h
theorem pace_W : pnum 3 exW = 75 ∧ pden 3 exW = 1 ∧ tabL 3 exW = [0, 40, 60] := by
  obtain ⟨h1, h2, h3⟩ := pace_eq val_exW ns_exW slow_W
  refine ⟨h1.symm, h2.symm, ?_⟩
  refine (tabL_ok (m := 3) (ws := exW) chk_W).trans ?_
  show [ptab 3 exW 0, ptab 3 exW 1, ptab 3 exW 2] = _
  have e0 := h3 0
  have e1 := h3 1
  have e2 := h3 2
  have f : ((3 : Nat) : Int) = 3 := rfl
  rw [f] at e0 e1 e2
  rw [← e0, ← e1, ← e2]; rfl
theorem pace_U : pnum 3 exU = 50 ∧ pden 3 exU = 1 := by
  obtain ⟨h1, h2, -⟩ := pace_eq val_exU ns_exU slow_U
  exact ⟨h1.symm, h2.symm⟩
/-- The lists of at most three numbers below n. -/
theorem len3 {n : Nat} {l : List Nat} (h : ∀ i ∈ l, i < n) (hl : l.length ≤ 3) (hne : l ≠ []) : (∃ i : Fin n, l = [i.val]) ∨ (∃ i j : Fin n, l = [i.val, j.val]) ∨ (∃ i j k : Fin n, l = [i.val, j.val, k.val]) := by
  match l, hl, hne with
  | [i], _, _ => exact .inl ⟨⟨i, h i (by simp)⟩, rfl⟩
  | [i, j], _, _ => exact .inr (.inl ⟨⟨i, h i (by simp)⟩, ⟨j, h j (by simp)⟩, rfl⟩)
  | [i, j, k], _, _ => exact .inr (.inr ⟨⟨i, h i (by simp)⟩, ⟨j, h j (by simp)⟩, ⟨k, h k (by simp)⟩, rfl⟩)
  | _ :: _ :: _ :: _ :: _, hl, _ => simp at hl
theorem hold_W {l : List Nat} (h : HoldL 3 exW l) (h0 : holdE 3 exW = 0) : l.length = 3 := by
  rcases h with ⟨rfl, hne⟩ | ⟨m, em, hv, hs, hc, -, -⟩
  · exact absurd h0 hne
  · rw [pace_W.1, pace_W.2.1] at hc
    obtain ⟨g, -, h1, h2, -, -⟩ := hc.mul
    obtain ⟨u, hcy⟩ := hc.cyc
    have hm : m = 3 := by omega
    subst hm
    have h3 : hiS exW l = 75 * bkS exW l := by rw [h1, h2]; push_cast; omega
    rcases len3 (path_lt hcy.path) hc.len hcy.ne with ⟨i, rfl⟩ | ⟨i, j, rfl⟩ | ⟨i, j, k, rfl⟩
    · exact absurd h3 ((by decide : ∀ i : Fin 5, ¬ hiS exW [i.val] = 75 * bkS exW [i.val]) i)
    · exact absurd h3 ((by decide : ∀ i j : Fin 5, ¬ hiS exW [i.val, j.val] = 75 * bkS exW [i.val, j.val]) i j)
    · rfl
theorem hold_U {l : List Nat} (h : HoldL 3 exU l) (h0 : holdE 3 exU = 0) : l = [2] := by
  rcases h with ⟨rfl, hne⟩ | ⟨m, em, hv, hs, hc, -, -⟩
  · exact absurd h0 hne
  · rw [pace_U.1, pace_U.2] at hc
    obtain ⟨g, -, h1, h2, -, -⟩ := hc.mul
    obtain ⟨u, hcy⟩ := hc.cyc
    have hm : m = 3 := by omega
    subst hm
    have h3 : hiS exU l = 50 * bkS exU l := by rw [h1, h2]; push_cast; omega
    have h4 := (ShC.of hcy).nd
    rcases len3 (path_lt hcy.path) hc.len hcy.ne with ⟨i, rfl⟩ | ⟨i, j, rfl⟩ | ⟨i, j, k, rfl⟩
    · have := (by decide : ∀ i : Fin 4, hiS exU [i.val] = 50 * bkS exU [i.val] → i.val = 2) i h3
      rw [this]
    · exact absurd h4 ((by decide : ∀ i j : Fin 4, hiS exU [i.val, j.val] = 50 * bkS exU [i.val, j.val] → ¬ ([i.val, j.val].map (fN exU)).Nodup) i j h3)
    · exact absurd h4 ((by decide : ∀ i j k : Fin 4, hiS exU [i.val, j.val, k.val] = 50 * bkS exU [i.val, j.val, k.val] → ¬ ([i.val, j.val, k.val].map (fN exU)).Nodup) i j k h3)
theorem holds_W : holdsE 3 exW [1, 4] = 0 ∧ perV 3 exW [1, 4] = (45, 1) := by
  have h : holdsE 3 exW [1, 4] = 0 := by
    unfold holdsE
    rw [if_neg (by rw [chk_W]; simp), if_neg (by simp), if_neg (by decide), if_pos ⟨by decide, by decide, by decide⟩]
  refine ⟨h, ?_⟩
  unfold perV
  rw [if_neg (by rw [h]; simp)]
  rfl
theorem kept_W : keptE 3 exW 149 2 = 0 ∧ keptB 3 exW 149 2 = false ∧ keptE 3 exW 150 2 = 0 ∧ keptB 3 exW 150 2 = true := by
  unfold keptE keptB
  rw [chk_W, pace_W.1, pace_W.2.1]
  decide
theorem ver_W : verE 3 exW 75 1 [0, 40, 60] = 0 ∧ verE 3 exW 74 1 [0, 40, 60] = 11 := by
  unfold verE
  rw [chk_W]
  decide
def exR : Rows := fun k v => if k = 0 then (if v = 1 then (30, 40) else if v = 2 then (50, 60) else (0, 0)) else (if v = 0 then (60, 75) else if v = 1 then (90, 115) else (110, 135))
theorem exR_eq : RunEq 3 exW 2 exR := by
  have h : ∀ k : Fin 2, ∀ v : Fin 3, exR k.val v.val = valR exW exR k.val v.val := by decide
  exact fun k hk v hv => h ⟨k, hk⟩ ⟨v, hv⟩
theorem runs_W : runsE 3 exW 2 = 0 := by unfold runsE; rw [if_neg (by rw [chk_W]; simp), if_neg (by decide)]
end Yteileadcmekkoaa
end Go.Proofs
