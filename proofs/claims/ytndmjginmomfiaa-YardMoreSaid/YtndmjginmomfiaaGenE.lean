/- Generic: a table of the call's own: rows that are appended, read and changed in place. -/
import Derived.Test.YtndmjginmomfiaaR2
open Go Go.RowKit Go.YtndmjginmomfiaaIt
namespace Go.Proofs
namespace Ytndmjginmomfiaa
theorem row_lower {W : World} {B B' : Nat} {e : TypeId} {sz : Nat} {v : Value} {n : Nat} {xs : List Value} (h : W.ownsRow B' e sz v n xs) (hB : B ≤ B') : W.ownsRow B e sz v n xs := by
  refine ⟨h.1, ?_⟩
  rcases h.2 with h | ⟨g, cap, cur, rfl, hg, hh, r1, r2, r3, r4⟩
  · exact .inl h
  · exact .inr ⟨g, cap, cur, rfl, Nat.le_trans hB hg, hh, r1, r2, r3, r4⟩
theorem row_some {W : World} {B : Nat} {e : TypeId} {v : Value} {n : Nat} {xs : List Value} (h : W.ownsRow B e 1 v n xs) (hn : 0 < n) : ∃ g cap, v = .slice (some ⟨g, 0, none⟩) n cap ∧ B ≤ g ∧ g < W.heap.size := by
  rcases h.2 with ⟨rfl, rfl⟩ | ⟨g, cap, cur, rfl, hg, hh, _⟩
  · have := h.1; simp at this; omega
  · exact ⟨g, cap, rfl, hg, lt_blk hh⟩
/-- A table whose rows are the call's own. -/
def TabO (W : World) (B : Nat) (v : Value) (rows : List (List Int)) : Prop :=
  ∃ vs : List Value, W.ownsRow B 28 1 v rows.length vs ∧ (∀ (i : Nat) (u : Value) (r : List Int), vs[i]? = some u → rows[i]? = some r → W.ownsRow B 3 1 u r.length (r.map (.int .i64))) ∧
    ∀ (i j : Nat) (u u' : Value), i ≠ j → vs[i]? = some u → vs[j]? = some u' → ∀ g, u.ownBlock = some g → u'.ownBlock ≠ some g
theorem TabO.nil (W : World) (B : Nat) : TabO W B (.slice none 0 0) [] := ⟨[], World.ownsRow_nil _ _ _ _, fun i u r h => by simp at h, fun i j u u' _ h => by simp at h⟩
theorem TabO.below {W W' : World} {B : Nat} {v : Value} {rows : List (List Int)} (h : TabO W B v rows) (hb : Below W.heap.size W W') : TabO W' B v rows := by
  obtain ⟨vs, h1, h2, h3⟩ := h
  exact ⟨vs, row_below h1 hb, fun i u r hu hr => row_below (h2 i u r hu hr) hb, h3⟩
theorem TabO.lower {W : World} {B B' : Nat} {v : Value} {rows : List (List Int)} (h : TabO W B' v rows) (hB : B ≤ B') : TabO W B v rows := by
  obtain ⟨vs, h1, h2, h3⟩ := h
  exact ⟨vs, row_lower h1 hB, fun i u r hu hr => row_lower (h2 i u r hu hr) hB, h3⟩
theorem TabO.sl {W : World} {B : Nat} {v : Value} {rows : List (List Int)} (h : TabO W B v rows) (hn : rows.length ≤ 17592186044416) (hr : ∀ i, i < rows.length → (tabR rows i).length ≤ 17592186044416) : SlII W v rows := by
  obtain ⟨vs, h1, h2, _⟩ := h
  have hl : vs.length = rows.length := by have := h1.1; omega
  refine ⟨vs, slV_own h1 hl.symm (by omega), hl, fun i hi hi' => ?_⟩
  have h4 := h2 i _ _ (List.getElem?_eq_getElem hi) (List.getElem?_eq_getElem hi')
  have h5 := hr i hi'
  rw [tabR_lt hi'] at h5
  exact slI_own h4 rfl h5
theorem tabO_push {W0 W w6 : World} {B B' : Nat} {v v' rv : Value} {rows : List (List Int)} {r : List Int} {vs : List Value} {o : Obj} (h1 : W0.ownsRow B 28 1 v rows.length vs)
    (h2 : ∀ (i : Nat) (u : Value) (r : List Int), vs[i]? = some u → rows[i]? = some r → W0.ownsRow B 3 1 u r.length (r.map (.int .i64))) (h3 : ∀ (i j : Nat) (u u' : Value), i ≠ j → vs[i]? = some u → vs[j]? = some u' → ∀ g, u.ownBlock = some g → u'.ownBlock ≠ some g)
    (hb : Below W0.heap.size W0 W) (hr : W.ownsRow B' 3 1 rv r.length (r.map (.int .i64))) (hB' : W0.heap.size ≤ B') (hBB : B ≤ B') (r1 : w6.ownsRow B 28 1 v' (rows.length + 1) (vs ++ [rv])) (r2 : (W.alloc o).grownBy w6 v.ownBlock) : TabO w6 B v' (rows ++ [r]) := by
  have hl : vs.length = rows.length := by have := h1.1; omega
  have h1W := row_below h1 hb
  have key : ∀ {u : Value} {n : Nat} {xs : List Value} {B0 : Nat}, W.ownsRow B0 3 1 u n xs → w6.ownsRow B0 3 1 u n xs := by
    intro u n xs B0 hu
    refine (hu.alloc o).kept r2 ?_
    by_cases hv : v.ownBlock = none
    · rw [hv]
      by_cases hu2 : u.ownBlock = none
      · exact .inl hu2
      · exact .inr hu2
    · refine .inr ?_
      rcases h1W.2 with ⟨rfl, _⟩ | ⟨g, cap, cur, rfl, hbg, hh, _⟩
      · exact absurd rfl hv
      · exact own_ne hu hh (by decide)
  have hlt : ∀ (i : Nat) (u : Value), vs[i]? = some u → ∀ g, u.ownBlock = some g → g < W0.heap.size := by
    intro i u hu g hg
    obtain ⟨hi, _⟩ := List.getElem?_eq_some_iff.1 hu
    exact ((h2 i u _ hu (List.getElem?_eq_getElem (by omega))).lt g hg).2
  refine ⟨vs ++ [rv], by rw [List.length_append]; exact r1, fun i u q hu hq => ?_, fun i j u u' hne hu hu' g hg => ?_⟩
  · by_cases hi : i < rows.length
    · rw [List.getElem?_append_left (by omega)] at hu
      rw [List.getElem?_append_left hi] at hq
      exact key (row_below (h2 i u q hu hq) hb)
    · rw [List.getElem?_append_right (by omega)] at hu hq
      rw [hl] at hu
      cases hk : i - rows.length with
      | zero =>
        rw [hk] at hu hq
        simp at hu hq
        subst hu hq
        exact key (row_lower hr hBB)
      | succ k => rw [hk] at hu; simp at hu
  · by_cases hi : i < vs.length
    · rw [List.getElem?_append_left hi] at hu
      by_cases hj : j < vs.length
      · rw [List.getElem?_append_left hj] at hu'
        exact h3 i j u u' hne hu hu' g hg
      · rw [List.getElem?_append_right (by omega)] at hu'
        cases hk : j - vs.length with
        | zero =>
          rw [hk] at hu'; simp at hu'; subst hu'
          intro hc
          have := hlt i u hu g hg
          have := (hr.lt g hc).1
          omega
        | succ k => rw [hk] at hu'; simp at hu'
    · rw [List.getElem?_append_right (by omega)] at hu
      cases hk : i - vs.length with
      | zero =>
        rw [hk] at hu; simp at hu; subst hu
        have hg2 := (hr.lt g hg).1
        by_cases hj : j < vs.length
        · rw [List.getElem?_append_left hj] at hu'
          intro hc
          have := hlt j u' hu' g hc
          omega
        · rw [List.getElem?_append_right (by omega)] at hu'
          cases hk2 : j - vs.length with
          | zero => omega
          | succ k => rw [hk2] at hu'; simp at hu'
      | succ k => rw [hk] at hu; simp at hu
/-- A row, opened: its cells, and what a store into it does. -/
theorem TabO.at_ {W : World} {B : Nat} {v : Value} {rows : List (List Int)} (h : TabO W B v rows) {i : Nat} (hi : i < rows.length) (hr : 0 < (tabR rows i).length) :
    ∃ g0 cap0 g cap, v = .slice (some ⟨g0, 0, none⟩) rows.length cap0 ∧ g0 < W.heap.size ∧ B ≤ g ∧ g < W.heap.size ∧ W.cell? ⟨g0, i, none⟩ = some (.slice (some ⟨g, 0, none⟩) (tabR rows i).length cap) ∧
      (∀ j, j < (tabR rows i).length → W.cell? ⟨g, j, none⟩ = some (.int .i64 (at0 (tabR rows i) j))) ∧ (∀ j, W.frozen? ⟨g, j, none⟩ = false) ∧
      ∀ j x, TabO (W.setCell ⟨g, j, none⟩ (.int .i64 x)) B v (rows.set i ((tabR rows i).set j x)) := by
  obtain ⟨vs, h1, h2, h3⟩ := h
  have hl : vs.length = rows.length := by have := h1.1; omega
  obtain ⟨g0, cap0, rfl, hg0, hg0l⟩ := row_some h1 (by omega)
  have hvi : i < vs.length := by omega
  have hrow := h2 i _ _ (List.getElem?_eq_getElem hvi) (List.getElem?_eq_getElem hi)
  have hre := tabR_lt hi
  rw [← hre] at hrow
  obtain ⟨g, cap, hv, hg, hgl⟩ := row_some hrow hr
  have hc := h1.cellAt i (by omega)
  rw [List.getElem?_eq_getElem hvi, hv] at hc
  have hrow' := hrow
  rw [hv] at hrow'
  refine ⟨g0, cap0, g, cap, rfl, hg0l, hg, hgl, hc, fun j hj => ?_, fun j => hrow'.frozenAt j, fun j x => ?_⟩
  · rw [hrow'.cellAt j (by omega)]
    simp [at0_lt hj, hj]
  · obtain ⟨cur0, hb0⟩ := row_block h1
    obtain ⟨cur, hb⟩ := row_block hrow'
    have hne : g ≠ g0 := by rintro rfl; rw [hb0] at hb; cases hb
    refine ⟨vs, ?_, fun k u q hu hq => ?_, h3⟩
    · rw [List.length_set]
      exact row_set_other h1 (by simp [Value.ownBlock]; exact fun e => hne e.symm)
    · by_cases hk : k = i
      · subst hk
        rw [List.getElem?_set_self hi] at hq
        rw [List.getElem?_eq_getElem hvi] at hu
        injection hq with hq
        injection hu with hu
        subst hq
        rw [← hu, hv]
        have := (hrow'.stored j (.int .i64 x)).1
        rw [List.length_set, List.map_set]
        exact this
      · rw [List.getElem?_set_ne (fun e => hk e.symm)] at hq
        refine row_set_other (h2 k u q hu hq) ?_
        intro hc2
        exact h3 i k _ u (fun e => hk e.symm) (List.getElem?_eq_getElem hvi) hu g (by rw [hv]; rfl) hc2
end Ytndmjginmomfiaa
end Go.Proofs
