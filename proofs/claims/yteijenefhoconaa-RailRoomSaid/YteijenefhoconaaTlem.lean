/- Slices of trains: read as a row, changed in place. -/
import Derived.Test.YteijenefhoconaaYl
import Derived.Test.YteijenefhoconaaWords
import Derived.Laws.OwnMore
open Go Go.RowKit Go.YteijenefhoconaaIt
namespace Go.Proofs
namespace Yteijenefhoconaa
theorem reads_of_slT {w : World} {ad : Option Addr} {n cap : Nat} {ts : List Tn} (h : SlT w (.slice ad n cap) ts) : Reads w w.heap.size 2 ad n (flat ts) := by
  obtain ⟨ad', cap', h1, _, h3⟩ := h
  injection h1 with e1 e2 _
  subst e1 e2
  refine ⟨flat_len ts, fun h0 => ?_⟩
  obtain ⟨b, off, rfl, hlt, hc⟩ := h3 h0
  exact ⟨_, rfl, hlt, flat_news ts hc⟩
theorem flat_set {us : List Tn} {y : Int} : ∀ {k : Nat}, k < us.length → flat (us.set k (tAt us k, y)) = (flat us).set (k * 2 + 1) (.int .i64 y) := by
  induction us with
  | nil => intro k hk; simp at hk
  | cons x us ih =>
    intro k hk
    cases k with
    | zero => simp [flat, tAt]
    | succ k =>
      have h := ih (k := k) (by simpa using hk)
      have e : tAt (x :: us) (k + 1) = tAt us k := by simp [tAt]
      have e2 : (k + 1) * 2 + 1 = (k * 2 + 1) + 2 := by omega
      rw [e, e2]
      simp only [flat, List.set_cons_succ, List.flatMap_cons, List.cons_append, List.nil_append] at h ⊢
      rw [h]
theorem form_of {W : World} {base : Nat} {e : TypeId} {sz n : Nat} {v : Value} {xs : List Value} (h : W.ownsRow base e sz v n xs) : ∃ ad cap, v = .slice ad n cap := by
  rcases Joins.ownsRow_forms h with ⟨rfl, h0⟩ | ⟨g, cap, rfl⟩
  · exact ⟨none, 0, by rw [h0]⟩
  · exact ⟨_, cap, rfl⟩
theorem row_at {W : World} {base : Nat} {n cap : Nat} {ad : Option Addr} {ts : List Tn} (h : W.ownsRow base 69 2 (.slice ad n cap) n (flat ts)) {k : Nat} (hk : k < n) (hn : ts.length = n) :
    ∃ g, ad = some ⟨g, 0, none⟩ ∧ W.cell? ⟨g, k * 2, none⟩ = some (.int .i64 (tAt ts k)) ∧ W.cell? ⟨g, k * 2 + 1, none⟩ = some (.int .i64 (tTo ts k)) ∧ ∀ j, W.frozen? ⟨g, j, none⟩ = false := by
  obtain ⟨g, cap', e⟩ := Joins.ownsRow_form h (by omega)
  injection e with e1 _ _
  subst e1
  have f := flat_at ts k (by omega)
  exact ⟨g, rfl, (h.cellAt (k * 2) (by omega)).trans f.1, (h.cellAt (k * 2 + 1) (by omega)).trans f.2, fun j => h.frozenAt j⟩
theorem row_set {W : World} {base : Nat} {n cap g : Nat} {ts : List Tn} (h : W.ownsRow base 69 2 (.slice (some ⟨g, 0, none⟩) n cap) n (flat ts)) {k : Nat} (hk : k < ts.length) (y : Int) :
    (W.setCell ⟨g, k * 2 + 1, none⟩ (.int .i64 y)).ownsRow base 69 2 (.slice (some ⟨g, 0, none⟩) n cap) n (flat (ts.set k (tAt ts k, y))) := by
  rw [flat_set hk]; exact (h.stored _ _).1
end Yteijenefhoconaa
end Go.Proofs
