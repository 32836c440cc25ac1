/- Plain words for the walks: a number within bounds, slices that read as lists, worlds that keep what lay below. -/
import Derived.Test.YteijenefhoconaaProg
import Derived.WalkKit
import Derived.Outline
import Derived.WalkLawsBesides
import Derived.WalkSpells
import Derived.Deep.QuietTactic
import Derived.BigQuiet
import Derived.Lib.Hide
import Derived.Handy
import Derived.Deep.LoopGhost
import Derived.Test.YteijenefhoconaaLaws
import Derived.LoopNIn
import Derived.LoopIn
import Derived.OwnWalkIn
import Derived.TacticsInMore
open Go Go.RowKit Go.YteijenefhoconaaIt
attribute [go_sem] Oper.semAt_some
namespace Go.Proofs
namespace Yteijenefhoconaa

/-- A number lies from lo to hi. -/
def btw (lo n hi : Int) : Bool := decide (lo ≤ n ∧ n ≤ hi)
theorem btw_true {lo n hi : Int} : btw lo n hi = true ↔ lo ≤ n ∧ n ≤ hi := by simp [btw]
theorem btw_false {lo n hi : Int} : btw lo n hi = false ↔ ¬ (lo ≤ n ∧ n ≤ hi) := by simp only [btw, decide_eq_false_iff_not]

theorem between_any (lo n hi : Int) (w : World) :
    Calls Try.prog 59 #[.int .i64 lo, .int .i64 n, .int .i64 hi] w fun e w' => e = .returned (.bool (btw lo n hi)) ∧ w = w' := by
  unfold btw
  by_cases h1 : lo ≤ n <;> by_cases h2 : n ≤ hi
  all_goals
    go_enter Try.func59, Try.ntmps59
    go_wp2
    go_ret
    simp [h1, h2]

/-- An element of a list of numbers. -/
def at0 (xs : List Int) (i : Nat) : Int := xs.getD i 0
theorem at0_lt {xs : List Int} {i : Nat} (h : i < xs.length) : at0 xs i = xs[i] := by simp [at0, h]

/-- A slice value that reads as a list of numbers. -/
def SlI (w : World) (v : Value) (xs : List Int) : Prop :=
  ∃ ad cap, v = .slice ad xs.length cap ∧ xs.length ≤ 17592186044416 ∧
    (0 < xs.length → ∃ b off, ad = some ⟨b, off, none⟩ ∧ b < w.heap.size ∧ ∀ i, i < xs.length → w.cell? ⟨b, off + i, none⟩ = some (.int .i64 (at0 xs i)))

theorem SlI.below {w w' : World} {v : Value} {xs : List Int} {B : Nat} (h : SlI w v xs) (hb : Below B w w') (hB : w.heap.size ≤ B) : SlI w' v xs := by
  obtain ⟨ad, cap, hv, hm, hc⟩ := h
  refine ⟨ad, cap, hv, hm, fun h0 => ?_⟩
  obtain ⟨b, off, ha, hlt, hcell⟩ := hc h0
  exact ⟨b, off, ha, Nat.lt_of_lt_of_le hlt hb.size, fun i hi => (hb.cell (p := ⟨b, off + i, none⟩) (by simpa using by omega)).trans (hcell i hi)⟩



theorem eq_of_at0 : ∀ {xs ys : List Int}, xs.length = ys.length → (∀ i, i < xs.length → at0 xs i = at0 ys i) → xs = ys := by
  intro xs ys hl h
  apply List.ext_getElem hl
  intro i h1 h2
  have := h i h1
  rwa [at0_lt h1, at0_lt h2] at this


/-- An array's cells. -/
def arr (A : List Int) : Array Value := (A.map (Value.int .i64)).toArray
theorem arr_get {A : List Int} {i : Nat} (h : i < A.length) : (arr A)[i]? = some (.int .i64 (at0 A i)) := by
  simp [arr, h, at0]
theorem arr_size (A : List Int) : (arr A).size = A.length := by simp [arr]
theorem cell_blk {W : World} {b i : Nat} {c : Array Value} {t : TypeId} {fr : Nat × Nat} (h : W.heap[b]? = some (.cells c t fr)) : W.cell? ⟨b, i, none⟩ = c[i]? := by
  simp [World.cell?, h]
theorem free_blk {W : World} {b i : Nat} {c : Array Value} {t : TypeId} (h : W.heap[b]? = some (.cells c t (0, 0))) : W.frozen? ⟨b, i, none⟩ = false := by
  simp [World.frozen?, h]
theorem cell_arr {W : World} {b i : Nat} {A : List Int} {t : TypeId} {fr : Nat × Nat} (h : W.heap[b]? = some (.cells (arr A) t fr)) (hi : i < A.length) : W.cell? ⟨b, i, none⟩ = some (.int .i64 (at0 A i)) :=
  (cell_blk h).trans (arr_get hi)
theorem lt_blk {W : World} {b : Nat} {o : Obj} (h : W.heap[b]? = some o) : b < W.heap.size := (Array.getElem?_eq_some_iff.1 h).1
theorem blk_below {W W' : World} {B b : Nat} {o : Obj} (h : W.heap[b]? = some o) (hb : Below B W W') (hB : b < B) : W'.heap[b]? = some o := (hb.block b hB).trans h


theorem heap_alloc_if (w : World) (o : Obj) (k : Nat) : (w.alloc o).heap[k]? = if k = w.heap.size then some o else w.heap[k]? := by
  show (w.heap.push o)[k]? = _
  rw [Array.getElem?_push]
theorem heap_newI {w : World} {o : Obj} {k : Nat} (h : k = w.heap.size) : (w.alloc o).heap[k]? = some o := by rw [heap_alloc_if, if_pos h]
theorem heap_oldI {w : World} {o : Obj} {k : Nat} (h : k < w.heap.size) : (w.alloc o).heap[k]? = w.heap[k]? := by rw [heap_alloc_if, if_neg (by omega)]
theorem heap_set_blk {W : World} {b i : Nat} {c : Array Value} {t : TypeId} {fr : Nat × Nat} {v : Value} (h : W.heap[b]? = some (.cells c t fr)) : (W.setCell ⟨b, i, none⟩ v).heap[b]? = some (.cells (c.setIfInBounds i v) t fr) := by
  simp only [World.setCell, Array.getElem?_modify, if_pos, h]; rfl
theorem heap_set_other {W : World} {b b' i : Nat} {v : Value} (hne : b ≠ b') : (W.setCell ⟨b', i, none⟩ v).heap[b]? = W.heap[b]? := by
  simp only [World.setCell, Array.getElem?_modify]
  rw [if_neg (fun e => hne e.symm)]

theorem size84 : (Try.prog.info? 84).map (·.size) = some 5 := by kernel_rfl

end Yteijenefhoconaa
end Go.Proofs
