/- The reference: numbers within bounds, trains in a section, the section that a train moves to. -/
import Derived.Test.YtnihopdglkhbnaaSmall
open Go Go.RowKit Go.YtnihopdglkhbnaaIt
namespace Go.Proofs
namespace Ytnihopdglkhbnaa
/-- Train i of a list is on the way, in section s. -/
def isIn (ts : List Tn) (s : Int) (i : Nat) : Bool := tAt ts i == s && tAt ts i != tTo ts i
def inT (ts : List Tn) (s : Int) : Nat := ((List.range ts.length).filter (isIn ts s)).length
/-- The section that a train moves to. -/
def nextT (x : Tn) : Int := if x.2 > x.1 then x.1 + 1 else x.1 - 1
end Ytnihopdglkhbnaa
end Go.Proofs
/- The reference: whether a move is possible, and the state after it. -/
open Go Go.RowKit Go.YtnihopdglkhbnaaIt
namespace Go.Proofs
namespace Ytnihopdglkhbnaa
/-- Trains of a line. -/
structure Vt (L : List Int) (ts : List Tn) : Prop where
  l8 : L.length ≤ 8
  t5 : ts.length ≤ 5
  at_ : ∀ i, i < ts.length → 0 ≤ tAt ts i ∧ tAt ts i < L.length
  to_ : ∀ i, i < ts.length → 0 ≤ tTo ts i ∧ tTo ts i < L.length
def nxtT (ts : List Tn) (i : Nat) : Int := nextT (tAt ts i, tTo ts i)
def possT (L : List Int) (ts : List Tn) (i : Nat) : Bool := tAt ts i != tTo ts i && (nxtT ts i == tTo ts i || decide ((inT ts (nxtT ts i) : Int) < at0 L (nxtT ts i).toNat))
theorem Vt.nxt {L : List Int} {ts : List Tn} (h : Vt L ts) {i : Nat} (hi : i < ts.length) (hne : tAt ts i ≠ tTo ts i) : 0 ≤ nxtT ts i ∧ nxtT ts i < L.length := by
  have h1 := h.at_ i hi
  have h2 := h.to_ i hi
  unfold nxtT nextT
  simp only
  split <;> omega
end Ytnihopdglkhbnaa
end Go.Proofs

