/- The reference: the state after a move. -/
import Derived.Test.YtnihopdglkhbnaaRefB
import Derived.Test.YtnihopdglkhbnaaSrch
open Go Go.RowKit Go.YtnihopdglkhbnaaIt
namespace Go.Proofs
namespace Ytnihopdglkhbnaa
/-- The trains after a move. -/
def movT (ts : List Tn) (i : Nat) : List Tn := ts.set i (nxtT ts i, tTo ts i)
theorem movT_len (ts : List Tn) (i : Nat) : (movT ts i).length = ts.length := by simp [movT]
theorem movT_at {ts : List Tn} {i j : Nat} (hi : i < ts.length) : tAt (movT ts i) j = (if j = i then nxtT ts i else tAt ts j) ∧ tTo (movT ts i) j = tTo ts j := by
  unfold movT tAt tTo
  simp only [List.getD_eq_getElem?_getD, List.getElem?_set]
  by_cases h : i = j
  · subst h; simp [hi]
  · simp [h, Ne.symm h]
end Ytnihopdglkhbnaa
end Go.Proofs
/- The reference: Check. -/
open Go Go.RowKit Go.YtnihopdglkhbnaaIt
namespace Go.Proofs
namespace Ytnihopdglkhbnaa
theorem pos_at {ts : List Tn} (h5 : ts.length ≤ 5) {i : Nat} (hi : i < ts.length) : at0 (pos ts) i = tAt ts i := by
  unfold pos
  rw [posK_at (by omega), if_pos hi]
theorem inT_cnt {ts : List Tn} (h5 : ts.length ≤ 5) (s : Int) : inT ts s = cnt (pos ts) (tos ts) s := by
  unfold inT cnt wayL
  rw [List.filter_filter, tos_len]
  congr 1
  refine List.filter_congr (fun i hi => ?_)
  have hi' : i < ts.length := by simpa using hi
  unfold isIn onw
  rw [pos_at h5 hi', tos_at hi']
end Ytnihopdglkhbnaa
end Go.Proofs

