/- The laws' comparisons of lists. -/
import Derived.Test.YtnihopdglkhbnaaDisp
import Derived.Laws.StructEq
open Go Go.RowKit Go.YtnihopdglkhbnaaIt
namespace Go.Proofs
namespace Ytnihopdglkhbnaa
theorem eq_of_tn : ∀ {xs ys : List Tn}, xs.length = ys.length → (∀ i, i < xs.length → tAt xs i = tAt ys i ∧ tTo xs i = tTo ys i) → xs = ys := by
  intro xs ys hl h
  apply List.ext_getElem hl
  intro i h1 h2
  have := h i h1
  rw [tAt_lt h1, tAt_lt h2, tTo_lt h1, tTo_lt h2] at this
  exact Prod.ext this.1 this.2
end Ytnihopdglkhbnaa
end Go.Proofs

