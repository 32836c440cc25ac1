/- The laws without a reference: how many trains are in a section, how many moves are left. -/
import Derived.Test.YtnihopdglkhbnaaRefD
import Derived.Test.YtnihopdglkhbnaaFin
import Derived.Test.YtnihopdglkhbnaaDisp
open Go Go.RowKit Go.YtnihopdglkhbnaaIt
namespace Go.Proofs
namespace Ytnihopdglkhbnaa
/-- Moves that are left to the first k trains. -/
def leftN (ts : List Tn) (k : Nat) : Int := ((List.range k).map (fun i => max (tAt ts i - tTo ts i) (tTo ts i - tAt ts i))).sum
theorem leftN_succ (ts : List Tn) (k : Nat) : leftN ts (k + 1) = leftN ts k + max (tAt ts k - tTo ts k) (tTo ts k - tAt ts k) := by
  unfold leftN; rw [List.range_succ, List.map_append, List.sum_append]; simp
end Ytnihopdglkhbnaa
end Go.Proofs
/- The laws without a reference: the state after a move. -/
open Go Go.RowKit Go.YtnihopdglkhbnaaIt
namespace Go.Proofs
namespace Ytnihopdglkhbnaa
end Ytnihopdglkhbnaa
end Go.Proofs

