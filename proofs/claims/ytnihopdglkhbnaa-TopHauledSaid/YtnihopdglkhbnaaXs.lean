/- The examples' line and trains. -/
import Derived.Test.YtnihopdglkhbnaaSmall
open Go Go.RowKit Go.YtnihopdglkhbnaaIt
namespace Go.Proofs
namespace Ytnihopdglkhbnaa
def exL : List Int := [1, 1, 1, 2, 1, 1, 1]
def exS : List Tn := [(0, 6), (6, 0)]
def exV : List Tn := [(2, 6), (4, 0), (3, 0), (3, 6)]
/-! What is computed. -/
theorem e1 : lineE exL exS = 0 := by decide +kernel
theorem e2 : lineE exL exV = 0 := by decide +kernel
end Ytnihopdglkhbnaa
end Go.Proofs
/- The program at the examples. -/
open Go Go.RowKit Go.YtnihopdglkhbnaaIt
namespace Go.Proofs
namespace Ytnihopdglkhbnaa
end Ytnihopdglkhbnaa
end Go.Proofs

