/- The reference: good, Good. -/
import Derived.Test.YtnihopdglkhbnaaFin
import Derived.Test.YtnihopdglkhbnaaDisp
open Go Go.RowKit Go.YtnihopdglkhbnaaIt
namespace Go.Proofs
namespace Ytnihopdglkhbnaa
def gdT (L : List Int) (ts : List Tn) (i : Nat) : Bool := possT L ts i && safeT L (movT ts i)
end Ytnihopdglkhbnaa
end Go.Proofs

