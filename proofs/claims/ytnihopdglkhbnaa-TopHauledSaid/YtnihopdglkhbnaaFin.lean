/- The reference: the number of a state; the search. -/
import Derived.Test.YtnihopdglkhbnaaNum
import Derived.Test.YtnihopdglkhbnaaLink
import Derived.Test.YtnihopdglkhbnaaSrch
open Go Go.RowKit Go.YtnihopdglkhbnaaIt
namespace Go.Proofs
namespace Ytnihopdglkhbnaa
/-- Marks of states with at least n moves to make are as they were. -/
def SameM (L T : List Int) (M M' : Nat → Bool) (n : Nat) : Prop := ∀ us, Val L T us → n ≤ leftT us → M' (num us) = M (num us)
theorem SameM.trans {L T : List Int} {M M' M'' : Nat → Bool} {n : Nat} (h : SameM L T M M' n) (k : SameM L T M' M'' n) : SameM L T M M'' n := fun us hu hl => (k us hu hl).trans (h us hu hl)
end Ytnihopdglkhbnaa
end Go.Proofs

