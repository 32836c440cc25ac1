/- What the program answers of a valid track, in terms of trains. -/
import Derived.Test.YtnihopdglkhbnaaE31
import Derived.Test.YtnihopdglkhbnaaTr
import Derived.Test.YtnihopdglkhbnaaBox
import Derived.Test.YtnihopdglkhbnaaPlanT
import Derived.Test.YtnihopdglkhbnaaXs
open Go Go.RowKit Go.YtnihopdglkhbnaaIt
namespace Go.Proofs
namespace Ytnihopdglkhbnaa
section
variable {vL vt : Value} {L T : List Int} {us : List Tn}
theorem y16 (h : Val L T us) {b : Bool} (hs : safeT L us = b) (W : World) (hL : SlI W vL L) (ht : SlT W vt us) : Calls Try.prog 6 #[vL, vt] W fun e w' => e = .returned (.tuple #[.bool b, .int .i64 0]) ∧ Below W.heap.size W w' := by
  refine (safeX_any vL vt L us W hL ht).mono ?_
  rintro e w' ⟨rfl, hb⟩
  refine ⟨?_, hb⟩
  rw [h.1, if_neg (by simp), ← hs]; rfl
end
end Ytnihopdglkhbnaa
end Go.Proofs

