/- A region whose order is open, that reads, makes one variable and stores into it at its end. Over whatever program. -/
import Derived.Test.YtnihopdglkhbnaaLaws
import Derived.StillTail
namespace Go
namespace YtnihopdglkhbnaaIt
open Go.RowKit
section
variable {P : Program}
variable {Q : Exit → Act → World → Prop} {D0 D1 : World}
/-- One of two worlds. -/
structure Tw (D0 D1 : World) where
  val : World
  ok : val = D0 ∨ val = D1
instance {D0 D1 : World} : Nonempty (Tw D0 D1) := ⟨⟨D0, .inl rfl⟩⟩
end
end YtnihopdglkhbnaaIt
end Go

