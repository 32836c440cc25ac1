/-
  No cell of these rows narrows 'for every input' (looked for: loops, veiled, ifaces, maps, wideKeys, modest, calm, conditions, laid).
  DERIVED. THE GIVEN ROWS OF THIS SEAT. 10 by the template 'for every input the law returns true; each argument reads behind the call as it read before'; 0 by the template 'total and deterministic' (their statements: YtgnjeefanbcbkaaTotals.lean).
  GIVEN WITH THE SEED: the statements are not yours to turn. If you find one false, say at which input.
  Laid BY PROGRAM, IN A SANDBOX (cutbox-rows.mjs): the forced cells as the released guide's own fill.sh prints them over the translation fc7b14df80c0db5d… (all of the seat's roots in one cut). By AI agents, Wed Nov 11 2026. No macro, syntax, notation, axiom, sorry.
-/
import Derived.Test.YtgnjeefanbcbkaaChecked
import GoSem.Claim
import GoSem.ClaimJoined
import GoSem.ClaimMapViews
import Derived.JoinedTies
import Derived.KernelRfl
namespace Go.Proofs.Ytgnjeefanbcbkaa
/- THE CELL 'sum', in the pinned program and in every row, IS THE sha256 OF THE DUMP (.gsa) THAT YtgnjeefanbcbkaaProg.lean LOADS. Nothing in Lean hashes anything: it is a label: what it is worth is what the hold of that sum in a sandbox is worth. -/
noncomputable def Try.pinned : Pinned := { name := "ytgnjeefanbcbkaa", sum := "fc7b14df80c0db5df3595c65c043014af1d20bce46beb98013080200d0c68629", checked := Try.checked }
namespace Rows
def none {H : Type} : Left H := { results := [], args := [] }

/-- 'zafralaw02.RipeFields': WHATEVER THE INPUT: true; the input reads as it did. -/
def ripeFieldsSpec : ChangeSpec := { name := "ripeFields", fn := fun _ => fun
  | [d] => { results := [.lit (.bool true)], args := [d] }
  | _ => none }
def ripeFieldsRow : OpenClaim := { program := "ytgnjeefanbcbkaa", sum := "fc7b14df80c0db5df3595c65c043014af1d20bce46beb98013080200d0c68629", func := "zafra/zafralaw02.RipeFields", spec := "ripeFields", unfollowed := true, recurses := true, apart := false }
def RipeFieldsSaid : Prop := ripeFieldsRow.holds Try.pinned (OpenSpec.ofChange ripeFieldsSpec)

/-- ITS FALSE NEIGHBOUR: 'it returns false'. Refute it at one input. -/
def ripeFieldsWrong : ChangeSpec := { name := "ripeFields", fn := fun _ => fun
  | [d] => { results := [.lit (.bool false)], args := [d] }
  | _ => none }
def RipeFieldsWrongFalsely : Prop := ripeFieldsRow.holds Try.pinned (OpenSpec.ofChange ripeFieldsWrong)

/-- 'zafralaw02.RipeClashes': WHATEVER THE INPUT: true; the input reads as it did. -/
def ripeClashesSpec : ChangeSpec := { name := "ripeClashes", fn := fun _ => fun
  | [d1, d2] => { results := [.lit (.bool true)], args := [d1, d2] }
  | _ => none }
def ripeClashesRow : OpenClaim := { program := "ytgnjeefanbcbkaa", sum := "fc7b14df80c0db5df3595c65c043014af1d20bce46beb98013080200d0c68629", func := "zafra/zafralaw02.RipeClashes", spec := "ripeClashes", unfollowed := true, recurses := true, apart := false }
def RipeClashesSaid : Prop := ripeClashesRow.holds Try.pinned (OpenSpec.ofChange ripeClashesSpec)

/-- ITS FALSE NEIGHBOUR: 'it returns false'. Refute it at one input. -/
def ripeClashesWrong : ChangeSpec := { name := "ripeClashes", fn := fun _ => fun
  | [d1, d2] => { results := [.lit (.bool false)], args := [d1, d2] }
  | _ => none }
def RipeClashesWrongFalsely : Prop := ripeClashesRow.holds Try.pinned (OpenSpec.ofChange ripeClashesWrong)

/-- 'zafralaw02.RipePeaks': WHATEVER THE INPUT: true; the input reads as it did. -/
def ripePeaksSpec : ChangeSpec := { name := "ripePeaks", fn := fun _ => fun
  | [d1, d2] => { results := [.lit (.bool true)], args := [d1, d2] }
  | _ => none }
def ripePeaksRow : OpenClaim := { program := "ytgnjeefanbcbkaa", sum := "fc7b14df80c0db5df3595c65c043014af1d20bce46beb98013080200d0c68629", func := "zafra/zafralaw02.RipePeaks", spec := "ripePeaks", unfollowed := true, recurses := true, apart := false }
def RipePeaksSaid : Prop := ripePeaksRow.holds Try.pinned (OpenSpec.ofChange ripePeaksSpec)

/-- ITS FALSE NEIGHBOUR: 'it returns false'. Refute it at one input. -/
def ripePeaksWrong : ChangeSpec := { name := "ripePeaks", fn := fun _ => fun
  | [d1, d2] => { results := [.lit (.bool false)], args := [d1, d2] }
  | _ => none }
def RipePeaksWrongFalsely : Prop := ripePeaksRow.holds Try.pinned (OpenSpec.ofChange ripePeaksWrong)

/-- 'zafralaw02.RipeCuts': WHATEVER THE INPUT: true; the input reads as it did. -/
def ripeCutsSpec : ChangeSpec := { name := "ripeCuts", fn := fun _ => fun
  | [d1, d2] => { results := [.lit (.bool true)], args := [d1, d2] }
  | _ => none }
def ripeCutsRow : OpenClaim := { program := "ytgnjeefanbcbkaa", sum := "fc7b14df80c0db5df3595c65c043014af1d20bce46beb98013080200d0c68629", func := "zafra/zafralaw02.RipeCuts", spec := "ripeCuts", unfollowed := true, recurses := true, apart := false }
def RipeCutsSaid : Prop := ripeCutsRow.holds Try.pinned (OpenSpec.ofChange ripeCutsSpec)

/-- ITS FALSE NEIGHBOUR: 'it returns false'. Refute it at one input. -/
def ripeCutsWrong : ChangeSpec := { name := "ripeCuts", fn := fun _ => fun
  | [d1, d2] => { results := [.lit (.bool false)], args := [d1, d2] }
  | _ => none }
def RipeCutsWrongFalsely : Prop := ripeCutsRow.holds Try.pinned (OpenSpec.ofChange ripeCutsWrong)

/-- 'zafralaw02.RipeTruth': WHATEVER THE INPUT: true; the input reads as it did. -/
def ripeTruthSpec : ChangeSpec := { name := "ripeTruth", fn := fun _ => fun
  | [d1, d2] => { results := [.lit (.bool true)], args := [d1, d2] }
  | _ => none }
def ripeTruthRow : OpenClaim := { program := "ytgnjeefanbcbkaa", sum := "fc7b14df80c0db5df3595c65c043014af1d20bce46beb98013080200d0c68629", func := "zafra/zafralaw02.RipeTruth", spec := "ripeTruth", unfollowed := true, recurses := true, apart := false }
def RipeTruthSaid : Prop := ripeTruthRow.holds Try.pinned (OpenSpec.ofChange ripeTruthSpec)

/-- ITS FALSE NEIGHBOUR: 'it returns false'. Refute it at one input. -/
def ripeTruthWrong : ChangeSpec := { name := "ripeTruth", fn := fun _ => fun
  | [d1, d2] => { results := [.lit (.bool false)], args := [d1, d2] }
  | _ => none }
def RipeTruthWrongFalsely : Prop := ripeTruthRow.holds Try.pinned (OpenSpec.ofChange ripeTruthWrong)

/-- 'zafralaw02.RipeExact': WHATEVER THE INPUT: true; the input reads as it did. -/
def ripeExactSpec : ChangeSpec := { name := "ripeExact", fn := fun _ => fun
  | [d] => { results := [.lit (.bool true)], args := [d] }
  | _ => none }
def ripeExactRow : OpenClaim := { program := "ytgnjeefanbcbkaa", sum := "fc7b14df80c0db5df3595c65c043014af1d20bce46beb98013080200d0c68629", func := "zafra/zafralaw02.RipeExact", spec := "ripeExact", unfollowed := true, recurses := true, apart := false }
def RipeExactSaid : Prop := ripeExactRow.holds Try.pinned (OpenSpec.ofChange ripeExactSpec)

/-- ITS FALSE NEIGHBOUR: 'it returns false'. Refute it at one input. -/
def ripeExactWrong : ChangeSpec := { name := "ripeExact", fn := fun _ => fun
  | [d] => { results := [.lit (.bool false)], args := [d] }
  | _ => none }
def RipeExactWrongFalsely : Prop := ripeExactRow.holds Try.pinned (OpenSpec.ofChange ripeExactWrong)

/-- 'zafralaw02.RipeProof': WHATEVER THE INPUT: true; the input reads as it did. -/
def ripeProofSpec : ChangeSpec := { name := "ripeProof", fn := fun _ => fun
  | [d1, d2, d3] => { results := [.lit (.bool true)], args := [d1, d2, d3] }
  | _ => none }
def ripeProofRow : OpenClaim := { program := "ytgnjeefanbcbkaa", sum := "fc7b14df80c0db5df3595c65c043014af1d20bce46beb98013080200d0c68629", func := "zafra/zafralaw02.RipeProof", spec := "ripeProof", unfollowed := true, recurses := true, apart := false }
def RipeProofSaid : Prop := ripeProofRow.holds Try.pinned (OpenSpec.ofChange ripeProofSpec)

/-- ITS FALSE NEIGHBOUR: 'it returns false'. Refute it at one input. -/
def ripeProofWrong : ChangeSpec := { name := "ripeProof", fn := fun _ => fun
  | [d1, d2, d3] => { results := [.lit (.bool false)], args := [d1, d2, d3] }
  | _ => none }
def RipeProofWrongFalsely : Prop := ripeProofRow.holds Try.pinned (OpenSpec.ofChange ripeProofWrong)

/-- 'zafralaw02.RipeBetter': WHATEVER THE INPUT: true; the input reads as it did. -/
def ripeBetterSpec : ChangeSpec := { name := "ripeBetter", fn := fun _ => fun
  | [d1, d2, d3] => { results := [.lit (.bool true)], args := [d1, d2, d3] }
  | _ => none }
def ripeBetterRow : OpenClaim := { program := "ytgnjeefanbcbkaa", sum := "fc7b14df80c0db5df3595c65c043014af1d20bce46beb98013080200d0c68629", func := "zafra/zafralaw02.RipeBetter", spec := "ripeBetter", unfollowed := true, recurses := true, apart := false }
def RipeBetterSaid : Prop := ripeBetterRow.holds Try.pinned (OpenSpec.ofChange ripeBetterSpec)

/-- ITS FALSE NEIGHBOUR: 'it returns false'. Refute it at one input. -/
def ripeBetterWrong : ChangeSpec := { name := "ripeBetter", fn := fun _ => fun
  | [d1, d2, d3] => { results := [.lit (.bool false)], args := [d1, d2, d3] }
  | _ => none }
def RipeBetterWrongFalsely : Prop := ripeBetterRow.holds Try.pinned (OpenSpec.ofChange ripeBetterWrong)

/-- 'zafralaw02.RipeTurned': WHATEVER THE INPUT: true; the input reads as it did. -/
def ripeTurnedSpec : ChangeSpec := { name := "ripeTurned", fn := fun _ => fun
  | [d1, d2, d3] => { results := [.lit (.bool true)], args := [d1, d2, d3] }
  | _ => none }
def ripeTurnedRow : OpenClaim := { program := "ytgnjeefanbcbkaa", sum := "fc7b14df80c0db5df3595c65c043014af1d20bce46beb98013080200d0c68629", func := "zafra/zafralaw02.RipeTurned", spec := "ripeTurned", unfollowed := true, recurses := true, apart := false }
def RipeTurnedSaid : Prop := ripeTurnedRow.holds Try.pinned (OpenSpec.ofChange ripeTurnedSpec)

/-- ITS FALSE NEIGHBOUR: 'it returns false'. Refute it at one input. -/
def ripeTurnedWrong : ChangeSpec := { name := "ripeTurned", fn := fun _ => fun
  | [d1, d2, d3] => { results := [.lit (.bool false)], args := [d1, d2, d3] }
  | _ => none }
def RipeTurnedWrongFalsely : Prop := ripeTurnedRow.holds Try.pinned (OpenSpec.ofChange ripeTurnedWrong)

/-- 'zafralaw02.RipeWeeks': WHATEVER THE INPUT: true; the input reads as it did. -/
def ripeWeeksSpec : ChangeSpec := { name := "ripeWeeks", fn := fun _ => fun
  | [d1, d2] => { results := [.lit (.bool true)], args := [d1, d2] }
  | _ => none }
def ripeWeeksRow : OpenClaim := { program := "ytgnjeefanbcbkaa", sum := "fc7b14df80c0db5df3595c65c043014af1d20bce46beb98013080200d0c68629", func := "zafra/zafralaw02.RipeWeeks", spec := "ripeWeeks", unfollowed := true, recurses := true, apart := false }
def RipeWeeksSaid : Prop := ripeWeeksRow.holds Try.pinned (OpenSpec.ofChange ripeWeeksSpec)

/-- ITS FALSE NEIGHBOUR: 'it returns false'. Refute it at one input. -/
def ripeWeeksWrong : ChangeSpec := { name := "ripeWeeks", fn := fun _ => fun
  | [d1, d2] => { results := [.lit (.bool false)], args := [d1, d2] }
  | _ => none }
def RipeWeeksWrongFalsely : Prop := ripeWeeksRow.holds Try.pinned (OpenSpec.ofChange ripeWeeksWrong)

/- THE SECOND FORM. 'bulk': how many values and letters a reading holds, each counted each time it is reached (what is shared counts as often as it is met; a slice's spare places count too). A statement '..UptoSaid' is the law's where the arguments, and the package variables that the reading takes, are together of bulk at most 1048576: NARROWER than '..Said'. Prove '..Said' where nothing that the law and all that it calls make is longer than what came in: it says more and counts as full. Else prove '..UptoSaid'. A law counts once. -/
mutual
def uptoBulk {H : Type} : DataW H → Nat
  | .lit (.string bytes) => bytes.length + 1
  | .lit _ => 1
  | .nil => 1
  | .ptr d => uptoBulk d + 1
  | .slice elems spare => uptoBulkAll elems + uptoBulkAll spare + 1
  | .agg parts => uptoBulkAll parts + 1
  | .iface _ d => uptoBulk d + 1
  | .map entries => uptoBulkEntries entries + 1
  | .held _ => 1
def uptoBulkAll {H : Type} : List (DataW H) → Nat
  | [] => 0
  | d :: r => uptoBulk d + uptoBulkAll r
def uptoBulkEntries {H : Type} : List (Lit × DataW H) → Nat
  | [] => 0
  | x :: r => uptoBulkEntry x + uptoBulkEntries r
def uptoBulkEntry {H : Type} : Lit × DataW H → Nat
  | (.string bytes, d) => bytes.length + uptoBulk d + 1
  | (_, d) => uptoBulk d + 1
 end
def uptoSmall : (H : Type) → List (DataW H) → Bool := fun _ ds => decide (uptoBulkAll ds ≤ 1048576)
def OpenSpec.upto (s : _root_.Go.ChangeSpec) : _root_.Go.OpenSpec := { _root_.Go.OpenSpec.ofChange s with cond := some uptoSmall }

/-- 'zafralaw02.RipeFields', WHERE WHAT IT READS IS OF BULK AT MOST 1048576: true; the input reads as it did. -/
def ripeFieldsUptoRow : OpenClaim := { program := "ytgnjeefanbcbkaa", sum := "fc7b14df80c0db5df3595c65c043014af1d20bce46beb98013080200d0c68629", func := "zafra/zafralaw02.RipeFields", spec := "ripeFields", unfollowed := true, recurses := true, apart := false, narrowed := true }
def RipeFieldsUptoSaid : Prop := ripeFieldsUptoRow.holds Try.pinned (OpenSpec.upto ripeFieldsSpec)

/-- 'zafralaw02.RipeClashes', WHERE WHAT IT READS IS OF BULK AT MOST 1048576: true; the input reads as it did. -/
def ripeClashesUptoRow : OpenClaim := { program := "ytgnjeefanbcbkaa", sum := "fc7b14df80c0db5df3595c65c043014af1d20bce46beb98013080200d0c68629", func := "zafra/zafralaw02.RipeClashes", spec := "ripeClashes", unfollowed := true, recurses := true, apart := false, narrowed := true }
def RipeClashesUptoSaid : Prop := ripeClashesUptoRow.holds Try.pinned (OpenSpec.upto ripeClashesSpec)

/-- 'zafralaw02.RipePeaks', WHERE WHAT IT READS IS OF BULK AT MOST 1048576: true; the input reads as it did. -/
def ripePeaksUptoRow : OpenClaim := { program := "ytgnjeefanbcbkaa", sum := "fc7b14df80c0db5df3595c65c043014af1d20bce46beb98013080200d0c68629", func := "zafra/zafralaw02.RipePeaks", spec := "ripePeaks", unfollowed := true, recurses := true, apart := false, narrowed := true }
def RipePeaksUptoSaid : Prop := ripePeaksUptoRow.holds Try.pinned (OpenSpec.upto ripePeaksSpec)

/-- 'zafralaw02.RipeCuts', WHERE WHAT IT READS IS OF BULK AT MOST 1048576: true; the input reads as it did. -/
def ripeCutsUptoRow : OpenClaim := { program := "ytgnjeefanbcbkaa", sum := "fc7b14df80c0db5df3595c65c043014af1d20bce46beb98013080200d0c68629", func := "zafra/zafralaw02.RipeCuts", spec := "ripeCuts", unfollowed := true, recurses := true, apart := false, narrowed := true }
def RipeCutsUptoSaid : Prop := ripeCutsUptoRow.holds Try.pinned (OpenSpec.upto ripeCutsSpec)

/-- 'zafralaw02.RipeTruth', WHERE WHAT IT READS IS OF BULK AT MOST 1048576: true; the input reads as it did. -/
def ripeTruthUptoRow : OpenClaim := { program := "ytgnjeefanbcbkaa", sum := "fc7b14df80c0db5df3595c65c043014af1d20bce46beb98013080200d0c68629", func := "zafra/zafralaw02.RipeTruth", spec := "ripeTruth", unfollowed := true, recurses := true, apart := false, narrowed := true }
def RipeTruthUptoSaid : Prop := ripeTruthUptoRow.holds Try.pinned (OpenSpec.upto ripeTruthSpec)

/-- 'zafralaw02.RipeExact', WHERE WHAT IT READS IS OF BULK AT MOST 1048576: true; the input reads as it did. -/
def ripeExactUptoRow : OpenClaim := { program := "ytgnjeefanbcbkaa", sum := "fc7b14df80c0db5df3595c65c043014af1d20bce46beb98013080200d0c68629", func := "zafra/zafralaw02.RipeExact", spec := "ripeExact", unfollowed := true, recurses := true, apart := false, narrowed := true }
def RipeExactUptoSaid : Prop := ripeExactUptoRow.holds Try.pinned (OpenSpec.upto ripeExactSpec)

/-- 'zafralaw02.RipeProof', WHERE WHAT IT READS IS OF BULK AT MOST 1048576: true; the input reads as it did. -/
def ripeProofUptoRow : OpenClaim := { program := "ytgnjeefanbcbkaa", sum := "fc7b14df80c0db5df3595c65c043014af1d20bce46beb98013080200d0c68629", func := "zafra/zafralaw02.RipeProof", spec := "ripeProof", unfollowed := true, recurses := true, apart := false, narrowed := true }
def RipeProofUptoSaid : Prop := ripeProofUptoRow.holds Try.pinned (OpenSpec.upto ripeProofSpec)

/-- 'zafralaw02.RipeBetter', WHERE WHAT IT READS IS OF BULK AT MOST 1048576: true; the input reads as it did. -/
def ripeBetterUptoRow : OpenClaim := { program := "ytgnjeefanbcbkaa", sum := "fc7b14df80c0db5df3595c65c043014af1d20bce46beb98013080200d0c68629", func := "zafra/zafralaw02.RipeBetter", spec := "ripeBetter", unfollowed := true, recurses := true, apart := false, narrowed := true }
def RipeBetterUptoSaid : Prop := ripeBetterUptoRow.holds Try.pinned (OpenSpec.upto ripeBetterSpec)

/-- 'zafralaw02.RipeTurned', WHERE WHAT IT READS IS OF BULK AT MOST 1048576: true; the input reads as it did. -/
def ripeTurnedUptoRow : OpenClaim := { program := "ytgnjeefanbcbkaa", sum := "fc7b14df80c0db5df3595c65c043014af1d20bce46beb98013080200d0c68629", func := "zafra/zafralaw02.RipeTurned", spec := "ripeTurned", unfollowed := true, recurses := true, apart := false, narrowed := true }
def RipeTurnedUptoSaid : Prop := ripeTurnedUptoRow.holds Try.pinned (OpenSpec.upto ripeTurnedSpec)

/-- 'zafralaw02.RipeWeeks', WHERE WHAT IT READS IS OF BULK AT MOST 1048576: true; the input reads as it did. -/
def ripeWeeksUptoRow : OpenClaim := { program := "ytgnjeefanbcbkaa", sum := "fc7b14df80c0db5df3595c65c043014af1d20bce46beb98013080200d0c68629", func := "zafra/zafralaw02.RipeWeeks", spec := "ripeWeeks", unfollowed := true, recurses := true, apart := false, narrowed := true }
def RipeWeeksUptoSaid : Prop := ripeWeeksUptoRow.holds Try.pinned (OpenSpec.upto ripeWeeksSpec)

end Rows
end Go.Proofs.Ytgnjeefanbcbkaa
