/-
  No cell of these rows narrows 'for every input' (looked for: loops, veiled, ifaces, maps, wideKeys, modest, calm, conditions, laid).
  DERIVED. THE GIVEN ROWS OF THIS SEAT. 12 by the template 'for every input the law returns true; each argument reads behind the call as it read before'; 0 by the template 'total and deterministic' (their statements: YteileadcmekkoaaTotals.lean).
  GIVEN WITH THE SEED: the statements are not yours to turn. If you find one false, say at which input.
  Laid BY PROGRAM, IN A SANDBOX (cutbox-rows.mjs): the forced cells as the released guide's own fill.sh prints them over the translation bdb9b5dc30dfce33… (all of the seat's roots in one cut). By AI agents, Wed Nov 11 2026. No macro, syntax, notation, axiom, sorry.
-/
import Derived.Test.YteileadcmekkoaaChecked
import GoSem.Claim
import GoSem.ClaimJoined
import GoSem.ClaimMapViews
import Derived.JoinedTies
import Derived.KernelRfl
namespace Go.Proofs.Yteileadcmekkoaa
/- THE CELL 'sum', in the pinned program and in every row, IS THE sha256 OF THE DUMP (.gsa) THAT YteileadcmekkoaaProg.lean LOADS. Nothing in Lean hashes anything: it is a label: what it is worth is what the hold of that sum in a sandbox is worth. -/
noncomputable def Try.pinned : Pinned := { name := "yteileadcmekkoaa", sum := "bdb9b5dc30dfce3356a763c0c51def26f6f02cfc0e6d8dc8d329057ce4607737", checked := Try.checked }
namespace Rows
def none {H : Type} : Left H := { results := [], args := [] }

/-- 'zafralaw06.PanWorks': WHATEVER THE INPUT: true; the input reads as it did. -/
def panWorksSpec : ChangeSpec := { name := "panWorks", fn := fun _ => fun
  | [d1, d2] => { results := [.lit (.bool true)], args := [d1, d2] }
  | _ => none }
def panWorksRow : OpenClaim := { program := "yteileadcmekkoaa", sum := "bdb9b5dc30dfce3356a763c0c51def26f6f02cfc0e6d8dc8d329057ce4607737", func := "zafra/zafralaw06.PanWorks", spec := "panWorks", unfollowed := true, recurses := true, apart := false }
def PanWorksSaid : Prop := panWorksRow.holds Try.pinned (OpenSpec.ofChange panWorksSpec)

/-- ITS FALSE NEIGHBOUR: 'it returns false'. Refute it at one input. -/
def panWorksWrong : ChangeSpec := { name := "panWorks", fn := fun _ => fun
  | [d1, d2] => { results := [.lit (.bool false)], args := [d1, d2] }
  | _ => none }
def PanWorksWrongFalsely : Prop := panWorksRow.holds Try.pinned (OpenSpec.ofChange panWorksWrong)

/-- 'zafralaw06.PanHolds': WHATEVER THE INPUT: true; the input reads as it did. -/
def panHoldsSpec : ChangeSpec := { name := "panHolds", fn := fun _ => fun
  | [d1, d2] => { results := [.lit (.bool true)], args := [d1, d2] }
  | _ => none }
def panHoldsRow : OpenClaim := { program := "yteileadcmekkoaa", sum := "bdb9b5dc30dfce3356a763c0c51def26f6f02cfc0e6d8dc8d329057ce4607737", func := "zafra/zafralaw06.PanHolds", spec := "panHolds", unfollowed := true, recurses := true, apart := false }
def PanHoldsSaid : Prop := panHoldsRow.holds Try.pinned (OpenSpec.ofChange panHoldsSpec)

/-- ITS FALSE NEIGHBOUR: 'it returns false'. Refute it at one input. -/
def panHoldsWrong : ChangeSpec := { name := "panHolds", fn := fun _ => fun
  | [d1, d2] => { results := [.lit (.bool false)], args := [d1, d2] }
  | _ => none }
def PanHoldsWrongFalsely : Prop := panHoldsRow.holds Try.pinned (OpenSpec.ofChange panHoldsWrong)

/-- 'zafralaw06.PanTables': WHATEVER THE INPUT: true; the input reads as it did. -/
def panTablesSpec : ChangeSpec := { name := "panTables", fn := fun _ => fun
  | [d1, d2, d3] => { results := [.lit (.bool true)], args := [d1, d2, d3] }
  | _ => none }
def panTablesRow : OpenClaim := { program := "yteileadcmekkoaa", sum := "bdb9b5dc30dfce3356a763c0c51def26f6f02cfc0e6d8dc8d329057ce4607737", func := "zafra/zafralaw06.PanTables", spec := "panTables", unfollowed := true, recurses := true, apart := false }
def PanTablesSaid : Prop := panTablesRow.holds Try.pinned (OpenSpec.ofChange panTablesSpec)

/-- ITS FALSE NEIGHBOUR: 'it returns false'. Refute it at one input. -/
def panTablesWrong : ChangeSpec := { name := "panTables", fn := fun _ => fun
  | [d1, d2, d3] => { results := [.lit (.bool false)], args := [d1, d2, d3] }
  | _ => none }
def PanTablesWrongFalsely : Prop := panTablesRow.holds Try.pinned (OpenSpec.ofChange panTablesWrong)

/-- 'zafralaw06.PanRuns': WHATEVER THE INPUT: true; the input reads as it did. -/
def panRunsSpec : ChangeSpec := { name := "panRuns", fn := fun _ => fun
  | [d1, d2] => { results := [.lit (.bool true)], args := [d1, d2] }
  | _ => none }
def panRunsRow : OpenClaim := { program := "yteileadcmekkoaa", sum := "bdb9b5dc30dfce3356a763c0c51def26f6f02cfc0e6d8dc8d329057ce4607737", func := "zafra/zafralaw06.PanRuns", spec := "panRuns", unfollowed := true, recurses := true, apart := false }
def PanRunsSaid : Prop := panRunsRow.holds Try.pinned (OpenSpec.ofChange panRunsSpec)

/-- ITS FALSE NEIGHBOUR: 'it returns false'. Refute it at one input. -/
def panRunsWrong : ChangeSpec := { name := "panRuns", fn := fun _ => fun
  | [d1, d2] => { results := [.lit (.bool false)], args := [d1, d2] }
  | _ => none }
def PanRunsWrongFalsely : Prop := panRunsRow.holds Try.pinned (OpenSpec.ofChange panRunsWrong)

/-- 'zafralaw06.PanPace': WHATEVER THE INPUT: true; the input reads as it did. -/
def panPaceSpec : ChangeSpec := { name := "panPace", fn := fun _ => fun
  | [d1, d2, d3] => { results := [.lit (.bool true)], args := [d1, d2, d3] }
  | _ => none }
def panPaceRow : OpenClaim := { program := "yteileadcmekkoaa", sum := "bdb9b5dc30dfce3356a763c0c51def26f6f02cfc0e6d8dc8d329057ce4607737", func := "zafra/zafralaw06.PanPace", spec := "panPace", unfollowed := true, recurses := true, apart := false }
def PanPaceSaid : Prop := panPaceRow.holds Try.pinned (OpenSpec.ofChange panPaceSpec)

/-- ITS FALSE NEIGHBOUR: 'it returns false'. Refute it at one input. -/
def panPaceWrong : ChangeSpec := { name := "panPace", fn := fun _ => fun
  | [d1, d2, d3] => { results := [.lit (.bool false)], args := [d1, d2, d3] }
  | _ => none }
def PanPaceWrongFalsely : Prop := panPaceRow.holds Try.pinned (OpenSpec.ofChange panPaceWrong)

/-- 'zafralaw06.PanCycles': WHATEVER THE INPUT: true; the input reads as it did. -/
def panCyclesSpec : ChangeSpec := { name := "panCycles", fn := fun _ => fun
  | [d1, d2] => { results := [.lit (.bool true)], args := [d1, d2] }
  | _ => none }
def panCyclesRow : OpenClaim := { program := "yteileadcmekkoaa", sum := "bdb9b5dc30dfce3356a763c0c51def26f6f02cfc0e6d8dc8d329057ce4607737", func := "zafra/zafralaw06.PanCycles", spec := "panCycles", unfollowed := true, recurses := true, apart := false }
def PanCyclesSaid : Prop := panCyclesRow.holds Try.pinned (OpenSpec.ofChange panCyclesSpec)

/-- ITS FALSE NEIGHBOUR: 'it returns false'. Refute it at one input. -/
def panCyclesWrong : ChangeSpec := { name := "panCycles", fn := fun _ => fun
  | [d1, d2] => { results := [.lit (.bool false)], args := [d1, d2] }
  | _ => none }
def PanCyclesWrongFalsely : Prop := panCyclesRow.holds Try.pinned (OpenSpec.ofChange panCyclesWrong)

/-- 'zafralaw06.PanLeast': WHATEVER THE INPUT: true; the input reads as it did. -/
def panLeastSpec : ChangeSpec := { name := "panLeast", fn := fun _ => fun
  | [d1, d2, d3] => { results := [.lit (.bool true)], args := [d1, d2, d3] }
  | _ => none }
def panLeastRow : OpenClaim := { program := "yteileadcmekkoaa", sum := "bdb9b5dc30dfce3356a763c0c51def26f6f02cfc0e6d8dc8d329057ce4607737", func := "zafra/zafralaw06.PanLeast", spec := "panLeast", unfollowed := true, recurses := true, apart := false }
def PanLeastSaid : Prop := panLeastRow.holds Try.pinned (OpenSpec.ofChange panLeastSpec)

/-- ITS FALSE NEIGHBOUR: 'it returns false'. Refute it at one input. -/
def panLeastWrong : ChangeSpec := { name := "panLeast", fn := fun _ => fun
  | [d1, d2, d3] => { results := [.lit (.bool false)], args := [d1, d2, d3] }
  | _ => none }
def PanLeastWrongFalsely : Prop := panLeastRow.holds Try.pinned (OpenSpec.ofChange panLeastWrong)

/-- 'zafralaw06.PanTruth': WHATEVER THE INPUT: true; the input reads as it did. -/
def panTruthSpec : ChangeSpec := { name := "panTruth", fn := fun _ => fun
  | [d1, d2, d3] => { results := [.lit (.bool true)], args := [d1, d2, d3] }
  | _ => none }
def panTruthRow : OpenClaim := { program := "yteileadcmekkoaa", sum := "bdb9b5dc30dfce3356a763c0c51def26f6f02cfc0e6d8dc8d329057ce4607737", func := "zafra/zafralaw06.PanTruth", spec := "panTruth", unfollowed := true, recurses := true, apart := false }
def PanTruthSaid : Prop := panTruthRow.holds Try.pinned (OpenSpec.ofChange panTruthSpec)

/-- ITS FALSE NEIGHBOUR: 'it returns false'. Refute it at one input. -/
def panTruthWrong : ChangeSpec := { name := "panTruth", fn := fun _ => fun
  | [d1, d2, d3] => { results := [.lit (.bool false)], args := [d1, d2, d3] }
  | _ => none }
def PanTruthWrongFalsely : Prop := panTruthRow.holds Try.pinned (OpenSpec.ofChange panTruthWrong)

/-- 'zafralaw06.PanLong': WHATEVER THE INPUT: true; the input reads as it did. -/
def panLongSpec : ChangeSpec := { name := "panLong", fn := fun _ => fun
  | [d1, d2] => { results := [.lit (.bool true)], args := [d1, d2] }
  | _ => none }
def panLongRow : OpenClaim := { program := "yteileadcmekkoaa", sum := "bdb9b5dc30dfce3356a763c0c51def26f6f02cfc0e6d8dc8d329057ce4607737", func := "zafra/zafralaw06.PanLong", spec := "panLong", unfollowed := true, recurses := true, apart := false }
def PanLongSaid : Prop := panLongRow.holds Try.pinned (OpenSpec.ofChange panLongSpec)

/-- ITS FALSE NEIGHBOUR: 'it returns false'. Refute it at one input. -/
def panLongWrong : ChangeSpec := { name := "panLong", fn := fun _ => fun
  | [d1, d2] => { results := [.lit (.bool false)], args := [d1, d2] }
  | _ => none }
def PanLongWrongFalsely : Prop := panLongRow.holds Try.pinned (OpenSpec.ofChange panLongWrong)

/-- 'zafralaw06.PanMore': WHATEVER THE INPUT: true; the input reads as it did. -/
def panMoreSpec : ChangeSpec := { name := "panMore", fn := fun _ => fun
  | [d1, d2, d3, d4, d5] => { results := [.lit (.bool true)], args := [d1, d2, d3, d4, d5] }
  | _ => none }
def panMoreRow : OpenClaim := { program := "yteileadcmekkoaa", sum := "bdb9b5dc30dfce3356a763c0c51def26f6f02cfc0e6d8dc8d329057ce4607737", func := "zafra/zafralaw06.PanMore", spec := "panMore", unfollowed := true, recurses := true, apart := false }
def PanMoreSaid : Prop := panMoreRow.holds Try.pinned (OpenSpec.ofChange panMoreSpec)

/-- ITS FALSE NEIGHBOUR: 'it returns false'. Refute it at one input. -/
def panMoreWrong : ChangeSpec := { name := "panMore", fn := fun _ => fun
  | [d1, d2, d3, d4, d5] => { results := [.lit (.bool false)], args := [d1, d2, d3, d4, d5] }
  | _ => none }
def PanMoreWrongFalsely : Prop := panMoreRow.holds Try.pinned (OpenSpec.ofChange panMoreWrong)

/-- 'zafralaw06.PanTurned': WHATEVER THE INPUT: true; the input reads as it did. -/
def panTurnedSpec : ChangeSpec := { name := "panTurned", fn := fun _ => fun
  | [d1, d2] => { results := [.lit (.bool true)], args := [d1, d2] }
  | _ => none }
def panTurnedRow : OpenClaim := { program := "yteileadcmekkoaa", sum := "bdb9b5dc30dfce3356a763c0c51def26f6f02cfc0e6d8dc8d329057ce4607737", func := "zafra/zafralaw06.PanTurned", spec := "panTurned", unfollowed := true, recurses := true, apart := false }
def PanTurnedSaid : Prop := panTurnedRow.holds Try.pinned (OpenSpec.ofChange panTurnedSpec)

/-- ITS FALSE NEIGHBOUR: 'it returns false'. Refute it at one input. -/
def panTurnedWrong : ChangeSpec := { name := "panTurned", fn := fun _ => fun
  | [d1, d2] => { results := [.lit (.bool false)], args := [d1, d2] }
  | _ => none }
def PanTurnedWrongFalsely : Prop := panTurnedRow.holds Try.pinned (OpenSpec.ofChange panTurnedWrong)

/-- 'zafralaw06.PanKnown': WHATEVER THE INPUT: true; the input reads as it did. -/
def panKnownSpec : ChangeSpec := { name := "panKnown", fn := fun _ => fun
  | [] => { results := [.lit (.bool true)], args := [] }
  | _ => none }
def panKnownRow : OpenClaim := { program := "yteileadcmekkoaa", sum := "bdb9b5dc30dfce3356a763c0c51def26f6f02cfc0e6d8dc8d329057ce4607737", func := "zafra/zafralaw06.PanKnown", spec := "panKnown", unfollowed := true, recurses := true, apart := false }
def PanKnownSaid : Prop := panKnownRow.holds Try.pinned (OpenSpec.ofChange panKnownSpec)

/-- ITS FALSE NEIGHBOUR: 'it returns false'. Refute it at one input. -/
def panKnownWrong : ChangeSpec := { name := "panKnown", fn := fun _ => fun
  | [] => { results := [.lit (.bool false)], args := [] }
  | _ => none }
def PanKnownWrongFalsely : Prop := panKnownRow.holds Try.pinned (OpenSpec.ofChange panKnownWrong)

/- THE SECOND FORM. 'bulk': how many values and letters a reading holds, each counted each time it is reached (what is shared counts as often as it is met; a slice's spare places count too). A statement '..UptoSaid' is the law's where the arguments, and the package variables that the reading takes, are together of bulk at most 1048576: NARROWER than '..Said'. Prove '..Said' where nothing that the law and all that it calls make is longer than what came in: it says more and counts as full. Else prove '..UptoSaid'. A law counts once. -/
mutual
def uptoBulk {H : Type} : DataW H → Nat
  | .lit (.string bytes) => bytes.length + 1
  | .lit _ => 1
  | .nil => 1
  | .ptr d => uptoBulk d + 1
  | .slice elems spare => uptoBulkAll elems + uptoBulkAll spare + 1
  | .agg parts => uptoBulkAll parts + 1
  | .iface _ d => uptoBulk d + 1
  | .map entries => uptoBulkEntries entries + 1
  | .held _ => 1
def uptoBulkAll {H : Type} : List (DataW H) → Nat
  | [] => 0
  | d :: r => uptoBulk d + uptoBulkAll r
def uptoBulkEntries {H : Type} : List (Lit × DataW H) → Nat
  | [] => 0
  | x :: r => uptoBulkEntry x + uptoBulkEntries r
def uptoBulkEntry {H : Type} : Lit × DataW H → Nat
  | (.string bytes, d) => bytes.length + uptoBulk d + 1
  | (_, d) => uptoBulk d + 1
 end
def uptoSmall : (H : Type) → List (DataW H) → Bool := fun _ ds => decide (uptoBulkAll ds ≤ 1048576)
def OpenSpec.upto (s : _root_.Go.ChangeSpec) : _root_.Go.OpenSpec := { _root_.Go.OpenSpec.ofChange s with cond := some uptoSmall }

/-- 'zafralaw06.PanWorks', WHERE WHAT IT READS IS OF BULK AT MOST 1048576: true; the input reads as it did. -/
def panWorksUptoRow : OpenClaim := { program := "yteileadcmekkoaa", sum := "bdb9b5dc30dfce3356a763c0c51def26f6f02cfc0e6d8dc8d329057ce4607737", func := "zafra/zafralaw06.PanWorks", spec := "panWorks", unfollowed := true, recurses := true, apart := false, narrowed := true }
def PanWorksUptoSaid : Prop := panWorksUptoRow.holds Try.pinned (OpenSpec.upto panWorksSpec)

/-- 'zafralaw06.PanHolds', WHERE WHAT IT READS IS OF BULK AT MOST 1048576: true; the input reads as it did. -/
def panHoldsUptoRow : OpenClaim := { program := "yteileadcmekkoaa", sum := "bdb9b5dc30dfce3356a763c0c51def26f6f02cfc0e6d8dc8d329057ce4607737", func := "zafra/zafralaw06.PanHolds", spec := "panHolds", unfollowed := true, recurses := true, apart := false, narrowed := true }
def PanHoldsUptoSaid : Prop := panHoldsUptoRow.holds Try.pinned (OpenSpec.upto panHoldsSpec)

/-- 'zafralaw06.PanTables', WHERE WHAT IT READS IS OF BULK AT MOST 1048576: true; the input reads as it did. -/
def panTablesUptoRow : OpenClaim := { program := "yteileadcmekkoaa", sum := "bdb9b5dc30dfce3356a763c0c51def26f6f02cfc0e6d8dc8d329057ce4607737", func := "zafra/zafralaw06.PanTables", spec := "panTables", unfollowed := true, recurses := true, apart := false, narrowed := true }
def PanTablesUptoSaid : Prop := panTablesUptoRow.holds Try.pinned (OpenSpec.upto panTablesSpec)

/-- 'zafralaw06.PanRuns', WHERE WHAT IT READS IS OF BULK AT MOST 1048576: true; the input reads as it did. -/
def panRunsUptoRow : OpenClaim := { program := "yteileadcmekkoaa", sum := "bdb9b5dc30dfce3356a763c0c51def26f6f02cfc0e6d8dc8d329057ce4607737", func := "zafra/zafralaw06.PanRuns", spec := "panRuns", unfollowed := true, recurses := true, apart := false, narrowed := true }
def PanRunsUptoSaid : Prop := panRunsUptoRow.holds Try.pinned (OpenSpec.upto panRunsSpec)

/-- 'zafralaw06.PanPace', WHERE WHAT IT READS IS OF BULK AT MOST 1048576: true; the input reads as it did. -/
def panPaceUptoRow : OpenClaim := { program := "yteileadcmekkoaa", sum := "bdb9b5dc30dfce3356a763c0c51def26f6f02cfc0e6d8dc8d329057ce4607737", func := "zafra/zafralaw06.PanPace", spec := "panPace", unfollowed := true, recurses := true, apart := false, narrowed := true }
def PanPaceUptoSaid : Prop := panPaceUptoRow.holds Try.pinned (OpenSpec.upto panPaceSpec)

/-- 'zafralaw06.PanCycles', WHERE WHAT IT READS IS OF BULK AT MOST 1048576: true; the input reads as it did. -/
def panCyclesUptoRow : OpenClaim := { program := "yteileadcmekkoaa", sum := "bdb9b5dc30dfce3356a763c0c51def26f6f02cfc0e6d8dc8d329057ce4607737", func := "zafra/zafralaw06.PanCycles", spec := "panCycles", unfollowed := true, recurses := true, apart := false, narrowed := true }
def PanCyclesUptoSaid : Prop := panCyclesUptoRow.holds Try.pinned (OpenSpec.upto panCyclesSpec)

/-- 'zafralaw06.PanLeast', WHERE WHAT IT READS IS OF BULK AT MOST 1048576: true; the input reads as it did. -/
def panLeastUptoRow : OpenClaim := { program := "yteileadcmekkoaa", sum := "bdb9b5dc30dfce3356a763c0c51def26f6f02cfc0e6d8dc8d329057ce4607737", func := "zafra/zafralaw06.PanLeast", spec := "panLeast", unfollowed := true, recurses := true, apart := false, narrowed := true }
def PanLeastUptoSaid : Prop := panLeastUptoRow.holds Try.pinned (OpenSpec.upto panLeastSpec)

/-- 'zafralaw06.PanTruth', WHERE WHAT IT READS IS OF BULK AT MOST 1048576: true; the input reads as it did. -/
def panTruthUptoRow : OpenClaim := { program := "yteileadcmekkoaa", sum := "bdb9b5dc30dfce3356a763c0c51def26f6f02cfc0e6d8dc8d329057ce4607737", func := "zafra/zafralaw06.PanTruth", spec := "panTruth", unfollowed := true, recurses := true, apart := false, narrowed := true }
def PanTruthUptoSaid : Prop := panTruthUptoRow.holds Try.pinned (OpenSpec.upto panTruthSpec)

/-- 'zafralaw06.PanLong', WHERE WHAT IT READS IS OF BULK AT MOST 1048576: true; the input reads as it did. -/
def panLongUptoRow : OpenClaim := { program := "yteileadcmekkoaa", sum := "bdb9b5dc30dfce3356a763c0c51def26f6f02cfc0e6d8dc8d329057ce4607737", func := "zafra/zafralaw06.PanLong", spec := "panLong", unfollowed := true, recurses := true, apart := false, narrowed := true }
def PanLongUptoSaid : Prop := panLongUptoRow.holds Try.pinned (OpenSpec.upto panLongSpec)

/-- 'zafralaw06.PanMore', WHERE WHAT IT READS IS OF BULK AT MOST 1048576: true; the input reads as it did. -/
def panMoreUptoRow : OpenClaim := { program := "yteileadcmekkoaa", sum := "bdb9b5dc30dfce3356a763c0c51def26f6f02cfc0e6d8dc8d329057ce4607737", func := "zafra/zafralaw06.PanMore", spec := "panMore", unfollowed := true, recurses := true, apart := false, narrowed := true }
def PanMoreUptoSaid : Prop := panMoreUptoRow.holds Try.pinned (OpenSpec.upto panMoreSpec)

/-- 'zafralaw06.PanTurned', WHERE WHAT IT READS IS OF BULK AT MOST 1048576: true; the input reads as it did. -/
def panTurnedUptoRow : OpenClaim := { program := "yteileadcmekkoaa", sum := "bdb9b5dc30dfce3356a763c0c51def26f6f02cfc0e6d8dc8d329057ce4607737", func := "zafra/zafralaw06.PanTurned", spec := "panTurned", unfollowed := true, recurses := true, apart := false, narrowed := true }
def PanTurnedUptoSaid : Prop := panTurnedUptoRow.holds Try.pinned (OpenSpec.upto panTurnedSpec)

/-- 'zafralaw06.PanKnown', WHERE WHAT IT READS IS OF BULK AT MOST 1048576: true; the input reads as it did. -/
def panKnownUptoRow : OpenClaim := { program := "yteileadcmekkoaa", sum := "bdb9b5dc30dfce3356a763c0c51def26f6f02cfc0e6d8dc8d329057ce4607737", func := "zafra/zafralaw06.PanKnown", spec := "panKnown", unfollowed := true, recurses := true, apart := false, narrowed := true }
def PanKnownUptoSaid : Prop := panKnownUptoRow.holds Try.pinned (OpenSpec.upto panKnownSpec)

end Rows
end Go.Proofs.Yteileadcmekkoaa
