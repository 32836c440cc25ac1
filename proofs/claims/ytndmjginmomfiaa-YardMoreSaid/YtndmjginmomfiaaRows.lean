/-
  No cell of these rows narrows 'for every input' (looked for: loops, veiled, ifaces, maps, wideKeys, modest, calm, conditions, laid).
  DERIVED. THE GIVEN ROWS OF THIS SEAT. 10 by the template 'for every input the law returns true; each argument reads behind the call as it read before'; 0 by the template 'total and deterministic' (their statements: YtndmjginmomfiaaTotals.lean).
  GIVEN WITH THE SEED: the statements are not yours to turn. If you find one false, say at which input.
  Laid BY PROGRAM, IN A SANDBOX (cutbox-rows.mjs): the forced cells as the released guide's own fill.sh prints them over the translation ae2137fd91d48946… (all of the seat's roots in one cut). By AI agents, Wed Nov 11 2026. No macro, syntax, notation, axiom, sorry.
-/
import Derived.Test.YtndmjginmomfiaaChecked
import GoSem.Claim
import GoSem.ClaimJoined
import GoSem.ClaimMapViews
import Derived.JoinedTies
import Derived.KernelRfl
namespace Go.Proofs.Ytndmjginmomfiaa
/- THE CELL 'sum', in the pinned program and in every row, IS THE sha256 OF THE DUMP (.gsa) THAT YtndmjginmomfiaaProg.lean LOADS. Nothing in Lean hashes anything: it is a label: what it is worth is what the hold of that sum in a sandbox is worth. -/
noncomputable def Try.pinned : Pinned := { name := "ytndmjginmomfiaa", sum := "ae2137fd91d48946154a013dc2951347aea02d40b7ed007aec3113d7ab0d3aa3", checked := Try.checked }
namespace Rows
def none {H : Type} : Left H := { results := [], args := [] }

/-- 'zafralaw08.YardTables': WHATEVER THE INPUT: true; the input reads as it did. -/
def yardTablesSpec : ChangeSpec := { name := "yardTables", fn := fun _ => fun
  | [d1, d2, d3, d4] => { results := [.lit (.bool true)], args := [d1, d2, d3, d4] }
  | _ => none }
def yardTablesRow : OpenClaim := { program := "ytndmjginmomfiaa", sum := "ae2137fd91d48946154a013dc2951347aea02d40b7ed007aec3113d7ab0d3aa3", func := "zafra/zafralaw08.YardTables", spec := "yardTables", unfollowed := true, recurses := true, plainKeys := false, apart := false }
def YardTablesSaid : Prop := yardTablesRow.holds Try.pinned (OpenSpec.ofChange yardTablesSpec)

/-- ITS FALSE NEIGHBOUR: 'it returns false'. Refute it at one input. -/
def yardTablesWrong : ChangeSpec := { name := "yardTables", fn := fun _ => fun
  | [d1, d2, d3, d4] => { results := [.lit (.bool false)], args := [d1, d2, d3, d4] }
  | _ => none }
def YardTablesWrongFalsely : Prop := yardTablesRow.holds Try.pinned (OpenSpec.ofChange yardTablesWrong)

/-- 'zafralaw08.YardOrders': WHATEVER THE INPUT: true; the input reads as it did. -/
def yardOrdersSpec : ChangeSpec := { name := "yardOrders", fn := fun _ => fun
  | [d1, d2, d3, d4] => { results := [.lit (.bool true)], args := [d1, d2, d3, d4] }
  | _ => none }
def yardOrdersRow : OpenClaim := { program := "ytndmjginmomfiaa", sum := "ae2137fd91d48946154a013dc2951347aea02d40b7ed007aec3113d7ab0d3aa3", func := "zafra/zafralaw08.YardOrders", spec := "yardOrders", unfollowed := true, recurses := true, plainKeys := false, apart := false }
def YardOrdersSaid : Prop := yardOrdersRow.holds Try.pinned (OpenSpec.ofChange yardOrdersSpec)

/-- ITS FALSE NEIGHBOUR: 'it returns false'. Refute it at one input. -/
def yardOrdersWrong : ChangeSpec := { name := "yardOrders", fn := fun _ => fun
  | [d1, d2, d3, d4] => { results := [.lit (.bool false)], args := [d1, d2, d3, d4] }
  | _ => none }
def YardOrdersWrongFalsely : Prop := yardOrdersRow.holds Try.pinned (OpenSpec.ofChange yardOrdersWrong)

/-- 'zafralaw08.YardBreaks': WHATEVER THE INPUT: true; the input reads as it did. -/
def yardBreaksSpec : ChangeSpec := { name := "yardBreaks", fn := fun _ => fun
  | [d1, d2, d3, d4, d5] => { results := [.lit (.bool true)], args := [d1, d2, d3, d4, d5] }
  | _ => none }
def yardBreaksRow : OpenClaim := { program := "ytndmjginmomfiaa", sum := "ae2137fd91d48946154a013dc2951347aea02d40b7ed007aec3113d7ab0d3aa3", func := "zafra/zafralaw08.YardBreaks", spec := "yardBreaks", unfollowed := true, recurses := true, plainKeys := false, apart := false }
def YardBreaksSaid : Prop := yardBreaksRow.holds Try.pinned (OpenSpec.ofChange yardBreaksSpec)

/-- ITS FALSE NEIGHBOUR: 'it returns false'. Refute it at one input. -/
def yardBreaksWrong : ChangeSpec := { name := "yardBreaks", fn := fun _ => fun
  | [d1, d2, d3, d4, d5] => { results := [.lit (.bool false)], args := [d1, d2, d3, d4, d5] }
  | _ => none }
def YardBreaksWrongFalsely : Prop := yardBreaksRow.holds Try.pinned (OpenSpec.ofChange yardBreaksWrong)

/-- 'zafralaw08.YardNeeds': WHATEVER THE INPUT: true; the input reads as it did. -/
def yardNeedsSpec : ChangeSpec := { name := "yardNeeds", fn := fun _ => fun
  | [d1, d2, d3] => { results := [.lit (.bool true)], args := [d1, d2, d3] }
  | _ => none }
def yardNeedsRow : OpenClaim := { program := "ytndmjginmomfiaa", sum := "ae2137fd91d48946154a013dc2951347aea02d40b7ed007aec3113d7ab0d3aa3", func := "zafra/zafralaw08.YardNeeds", spec := "yardNeeds", unfollowed := true, recurses := true, plainKeys := false, apart := false }
def YardNeedsSaid : Prop := yardNeedsRow.holds Try.pinned (OpenSpec.ofChange yardNeedsSpec)

/-- ITS FALSE NEIGHBOUR: 'it returns false'. Refute it at one input. -/
def yardNeedsWrong : ChangeSpec := { name := "yardNeeds", fn := fun _ => fun
  | [d1, d2, d3] => { results := [.lit (.bool false)], args := [d1, d2, d3] }
  | _ => none }
def YardNeedsWrongFalsely : Prop := yardNeedsRow.holds Try.pinned (OpenSpec.ofChange yardNeedsWrong)

/-- 'zafralaw08.YardGame': WHATEVER THE INPUT: true; the input reads as it did. -/
def yardGameSpec : ChangeSpec := { name := "yardGame", fn := fun _ => fun
  | [d1, d2] => { results := [.lit (.bool true)], args := [d1, d2] }
  | _ => none }
def yardGameRow : OpenClaim := { program := "ytndmjginmomfiaa", sum := "ae2137fd91d48946154a013dc2951347aea02d40b7ed007aec3113d7ab0d3aa3", func := "zafra/zafralaw08.YardGame", spec := "yardGame", unfollowed := true, recurses := true, plainKeys := false, apart := false }
def YardGameSaid : Prop := yardGameRow.holds Try.pinned (OpenSpec.ofChange yardGameSpec)

/-- ITS FALSE NEIGHBOUR: 'it returns false'. Refute it at one input. -/
def yardGameWrong : ChangeSpec := { name := "yardGame", fn := fun _ => fun
  | [d1, d2] => { results := [.lit (.bool false)], args := [d1, d2] }
  | _ => none }
def YardGameWrongFalsely : Prop := yardGameRow.holds Try.pinned (OpenSpec.ofChange yardGameWrong)

/-- 'zafralaw08.YardProof': WHATEVER THE INPUT: true; the input reads as it did. -/
def yardProofSpec : ChangeSpec := { name := "yardProof", fn := fun _ => fun
  | [d1, d2, d3, d4, d5] => { results := [.lit (.bool true)], args := [d1, d2, d3, d4, d5] }
  | _ => none }
def yardProofRow : OpenClaim := { program := "ytndmjginmomfiaa", sum := "ae2137fd91d48946154a013dc2951347aea02d40b7ed007aec3113d7ab0d3aa3", func := "zafra/zafralaw08.YardProof", spec := "yardProof", unfollowed := true, recurses := true, plainKeys := false, apart := false }
def YardProofSaid : Prop := yardProofRow.holds Try.pinned (OpenSpec.ofChange yardProofSpec)

/-- ITS FALSE NEIGHBOUR: 'it returns false'. Refute it at one input. -/
def yardProofWrong : ChangeSpec := { name := "yardProof", fn := fun _ => fun
  | [d1, d2, d3, d4, d5] => { results := [.lit (.bool false)], args := [d1, d2, d3, d4, d5] }
  | _ => none }
def YardProofWrongFalsely : Prop := yardProofRow.holds Try.pinned (OpenSpec.ofChange yardProofWrong)

/-- 'zafralaw08.YardKept': WHATEVER THE INPUT: true; the input reads as it did. -/
def yardKeptSpec : ChangeSpec := { name := "yardKept", fn := fun _ => fun
  | [d1, d2, d3, d4] => { results := [.lit (.bool true)], args := [d1, d2, d3, d4] }
  | _ => none }
def yardKeptRow : OpenClaim := { program := "ytndmjginmomfiaa", sum := "ae2137fd91d48946154a013dc2951347aea02d40b7ed007aec3113d7ab0d3aa3", func := "zafra/zafralaw08.YardKept", spec := "yardKept", unfollowed := true, recurses := true, plainKeys := false, apart := false }
def YardKeptSaid : Prop := yardKeptRow.holds Try.pinned (OpenSpec.ofChange yardKeptSpec)

/-- ITS FALSE NEIGHBOUR: 'it returns false'. Refute it at one input. -/
def yardKeptWrong : ChangeSpec := { name := "yardKept", fn := fun _ => fun
  | [d1, d2, d3, d4] => { results := [.lit (.bool false)], args := [d1, d2, d3, d4] }
  | _ => none }
def YardKeptWrongFalsely : Prop := yardKeptRow.holds Try.pinned (OpenSpec.ofChange yardKeptWrong)

/-- 'zafralaw08.YardBroken': WHATEVER THE INPUT: true; the input reads as it did. -/
def yardBrokenSpec : ChangeSpec := { name := "yardBroken", fn := fun _ => fun
  | [d1, d2, d3, d4] => { results := [.lit (.bool true)], args := [d1, d2, d3, d4] }
  | _ => none }
def yardBrokenRow : OpenClaim := { program := "ytndmjginmomfiaa", sum := "ae2137fd91d48946154a013dc2951347aea02d40b7ed007aec3113d7ab0d3aa3", func := "zafra/zafralaw08.YardBroken", spec := "yardBroken", unfollowed := true, recurses := true, plainKeys := false, apart := false }
def YardBrokenSaid : Prop := yardBrokenRow.holds Try.pinned (OpenSpec.ofChange yardBrokenSpec)

/-- ITS FALSE NEIGHBOUR: 'it returns false'. Refute it at one input. -/
def yardBrokenWrong : ChangeSpec := { name := "yardBroken", fn := fun _ => fun
  | [d1, d2, d3, d4] => { results := [.lit (.bool false)], args := [d1, d2, d3, d4] }
  | _ => none }
def YardBrokenWrongFalsely : Prop := yardBrokenRow.holds Try.pinned (OpenSpec.ofChange yardBrokenWrong)

/-- 'zafralaw08.YardMore': WHATEVER THE INPUT: true; the input reads as it did. -/
def yardMoreSpec : ChangeSpec := { name := "yardMore", fn := fun _ => fun
  | [d1, d2] => { results := [.lit (.bool true)], args := [d1, d2] }
  | _ => none }
def yardMoreRow : OpenClaim := { program := "ytndmjginmomfiaa", sum := "ae2137fd91d48946154a013dc2951347aea02d40b7ed007aec3113d7ab0d3aa3", func := "zafra/zafralaw08.YardMore", spec := "yardMore", unfollowed := true, recurses := true, plainKeys := false, apart := false }
def YardMoreSaid : Prop := yardMoreRow.holds Try.pinned (OpenSpec.ofChange yardMoreSpec)

/-- ITS FALSE NEIGHBOUR: 'it returns false'. Refute it at one input. -/
def yardMoreWrong : ChangeSpec := { name := "yardMore", fn := fun _ => fun
  | [d1, d2] => { results := [.lit (.bool false)], args := [d1, d2] }
  | _ => none }
def YardMoreWrongFalsely : Prop := yardMoreRow.holds Try.pinned (OpenSpec.ofChange yardMoreWrong)

/-- 'zafralaw08.YardRoom': WHATEVER THE INPUT: true; the input reads as it did. -/
def yardRoomSpec : ChangeSpec := { name := "yardRoom", fn := fun _ => fun
  | [d1, d2, d3] => { results := [.lit (.bool true)], args := [d1, d2, d3] }
  | _ => none }
def yardRoomRow : OpenClaim := { program := "ytndmjginmomfiaa", sum := "ae2137fd91d48946154a013dc2951347aea02d40b7ed007aec3113d7ab0d3aa3", func := "zafra/zafralaw08.YardRoom", spec := "yardRoom", unfollowed := true, recurses := true, plainKeys := false, apart := false }
def YardRoomSaid : Prop := yardRoomRow.holds Try.pinned (OpenSpec.ofChange yardRoomSpec)

/-- ITS FALSE NEIGHBOUR: 'it returns false'. Refute it at one input. -/
def yardRoomWrong : ChangeSpec := { name := "yardRoom", fn := fun _ => fun
  | [d1, d2, d3] => { results := [.lit (.bool false)], args := [d1, d2, d3] }
  | _ => none }
def YardRoomWrongFalsely : Prop := yardRoomRow.holds Try.pinned (OpenSpec.ofChange yardRoomWrong)

/- THE SECOND FORM. 'bulk': how many values and letters a reading holds, each counted each time it is reached (what is shared counts as often as it is met; a slice's spare places count too). A statement '..UptoSaid' is the law's where the arguments, and the package variables that the reading takes, are together of bulk at most 1048576: NARROWER than '..Said'. Prove '..Said' where nothing that the law and all that it calls make is longer than what came in: it says more and counts as full. Else prove '..UptoSaid'. A law counts once. -/
mutual
def uptoBulk {H : Type} : DataW H → Nat
  | .lit (.string bytes) => bytes.length + 1
  | .lit _ => 1
  | .nil => 1
  | .ptr d => uptoBulk d + 1
  | .slice elems spare => uptoBulkAll elems + uptoBulkAll spare + 1
  | .agg parts => uptoBulkAll parts + 1
  | .iface _ d => uptoBulk d + 1
  | .map entries => uptoBulkEntries entries + 1
  | .held _ => 1
def uptoBulkAll {H : Type} : List (DataW H) → Nat
  | [] => 0
  | d :: r => uptoBulk d + uptoBulkAll r
def uptoBulkEntries {H : Type} : List (Lit × DataW H) → Nat
  | [] => 0
  | x :: r => uptoBulkEntry x + uptoBulkEntries r
def uptoBulkEntry {H : Type} : Lit × DataW H → Nat
  | (.string bytes, d) => bytes.length + uptoBulk d + 1
  | (_, d) => uptoBulk d + 1
 end
def uptoSmall : (H : Type) → List (DataW H) → Bool := fun _ ds => decide (uptoBulkAll ds ≤ 1048576)
def OpenSpec.upto (s : _root_.Go.ChangeSpec) : _root_.Go.OpenSpec := { _root_.Go.OpenSpec.ofChange s with cond := some uptoSmall }

/-- 'zafralaw08.YardTables', WHERE WHAT IT READS IS OF BULK AT MOST 1048576: true; the input reads as it did. -/
def yardTablesUptoRow : OpenClaim := { program := "ytndmjginmomfiaa", sum := "ae2137fd91d48946154a013dc2951347aea02d40b7ed007aec3113d7ab0d3aa3", func := "zafra/zafralaw08.YardTables", spec := "yardTables", unfollowed := true, recurses := true, plainKeys := false, apart := false, narrowed := true }
def YardTablesUptoSaid : Prop := yardTablesUptoRow.holds Try.pinned (OpenSpec.upto yardTablesSpec)

/-- 'zafralaw08.YardOrders', WHERE WHAT IT READS IS OF BULK AT MOST 1048576: true; the input reads as it did. -/
def yardOrdersUptoRow : OpenClaim := { program := "ytndmjginmomfiaa", sum := "ae2137fd91d48946154a013dc2951347aea02d40b7ed007aec3113d7ab0d3aa3", func := "zafra/zafralaw08.YardOrders", spec := "yardOrders", unfollowed := true, recurses := true, plainKeys := false, apart := false, narrowed := true }
def YardOrdersUptoSaid : Prop := yardOrdersUptoRow.holds Try.pinned (OpenSpec.upto yardOrdersSpec)

/-- 'zafralaw08.YardBreaks', WHERE WHAT IT READS IS OF BULK AT MOST 1048576: true; the input reads as it did. -/
def yardBreaksUptoRow : OpenClaim := { program := "ytndmjginmomfiaa", sum := "ae2137fd91d48946154a013dc2951347aea02d40b7ed007aec3113d7ab0d3aa3", func := "zafra/zafralaw08.YardBreaks", spec := "yardBreaks", unfollowed := true, recurses := true, plainKeys := false, apart := false, narrowed := true }
def YardBreaksUptoSaid : Prop := yardBreaksUptoRow.holds Try.pinned (OpenSpec.upto yardBreaksSpec)

/-- 'zafralaw08.YardNeeds', WHERE WHAT IT READS IS OF BULK AT MOST 1048576: true; the input reads as it did. -/
def yardNeedsUptoRow : OpenClaim := { program := "ytndmjginmomfiaa", sum := "ae2137fd91d48946154a013dc2951347aea02d40b7ed007aec3113d7ab0d3aa3", func := "zafra/zafralaw08.YardNeeds", spec := "yardNeeds", unfollowed := true, recurses := true, plainKeys := false, apart := false, narrowed := true }
def YardNeedsUptoSaid : Prop := yardNeedsUptoRow.holds Try.pinned (OpenSpec.upto yardNeedsSpec)

/-- 'zafralaw08.YardGame', WHERE WHAT IT READS IS OF BULK AT MOST 1048576: true; the input reads as it did. -/
def yardGameUptoRow : OpenClaim := { program := "ytndmjginmomfiaa", sum := "ae2137fd91d48946154a013dc2951347aea02d40b7ed007aec3113d7ab0d3aa3", func := "zafra/zafralaw08.YardGame", spec := "yardGame", unfollowed := true, recurses := true, plainKeys := false, apart := false, narrowed := true }
def YardGameUptoSaid : Prop := yardGameUptoRow.holds Try.pinned (OpenSpec.upto yardGameSpec)

/-- 'zafralaw08.YardProof', WHERE WHAT IT READS IS OF BULK AT MOST 1048576: true; the input reads as it did. -/
def yardProofUptoRow : OpenClaim := { program := "ytndmjginmomfiaa", sum := "ae2137fd91d48946154a013dc2951347aea02d40b7ed007aec3113d7ab0d3aa3", func := "zafra/zafralaw08.YardProof", spec := "yardProof", unfollowed := true, recurses := true, plainKeys := false, apart := false, narrowed := true }
def YardProofUptoSaid : Prop := yardProofUptoRow.holds Try.pinned (OpenSpec.upto yardProofSpec)

/-- 'zafralaw08.YardKept', WHERE WHAT IT READS IS OF BULK AT MOST 1048576: true; the input reads as it did. -/
def yardKeptUptoRow : OpenClaim := { program := "ytndmjginmomfiaa", sum := "ae2137fd91d48946154a013dc2951347aea02d40b7ed007aec3113d7ab0d3aa3", func := "zafra/zafralaw08.YardKept", spec := "yardKept", unfollowed := true, recurses := true, plainKeys := false, apart := false, narrowed := true }
def YardKeptUptoSaid : Prop := yardKeptUptoRow.holds Try.pinned (OpenSpec.upto yardKeptSpec)

/-- 'zafralaw08.YardBroken', WHERE WHAT IT READS IS OF BULK AT MOST 1048576: true; the input reads as it did. -/
def yardBrokenUptoRow : OpenClaim := { program := "ytndmjginmomfiaa", sum := "ae2137fd91d48946154a013dc2951347aea02d40b7ed007aec3113d7ab0d3aa3", func := "zafra/zafralaw08.YardBroken", spec := "yardBroken", unfollowed := true, recurses := true, plainKeys := false, apart := false, narrowed := true }
def YardBrokenUptoSaid : Prop := yardBrokenUptoRow.holds Try.pinned (OpenSpec.upto yardBrokenSpec)

/-- 'zafralaw08.YardMore', WHERE WHAT IT READS IS OF BULK AT MOST 1048576: true; the input reads as it did. -/
def yardMoreUptoRow : OpenClaim := { program := "ytndmjginmomfiaa", sum := "ae2137fd91d48946154a013dc2951347aea02d40b7ed007aec3113d7ab0d3aa3", func := "zafra/zafralaw08.YardMore", spec := "yardMore", unfollowed := true, recurses := true, plainKeys := false, apart := false, narrowed := true }
def YardMoreUptoSaid : Prop := yardMoreUptoRow.holds Try.pinned (OpenSpec.upto yardMoreSpec)

/-- 'zafralaw08.YardRoom', WHERE WHAT IT READS IS OF BULK AT MOST 1048576: true; the input reads as it did. -/
def yardRoomUptoRow : OpenClaim := { program := "ytndmjginmomfiaa", sum := "ae2137fd91d48946154a013dc2951347aea02d40b7ed007aec3113d7ab0d3aa3", func := "zafra/zafralaw08.YardRoom", spec := "yardRoom", unfollowed := true, recurses := true, plainKeys := false, apart := false, narrowed := true }
def YardRoomUptoSaid : Prop := yardRoomUptoRow.holds Try.pinned (OpenSpec.upto yardRoomSpec)

end Rows
end Go.Proofs.Ytndmjginmomfiaa
