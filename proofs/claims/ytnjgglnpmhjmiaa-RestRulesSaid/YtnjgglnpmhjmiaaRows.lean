/-
  No cell of these rows narrows 'for every input' (looked for: loops, veiled, ifaces, maps, wideKeys, modest, calm, conditions, laid).
  DERIVED. THE GIVEN ROWS OF THIS SEAT. 12 by the template 'for every input the law returns true; each argument reads behind the call as it read before'; 0 by the template 'total and deterministic' (their statements: YtnjgglnpmhjmiaaTotals.lean).
  GIVEN WITH THE SEED: the statements are not yours to turn. If you find one false, say at which input.
  Laid BY PROGRAM, IN A SANDBOX (cutbox-rows.mjs): the forced cells as the released guide's own fill.sh prints them over the translation d3cc844a2da5143e… (all of the seat's roots in one cut). By AI agents, Wed Nov 11 2026. No macro, syntax, notation, axiom, sorry.
-/
import Derived.Test.YtnjgglnpmhjmiaaChecked
import GoSem.Claim
import GoSem.ClaimJoined
import GoSem.ClaimMapViews
import Derived.JoinedTies
import Derived.KernelRfl
namespace Go.Proofs.Ytnjgglnpmhjmiaa
/- THE CELL 'sum', in the pinned program and in every row, IS THE sha256 OF THE DUMP (.gsa) THAT YtnjgglnpmhjmiaaProg.lean LOADS. Nothing in Lean hashes anything: it is a label: what it is worth is what the hold of that sum in a sandbox is worth. -/
noncomputable def Try.pinned : Pinned := { name := "ytnjgglnpmhjmiaa", sum := "d3cc844a2da5143ebaf1b0e5a99f59462704bc1ff3d4b281c84267f4052d7d5e", checked := Try.checked }
namespace Rows
def none {H : Type} : Left H := { results := [], args := [] }

/-- 'zafralaw10.RestMade': WHATEVER THE INPUT: true; the input reads as it did. -/
def restMadeSpec : ChangeSpec := { name := "restMade", fn := fun _ => fun
  | [d1, d2, d3] => { results := [.lit (.bool true)], args := [d1, d2, d3] }
  | _ => none }
def restMadeRow : OpenClaim := { program := "ytnjgglnpmhjmiaa", sum := "d3cc844a2da5143ebaf1b0e5a99f59462704bc1ff3d4b281c84267f4052d7d5e", func := "zafra/zafralaw10.RestMade", spec := "restMade", unfollowed := true, recurses := true, plainKeys := false, apart := false }
def RestMadeSaid : Prop := restMadeRow.holds Try.pinned (OpenSpec.ofChange restMadeSpec)

/-- ITS FALSE NEIGHBOUR: 'it returns false'. Refute it at one input. -/
def restMadeWrong : ChangeSpec := { name := "restMade", fn := fun _ => fun
  | [d1, d2, d3] => { results := [.lit (.bool false)], args := [d1, d2, d3] }
  | _ => none }
def RestMadeWrongFalsely : Prop := restMadeRow.holds Try.pinned (OpenSpec.ofChange restMadeWrong)

/-- 'zafralaw10.RestAsked': WHATEVER THE INPUT: true; the input reads as it did. -/
def restAskedSpec : ChangeSpec := { name := "restAsked", fn := fun _ => fun
  | [d1, d2, d3] => { results := [.lit (.bool true)], args := [d1, d2, d3] }
  | _ => none }
def restAskedRow : OpenClaim := { program := "ytnjgglnpmhjmiaa", sum := "d3cc844a2da5143ebaf1b0e5a99f59462704bc1ff3d4b281c84267f4052d7d5e", func := "zafra/zafralaw10.RestAsked", spec := "restAsked", unfollowed := true, recurses := true, plainKeys := false, apart := false }
def RestAskedSaid : Prop := restAskedRow.holds Try.pinned (OpenSpec.ofChange restAskedSpec)

/-- ITS FALSE NEIGHBOUR: 'it returns false'. Refute it at one input. -/
def restAskedWrong : ChangeSpec := { name := "restAsked", fn := fun _ => fun
  | [d1, d2, d3] => { results := [.lit (.bool false)], args := [d1, d2, d3] }
  | _ => none }
def RestAskedWrongFalsely : Prop := restAskedRow.holds Try.pinned (OpenSpec.ofChange restAskedWrong)

/-- 'zafralaw10.RestTold': WHATEVER THE INPUT: true; the input reads as it did. -/
def restToldSpec : ChangeSpec := { name := "restTold", fn := fun _ => fun
  | [d1, d2, d3] => { results := [.lit (.bool true)], args := [d1, d2, d3] }
  | _ => none }
def restToldRow : OpenClaim := { program := "ytnjgglnpmhjmiaa", sum := "d3cc844a2da5143ebaf1b0e5a99f59462704bc1ff3d4b281c84267f4052d7d5e", func := "zafra/zafralaw10.RestTold", spec := "restTold", unfollowed := true, recurses := true, plainKeys := false, apart := false }
def RestToldSaid : Prop := restToldRow.holds Try.pinned (OpenSpec.ofChange restToldSpec)

/-- ITS FALSE NEIGHBOUR: 'it returns false'. Refute it at one input. -/
def restToldWrong : ChangeSpec := { name := "restTold", fn := fun _ => fun
  | [d1, d2, d3] => { results := [.lit (.bool false)], args := [d1, d2, d3] }
  | _ => none }
def RestToldWrongFalsely : Prop := restToldRow.holds Try.pinned (OpenSpec.ofChange restToldWrong)

/-- 'zafralaw10.RestRules': WHATEVER THE INPUT: true; the input reads as it did. -/
def restRulesSpec : ChangeSpec := { name := "restRules", fn := fun _ => fun
  | [d1, d2, d3] => { results := [.lit (.bool true)], args := [d1, d2, d3] }
  | _ => none }
def restRulesRow : OpenClaim := { program := "ytnjgglnpmhjmiaa", sum := "d3cc844a2da5143ebaf1b0e5a99f59462704bc1ff3d4b281c84267f4052d7d5e", func := "zafra/zafralaw10.RestRules", spec := "restRules", unfollowed := true, recurses := true, plainKeys := false, apart := false }
def RestRulesSaid : Prop := restRulesRow.holds Try.pinned (OpenSpec.ofChange restRulesSpec)

/-- ITS FALSE NEIGHBOUR: 'it returns false'. Refute it at one input. -/
def restRulesWrong : ChangeSpec := { name := "restRules", fn := fun _ => fun
  | [d1, d2, d3] => { results := [.lit (.bool false)], args := [d1, d2, d3] }
  | _ => none }
def RestRulesWrongFalsely : Prop := restRulesRow.holds Try.pinned (OpenSpec.ofChange restRulesWrong)

/-- 'zafralaw10.RestJoined': WHATEVER THE INPUT: true; the input reads as it did. -/
def restJoinedSpec : ChangeSpec := { name := "restJoined", fn := fun _ => fun
  | [d1, d2] => { results := [.lit (.bool true)], args := [d1, d2] }
  | _ => none }
def restJoinedRow : OpenClaim := { program := "ytnjgglnpmhjmiaa", sum := "d3cc844a2da5143ebaf1b0e5a99f59462704bc1ff3d4b281c84267f4052d7d5e", func := "zafra/zafralaw10.RestJoined", spec := "restJoined", unfollowed := true, recurses := true, plainKeys := false, apart := false }
def RestJoinedSaid : Prop := restJoinedRow.holds Try.pinned (OpenSpec.ofChange restJoinedSpec)

/-- ITS FALSE NEIGHBOUR: 'it returns false'. Refute it at one input. -/
def restJoinedWrong : ChangeSpec := { name := "restJoined", fn := fun _ => fun
  | [d1, d2] => { results := [.lit (.bool false)], args := [d1, d2] }
  | _ => none }
def RestJoinedWrongFalsely : Prop := restJoinedRow.holds Try.pinned (OpenSpec.ofChange restJoinedWrong)

/-- 'zafralaw10.RestCounts': WHATEVER THE INPUT: true; the input reads as it did. -/
def restCountsSpec : ChangeSpec := { name := "restCounts", fn := fun _ => fun
  | [d1, d2, d3] => { results := [.lit (.bool true)], args := [d1, d2, d3] }
  | _ => none }
def restCountsRow : OpenClaim := { program := "ytnjgglnpmhjmiaa", sum := "d3cc844a2da5143ebaf1b0e5a99f59462704bc1ff3d4b281c84267f4052d7d5e", func := "zafra/zafralaw10.RestCounts", spec := "restCounts", unfollowed := true, recurses := true, plainKeys := false, apart := false }
def RestCountsSaid : Prop := restCountsRow.holds Try.pinned (OpenSpec.ofChange restCountsSpec)

/-- ITS FALSE NEIGHBOUR: 'it returns false'. Refute it at one input. -/
def restCountsWrong : ChangeSpec := { name := "restCounts", fn := fun _ => fun
  | [d1, d2, d3] => { results := [.lit (.bool false)], args := [d1, d2, d3] }
  | _ => none }
def RestCountsWrongFalsely : Prop := restCountsRow.holds Try.pinned (OpenSpec.ofChange restCountsWrong)

/-- 'zafralaw10.RestTables': WHATEVER THE INPUT: true; the input reads as it did. -/
def restTablesSpec : ChangeSpec := { name := "restTables", fn := fun _ => fun
  | [d1, d2] => { results := [.lit (.bool true)], args := [d1, d2] }
  | _ => none }
def restTablesRow : OpenClaim := { program := "ytnjgglnpmhjmiaa", sum := "d3cc844a2da5143ebaf1b0e5a99f59462704bc1ff3d4b281c84267f4052d7d5e", func := "zafra/zafralaw10.RestTables", spec := "restTables", unfollowed := true, recurses := true, plainKeys := false, apart := false }
def RestTablesSaid : Prop := restTablesRow.holds Try.pinned (OpenSpec.ofChange restTablesSpec)

/-- ITS FALSE NEIGHBOUR: 'it returns false'. Refute it at one input. -/
def restTablesWrong : ChangeSpec := { name := "restTables", fn := fun _ => fun
  | [d1, d2] => { results := [.lit (.bool false)], args := [d1, d2] }
  | _ => none }
def RestTablesWrongFalsely : Prop := restTablesRow.holds Try.pinned (OpenSpec.ofChange restTablesWrong)

/-- 'zafralaw10.RestLeast': WHATEVER THE INPUT: true; the input reads as it did. -/
def restLeastSpec : ChangeSpec := { name := "restLeast", fn := fun _ => fun
  | [d] => { results := [.lit (.bool true)], args := [d] }
  | _ => none }
def restLeastRow : OpenClaim := { program := "ytnjgglnpmhjmiaa", sum := "d3cc844a2da5143ebaf1b0e5a99f59462704bc1ff3d4b281c84267f4052d7d5e", func := "zafra/zafralaw10.RestLeast", spec := "restLeast", unfollowed := true, recurses := true, plainKeys := false, apart := false }
def RestLeastSaid : Prop := restLeastRow.holds Try.pinned (OpenSpec.ofChange restLeastSpec)

/-- ITS FALSE NEIGHBOUR: 'it returns false'. Refute it at one input. -/
def restLeastWrong : ChangeSpec := { name := "restLeast", fn := fun _ => fun
  | [d] => { results := [.lit (.bool false)], args := [d] }
  | _ => none }
def RestLeastWrongFalsely : Prop := restLeastRow.holds Try.pinned (OpenSpec.ofChange restLeastWrong)

/-- 'zafralaw10.RestProved': WHATEVER THE INPUT: true; the input reads as it did. -/
def restProvedSpec : ChangeSpec := { name := "restProved", fn := fun _ => fun
  | [d1, d2, d3] => { results := [.lit (.bool true)], args := [d1, d2, d3] }
  | _ => none }
def restProvedRow : OpenClaim := { program := "ytnjgglnpmhjmiaa", sum := "d3cc844a2da5143ebaf1b0e5a99f59462704bc1ff3d4b281c84267f4052d7d5e", func := "zafra/zafralaw10.RestProved", spec := "restProved", unfollowed := true, recurses := true, plainKeys := false, apart := false }
def RestProvedSaid : Prop := restProvedRow.holds Try.pinned (OpenSpec.ofChange restProvedSpec)

/-- ITS FALSE NEIGHBOUR: 'it returns false'. Refute it at one input. -/
def restProvedWrong : ChangeSpec := { name := "restProved", fn := fun _ => fun
  | [d1, d2, d3] => { results := [.lit (.bool false)], args := [d1, d2, d3] }
  | _ => none }
def RestProvedWrongFalsely : Prop := restProvedRow.holds Try.pinned (OpenSpec.ofChange restProvedWrong)

/-- 'zafralaw10.RestDiffer': WHATEVER THE INPUT: true; the input reads as it did. -/
def restDifferSpec : ChangeSpec := { name := "restDiffer", fn := fun _ => fun
  | [d1, d2] => { results := [.lit (.bool true)], args := [d1, d2] }
  | _ => none }
def restDifferRow : OpenClaim := { program := "ytnjgglnpmhjmiaa", sum := "d3cc844a2da5143ebaf1b0e5a99f59462704bc1ff3d4b281c84267f4052d7d5e", func := "zafra/zafralaw10.RestDiffer", spec := "restDiffer", unfollowed := true, recurses := true, plainKeys := false, apart := false }
def RestDifferSaid : Prop := restDifferRow.holds Try.pinned (OpenSpec.ofChange restDifferSpec)

/-- ITS FALSE NEIGHBOUR: 'it returns false'. Refute it at one input. -/
def restDifferWrong : ChangeSpec := { name := "restDiffer", fn := fun _ => fun
  | [d1, d2] => { results := [.lit (.bool false)], args := [d1, d2] }
  | _ => none }
def RestDifferWrongFalsely : Prop := restDifferRow.holds Try.pinned (OpenSpec.ofChange restDifferWrong)

/-- 'zafralaw10.RestNumbers': WHATEVER THE INPUT: true; the input reads as it did. -/
def restNumbersSpec : ChangeSpec := { name := "restNumbers", fn := fun _ => fun
  | [d1, d2, d3] => { results := [.lit (.bool true)], args := [d1, d2, d3] }
  | _ => none }
def restNumbersRow : OpenClaim := { program := "ytnjgglnpmhjmiaa", sum := "d3cc844a2da5143ebaf1b0e5a99f59462704bc1ff3d4b281c84267f4052d7d5e", func := "zafra/zafralaw10.RestNumbers", spec := "restNumbers", unfollowed := true, recurses := true, plainKeys := false, apart := false }
def RestNumbersSaid : Prop := restNumbersRow.holds Try.pinned (OpenSpec.ofChange restNumbersSpec)

/-- ITS FALSE NEIGHBOUR: 'it returns false'. Refute it at one input. -/
def restNumbersWrong : ChangeSpec := { name := "restNumbers", fn := fun _ => fun
  | [d1, d2, d3] => { results := [.lit (.bool false)], args := [d1, d2, d3] }
  | _ => none }
def RestNumbersWrongFalsely : Prop := restNumbersRow.holds Try.pinned (OpenSpec.ofChange restNumbersWrong)

/-- 'zafralaw10.RestBoth': WHATEVER THE INPUT: true; the input reads as it did. -/
def restBothSpec : ChangeSpec := { name := "restBoth", fn := fun _ => fun
  | [d1, d2] => { results := [.lit (.bool true)], args := [d1, d2] }
  | _ => none }
def restBothRow : OpenClaim := { program := "ytnjgglnpmhjmiaa", sum := "d3cc844a2da5143ebaf1b0e5a99f59462704bc1ff3d4b281c84267f4052d7d5e", func := "zafra/zafralaw10.RestBoth", spec := "restBoth", unfollowed := true, recurses := true, plainKeys := false, apart := false }
def RestBothSaid : Prop := restBothRow.holds Try.pinned (OpenSpec.ofChange restBothSpec)

/-- ITS FALSE NEIGHBOUR: 'it returns false'. Refute it at one input. -/
def restBothWrong : ChangeSpec := { name := "restBoth", fn := fun _ => fun
  | [d1, d2] => { results := [.lit (.bool false)], args := [d1, d2] }
  | _ => none }
def RestBothWrongFalsely : Prop := restBothRow.holds Try.pinned (OpenSpec.ofChange restBothWrong)

/- THE SECOND FORM. 'bulk': how many values and letters a reading holds, each counted each time it is reached (what is shared counts as often as it is met; a slice's spare places count too). A statement '..UptoSaid' is the law's where the arguments, and the package variables that the reading takes, are together of bulk at most 1048576: NARROWER than '..Said'. Prove '..Said' where nothing that the law and all that it calls make is longer than what came in: it says more and counts as full. Else prove '..UptoSaid'. A law counts once. -/
mutual
def uptoBulk {H : Type} : DataW H → Nat
  | .lit (.string bytes) => bytes.length + 1
  | .lit _ => 1
  | .nil => 1
  | .ptr d => uptoBulk d + 1
  | .slice elems spare => uptoBulkAll elems + uptoBulkAll spare + 1
  | .agg parts => uptoBulkAll parts + 1
  | .iface _ d => uptoBulk d + 1
  | .map entries => uptoBulkEntries entries + 1
  | .held _ => 1
def uptoBulkAll {H : Type} : List (DataW H) → Nat
  | [] => 0
  | d :: r => uptoBulk d + uptoBulkAll r
def uptoBulkEntries {H : Type} : List (Lit × DataW H) → Nat
  | [] => 0
  | x :: r => uptoBulkEntry x + uptoBulkEntries r
def uptoBulkEntry {H : Type} : Lit × DataW H → Nat
  | (.string bytes, d) => bytes.length + uptoBulk d + 1
  | (_, d) => uptoBulk d + 1
 end
def uptoSmall : (H : Type) → List (DataW H) → Bool := fun _ ds => decide (uptoBulkAll ds ≤ 1048576)
def OpenSpec.upto (s : _root_.Go.ChangeSpec) : _root_.Go.OpenSpec := { _root_.Go.OpenSpec.ofChange s with cond := some uptoSmall }

/-- 'zafralaw10.RestMade', WHERE WHAT IT READS IS OF BULK AT MOST 1048576: true; the input reads as it did. -/
def restMadeUptoRow : OpenClaim := { program := "ytnjgglnpmhjmiaa", sum := "d3cc844a2da5143ebaf1b0e5a99f59462704bc1ff3d4b281c84267f4052d7d5e", func := "zafra/zafralaw10.RestMade", spec := "restMade", unfollowed := true, recurses := true, plainKeys := false, apart := false, narrowed := true }
def RestMadeUptoSaid : Prop := restMadeUptoRow.holds Try.pinned (OpenSpec.upto restMadeSpec)

/-- 'zafralaw10.RestAsked', WHERE WHAT IT READS IS OF BULK AT MOST 1048576: true; the input reads as it did. -/
def restAskedUptoRow : OpenClaim := { program := "ytnjgglnpmhjmiaa", sum := "d3cc844a2da5143ebaf1b0e5a99f59462704bc1ff3d4b281c84267f4052d7d5e", func := "zafra/zafralaw10.RestAsked", spec := "restAsked", unfollowed := true, recurses := true, plainKeys := false, apart := false, narrowed := true }
def RestAskedUptoSaid : Prop := restAskedUptoRow.holds Try.pinned (OpenSpec.upto restAskedSpec)

/-- 'zafralaw10.RestTold', WHERE WHAT IT READS IS OF BULK AT MOST 1048576: true; the input reads as it did. -/
def restToldUptoRow : OpenClaim := { program := "ytnjgglnpmhjmiaa", sum := "d3cc844a2da5143ebaf1b0e5a99f59462704bc1ff3d4b281c84267f4052d7d5e", func := "zafra/zafralaw10.RestTold", spec := "restTold", unfollowed := true, recurses := true, plainKeys := false, apart := false, narrowed := true }
def RestToldUptoSaid : Prop := restToldUptoRow.holds Try.pinned (OpenSpec.upto restToldSpec)

/-- 'zafralaw10.RestRules', WHERE WHAT IT READS IS OF BULK AT MOST 1048576: true; the input reads as it did. -/
def restRulesUptoRow : OpenClaim := { program := "ytnjgglnpmhjmiaa", sum := "d3cc844a2da5143ebaf1b0e5a99f59462704bc1ff3d4b281c84267f4052d7d5e", func := "zafra/zafralaw10.RestRules", spec := "restRules", unfollowed := true, recurses := true, plainKeys := false, apart := false, narrowed := true }
def RestRulesUptoSaid : Prop := restRulesUptoRow.holds Try.pinned (OpenSpec.upto restRulesSpec)

/-- 'zafralaw10.RestJoined', WHERE WHAT IT READS IS OF BULK AT MOST 1048576: true; the input reads as it did. -/
def restJoinedUptoRow : OpenClaim := { program := "ytnjgglnpmhjmiaa", sum := "d3cc844a2da5143ebaf1b0e5a99f59462704bc1ff3d4b281c84267f4052d7d5e", func := "zafra/zafralaw10.RestJoined", spec := "restJoined", unfollowed := true, recurses := true, plainKeys := false, apart := false, narrowed := true }
def RestJoinedUptoSaid : Prop := restJoinedUptoRow.holds Try.pinned (OpenSpec.upto restJoinedSpec)

/-- 'zafralaw10.RestCounts', WHERE WHAT IT READS IS OF BULK AT MOST 1048576: true; the input reads as it did. -/
def restCountsUptoRow : OpenClaim := { program := "ytnjgglnpmhjmiaa", sum := "d3cc844a2da5143ebaf1b0e5a99f59462704bc1ff3d4b281c84267f4052d7d5e", func := "zafra/zafralaw10.RestCounts", spec := "restCounts", unfollowed := true, recurses := true, plainKeys := false, apart := false, narrowed := true }
def RestCountsUptoSaid : Prop := restCountsUptoRow.holds Try.pinned (OpenSpec.upto restCountsSpec)

/-- 'zafralaw10.RestTables', WHERE WHAT IT READS IS OF BULK AT MOST 1048576: true; the input reads as it did. -/
def restTablesUptoRow : OpenClaim := { program := "ytnjgglnpmhjmiaa", sum := "d3cc844a2da5143ebaf1b0e5a99f59462704bc1ff3d4b281c84267f4052d7d5e", func := "zafra/zafralaw10.RestTables", spec := "restTables", unfollowed := true, recurses := true, plainKeys := false, apart := false, narrowed := true }
def RestTablesUptoSaid : Prop := restTablesUptoRow.holds Try.pinned (OpenSpec.upto restTablesSpec)

/-- 'zafralaw10.RestLeast', WHERE WHAT IT READS IS OF BULK AT MOST 1048576: true; the input reads as it did. -/
def restLeastUptoRow : OpenClaim := { program := "ytnjgglnpmhjmiaa", sum := "d3cc844a2da5143ebaf1b0e5a99f59462704bc1ff3d4b281c84267f4052d7d5e", func := "zafra/zafralaw10.RestLeast", spec := "restLeast", unfollowed := true, recurses := true, plainKeys := false, apart := false, narrowed := true }
def RestLeastUptoSaid : Prop := restLeastUptoRow.holds Try.pinned (OpenSpec.upto restLeastSpec)

/-- 'zafralaw10.RestProved', WHERE WHAT IT READS IS OF BULK AT MOST 1048576: true; the input reads as it did. -/
def restProvedUptoRow : OpenClaim := { program := "ytnjgglnpmhjmiaa", sum := "d3cc844a2da5143ebaf1b0e5a99f59462704bc1ff3d4b281c84267f4052d7d5e", func := "zafra/zafralaw10.RestProved", spec := "restProved", unfollowed := true, recurses := true, plainKeys := false, apart := false, narrowed := true }
def RestProvedUptoSaid : Prop := restProvedUptoRow.holds Try.pinned (OpenSpec.upto restProvedSpec)

/-- 'zafralaw10.RestDiffer', WHERE WHAT IT READS IS OF BULK AT MOST 1048576: true; the input reads as it did. -/
def restDifferUptoRow : OpenClaim := { program := "ytnjgglnpmhjmiaa", sum := "d3cc844a2da5143ebaf1b0e5a99f59462704bc1ff3d4b281c84267f4052d7d5e", func := "zafra/zafralaw10.RestDiffer", spec := "restDiffer", unfollowed := true, recurses := true, plainKeys := false, apart := false, narrowed := true }
def RestDifferUptoSaid : Prop := restDifferUptoRow.holds Try.pinned (OpenSpec.upto restDifferSpec)

/-- 'zafralaw10.RestNumbers', WHERE WHAT IT READS IS OF BULK AT MOST 1048576: true; the input reads as it did. -/
def restNumbersUptoRow : OpenClaim := { program := "ytnjgglnpmhjmiaa", sum := "d3cc844a2da5143ebaf1b0e5a99f59462704bc1ff3d4b281c84267f4052d7d5e", func := "zafra/zafralaw10.RestNumbers", spec := "restNumbers", unfollowed := true, recurses := true, plainKeys := false, apart := false, narrowed := true }
def RestNumbersUptoSaid : Prop := restNumbersUptoRow.holds Try.pinned (OpenSpec.upto restNumbersSpec)

/-- 'zafralaw10.RestBoth', WHERE WHAT IT READS IS OF BULK AT MOST 1048576: true; the input reads as it did. -/
def restBothUptoRow : OpenClaim := { program := "ytnjgglnpmhjmiaa", sum := "d3cc844a2da5143ebaf1b0e5a99f59462704bc1ff3d4b281c84267f4052d7d5e", func := "zafra/zafralaw10.RestBoth", spec := "restBoth", unfollowed := true, recurses := true, plainKeys := false, apart := false, narrowed := true }
def RestBothUptoSaid : Prop := restBothUptoRow.holds Try.pinned (OpenSpec.upto restBothSpec)

end Rows
end Go.Proofs.Ytnjgglnpmhjmiaa
