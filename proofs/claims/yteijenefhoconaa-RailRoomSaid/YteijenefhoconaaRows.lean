/-
  No cell of these rows narrows 'for every input' (looked for: loops, veiled, ifaces, maps, wideKeys, modest, calm, conditions, laid).
  DERIVED. THE GIVEN ROWS OF THIS SEAT. 11 by the template 'for every input the law returns true; each argument reads behind the call as it read before'; 0 by the template 'total and deterministic' (their statements: YteijenefhoconaaTotals.lean).
  GIVEN WITH THE SEED: the statements are not yours to turn. If you find one false, say at which input.
  Laid BY PROGRAM, IN A SANDBOX (cutbox-rows.mjs): the forced cells as the released guide's own fill.sh prints them over the translation d423a69b545f3693… (all of the seat's roots in one cut). By AI agents, Wed Nov 11 2026. No macro, syntax, notation, axiom, sorry.
-/
import Derived.Test.YteijenefhoconaaChecked
import GoSem.Claim
import GoSem.ClaimJoined
import GoSem.ClaimMapViews
import Derived.JoinedTies
import Derived.KernelRfl
namespace Go.Proofs.Yteijenefhoconaa
/- THE CELL 'sum', in the pinned program and in every row, IS THE sha256 OF THE DUMP (.gsa) THAT YteijenefhoconaaProg.lean LOADS. Nothing in Lean hashes anything: it is a label: what it is worth is what the hold of that sum in a sandbox is worth. -/
noncomputable def Try.pinned : Pinned := { name := "yteijenefhoconaa", sum := "d423a69b545f369393d08d170c9e8ecbcdb672f5518d1452be17448bab564c29", checked := Try.checked }
namespace Rows
def none {H : Type} : Left H := { results := [], args := [] }

/-- 'zafralaw05.RailStates': WHATEVER THE INPUT: true; the input reads as it did. -/
def railStatesSpec : ChangeSpec := { name := "railStates", fn := fun _ => fun
  | [d1, d2] => { results := [.lit (.bool true)], args := [d1, d2] }
  | _ => none }
def railStatesRow : OpenClaim := { program := "yteijenefhoconaa", sum := "d423a69b545f369393d08d170c9e8ecbcdb672f5518d1452be17448bab564c29", func := "zafra/zafralaw05.RailStates", spec := "railStates", unfollowed := true, recurses := true, plainKeys := false, apart := false }
def RailStatesSaid : Prop := railStatesRow.holds Try.pinned (OpenSpec.ofChange railStatesSpec)

/-- ITS FALSE NEIGHBOUR: 'it returns false'. Refute it at one input. -/
def railStatesWrong : ChangeSpec := { name := "railStates", fn := fun _ => fun
  | [d1, d2] => { results := [.lit (.bool false)], args := [d1, d2] }
  | _ => none }
def RailStatesWrongFalsely : Prop := railStatesRow.holds Try.pinned (OpenSpec.ofChange railStatesWrong)

/-- 'zafralaw05.RailVerifies': WHATEVER THE INPUT: true; the input reads as it did. -/
def railVerifiesSpec : ChangeSpec := { name := "railVerifies", fn := fun _ => fun
  | [d1, d2, d3] => { results := [.lit (.bool true)], args := [d1, d2, d3] }
  | _ => none }
def railVerifiesRow : OpenClaim := { program := "yteijenefhoconaa", sum := "d423a69b545f369393d08d170c9e8ecbcdb672f5518d1452be17448bab564c29", func := "zafra/zafralaw05.RailVerifies", spec := "railVerifies", unfollowed := true, recurses := true, plainKeys := false, apart := false }
def RailVerifiesSaid : Prop := railVerifiesRow.holds Try.pinned (OpenSpec.ofChange railVerifiesSpec)

/-- ITS FALSE NEIGHBOUR: 'it returns false'. Refute it at one input. -/
def railVerifiesWrong : ChangeSpec := { name := "railVerifies", fn := fun _ => fun
  | [d1, d2, d3] => { results := [.lit (.bool false)], args := [d1, d2, d3] }
  | _ => none }
def RailVerifiesWrongFalsely : Prop := railVerifiesRow.holds Try.pinned (OpenSpec.ofChange railVerifiesWrong)

/-- 'zafralaw05.RailGoods': WHATEVER THE INPUT: true; the input reads as it did. -/
def railGoodsSpec : ChangeSpec := { name := "railGoods", fn := fun _ => fun
  | [d1, d2, d3] => { results := [.lit (.bool true)], args := [d1, d2, d3] }
  | _ => none }
def railGoodsRow : OpenClaim := { program := "yteijenefhoconaa", sum := "d423a69b545f369393d08d170c9e8ecbcdb672f5518d1452be17448bab564c29", func := "zafra/zafralaw05.RailGoods", spec := "railGoods", unfollowed := true, recurses := true, plainKeys := false, apart := false }
def RailGoodsSaid : Prop := railGoodsRow.holds Try.pinned (OpenSpec.ofChange railGoodsSpec)

/-- ITS FALSE NEIGHBOUR: 'it returns false'. Refute it at one input. -/
def railGoodsWrong : ChangeSpec := { name := "railGoods", fn := fun _ => fun
  | [d1, d2, d3] => { results := [.lit (.bool false)], args := [d1, d2, d3] }
  | _ => none }
def RailGoodsWrongFalsely : Prop := railGoodsRow.holds Try.pinned (OpenSpec.ofChange railGoodsWrong)

/-- 'zafralaw05.RailSafe': WHATEVER THE INPUT: true; the input reads as it did. -/
def railSafeSpec : ChangeSpec := { name := "railSafe", fn := fun _ => fun
  | [d] => { results := [.lit (.bool true)], args := [d] }
  | _ => none }
def railSafeRow : OpenClaim := { program := "yteijenefhoconaa", sum := "d423a69b545f369393d08d170c9e8ecbcdb672f5518d1452be17448bab564c29", func := "zafra/zafralaw05.RailSafe", spec := "railSafe", unfollowed := true, recurses := true, plainKeys := false, apart := false }
def RailSafeSaid : Prop := railSafeRow.holds Try.pinned (OpenSpec.ofChange railSafeSpec)

/-- ITS FALSE NEIGHBOUR: 'it returns false'. Refute it at one input. -/
def railSafeWrong : ChangeSpec := { name := "railSafe", fn := fun _ => fun
  | [d] => { results := [.lit (.bool false)], args := [d] }
  | _ => none }
def RailSafeWrongFalsely : Prop := railSafeRow.holds Try.pinned (OpenSpec.ofChange railSafeWrong)

/-- 'zafralaw05.RailNever': WHATEVER THE INPUT: true; the input reads as it did. -/
def railNeverSpec : ChangeSpec := { name := "railNever", fn := fun _ => fun
  | [d1, d2] => { results := [.lit (.bool true)], args := [d1, d2] }
  | _ => none }
def railNeverRow : OpenClaim := { program := "yteijenefhoconaa", sum := "d423a69b545f369393d08d170c9e8ecbcdb672f5518d1452be17448bab564c29", func := "zafra/zafralaw05.RailNever", spec := "railNever", unfollowed := true, recurses := true, plainKeys := false, apart := false }
def RailNeverSaid : Prop := railNeverRow.holds Try.pinned (OpenSpec.ofChange railNeverSpec)

/-- ITS FALSE NEIGHBOUR: 'it returns false'. Refute it at one input. -/
def railNeverWrong : ChangeSpec := { name := "railNever", fn := fun _ => fun
  | [d1, d2] => { results := [.lit (.bool false)], args := [d1, d2] }
  | _ => none }
def RailNeverWrongFalsely : Prop := railNeverRow.holds Try.pinned (OpenSpec.ofChange railNeverWrong)

/-- 'zafralaw05.RailAsked': WHATEVER THE INPUT: true; the input reads as it did. -/
def railAskedSpec : ChangeSpec := { name := "railAsked", fn := fun _ => fun
  | [d1, d2] => { results := [.lit (.bool true)], args := [d1, d2] }
  | _ => none }
def railAskedRow : OpenClaim := { program := "yteijenefhoconaa", sum := "d423a69b545f369393d08d170c9e8ecbcdb672f5518d1452be17448bab564c29", func := "zafra/zafralaw05.RailAsked", spec := "railAsked", unfollowed := true, recurses := true, plainKeys := false, apart := false }
def RailAskedSaid : Prop := railAskedRow.holds Try.pinned (OpenSpec.ofChange railAskedSpec)

/-- ITS FALSE NEIGHBOUR: 'it returns false'. Refute it at one input. -/
def railAskedWrong : ChangeSpec := { name := "railAsked", fn := fun _ => fun
  | [d1, d2] => { results := [.lit (.bool false)], args := [d1, d2] }
  | _ => none }
def RailAskedWrongFalsely : Prop := railAskedRow.holds Try.pinned (OpenSpec.ofChange railAskedWrong)

/-- 'zafralaw05.RailRoom': WHATEVER THE INPUT: true; the input reads as it did. -/
def railRoomSpec : ChangeSpec := { name := "railRoom", fn := fun _ => fun
  | [d1, d2, d3] => { results := [.lit (.bool true)], args := [d1, d2, d3] }
  | _ => none }
def railRoomRow : OpenClaim := { program := "yteijenefhoconaa", sum := "d423a69b545f369393d08d170c9e8ecbcdb672f5518d1452be17448bab564c29", func := "zafra/zafralaw05.RailRoom", spec := "railRoom", unfollowed := true, recurses := true, plainKeys := false, apart := false }
def RailRoomSaid : Prop := railRoomRow.holds Try.pinned (OpenSpec.ofChange railRoomSpec)

/-- ITS FALSE NEIGHBOUR: 'it returns false'. Refute it at one input. -/
def railRoomWrong : ChangeSpec := { name := "railRoom", fn := fun _ => fun
  | [d1, d2, d3] => { results := [.lit (.bool false)], args := [d1, d2, d3] }
  | _ => none }
def RailRoomWrongFalsely : Prop := railRoomRow.holds Try.pinned (OpenSpec.ofChange railRoomWrong)

/-- 'zafralaw05.RailOneWay': WHATEVER THE INPUT: true; the input reads as it did. -/
def railOneWaySpec : ChangeSpec := { name := "railOneWay", fn := fun _ => fun
  | [d1, d2] => { results := [.lit (.bool true)], args := [d1, d2] }
  | _ => none }
def railOneWayRow : OpenClaim := { program := "yteijenefhoconaa", sum := "d423a69b545f369393d08d170c9e8ecbcdb672f5518d1452be17448bab564c29", func := "zafra/zafralaw05.RailOneWay", spec := "railOneWay", unfollowed := true, recurses := true, plainKeys := false, apart := false }
def RailOneWaySaid : Prop := railOneWayRow.holds Try.pinned (OpenSpec.ofChange railOneWaySpec)

/-- ITS FALSE NEIGHBOUR: 'it returns false'. Refute it at one input. -/
def railOneWayWrong : ChangeSpec := { name := "railOneWay", fn := fun _ => fun
  | [d1, d2] => { results := [.lit (.bool false)], args := [d1, d2] }
  | _ => none }
def RailOneWayWrongFalsely : Prop := railOneWayRow.holds Try.pinned (OpenSpec.ofChange railOneWayWrong)

/-- 'zafralaw05.RailTurned': WHATEVER THE INPUT: true; the input reads as it did. -/
def railTurnedSpec : ChangeSpec := { name := "railTurned", fn := fun _ => fun
  | [d1, d2] => { results := [.lit (.bool true)], args := [d1, d2] }
  | _ => none }
def railTurnedRow : OpenClaim := { program := "yteijenefhoconaa", sum := "d423a69b545f369393d08d170c9e8ecbcdb672f5518d1452be17448bab564c29", func := "zafra/zafralaw05.RailTurned", spec := "railTurned", unfollowed := true, recurses := true, plainKeys := false, apart := false }
def RailTurnedSaid : Prop := railTurnedRow.holds Try.pinned (OpenSpec.ofChange railTurnedSpec)

/-- ITS FALSE NEIGHBOUR: 'it returns false'. Refute it at one input. -/
def railTurnedWrong : ChangeSpec := { name := "railTurned", fn := fun _ => fun
  | [d1, d2] => { results := [.lit (.bool false)], args := [d1, d2] }
  | _ => none }
def RailTurnedWrongFalsely : Prop := railTurnedRow.holds Try.pinned (OpenSpec.ofChange railTurnedWrong)

/-- 'zafralaw05.RailKnown': WHATEVER THE INPUT: true; the input reads as it did. -/
def railKnownSpec : ChangeSpec := { name := "railKnown", fn := fun _ => fun
  | [] => { results := [.lit (.bool true)], args := [] }
  | _ => none }
def railKnownRow : OpenClaim := { program := "yteijenefhoconaa", sum := "d423a69b545f369393d08d170c9e8ecbcdb672f5518d1452be17448bab564c29", func := "zafra/zafralaw05.RailKnown", spec := "railKnown", unfollowed := true, recurses := true, plainKeys := false, apart := false }
def RailKnownSaid : Prop := railKnownRow.holds Try.pinned (OpenSpec.ofChange railKnownSpec)

/-- ITS FALSE NEIGHBOUR: 'it returns false'. Refute it at one input. -/
def railKnownWrong : ChangeSpec := { name := "railKnown", fn := fun _ => fun
  | [] => { results := [.lit (.bool false)], args := [] }
  | _ => none }
def RailKnownWrongFalsely : Prop := railKnownRow.holds Try.pinned (OpenSpec.ofChange railKnownWrong)

/-- 'zafralaw05.RailMoves': WHATEVER THE INPUT: true; the input reads as it did. -/
def railMovesSpec : ChangeSpec := { name := "railMoves", fn := fun _ => fun
  | [d1, d2, d3] => { results := [.lit (.bool true)], args := [d1, d2, d3] }
  | _ => none }
def railMovesRow : OpenClaim := { program := "yteijenefhoconaa", sum := "d423a69b545f369393d08d170c9e8ecbcdb672f5518d1452be17448bab564c29", func := "zafra/zafralaw05.RailMoves", spec := "railMoves", unfollowed := true, recurses := true, plainKeys := false, apart := false }
def RailMovesSaid : Prop := railMovesRow.holds Try.pinned (OpenSpec.ofChange railMovesSpec)

/-- ITS FALSE NEIGHBOUR: 'it returns false'. Refute it at one input. -/
def railMovesWrong : ChangeSpec := { name := "railMoves", fn := fun _ => fun
  | [d1, d2, d3] => { results := [.lit (.bool false)], args := [d1, d2, d3] }
  | _ => none }
def RailMovesWrongFalsely : Prop := railMovesRow.holds Try.pinned (OpenSpec.ofChange railMovesWrong)

/- THE SECOND FORM. 'bulk': how many values and letters a reading holds, each counted each time it is reached (what is shared counts as often as it is met; a slice's spare places count too). A statement '..UptoSaid' is the law's where the arguments, and the package variables that the reading takes, are together of bulk at most 1048576: NARROWER than '..Said'. Prove '..Said' where nothing that the law and all that it calls make is longer than what came in: it says more and counts as full. Else prove '..UptoSaid'. A law counts once. -/
mutual
def uptoBulk {H : Type} : DataW H → Nat
  | .lit (.string bytes) => bytes.length + 1
  | .lit _ => 1
  | .nil => 1
  | .ptr d => uptoBulk d + 1
  | .slice elems spare => uptoBulkAll elems + uptoBulkAll spare + 1
  | .agg parts => uptoBulkAll parts + 1
  | .iface _ d => uptoBulk d + 1
  | .map entries => uptoBulkEntries entries + 1
  | .held _ => 1
def uptoBulkAll {H : Type} : List (DataW H) → Nat
  | [] => 0
  | d :: r => uptoBulk d + uptoBulkAll r
def uptoBulkEntries {H : Type} : List (Lit × DataW H) → Nat
  | [] => 0
  | x :: r => uptoBulkEntry x + uptoBulkEntries r
def uptoBulkEntry {H : Type} : Lit × DataW H → Nat
  | (.string bytes, d) => bytes.length + uptoBulk d + 1
  | (_, d) => uptoBulk d + 1
 end
def uptoSmall : (H : Type) → List (DataW H) → Bool := fun _ ds => decide (uptoBulkAll ds ≤ 1048576)
def OpenSpec.upto (s : _root_.Go.ChangeSpec) : _root_.Go.OpenSpec := { _root_.Go.OpenSpec.ofChange s with cond := some uptoSmall }

/-- 'zafralaw05.RailStates', WHERE WHAT IT READS IS OF BULK AT MOST 1048576: true; the input reads as it did. -/
def railStatesUptoRow : OpenClaim := { program := "yteijenefhoconaa", sum := "d423a69b545f369393d08d170c9e8ecbcdb672f5518d1452be17448bab564c29", func := "zafra/zafralaw05.RailStates", spec := "railStates", unfollowed := true, recurses := true, plainKeys := false, apart := false, narrowed := true }
def RailStatesUptoSaid : Prop := railStatesUptoRow.holds Try.pinned (OpenSpec.upto railStatesSpec)

/-- 'zafralaw05.RailVerifies', WHERE WHAT IT READS IS OF BULK AT MOST 1048576: true; the input reads as it did. -/
def railVerifiesUptoRow : OpenClaim := { program := "yteijenefhoconaa", sum := "d423a69b545f369393d08d170c9e8ecbcdb672f5518d1452be17448bab564c29", func := "zafra/zafralaw05.RailVerifies", spec := "railVerifies", unfollowed := true, recurses := true, plainKeys := false, apart := false, narrowed := true }
def RailVerifiesUptoSaid : Prop := railVerifiesUptoRow.holds Try.pinned (OpenSpec.upto railVerifiesSpec)

/-- 'zafralaw05.RailGoods', WHERE WHAT IT READS IS OF BULK AT MOST 1048576: true; the input reads as it did. -/
def railGoodsUptoRow : OpenClaim := { program := "yteijenefhoconaa", sum := "d423a69b545f369393d08d170c9e8ecbcdb672f5518d1452be17448bab564c29", func := "zafra/zafralaw05.RailGoods", spec := "railGoods", unfollowed := true, recurses := true, plainKeys := false, apart := false, narrowed := true }
def RailGoodsUptoSaid : Prop := railGoodsUptoRow.holds Try.pinned (OpenSpec.upto railGoodsSpec)

/-- 'zafralaw05.RailSafe', WHERE WHAT IT READS IS OF BULK AT MOST 1048576: true; the input reads as it did. -/
def railSafeUptoRow : OpenClaim := { program := "yteijenefhoconaa", sum := "d423a69b545f369393d08d170c9e8ecbcdb672f5518d1452be17448bab564c29", func := "zafra/zafralaw05.RailSafe", spec := "railSafe", unfollowed := true, recurses := true, plainKeys := false, apart := false, narrowed := true }
def RailSafeUptoSaid : Prop := railSafeUptoRow.holds Try.pinned (OpenSpec.upto railSafeSpec)

/-- 'zafralaw05.RailNever', WHERE WHAT IT READS IS OF BULK AT MOST 1048576: true; the input reads as it did. -/
def railNeverUptoRow : OpenClaim := { program := "yteijenefhoconaa", sum := "d423a69b545f369393d08d170c9e8ecbcdb672f5518d1452be17448bab564c29", func := "zafra/zafralaw05.RailNever", spec := "railNever", unfollowed := true, recurses := true, plainKeys := false, apart := false, narrowed := true }
def RailNeverUptoSaid : Prop := railNeverUptoRow.holds Try.pinned (OpenSpec.upto railNeverSpec)

/-- 'zafralaw05.RailAsked', WHERE WHAT IT READS IS OF BULK AT MOST 1048576: true; the input reads as it did. -/
def railAskedUptoRow : OpenClaim := { program := "yteijenefhoconaa", sum := "d423a69b545f369393d08d170c9e8ecbcdb672f5518d1452be17448bab564c29", func := "zafra/zafralaw05.RailAsked", spec := "railAsked", unfollowed := true, recurses := true, plainKeys := false, apart := false, narrowed := true }
def RailAskedUptoSaid : Prop := railAskedUptoRow.holds Try.pinned (OpenSpec.upto railAskedSpec)

/-- 'zafralaw05.RailRoom', WHERE WHAT IT READS IS OF BULK AT MOST 1048576: true; the input reads as it did. -/
def railRoomUptoRow : OpenClaim := { program := "yteijenefhoconaa", sum := "d423a69b545f369393d08d170c9e8ecbcdb672f5518d1452be17448bab564c29", func := "zafra/zafralaw05.RailRoom", spec := "railRoom", unfollowed := true, recurses := true, plainKeys := false, apart := false, narrowed := true }
def RailRoomUptoSaid : Prop := railRoomUptoRow.holds Try.pinned (OpenSpec.upto railRoomSpec)

/-- 'zafralaw05.RailOneWay', WHERE WHAT IT READS IS OF BULK AT MOST 1048576: true; the input reads as it did. -/
def railOneWayUptoRow : OpenClaim := { program := "yteijenefhoconaa", sum := "d423a69b545f369393d08d170c9e8ecbcdb672f5518d1452be17448bab564c29", func := "zafra/zafralaw05.RailOneWay", spec := "railOneWay", unfollowed := true, recurses := true, plainKeys := false, apart := false, narrowed := true }
def RailOneWayUptoSaid : Prop := railOneWayUptoRow.holds Try.pinned (OpenSpec.upto railOneWaySpec)

/-- 'zafralaw05.RailTurned', WHERE WHAT IT READS IS OF BULK AT MOST 1048576: true; the input reads as it did. -/
def railTurnedUptoRow : OpenClaim := { program := "yteijenefhoconaa", sum := "d423a69b545f369393d08d170c9e8ecbcdb672f5518d1452be17448bab564c29", func := "zafra/zafralaw05.RailTurned", spec := "railTurned", unfollowed := true, recurses := true, plainKeys := false, apart := false, narrowed := true }
def RailTurnedUptoSaid : Prop := railTurnedUptoRow.holds Try.pinned (OpenSpec.upto railTurnedSpec)

/-- 'zafralaw05.RailKnown', WHERE WHAT IT READS IS OF BULK AT MOST 1048576: true; the input reads as it did. -/
def railKnownUptoRow : OpenClaim := { program := "yteijenefhoconaa", sum := "d423a69b545f369393d08d170c9e8ecbcdb672f5518d1452be17448bab564c29", func := "zafra/zafralaw05.RailKnown", spec := "railKnown", unfollowed := true, recurses := true, plainKeys := false, apart := false, narrowed := true }
def RailKnownUptoSaid : Prop := railKnownUptoRow.holds Try.pinned (OpenSpec.upto railKnownSpec)

/-- 'zafralaw05.RailMoves', WHERE WHAT IT READS IS OF BULK AT MOST 1048576: true; the input reads as it did. -/
def railMovesUptoRow : OpenClaim := { program := "yteijenefhoconaa", sum := "d423a69b545f369393d08d170c9e8ecbcdb672f5518d1452be17448bab564c29", func := "zafra/zafralaw05.RailMoves", spec := "railMoves", unfollowed := true, recurses := true, plainKeys := false, apart := false, narrowed := true }
def RailMovesUptoSaid : Prop := railMovesUptoRow.holds Try.pinned (OpenSpec.upto railMovesSpec)

end Rows
end Go.Proofs.Yteijenefhoconaa
