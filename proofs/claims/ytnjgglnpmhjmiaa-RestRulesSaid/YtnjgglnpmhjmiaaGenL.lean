/- Generic: what the walks lean on, over whatever program. -/
import Derived.RangeFuncNested
import Derived.RangeFuncBound
import Derived.RangeFuncCalls
import Derived.RangeFuncLeaves
import Derived.RangeFuncWrites
import Derived.Shelf.Abstract
import Derived.WalkKit
import Derived.Deep.QuietTactic
import Derived.BigQuiet
import Derived.TacticsInMore
import Derived.Maps.Keyed
import Derived.StillTailTactics
import Derived.Deep.RegionLaw
import Derived.StillTail
import Derived.OrdersIn
import Derived.OrdersHeld
import Derived.WideKeyArr
import Derived.Maps.AppendAt
import Derived.Deep.AppendLies
import Derived.RegionTactic
import Derived.OwnWalk
import Derived.Below
import Derived.Laws.OwnMore
import Derived.Deep.Draws
import Derived.ChangeSame
import Derived.ProofKit
import Derived.OpenShut
import Derived.Outline
import Derived.WalkLawsBesides
import Derived.WalkSpells
import Derived.Lib.Hide
import Derived.Handy
import Derived.Deep.LoopGhost
import Derived.LoopNIn
import Derived.LoopIn
import Derived.OwnWalkIn
import Derived.Lib.SmallJoins
import Derived.Laws.StructEq
import Derived.Deep.SlicePairs
import Derived.Deep.RegionHeld3
import Derived.SizedLaws
import Derived.Carry
import Derived.ChangeSlices
/- A range over a function, with rounds that may panic: what an iterator promises, and the law for the statement. Over whatever program. -/
namespace Go
namespace YtnjgglnpmhjmiaaIt
open Go.RowKit

/-- The wide fence, in a round or not. -/
def fw (r : Option Nat) : Fence := { Fence.wide with round := r }
@[go_sem, simp] theorem fw_round (r : Option Nat) : (fw r).round = r := rfl
@[go_sem, simp] theorem fw_fn (r : Option Nat) (f : FuncId) : (fw r).fn f = True := rfl
@[go_sem, simp] theorem fw_depth (r : Option Nat) : (fw r).depth = none := rfl
theorem room_fw (r : Option Nat) (n : Nat) : (fw r).room n := fun _ h => by simp [fw, Fence.wide] at h

section
variable {P : Program}

theorem callsFw {r : Option Nat} {n : Nat} {f : FuncId} {args : Array Value} {w : World} {R : Ending → World → Prop} : CallsIn (fw r) n P f args w R ↔ Calls P f args w R := callsIn_wide (n := n)

/-- A walk in frames of functions of which V holds. -/
def wpV (V : FuncId → Prop) (r : Option Nat) (P : Program) (c : Code) (Q : Exit → Act → World → Prop) (a : Act) (w : World) : Prop :=
  ∀ (b : Frame) (k : List Item) (cs : List Frame), b.roundOf = r → V b.fn →
    ∃ e a' w', Q e a' w' ∧ ArrivesIn (Machine.fenced P Fence.wide) P (lone (b.atR a (.code c :: k)) cs w) b k cs e a' w'

variable {V : FuncId → Prop} {r : Option Nat} {Q : Exit → Act → World → Prop} {a : Act} {w : World}

theorem wpV_of {c : Code} {n : Nat} (h : c.wpIn (fw r) n P Q a w) : wpV V r P c Q a w :=
  fun b k cs hb _ => h b k cs hb trivial (room_fw _ _)
theorem wpV_all {c : Code} {n : Nat} (h : wpV (fun _ => True) r P c Q a w) : c.wpIn (fw r) n P Q a w :=
  fun b k cs hb _ _ => h b k cs hb trivial
theorem wpV_mono {c : Code} {Q' : Exit → Act → World → Prop} (h : wpV V r P c Q a w) (hq : ∀ e a w, Q e a w → Q' e a w) : wpV V r P c Q' a w :=
  fun b k cs hb hv => let ⟨e, a', w', q, x⟩ := h b k cs hb hv; ⟨e, a', w', hq _ _ _ q, x⟩

theorem calm0 {m : Machine} : m.fenced P Fence.wide := fenced_wide P m

/-! ### Rounds -/

/-- What is asked at a round's end; a panic passes. -/
def roundPostP (P : Program) (l : Nat) (R : Ending → World → Prop) : Exit → Act → World → Prop
  | .normal, _, w => ∃ v w', (Instr.endRound l none).run P w = .ok v w' ∧ R (.returned v) w'
  | .ret, _, w => ∃ v w', (Instr.endRound l (some .ret)).run P w = .ok v w' ∧ R (.returned v) w'
  | .exit id, _, w => ∃ v w', (Instr.endRound l (some (.exit id))).run P w = .ok v w' ∧ R (.returned v) w'
  | .goto t, _, w => ∃ v w', (Instr.endRound l (some (.goto t))).run P w = .ok v w' ∧ R (.returned v) w'
  | .panic ch, a, w => a.defers = [] ∧ R (.panicked ch) w
  | .outgrown, _, _ => False

theorem roundIn_V {l : Nat} {f : FuncId} {tmps : Array Value} {assign body : Code} {w : World} {R : Ending → World → Prop} (hV : V f)
    (hval : (∃ ch w, R (.panicked ch) w) → (P.funcs[f]?).isSome = true)
    (h : wpV V (some l) P assign (Exit.then (fun a₁ w₁ => ∃ w₂, (Instr.beginRound l).run P w₁ = .ok () w₂ ∧ wpV V (some l) P body (roundPostP P l R) a₁ w₂) (fun _ _ _ => False)) { tmps := tmps, defers := [] } w) :
    RoundIn Fence.wide 0 P l f tmps assign body w R := by
  refine ⟨trivial, fun c cs _ => ?_⟩
  let b : Frame := { (default : Frame) with fn := f, kind := .normal, roundOf := some l }
  have hb0 : Frame.round l f tmps assign body .normal = b.atR { tmps := tmps, defers := [] } [.code assign, .beginRound, .code body] := by
    simp [Frame.round, Frame.atR, b]
  obtain ⟨e, a₁, w₁, hq, harr⟩ := h b [.beginRound, .code body] (c :: cs) rfl hV
  rw [← hb0] at harr
  cases e with
  | normal =>
    obtain ⟨w₂, hbr, hbody⟩ := hq
    have s1 : StepsIn (Machine.fenced P Fence.wide) P (lone (b.atR a₁ [.beginRound, .code body]) (c :: cs) w₁) (lone (b.atR a₁ [.code body]) (c :: cs) w₂) :=
      .one calm0 (stepR_beginRound rfl hbr)
    obtain ⟨e₂, a₂, w₃, hq₂, harr₂⟩ := hbody b [] (c :: cs) rfl hV
    cases e₂ with
    | normal =>
      obtain ⟨v, w₄, hend, hR⟩ := hq₂
      exact ⟨.returned v, w₄, hR, (StepsIn.trans harr s1).trans (StepsIn.trans harr₂ (.one calm0 (stepR_round_end rfl rfl hend)))⟩
    | ret =>
      obtain ⟨v, w₄, hend, hR⟩ := hq₂
      obtain ⟨k₁, hs⟩ := harr₂.2 rfl
      exact ⟨.returned v, w₄, hR, (StepsIn.trans harr s1).trans (StepsIn.trans hs (.one calm0 (stepR_round_ret rfl rfl hend)))⟩
    | exit id =>
      obtain ⟨v, w₄, hend, hR⟩ := hq₂
      obtain ⟨k₁, hk, hs⟩ := harr₂.2 rfl rfl
      exact ⟨.returned v, w₄, hR, (StepsIn.trans harr s1).trans (StepsIn.trans hs (.one calm0 (stepR_round_exit rfl rfl hk hend)))⟩
    | goto t =>
      obtain ⟨v, w₄, hend, hR⟩ := hq₂
      obtain ⟨k₁, hk, hs⟩ := harr₂.2 rfl rfl
      exact ⟨.returned v, w₄, hR, (StepsIn.trans harr s1).trans (StepsIn.trans hs (.one calm0 (stepR_round_goto rfl rfl hk hend)))⟩
    | panic chain =>
      obtain ⟨hd, hR⟩ := hq₂
      obtain ⟨todo, hs⟩ := harr₂
      obtain ⟨fn, hfn⟩ := Option.isSome_iff_exists.1 (hval ⟨_, _, hR⟩)
      have hl : Frame.leaving P ({ b.atR a₂ todo with mode := .panicking chain } : Frame) w₃ (.panicked chain) := ⟨rfl, hd, fn, hfn⟩
      exact ⟨.panicked chain, w₃, hR, (StepsIn.trans harr s1).trans (StepsIn.trans hs (.one calm0 (step_leave_panicked hl)))⟩
    | outgrown => exact hq₂.elim
  | exit id => exact hq.elim
  | goto t => exact hq.elim
  | ret => exact hq.elim
  | panic chain => exact hq.elim
  | outgrown => exact hq.elim

/-! ### What an iterator may turn between two rounds -/

/-- New blocks; of what lay, only blocks that hold no cells, from B on. -/
structure Gr (B : Nat) (W W' : World) : Prop where
  os : W'.os = W.os
  tape : W'.tape = W.tape
  output : W'.output = W.output
  size : W.heap.size ≤ W'.heap.size
  block : ∀ k, k < W.heap.size → (k < B ∨ ∃ o, W.heap[k]? = some o ∧ o.isCells = true) → W'.heap[k]? = W.heap[k]?

theorem Gr.refl (B : Nat) (W : World) : Gr B W W := ⟨rfl, rfl, rfl, Nat.le_refl _, fun _ _ _ => rfl⟩
theorem Gr.trans {B : Nat} {X Y Z : World} (h : Gr B X Y) (k : Gr B Y Z) : Gr B X Z :=
  ⟨k.os.trans h.os, k.tape.trans h.tape, k.output.trans h.output, Nat.le_trans h.size k.size, fun i hi hc => by
    have h1 := h.block i hi hc
    refine (k.block i (Nat.lt_of_lt_of_le hi h.size) ?_).trans h1
    rcases hc with hc | ⟨o, ho, hcc⟩
    · exact .inl hc
    · exact .inr ⟨o, h1.trans ho, hcc⟩⟩
theorem Gr.mono {B B' : Nat} {X Y : World} (h : Gr B' X Y) (hB : B ≤ B') : Gr B X Y :=
  ⟨h.os, h.tape, h.output, h.size, fun k hk hc => h.block k hk (hc.imp (fun x => Nat.lt_of_lt_of_le x hB) id)⟩
theorem Gr.below {B : Nat} {X Y : World} (h : Below X.heap.size X Y) : Gr B X Y := ⟨h.os, h.tape, h.output, h.size, fun k hk _ => h.block k hk⟩
theorem Gr.alloc (B : Nat) (X : World) (o : Obj) : Gr B X (X.alloc o) := Gr.below ((Below.refl _ X).alloc (Nat.le_refl _) o)
theorem Gr.putObj {B : Nat} {X : World} {l : Nat} {o : Obj} (o' : Obj) (hB : B ≤ l) (h : X.heap[l]? = some o) (hc : o.isCells = false) : Gr B X (X.putObj l o') :=
  ⟨rfl, rfl, rfl, by simp, fun k _ hk => by
    refine World.putObj_heap_other ?_
    rintro rfl
    rcases hk with hk | ⟨o2, ho, hcc⟩
    · omega
    · rw [h] at ho; cases ho; rw [hc] at hcc; cases hcc⟩

/-- What abides such steps. -/
def Stb (B : Nat) (p : World → Prop) : Prop := ∀ W W', Gr B W W' → p W → p W'
theorem Stb.mono {B B' : Nat} {p : World → Prop} (h : Stb B p) (hB : B ≤ B') : Stb B' p := fun W W' g => h W W' (g.mono hB)
theorem Stb.pure {B : Nat} {p : Prop} : Stb B (fun _ => p) := fun _ _ _ h => h
theorem Stb.and {B : Nat} {p q : World → Prop} (hp : Stb B p) (hq : Stb B q) : Stb B (fun W => p W ∧ q W) := fun W W' g h => ⟨hp W W' g h.1, hq W W' g h.2⟩
theorem Stb.or {B : Nat} {p q : World → Prop} (hp : Stb B p) (hq : Stb B q) : Stb B (fun W => p W ∨ q W) := fun W W' g h => h.imp (hp W W' g) (hq W W' g)
theorem Stb.ex {B : Nat} {α : Sort _} {p : α → World → Prop} (hp : ∀ x, Stb B (p x)) : Stb B (fun W => ∃ x, p x W) := fun W W' g ⟨x, h⟩ => ⟨x, hp x W W' g h⟩
theorem Stb.all {B : Nat} {α : Sort _} {p : α → World → Prop} (hp : ∀ x, Stb B (p x)) : Stb B (fun W => ∀ x, p x W) := fun W W' g h x => hp x W W' g (h x)
theorem Stb.cells {B b : Nat} {c : Array Value} {t : TypeId} {fr : Nat × Nat} : Stb B (fun W => W.heap[b]? = some (.cells c t fr)) := fun _ _ g h =>
  (g.block b (Array.getElem?_eq_some_iff.1 h).1 (.inr ⟨_, h, rfl⟩)).trans h
theorem Stb.old {B b : Nat} {o : Obj} (hb : b < B) : Stb B (fun W => W.heap[b]? = some o) := fun _ _ g h =>
  (g.block b (Array.getElem?_eq_some_iff.1 h).1 (.inl hb)).trans h
theorem cell_lt {W : World} {p : Addr} {v : Value} (h : W.cell? p = some v) : p.block < W.heap.size := by
  unfold World.cell? at h
  cases ho : W.heap[p.block]? with
  | none => simp [ho] at h
  | some o => exact (Array.getElem?_eq_some_iff.1 ho).1
theorem cells_of_cell {W : World} {p : Addr} {v : Value} (h : W.cell? p = some v) : p.block < W.heap.size ∧ ∃ o, W.heap[p.block]? = some o ∧ o.isCells = true := by
  have hl := cell_lt h
  refine ⟨hl, ?_⟩
  unfold World.cell? at h
  cases ho : W.heap[p.block]? with
  | none => simp [ho] at h
  | some o => exact ⟨o, rfl, by cases o <;> simp_all [Obj.isCells]⟩
theorem Stb.cell {B : Nat} {p : Addr} {v : Value} : Stb B (fun W => W.cell? p = some v) := fun W W' g h => by
  obtain ⟨hl, hc⟩ := cells_of_cell h
  exact (World.cell?_of_block (w := W) (g.block _ hl (.inr hc))).trans h
theorem Stb.below {B n : Nat} {X : World} (hn : n ≤ B) (hX : n ≤ X.heap.size) : Stb B (fun W => Below n X W) := fun _ _ g h =>
  ⟨g.os.trans h.os, g.tape.trans h.tape, g.output.trans h.output, Nat.le_trans h.size g.size, fun k hk => (g.block k (Nat.lt_of_lt_of_le hk (Nat.le_trans hX h.size)) (.inl (Nat.lt_of_lt_of_le hk hn))).trans (h.block k hk)⟩

/-- What a round keeps: whatever holds no cells, from B on; and cells of the types of TT. -/
structure Kx (B : Nat) (TT : TypeId → Prop) (W W' : World) : Prop where
  size : W.heap.size ≤ W'.heap.size
  same : ∀ (k : Nat) (o : Obj), B ≤ k → W.heap[k]? = some o → o.isCells = false → W'.heap[k]? = some o
  typed : ∀ (k : Nat) c t fr, W.heap[k]? = some (.cells c t fr) → TT t → W'.heap[k]? = some (.cells c t fr)
theorem Kx.refl (B : Nat) (TT : TypeId → Prop) (W : World) : Kx B TT W W := ⟨Nat.le_refl _, fun _ _ _ h _ => h, fun _ _ _ _ h _ => h⟩
theorem Kx.trans {B : Nat} {TT : TypeId → Prop} {X Y Z : World} (h : Kx B TT X Y) (k : Kx B TT Y Z) : Kx B TT X Z :=
  ⟨Nat.le_trans h.size k.size, fun i o hB hi ho => k.same i o hB (h.same i o hB hi ho) ho, fun i c t fr hi ht => k.typed i c t fr (h.typed i c t fr hi ht) ht⟩
theorem Kx.below {B : Nat} {TT : TypeId → Prop} {X Y : World} (h : Below X.heap.size X Y) : Kx B TT X Y :=
  ⟨h.size, fun k _ _ hk _ => (h.block k (Array.getElem?_eq_some_iff.1 hk).1).trans hk, fun k _ _ _ hk _ => (h.block k (Array.getElem?_eq_some_iff.1 hk).1).trans hk⟩
/-- One block of cells, of a type not in TT, is turned. -/
theorem Kx.one {B b : Nat} {TT : TypeId → Prop} {X Y : World} {c : Array Value} {t : TypeId} {fr : Nat × Nat} (hb : X.heap[b]? = some (.cells c t fr)) (ht : ¬ TT t) (hs : X.heap.size ≤ Y.heap.size) (h : ∀ k, k < X.heap.size → k ≠ b → Y.heap[k]? = X.heap[k]?) : Kx B TT X Y :=
  ⟨hs, fun k o _ hk ho => (h k (Array.getElem?_eq_some_iff.1 hk).1 (by rintro rfl; rw [hb] at hk; cases hk; cases ho)).trans hk,
   fun k c' t' fr' hk ht' => (h k (Array.getElem?_eq_some_iff.1 hk).1 (by rintro rfl; rw [hb] at hk; cases hk; exact ht ht')).trans hk⟩
theorem Kx.setCell {B b i : Nat} {TT : TypeId → Prop} {X : World} {c : Array Value} {t : TypeId} {fr : Nat × Nat} {v : Value} (hb : X.heap[b]? = some (.cells c t fr)) (ht : ¬ TT t) : Kx B TT X (X.setCell ⟨b, i, none⟩ v) :=
  Kx.one hb ht (by simp) (fun k _ hne => Below.heap_setCell _ _ _ _ hne)
theorem Kx.alloc (B : Nat) (TT : TypeId → Prop) (X : World) (o : Obj) : Kx B TT X (X.alloc o) := Kx.below ((Below.refl _ X).alloc (Nat.le_refl _) o)

/-! ### A function that holds such a statement -/

theorem calls_of_wpV {V : FuncId → Prop} {f : FuncId} {fn : Func} {c : Code} {args : Array Value} {w : World} {R : Ending → World → Prop}
    (hf : P.funcs[f]? = some fn) (hb : fn.body = some c) (hV : V f)
    (h : wpV V none P c (bodyPostM (fw none) 0 P fn R) { tmps := args ++ Array.replicate (fn.ntmps - args.size) undef, defers := [] } w) : Calls P f args w R := by
  refine (callsFw (r := none) (n := 0)).1 ⟨trivial, fun cs hr => ?_⟩
  let b : Frame := { (default : Frame) with fn := f, kind := .normal, roundOf := none }
  have henter : Frame.enter P f args .normal =
      b.atR { tmps := args ++ Array.replicate (fn.ntmps - args.size) undef, defers := [] } [.code c] := by
    simp [Frame.enter, Frame.atR, hf, hb, b]
  obtain ⟨e, a', w', hq, harr⟩ := h b [] cs rfl hV
  rw [← henter] at harr
  cases e with
  | normal =>
    obtain ⟨e', w'', fr', hR, hs, hfn, hl⟩ := leaves_stepsInM (F := fw none) (n := 0) a'.defers .returning w' { b.atR a' [] with mode := .returning } cs rfl rfl rfl hf rfl trivial hr hq
    exact ⟨e', w'', fr', hR, ComesIn.of_steps (StepsIn.trans harr (.one calm0 (stepR_end rfl))) hs, hfn, hl⟩
  | ret =>
    obtain ⟨todo, hs₀⟩ := harr.1 rfl
    obtain ⟨e', w'', fr', hR, hs, hfn, hl⟩ := leaves_stepsInM (F := fw none) (n := 0) a'.defers .returning w' { b.atR a' todo with mode := .returning } cs rfl rfl rfl hf rfl trivial hr hq
    exact ⟨e', w'', fr', hR, ComesIn.of_steps hs₀ hs, hfn, hl⟩
  | panic chain =>
    obtain ⟨todo, hs₀⟩ := harr
    obtain ⟨e', w'', fr', hR, hs, hfn, hl⟩ := leaves_stepsInM (F := fw none) (n := 0) a'.defers (.panicking chain) w' { b.atR a' todo with mode := .panicking chain } cs rfl rfl rfl hf rfl trivial hr hq
    exact ⟨e', w'', fr', hR, ComesIn.of_steps hs₀ hs, hfn, hl⟩
  | exit id => exact hq.elim
  | goto l => exact hq.elim
  | outgrown => exact ⟨.outgrown, w', b, hq, harr.resolve_left (by simp [b]), rfl, trivial⟩

theorem leave_mark {fn : Func} {R : Ending → World → Prop} {a : Act} {w : World} {v : Value} {D : Nat} (hd : a.defers = [{ target := .collected D, args := #[] }])
    (hD : w.heap[D]? = some (.deferred (some []))) (hr : (results fn a.tmps).run P (w.putObj D (.deferred none)) = .ok v (w.putObj D (.deferred none))) (hR : R (.returned v) (w.putObj D (.deferred none))) :
    bodyPostM (fw none) 0 P fn R .ret a w := by
  show LeavesInM (fw none) 0 P fn a.tmps R a.defers .returning w
  rw [hd]
  exact ⟨by simp, .inl ⟨D, _, rfl, run_takeDeferred hD, v, hr, hR⟩⟩
theorem below_putObj {n : Nat} {X W : World} {D : Nat} {o : Obj} (h : Below n X W) (hD : n ≤ D) : Below n X (W.putObj D o) :=
  h.trans ⟨rfl, rfl, rfl, by simp, fun _ hk => World.putObj_heap_other (by omega)⟩
/-- What a call of a function that turns nothing old leaves of the rounds' book-keeping. -/
theorem KeepsFrom.below {B : Nat} {X Y : World} (h : Below X.heap.size X Y) : KeepsFrom B X Y :=
  ⟨h.size, fun k _ _ hk _ => (h.block k (Array.getElem?_eq_some_iff.1 hk).1).trans hk⟩

/-- A function's contract from its body, in the wide fence. -/
theorem calls_of_wpM {f : FuncId} {fn : Func} {c : Code} {args : Array Value} {w : World} {R : Ending → World → Prop}
    (hf : P.funcs[f]? = some fn) (hb : fn.body = some c)
    (h : c.wpIn (fw none) 0 P (bodyPostM (fw none) 0 P fn R) { tmps := args ++ Array.replicate (fn.ntmps - args.size) undef, defers := [] } w) : Calls P f args w R :=
  calls_of_wpV (V := fun _ => True) hf hb trivial (wpV_of h)
/-- A contract, as the fenced walk meets it. -/
theorem callsTo {r : Option Nat} {n : Nat} {f : FuncId} {args : Array Value} {w : World} {R R' : Ending → World → Prop} (h : Calls P f args w R) (hr : ∀ e w', R e w' → R' e w') : CallsIn (fw r) n P f args w R' :=
  callsFw.2 (h.mono hr)
end
end YtnjgglnpmhjmiaaIt
end Go
/- Laws of single operations: a struct or an array read or written whole; regions whose order is open; over whatever program. -/
namespace Go
namespace YtnjgglnpmhjmiaaIt
open Go.RowKit
section
variable {P : Program}
/-- A whole struct or array read out of its block, in the fenced walk. -/
theorem wpListIn_load_blk {F : Fence} {n : Nat} {ops : Array Oper} {rest : List Oper} {o : Oper} {a : Act} {w : World} {Q : Exit → Act → World → Prop} (hw : Region.wanted o (yielded ops a.tmps) = true) (ty : TypeId) (x : Operand) (ho : o.op = .load ty x)
    (g : Nat) (hx : a.eval x = .pointer (some ⟨g, 0, none⟩)) {t : TypeId} {cs : Array Value} {fr : Nat × Nat} (hg : w.heap[g]? = some (.cells cs t fr)) {d : TypeDesc}
    (hu : P.underlying ty = some d) (hd : (match d with | .struct _ | .array _ _ => true | _ => false) = true) {k : Nat} (hi : (P.info? ty).map (·.size) = some k) (hk : cs.size = k)
    (h : wpListIn F n P ops Q rest (a.put o.dst (.agg cs)) w) : wpListIn F n P ops Q (o :: rest) a w := by
  refine wpListIn_step fun K hK => ?_
  rw [if_pos hw]
  subst hk
  have hs : Oper.semAt F.round a.eval o = execOp a.eval o := by
    cases hF : F.round with
    | none => rfl
    | some l => exact Oper.semAt_some l _ _ (by rw [ho]; intro c h; cases h)
  unfold Oper.wpIn
  refine ⟨fun f hf => by simp [Oper.about, ho] at hf, ?_⟩
  rw [hs]
  unfold execOp
  simp only [ho, hx, Instr.loadAt, Instr.sureAddr, Sem.run_bind, Sem.run_pure, Result.andThen_ok, run_loadVar_row w g t ty cs fr d hg hu hd hi]
  exact hK _ _ h
theorem wpList_load_blk {ops : Array Oper} {rest : List Oper} {o : Oper} {a : Act} {w : World} {Q : Exit → Act → World → Prop} (hw : Region.wanted o (yielded ops a.tmps) = true) (ty : TypeId) (x : Operand) (ho : o.op = .load ty x)
    (g : Nat) (hx : a.eval x = .pointer (some ⟨g, 0, none⟩)) {t : TypeId} {cs : Array Value} {fr : Nat × Nat} (hg : w.heap[g]? = some (.cells cs t fr)) {d : TypeDesc}
    (hu : P.underlying ty = some d) (hd : (match d with | .struct _ | .array _ _ => true | _ => false) = true) {k : Nat} (hi : (P.info? ty).map (·.size) = some k) (hk : cs.size = k)
    (h : wpList P ops Q rest (a.put o.dst (.agg cs)) w) : wpList P ops Q (o :: rest) a w :=
  wpList_step fun K hK => by rw [if_pos hw]; exact wp_load_row ty x ho g hx t cs fr d hg hu hd (by rw [hk]; exact hi) (hK _ _ h)

theorem setRow_putObj {w : World} {g : Nat} {old cells : Array Value} {t : TypeId} (hg : w.heap[g]? = some (.cells old t (0, 0))) : w.setRow g cells = w.putObj g (.cells cells t (0, 0)) := by
  unfold World.setRow World.putObj
  congr 1
  apply Array.ext_getElem?
  intro k
  rw [Array.getElem?_modify, Array.getElem?_setIfInBounds]
  have hlt := (Array.getElem?_eq_some_iff.1 hg).1
  by_cases h : g = k
  · subst h
    rw [if_pos rfl, if_pos rfl, if_pos hlt, hg]; rfl
  · simp [h]
theorem wpList_store_blk {ops : Array Oper} {rest : List Oper} {o : Oper} {a : Act} {w : World} {Q : Exit → Act → World → Prop} (hw : Region.wanted o (yielded ops a.tmps) = true) (ty : TypeId) (x y : Operand) (ho : o.op = .store ty x y)
    (g : Nat) (hx : a.eval x = .pointer (some ⟨g, 0, none⟩)) {cells : Array Value} (hy : a.eval y = .agg cells)
    {t : TypeId} {old : Array Value} (hg : w.heap[g]? = some (.cells old t (0, 0))) {k : Nat} (hi : (P.info? ty).map (·.size) = some k) (hk : cells.size = k)
    (hold : old.size = k) (h1 : cells.all (·.oneCell') = true)
    (h : wpList P ops Q rest (a.put o.dst undef) (w.putObj g (.cells cells t (0, 0)))) : wpList P ops Q (o :: rest) a w :=
  wpList_step fun K hK => by rw [if_pos hw]; exact wp_store_row ty x y ho g cells hx hy t old hg (by rw [hk]; exact hi) (by omega) h1 (by rw [setRow_putObj hg]; exact hK _ _ h)

/-! ### Regions whose order is open, and whose calls lay blocks -/

/-- Worlds in which all that lay below B is as in w. -/
structure Ab (B : Nat) (w : World) where
  val : World
  ok : Below B w val
instance {B : Nat} {w : World} : Nonempty (Ab B w) := ⟨⟨w, Below.refl _ _⟩⟩
def AbC (B : Nat) (w W' : World) : Prop := ∃ x : Ab B w, W' = x.val

theorem wp_region_ab {id : Nat} {Q : Exit → Act → World → Prop} {a : Act} {w : World} {l : List Oper} (B : Nat) (w0 : World) (hm : P.follows .mixedOrders = true) (hB : Region.lexB .any l.toArray = true) (hb : Below B w0 w)
    (h : wpQuiet P l.toArray (AbC B w0) (fun a' => ∀ w', AbC B w0 w' → Q .normal a' w') l a) : (Code.region id l.toArray true).wp P Q a w :=
  wp_region_quiet (C := AbC B w0) hm hB ⟨⟨{ w with drawn := w.drawn + 1 }, hb.trans ⟨rfl, rfl, rfl, Nat.le_refl _, fun _ _ => rfl⟩⟩, rfl⟩ (by simpa using h)
theorem wpQuiet_load_blk {ops : Array Oper} {C : World → Prop} {Q : Act → Prop} {a : Act} {o : Oper} {rest : List Oper} (hw : Region.wanted o (yielded ops a.tmps) = true) (ty : TypeId) (x : Operand) (ho : o.op = .load ty x)
    (g : Nat) (hx : a.eval x = .pointer (some ⟨g, 0, none⟩)) {t : TypeId} {cs : Array Value} {fr : Nat × Nat} (hg : ∀ W, C W → W.heap[g]? = some (.cells cs t fr)) {d : TypeDesc}
    (hu : P.underlying ty = some d) (hd : (match d with | .struct _ | .array _ _ => true | _ => false) = true) {k : Nat} (hi : (P.info? ty).map (·.size) = some k) (hk : cs.size = k)
    (h : wpQuiet P ops C Q rest (a.put o.dst (.agg cs))) : wpQuiet P ops C Q (o :: rest) a := by
  subst hk
  refine wpQuiet_step fun K hK => ?_
  rw [if_pos hw]
  refine ⟨_, fun W hW => ?_, hK _ h⟩
  unfold Oper.quietAt execOp
  simp only [ho, hx, Instr.loadAt, Instr.sureAddr, Sem.run_bind, Sem.run_pure, Result.andThen_ok, run_loadVar_row W g t ty cs fr d (hg W hW) hu hd hi]
  exact ⟨rfl, rfl⟩
/-- A call that lays blocks of its own, in such a region. -/
theorem Calls.ab {f : FuncId} {args : Array Value} {B : Nat} {w0 : World} {v : Value} (x : Ab B w0) (hB : B ≤ w0.heap.size) (h : Calls P f args x.val fun e w' => e = .returned v ∧ Below x.val.heap.size x.val w') :
    Calls P f args x.val fun e w'' => e = .returned v ∧ AbC B w0 w'' :=
  h.mono fun _ _ ⟨he, hb⟩ => ⟨he, ⟨_, x.ok.trans (hb.mono (Nat.le_trans hB x.ok.size))⟩, rfl⟩

/-- Results: a struct or an array that lies in memory, and a number or a bool. -/
theorem results_agg_tmp {fn : Func} {p u : Tmp} {ty : TypeId} (h : fn.results = #[.cell p ty, .tmp u]) (tmps : Array Value) (w : World) (g : Nat) {t : TypeId} {cs : Array Value} {fr : Nat × Nat} {d : TypeDesc}
    (hp : tmps.getD p undef = .pointer (some ⟨g, 0, none⟩)) (hg : w.heap[g]? = some (.cells cs t fr))
    (hu : P.underlying ty = some d) (hd : (match d with | .struct _ | .array _ _ => true | _ => false) = true) {k : Nat} (hi : (P.info? ty).map (·.size) = some k) (hk : cs.size = k) :
    (results fn tmps).run P w = .ok (.tuple #[.agg cs, tmps.getD u undef]) w := by
  subst hk
  have hp' : tmps[p]?.getD undef = .pointer (some ⟨g, 0, none⟩) := by simpa using hp
  simp [results, h, hp', asAddr, run_loadVar_row w g t ty cs fr d hg hu hd hi]
/-- A variable of one cell, read. -/
theorem run_loadVar_one {w : World} {b : Nat} {ty : TypeId} {v : Value} {d : TypeDesc} (hc : w.cell? ⟨b, 0, none⟩ = some v) (hu : P.underlying ty = some d) (hd : (match d with | .struct _ | .array _ _ => true | _ => false) = false) :
    (loadVar ty ⟨b, 0, none⟩).run P w = .ok v w := by
  have hagg : (isAgg ty).run P w = .ok false w := by
    unfold isAgg
    rw [Sem.run_bind, run_underlying hu w]
    cases d <;> simp_all
  simp [loadVar, Sem.run_bind, hagg, load, Sem.run, hc]
end
end YtnjgglnpmhjmiaaIt
end Go
/- A region whose order is open, that reads, makes one variable and stores into it at its end. Over whatever program. -/
namespace Go
namespace YtnjgglnpmhjmiaaIt
open Go.RowKit
section
variable {P : Program}
variable {Q : Exit → Act → World → Prop} {D0 D1 : World}
/-- One of two worlds. -/
structure Tw (D0 D1 : World) where
  val : World
  ok : val = D0 ∨ val = D1
instance {D0 D1 : World} : Nonempty (Tw D0 D1) := ⟨⟨D0, .inl rfl⟩⟩
end
end YtnjgglnpmhjmiaaIt
end Go
/- min of two numbers, not parted; over whatever program. -/
namespace Go
namespace YtnjgglnpmhjmiaaIt
open Go.RowKit
end YtnjgglnpmhjmiaaIt
end Go
/- Regions whose order is open, in a round: the plain calculus serves there too. Over whatever program. -/
namespace Go
namespace YtnjgglnpmhjmiaaIt
open Go.RowKit
section
variable {P : Program} {ops : Array Oper} {Q : Exit → Act → World → Prop} {md : Region.Mode}

def noDefer (ops : Array Oper) : Bool := ops.toList.all fun o => match o.op with | .defer _ => false | _ => true
theorem noDefer_at (h : noDefer ops = true) {i : Nat} {o : Oper} (ho : ops[i]? = some o) : ∀ c, o.op ≠ .defer c := by
  intro c hc
  have hm : o ∈ ops.toList := List.mem_of_getElem? (by simpa using ho)
  have := List.all_eq_true.1 h o hm
  rw [hc] at this
  cases this
theorem wpOpIn_of_wpOp {r : Option Nat} {n : Nat} (hnd : noDefer ops = true) (hL : LetsOut Q → False) {i : Nat} {K : Act → World → Prop} {a : Act} {w : World} (h : wpOp P ops Q i K a w) : wpOpIn (fw r) n P ops Q i K a w := by
  unfold wpOp at h
  unfold wpOpIn
  split at h
  · rename_i ho; rw [ho]; exact h
  · rename_i o ho
    rw [ho]
    simp only
    split at h
    · rename_i hw
      rw [if_pos hw]
      rcases h with h | h
      · refine ⟨fun _ _ => trivial, ?_⟩
        rw [Oper.semAt_eq _ _ _ (noDefer_at hnd ho)]
        unfold Oper.wp at h
        generalize (execOp a.eval o).run P w = x at h
        cases x with
        | ok x w' =>
          cases x <;> simp only [Oper.upon, Oper.uponIn] at h ⊢ <;>
            first
              | exact h
              | exact ⟨fun h => by simp at h, callsFw.2 h⟩
              | exact ⟨fun h => by simp at h, fun c cs _ => let ⟨v, w'', hR, hs⟩ := h c cs; ⟨v, w'', hR, stepsIn_wide.2 hs⟩⟩
        | halt x w' => cases x <;> simp only [Oper.upon, Oper.uponIn] at h ⊢ <;> exact h
      · exact (hL h.2).elim
    · rename_i hw
      rw [if_neg hw]
      exact ⟨fun _ _ => trivial, h⟩
theorem wpAnyIn_of_wpAny {r : Option Nat} {n : Nat} (hnd : noDefer ops = true) (hL : LetsOut Q → False) : ∀ (fuel : Nat) (listed : Array Bool) (a : Act) (w : World), wpAny P md ops Q fuel listed a w → wpAnyIn (fw r) n P md ops Q fuel listed a w
  | 0, _, _, _, h => h
  | fuel + 1, _, _, _, h => ⟨h.1, fun i hi => wpOpIn_mono (fun a' w' h' => wpAnyIn_of_wpAny hnd hL fuel _ a' w' h') (wpOpIn_of_wpOp hnd hL (h.2 i hi))⟩
theorem wpIn_region_any' {r : Option Nat} {n id : Nat} {a : Act} {w : World} (hm : P.follows .mixedOrders = true) (hnd : noDefer ops = true) (hL : LetsOut Q → False)
    (h : wpAny P .any ops Q ops.size (Array.replicate ops.size false) a { w with drawn := w.drawn + 1 }) : (Code.region id ops true).wpIn (fw r) n P Q a w :=
  wpIn_region_any hm (wpAnyIn_of_wpAny hnd hL _ _ _ _ h)
end
end YtnjgglnpmhjmiaaIt
end Go
/- Maps of which only this is known: each entry is right. Over whatever program. -/
namespace Go
namespace YtnjgglnpmhjmiaaIt
open Go.RowKit
open Go.Maps (Keyed)

/-- Block b is a map each of whose entries satisfies G. -/
def Memo (w : World) (b : Nat) (G : Value → Value → Prop) : Prop := ∃ es clock, w.heap[b]? = some (.map es clock) ∧ ∀ e ∈ es.toList, G e.key e.val

section
variable {P : Program}
theorem run_getObj_map {w : World} {b : Nat} {es : Array MapEntry} {clock : Nat} (h : w.heap[b]? = some (.map es clock)) : (getObj b).run P w = .ok (.map es clock) w := by simp [getObj, Sem.run, h]
theorem run_setObj_map {w : World} {b : Nat} {es : Array MapEntry} {clock : Nat} (o : Obj) (h : w.heap[b]? = some (.map es clock)) : (setObj b o).run P w = .ok () (w.putObj b o) := by simp [setObj, Sem.run, h, World.putObj]

theorem Memo.look {w : World} {b : Nat} {G : Value → Value → Prop} {t k e : TypeId} (h : Memo w b G) (K : Keyed P k) (ht : P.underlying t = some (.map k e)) {z : Value} (hz : ∀ w, (zeroValue e).run P w = .ok z w)
    (hG : ∀ x v, G x v → ∃ l, keyOf P k x = some l) {key : Value} {kl : Lit} (hkey : keyOf P k key = some kl) :
    (∀ W, W.heap[b]? = w.heap[b]? → (Instr.lookup t (.map (some b)) key true).run P W = .ok (.tuple #[z, .bool false]) W) ∨
    (∀ W, W.heap[b]? = w.heap[b]? → ∃ v, G key v ∧ (Instr.lookup t (.map (some b)) key true).run P W = .ok (.tuple #[v, .bool true]) W) := by
  obtain ⟨es, clock, hb0, hes⟩ := h
  have hk : ∀ x ∈ es.toList, ∃ l, keyOf P k x.key = some l := fun x hx => hG _ _ (hes x hx)
  by_cases hin : ∃ x ∈ es.toList, x.key = key
  · refine .inr fun W hW => ?_
    have hb := hW.trans hb0
    have hu := run_underlying (P := P) ht W
    have hck := K.check W es.isEmpty hkey
    rcases K.find W hkey es.toList hk with ⟨hf, hno⟩ | ⟨j, x, hf, hj, hx⟩
    · obtain ⟨x, hx, he⟩ := hin
      exact absurd he (hno x hx)
    · refine ⟨x.val, by rw [← hx]; exact hes x (List.mem_of_getElem? hj), ?_⟩
      unfold Instr.lookup
      simp [Sem.run_bind, hu, run_getObj_map hb, hck, hf, Result.andThen]
  · refine .inl fun W hW => ?_
    have hb := hW.trans hb0
    have hu := run_underlying (P := P) ht W
    have hck := K.check W es.isEmpty hkey
    rcases K.find W hkey es.toList hk with ⟨hf, _⟩ | ⟨j, x, hf, hj, hx⟩
    · unfold Instr.lookup
      simp [Sem.run_bind, hu, run_getObj_map hb, hck, hf, hz, Result.andThen]
    · exact absurd ⟨x, List.mem_of_getElem? hj, hx⟩ hin

theorem Memo.update {w : World} {b : Nat} {G : Value → Value → Prop} {t k e : TypeId} (h : Memo w b G) (K : Keyed P k) (ht : P.underlying t = some (.map k e))
    (hG : ∀ x v, G x v → ∃ l, keyOf P k x = some l) {key : Value} {kl : Lit} (hkey : keyOf P k key = some kl) {v : Value} (hv : G key v) :
    ∃ es' clock', (Instr.mapUpdate t (.map (some b)) key v).run P w = .ok () (w.putObj b (.map es' clock')) ∧ ∀ e ∈ es'.toList, G e.key e.val := by
  obtain ⟨es, clock, hb, hes⟩ := h
  have hk : ∀ x ∈ es.toList, ∃ l, keyOf P k x.key = some l := fun x hx => hG _ _ (hes x hx)
  have hu := run_underlying (P := P) ht w
  have hck := K.check w false hkey
  rcases K.find w hkey es.toList hk with ⟨hf, _⟩ | ⟨j, x, hf, hj, hx⟩
  · refine ⟨es.push { key := key, val := v, born := clock }, clock + 1, ?_, ?_⟩
    · unfold Instr.mapUpdate
      simp [Sem.run_bind, hu, run_getObj_map hb, hck, hf, run_setObj_map _ hb, Result.andThen]
    · intro x hx
      simp at hx
      rcases hx with hx | rfl
      · exact hes x (by simpa using hx)
      · exact hv
  · have hj' : es[j]? = some x := by simpa using hj
    refine ⟨es.modify j fun e => { e with key := key, val := v }, clock, ?_, ?_⟩
    · unfold Instr.mapUpdate
      have hst := K.stays w hkey
      subst hx
      simp [Sem.run_bind, hu, run_getObj_map hb, hck, hf, hj', hst, run_setObj_map _ hb, Result.andThen]
    · intro y hy
      obtain ⟨i, hi⟩ := List.getElem?_of_mem hy
      simp only [Array.getElem?_toList, Array.getElem?_modify] at hi
      by_cases hij : j = i
      · subst hij
        rw [if_pos rfl, hj'] at hi
        simp at hi
        subst hi
        exact hv
      · rw [if_neg hij] at hi
        exact hes y (List.mem_of_getElem? (by simpa using hi))

theorem wpIn_of_wp {c : Code} {n : Nat} {Q : Exit → Act → World → Prop} {a : Act} {w : World} (h : c.wp P Q a w) : c.wpIn (fw none) n P Q a w := (wpIn_wide (n := n)).2 h

/-- All that lay below B but block m is as it was. -/
structure Bm (m B : Nat) (w w' : World) : Prop where
  os : w'.os = w.os
  tape : w'.tape = w.tape
  output : w'.output = w.output
  size : w.heap.size ≤ w'.heap.size
  block : ∀ k, k < B → k ≠ m → w'.heap[k]? = w.heap[k]?
theorem Bm.refl (m B : Nat) (w : World) : Bm m B w w := ⟨rfl, rfl, rfl, Nat.le_refl _, fun _ _ _ => rfl⟩
theorem Bm.trans {m B : Nat} {x y z : World} (h : Bm m B x y) (k : Bm m B y z) : Bm m B x z :=
  ⟨k.os.trans h.os, k.tape.trans h.tape, k.output.trans h.output, Nat.le_trans h.size k.size, fun i hi hne => (k.block i hi hne).trans (h.block i hi hne)⟩
theorem Bm.mono {m B B' : Nat} {x y : World} (h : Bm m B x y) (hB : B' ≤ B) : Bm m B' x y := ⟨h.os, h.tape, h.output, h.size, fun i hi hne => h.block i (Nat.lt_of_lt_of_le hi hB) hne⟩
theorem Bm.of {m B : Nat} {x y : World} (h : Below B x y) : Bm m B x y := ⟨h.os, h.tape, h.output, h.size, fun i hi _ => h.block i hi⟩
theorem Bm.put {m B : Nat} (x : World) (o : Obj) : Bm m B x (x.putObj m o) := ⟨rfl, rfl, rfl, by simp, fun _ _ hne => World.putObj_heap_other hne⟩
theorem Memo.below {w w' : World} {b B : Nat} {G : Value → Value → Prop} (h : Memo w b G) (hb : Below B w w') (hB : b < B) : Memo w' b G := by
  obtain ⟨es, clock, h1, h2⟩ := h
  exact ⟨es, clock, (hb.block b hB).trans h1, h2⟩
theorem Memo.lt {w : World} {b : Nat} {G : Value → Value → Prop} (h : Memo w b G) : b < w.heap.size := by
  obtain ⟨es, clock, h1, _⟩ := h
  exact (Array.getElem?_eq_some_iff.1 h1).1
theorem Memo.stb {B b : Nat} {G : Value → Value → Prop} (hb : b < B) : Stb B (fun w => Memo w b G) := fun _ _ g ⟨es, clock, h1, h2⟩ => ⟨es, clock, Stb.old hb _ _ g h1, h2⟩
theorem mapM_some {α β : Type} {f : α → Option β} : ∀ {l : List α}, (∀ x ∈ l, (f x).isSome = true) → (l.mapM f).isSome = true
  | [], _ => rfl
  | x :: l, h => by
    obtain ⟨y, hy⟩ := Option.isSome_iff_exists.1 (h x (by simp))
    obtain ⟨ys, hys⟩ := Option.isSome_iff_exists.1 (mapM_some (l := l) (fun z hz => h z (by simp [hz])))
    simp [List.mapM_cons, hy, hys]
/-- An array of numbers is a key. -/
theorem keyOf_ints {k e n : Nat} (A : WideMaps.ArrKey P k e n) (he : P.underlying e = some (.int .i64)) (hsz : ∃ m, P.types.size = m + 1) {xs : List Int} (hl : xs.length = n) (hb : ∀ x ∈ xs, (Lit.int .i64 x).wf = true) :
    ∃ l, keyOf P k (.agg (xs.map (Value.int .i64)).toArray) = some l := by
  obtain ⟨m, hm⟩ := hsz
  have hkt := A.keyType ⟨m, hm⟩
  have hsome : (P.keyLits (P.types.size + 1) k (xs.map (Value.int .i64))).isSome = true := by
    rw [hm]
    unfold Program.keyLits
    rw [A.hu]
    simp only [List.length_map, A.size, hl, if_pos, Option.isSome_map]
    refine mapM_some (fun i hi => ?_)
    have hi' : i < xs.length := by simp at hi; omega
    unfold Program.keyLits
    rw [he, A.one]
    have hd : ((xs.map (Value.int .i64)).drop (i * 1)).take 1 = [.int .i64 xs[i]] := by
      rw [Nat.mul_one, List.drop_eq_getElem_cons (by simpa using hi')]
      simp
    rw [hd]
    simp [hb _ (List.getElem_mem hi')]
  obtain ⟨ls, hls⟩ := Option.isSome_iff_exists.1 hsome
  have hc : (Value.agg (xs.map (Value.int .i64)).toArray).cells.toList = xs.map (Value.int .i64) := by simp [Value.cells]
  have hf : (Value.agg (xs.map (Value.int .i64)).toArray).formed P k = true := by simp [Value.formed, A.hu, A.size, hl]
  refine ⟨.string (keyBytes ls), ?_⟩
  unfold keyOf
  rw [A.hu]
  simp only [hkt, hf, hc, hls, Bool.and_self, if_true, Option.map_some]
end
end YtnjgglnpmhjmiaaIt
end Go
/- Lemmas on slices that come in, nil or not, and on append with such a source (the guide gives them to copy). -/
namespace Go
namespace YtnjgglnpmhjmiaaIt
open Go.RowKit
theorem block_of_add (a : Addr) (n : Nat) : (a.add n).block = a.block := by unfold Addr.add; split <;> rfl
theorem add_of_add (a : Addr) (i j : Nat) : (a.add i).add j = a.add (i + j) := by
  unfold Addr.add
  by_cases hi : i = 0 <;> by_cases hj : j = 0 <;> simp [hi, hj, Nat.add_assoc]

def Reads (w : World) (B size : Nat) (A : Option Addr) (n : Nat) (xs : List Value) : Prop :=
  xs.length = n * size ∧ (0 < n → ∃ ad, A = some ad ∧ ad.block < B ∧ ∀ j u, xs[j]? = some u → w.cell? (ad.add j) = some u)

section
variable {w w' : World} {B B' size n : Nat} {A : Option Addr} {xs : List Value}
theorem Reads.at_ {k : Nat} (h : Reads w B 1 A n xs) (hk : k < n) : ∃ ad u, A = some ad ∧ ad.block < B ∧ xs[k]? = some u ∧ w.cell? (ad.add k) = some u := by
  obtain ⟨ad, e, hb, hc⟩ := h.2 (by omega)
  have hl : k < xs.length := by have := h.1; omega
  exact ⟨ad, xs[k], e, hb, List.getElem?_eq_getElem hl, hc k _ (List.getElem?_eq_getElem hl)⟩
theorem Reads.keep (h : Reads w B size A n xs) (hk : ∀ p : Addr, p.block < B → w'.cell? p = w.cell? p) : Reads w' B size A n xs :=
  ⟨h.1, fun hn => by
    obtain ⟨ad, e, hb, hc⟩ := h.2 hn
    exact ⟨ad, e, hb, fun j u hu => (hk _ (by rw [block_of_add]; exact hb)).trans (hc j u hu)⟩⟩
theorem Reads.more (h : Reads w B size A n xs) (hB : B ≤ B') : Reads w B' size A n xs :=
  ⟨h.1, fun hn => by
    obtain ⟨ad, e, hb, hc⟩ := h.2 hn
    exact ⟨ad, e, by omega, hc⟩⟩
theorem Reads.below (h : Reads w B size A n xs) (hb : Below B w w') : Reads w' B size A n xs := h.keep fun _ hp => hb.cell hp
theorem Reads.drew (h : Reads w B size A n xs) : Reads w.drew B size A n xs := h
theorem Reads.alloc (h : Reads w B size A n xs) (hB : B ≤ w.heap.size) (o : Obj) : Reads (w.alloc o) B size A n xs := h.keep fun p hp => World.cell?_alloc_lt w o p (by omega)
theorem Reads.setCell (h : Reads w B size A n xs) {p : Addr} (hB : B ≤ p.block) (u : Value) : Reads (w.setCell p u) B size A n xs :=
  h.keep fun q hq => World.cell?_setCell_other w p q u (fun e => by subst e; omega)
theorem Reads.grown (h : Reads w B size A n xs) {row : Option Nat} (hg : w.grownBy w' row) (hB : B ≤ w.heap.size) (hr : ∀ g, row = some g → B ≤ g) : Reads w' B size A n xs :=
  h.keep fun p hp => World.cell?_of_block (hg.block p.block (by omega) (fun e => by have := hr _ e.symm; omega))
theorem Reads.cut (h : Reads w B size A n xs) {k cap : Nat} (hk : k ≤ n) (hc : n ≤ cap) :
    Reads w B size (if cap = k then A else A.map (·.add (k * size))) (n - k) (xs.drop (k * size)) := by
  refine ⟨by rw [List.length_drop, h.1, Nat.sub_mul], fun hn => ?_⟩
  obtain ⟨ad, rfl, hb, hcell⟩ := h.2 (by omega)
  rw [if_neg (by omega)]
  refine ⟨ad.add (k * size), rfl, by rw [block_of_add]; exact hb, fun j u hu => ?_⟩
  rw [add_of_add]
  exact hcell _ u (by rw [← hu, List.getElem?_drop])
end
section
variable {P : Program} (w : World)

theorem run_append_of_nil (base : Nat) (t ty e : TypeId) (i : TypeInfo) (size : Nat) (ht : P.underlying t = some (.slice e)) (hi : P.info? e = some i)
    (v : Value) (n : Nat) (xs : List Value) (hown : w.ownsRow base e size v n xs) (c : Nat) : (Builtin.append_ #[t, t] ty #[v, .slice none 0 c]).run P w = .ok v w := by
  rcases hown.2 with ⟨rfl, rfl⟩ | ⟨g, cap, cur, rfl, _, _, hnc, _⟩
  · simp [Builtin.append_, run_underlying ht, sizeOf, typeInfo, hi, Builtin.lenOf, Builtin.firstCells]
  · simp [Builtin.append_, run_underlying ht, sizeOf, typeInfo, hi, Builtin.lenOf, Builtin.firstCells, hnc, storeCells]

theorem run_append_any (base : Nat) (t ty e : TypeId) (i : TypeInfo) (z : Value) (size bytes : Nat) (ht : P.underlying t = some (.slice e)) (hi : P.info? e = some i) (hz : i.zero = some z)
    (hsize : i.size = size) (hby : i.bytes = bytes) (hzs : z.cells.size = size) (hsz : 0 < size)
    (v : Value) (n : Nat) (xs : List Value) (hown : w.ownsRow base e size v n xs)
    (B : Nat) (A : Option Addr) (m c : Nat) (news : List Value) (hr : Reads w B size A m news) (h1 : ∀ u ∈ news, u.oneCell' = true)
    (h63 : n + m ≤ maxLen) (hbytes : (n + m) * bytes ≤ 140737488355328) (hbase : base ≤ w.heap.size) :
    ∃ v' w', (Builtin.append_ #[t, t] ty #[v, .slice A m c]).run P w = .ok v' w' ∧ w'.ownsRow base e size v' (n + m) (xs ++ news) ∧ w.grownBy w' v.ownBlock ∧
      (v'.ownBlock = v.ownBlock ∨ v'.ownBlock = some w.heap.size) := by
  rcases A with _ | ad
  · have hm : m = 0 := by
      rcases Nat.eq_zero_or_pos m with h0 | h0
      · exact h0
      · obtain ⟨ad, h, _⟩ := hr.2 h0
        cases h
    subst hm
    have hn : news = [] := List.eq_nil_of_length_eq_zero (by simpa using hr.1)
    subst hn
    exact ⟨v, w, run_append_of_nil w base t ty e i size ht hi v n xs hown c, by simpa using hown, World.grownBy.refl w _, .inl rfl⟩
  · have hcells : ∀ j u, news[j]? = some u → w.cell? (ad.add j) = some u := by
      intro j u hu
      rcases Nat.eq_zero_or_pos m with h0 | h0
      · subst h0
        have hn : news = [] := List.eq_nil_of_length_eq_zero (by simpa using hr.1)
        subst hn
        simp at hu
      · obtain ⟨ad', h, _, hc⟩ := hr.2 h0
        injection h with h
        subst h
        exact hc j u hu
    obtain ⟨v', w', hrun, h2, h3, _, h5⟩ := run_append_own_at (P := P) w base t ty e i z size bytes ht hi hz hsize hby hzs hsz v n xs hown ad m c news hr.1 hcells h1 h63 hbytes hbase
    exact ⟨v', w', hrun, h2, h3, h5⟩

theorem wp_append_any {o : Oper} {a : Act} {K : Act → World → Prop} {Q : Exit → Act → World → Prop} (s x : Operand) (t : TypeId)
    (ho : o.op = .call { callee := .builtin .append, args := #[s, x], argTypes := #[t, t] })
    (base : Nat) (e : TypeId) (i : TypeInfo) (z : Value) (size bytes : Nat) (ht : P.underlying t = some (.slice e)) (hi : P.info? e = some i) (hz : i.zero = some z)
    (hsize : i.size = size) (hby : i.bytes = bytes) (hzs : z.cells.size = size) (hsz : 0 < size)
    (v : Value) (n : Nat) (xs : List Value) (hs : a.eval s = v) (hown : w.ownsRow base e size v n xs)
    (B : Nat) (A : Option Addr) (m c : Nat) (news : List Value) (hx : a.eval x = .slice A m c) (hr : Reads w B size A m news) (h1 : ∀ u ∈ news, u.oneCell' = true)
    (h63 : n + m ≤ maxLen) (hbytes : (n + m) * bytes ≤ 140737488355328) (hbase : base ≤ w.heap.size)
    (h : ∀ v' w', w'.ownsRow base e size v' (n + m) (xs ++ news) → w.grownBy w' v.ownBlock → (v'.ownBlock = v.ownBlock ∨ v'.ownBlock = some w.heap.size) → K (a.put o.dst v') w') : o.wp P a w K Q := by
  obtain ⟨v', w', hrun, h2, h3, h4⟩ := run_append_any (P := P) w base t o.type e i z size bytes ht hi hz hsize hby hzs hsz v n xs hown B A m c news hr h1 h63 hbytes hbase
  unfold Oper.wp execOp
  simp only [ho, resolve, invoke, builtin, Sem.run_bind, Sem.run_pure, Result.andThen_ok, List.map_toArray, List.map_cons, List.map_nil, hs, hx, hrun]
  exact h v' w' h2 h3 h4

end

end YtnjgglnpmhjmiaaIt
end Go
/- The last step of each statement, where the call leaves all that was there as it was. -/
namespace Go
namespace YtnjgglnpmhjmiaaIt
open Go.RowKit Go.WideShapes Go.ChangeShapes
section
variable {H : Type} {enc : TypeId × Value → H} {P : Program}
theorem post_of_below {f : Func} {s : ChangeSpec} {apart fresh handsOn again : Bool} {W W' : World} {args : Array Value} {v : Value} {ds gs : List (DataW H)} {before pa pv : List MemPlace}
    (hW : DataW.Whole enc P f.params.toList s.vars apart W args.toList ds gs before)
    (hres : ∀ (b : Nat) (sp : Nat → Bool) (hd : Bool), DataW.TrodAll enc P W' b sp hd f.resultTypes.toList (v.resultList f.resultTypes.size) (s.fn H (ds ++ gs)).results [])
    (hargs : ∀ sp : Nat → Bool, (∀ p ∈ before, sp p.block = true) → DataW.TrodAll enc P W' 0 sp true f.params.toList args.toList (s.fn H (ds ++ gs)).args pa)
    (hvars : ∀ sp : Nat → Bool, (∀ p ∈ before, sp p.block = true) → DataW.TrodVars enc P W' sp s.vars (s.fn H (ds ++ gs)).vars pv)
    (hps : before = pa ++ pv) (hb : Below W.heap.size W W')
    (hok : ∀ (j : Nat) (t : TypeId) (r : Value), f.resultTypes[j]? = some t → (v.resultList f.resultTypes.size)[j]? = some r → Value.okWide P W' .any 0 t r) :
    s.post enc P f apart fresh handsOn again W args v W' := by
  have hlt : ∀ p ∈ before, p.block < W.heap.size := fun p hp => hW.lt p hp
  have hold : ∀ p ∈ before, (fun b => decide (b < W.heap.size)) p.block = true := fun p hp => by simpa using hlt p hp
  refine ⟨ds, gs, before, [], pa, pv, hW, hres _ _ _, hargs _ hold, hvars _ hold, World.keptBut_mono (fun p hp => ⟨hp, ?_⟩) (hb.frame (· ∈ before)), fun _ => ?_⟩
  · rw [hps, List.mem_append] at hp
    exact Or.inr hp
  · obtain ⟨_, _, _, _, _, hz, hn⟩ := hW
    refine ⟨hok, _, _, ([] ++ pa) ++ pv, ⟨[] ++ pa, pv, trodAll_append (hargs _ (fun _ _ => rfl)) (hres _ _ _), hvars _ (fun _ _ => rfl), rfl, ?_, ?_⟩, ?_⟩
    · intro b off hp
      have hin : MemPlace.cell b off ∈ before := by rw [hps]; simpa using hp
      rw [hb.frozen (hlt _ hin)]
      exact hz b off hin
    · intro ha
      have := hn ha
      rw [hps] at this
      simpa using this
    · intro p hp _
      rw [hps]
      simpa using hp
end
end YtnjgglnpmhjmiaaIt
end Go
/- Generic: numbers within bounds, slices that read as lists, blocks of cells; over whatever program. -/
open Go Go.RowKit Go.YtnjgglnpmhjmiaaIt
attribute [go_sem] Oper.semAt_some
namespace Go.Proofs
namespace Ytnjgglnpmhjmiaa

/-- A number lies from lo to hi. -/
def btw (lo n hi : Int) : Bool := decide (lo ≤ n ∧ n ≤ hi)
theorem btw_true {lo n hi : Int} : btw lo n hi = true ↔ lo ≤ n ∧ n ≤ hi := by simp [btw]
theorem btw_false {lo n hi : Int} : btw lo n hi = false ↔ ¬ (lo ≤ n ∧ n ≤ hi) := by simp only [btw, decide_eq_false_iff_not]

/-! ### Blocks -/
theorem cell_blk {W : World} {b i : Nat} {c : Array Value} {t : TypeId} {fr : Nat × Nat} (h : W.heap[b]? = some (.cells c t fr)) : W.cell? ⟨b, i, none⟩ = c[i]? := by
  simp [World.cell?, h]
theorem free_blk {W : World} {b i : Nat} {c : Array Value} {t : TypeId} (h : W.heap[b]? = some (.cells c t (0, 0))) : W.frozen? ⟨b, i, none⟩ = false := by
  simp [World.frozen?, h]
theorem lt_blk {W : World} {b : Nat} {o : Obj} (h : W.heap[b]? = some o) : b < W.heap.size := (Array.getElem?_eq_some_iff.1 h).1
theorem blk_below {W W' : World} {B b : Nat} {o : Obj} (h : W.heap[b]? = some o) (hb : Below B W W') (hB : b < B) : W'.heap[b]? = some o := (hb.block b hB).trans h
theorem blk_keep {W W' : World} {b : Nat} {o : Obj} (h : W.heap[b]? = some o) (hb : Below W.heap.size W W') : W'.heap[b]? = some o := blk_below h hb (lt_blk h)
theorem heap_alloc_if (w : World) (o : Obj) (k : Nat) : (w.alloc o).heap[k]? = if k = w.heap.size then some o else w.heap[k]? := by
  show (w.heap.push o)[k]? = _
  rw [Array.getElem?_push]
theorem heap_newI {w : World} {o : Obj} {k : Nat} (h : k = w.heap.size) : (w.alloc o).heap[k]? = some o := by rw [heap_alloc_if, if_pos h]
theorem heap_oldI {w : World} {o : Obj} {k : Nat} (h : k < w.heap.size) : (w.alloc o).heap[k]? = w.heap[k]? := by rw [heap_alloc_if, if_neg (by omega)]
theorem heap_set_blk {W : World} {b i : Nat} {c : Array Value} {t : TypeId} {fr : Nat × Nat} {v : Value} (h : W.heap[b]? = some (.cells c t fr)) : (W.setCell ⟨b, i, none⟩ v).heap[b]? = some (.cells (c.setIfInBounds i v) t fr) := by
  simp only [World.setCell, Array.getElem?_modify, if_pos, h]; rfl
theorem heap_set_other {W : World} {b b' i : Nat} {v : Value} (hne : b ≠ b') : (W.setCell ⟨b', i, none⟩ v).heap[b]? = W.heap[b]? := by
  simp only [World.setCell, Array.getElem?_modify]
  rw [if_neg (fun e => hne e.symm)]
theorem btr {n : Nat} {w x y : World} (h : Below n w x) (k : Below x.heap.size x y) (hn : n ≤ w.heap.size) : Below n w y := h.trans (k.mono (Nat.le_trans hn h.size))
theorem add_at {b o i : Nat} : (⟨b, o, none⟩ : Addr).add i = ⟨b, o + i, none⟩ := by cases i <;> simp [Addr.add]

/-! New blocks, one after the other. -/
theorem sz_al (w : World) (o : Obj) : (w.alloc o).heap.size = w.heap.size + 1 := World.size_alloc w o
theorem blkE1 {w w1 : World} {a : Obj} (h : w.alloc a = w1) : w1.heap[w.heap.size]? = some a ∧ Below w.heap.size w w1 ∧ w1.heap.size = w.heap.size + 1 := by
  subst h
  exact ⟨heap_newI rfl, (Below.refl _ _).alloc (Nat.le_refl _) _, sz_al _ _⟩
theorem blkE2 {w w1 : World} {a b : Obj} (h : (w.alloc a).alloc b = w1) : w1.heap[w.heap.size]? = some a ∧ w1.heap[w.heap.size + 1]? = some b ∧ Below w.heap.size w w1 ∧ w1.heap.size = w.heap.size + 2 := by
  subst h
  obtain ⟨hba, hb, hs⟩ := blkE1 (w := w) (a := a) rfl
  exact ⟨(heap_oldI (by rw [hs]; omega)).trans hba, heap_newI (by rw [hs]), hb.alloc hb.size _, by rw [sz_al, hs]⟩
theorem blkE3 {w w1 : World} {a b c : Obj} (h : ((w.alloc a).alloc b).alloc c = w1) : w1.heap[w.heap.size]? = some a ∧ w1.heap[w.heap.size + 1]? = some b ∧ w1.heap[w.heap.size + 1 + 1]? = some c ∧ Below w.heap.size w w1 ∧ w1.heap.size = w.heap.size + 3 := by
  subst h
  obtain ⟨hba, hbb, hb, hs⟩ := blkE2 (w := w) (a := a) (b := b) rfl
  exact ⟨(heap_oldI (by rw [hs]; omega)).trans hba, (heap_oldI (by rw [hs]; omega)).trans hbb, heap_newI (by rw [hs]), hb.alloc hb.size _, by rw [sz_al, hs]⟩
theorem blkE4 {w w1 : World} {a b c d : Obj} (h : (((w.alloc a).alloc b).alloc c).alloc d = w1) : w1.heap[w.heap.size]? = some a ∧ w1.heap[w.heap.size + 1]? = some b ∧ w1.heap[w.heap.size + 1 + 1]? = some c ∧ w1.heap[w.heap.size + 1 + 1 + 1]? = some d ∧ Below w.heap.size w w1 ∧ w1.heap.size = w.heap.size + 4 := by
  subst h
  obtain ⟨hba, hbb, hbc, hb, hs⟩ := blkE3 (w := w) (a := a) (b := b) (c := c) rfl
  exact ⟨(heap_oldI (by rw [hs]; omega)).trans hba, (heap_oldI (by rw [hs]; omega)).trans hbb, (heap_oldI (by rw [hs]; omega)).trans hbc, heap_newI (by rw [hs]), hb.alloc hb.size _, by rw [sz_al, hs]⟩
theorem blkE5 {w w1 : World} {a b c d e : Obj} (h : ((((w.alloc a).alloc b).alloc c).alloc d).alloc e = w1) : w1.heap[w.heap.size]? = some a ∧ w1.heap[w.heap.size + 1]? = some b ∧ w1.heap[w.heap.size + 1 + 1]? = some c ∧ w1.heap[w.heap.size + 1 + 1 + 1]? = some d ∧ w1.heap[w.heap.size + 1 + 1 + 1 + 1]? = some e ∧ Below w.heap.size w w1 ∧ w1.heap.size = w.heap.size + 5 := by
  subst h
  obtain ⟨hba, hbb, hbc, hbd, hb, hs⟩ := blkE4 (w := w) (a := a) (b := b) (c := c) (d := d) rfl
  exact ⟨(heap_oldI (by rw [hs]; omega)).trans hba, (heap_oldI (by rw [hs]; omega)).trans hbb, (heap_oldI (by rw [hs]; omega)).trans hbc, (heap_oldI (by rw [hs]; omega)).trans hbd, heap_newI (by rw [hs]), hb.alloc hb.size _, by rw [sz_al, hs]⟩
theorem blkE6 {w w1 : World} {a b c d e f : Obj} (h : (((((w.alloc a).alloc b).alloc c).alloc d).alloc e).alloc f = w1) : w1.heap[w.heap.size]? = some a ∧ w1.heap[w.heap.size + 1]? = some b ∧ w1.heap[w.heap.size + 1 + 1]? = some c ∧ w1.heap[w.heap.size + 1 + 1 + 1]? = some d ∧ w1.heap[w.heap.size + 1 + 1 + 1 + 1]? = some e ∧ w1.heap[w.heap.size + 1 + 1 + 1 + 1 + 1]? = some f ∧ Below w.heap.size w w1 ∧ w1.heap.size = w.heap.size + 6 := by
  subst h
  obtain ⟨hba, hbb, hbc, hbd, hbe, hb, hs⟩ := blkE5 (w := w) (a := a) (b := b) (c := c) (d := d) (e := e) rfl
  exact ⟨(heap_oldI (by rw [hs]; omega)).trans hba, (heap_oldI (by rw [hs]; omega)).trans hbb, (heap_oldI (by rw [hs]; omega)).trans hbc, (heap_oldI (by rw [hs]; omega)).trans hbd, (heap_oldI (by rw [hs]; omega)).trans hbe, heap_newI (by rw [hs]), hb.alloc hb.size _, by rw [sz_al, hs]⟩
theorem blk1 {w w1 : World} {a : Obj} (h : w.alloc a = w1) : w1.heap[w.heap.size]? = some a ∧ Below w.heap.size w w1 ∧ w.heap.size + 1 ≤ w1.heap.size := by
  obtain ⟨h0, hb, hs⟩ := blkE1 h
  exact ⟨h0, hb, Nat.le_of_eq hs.symm⟩
theorem blk2 {w w1 : World} {a b : Obj} (h : (w.alloc a).alloc b = w1) : w1.heap[w.heap.size]? = some a ∧ w1.heap[w.heap.size + 1]? = some b ∧ Below w.heap.size w w1 ∧ w.heap.size + 2 ≤ w1.heap.size := by
  obtain ⟨h0, h1, hb, hs⟩ := blkE2 h
  exact ⟨h0, h1, hb, Nat.le_of_eq hs.symm⟩
/-! ### Marks: what loops over functions leave among the deferred calls of a frame -/
def mk (D : Nat) : Deferred := { target := .collected D, args := #[] }
structure Mk (B : Nat) (ds : List Nat) (w : World) : Prop where
  nd : ds.Nodup
  at_ : ∀ D ∈ ds, B ≤ D ∧ w.heap[D]? = some (.deferred (some []))
theorem Mk.nil (B : Nat) (w : World) : Mk B [] w := ⟨List.nodup_nil, fun _ h => by simp at h⟩
theorem Mk.keep {B : Nat} {ds : List Nat} {w w' : World} (h : Mk B ds w) (hk : ∀ (k : Nat) (o : Obj), w.heap[k]? = some o → o.isCells = false → w'.heap[k]? = some o) : Mk B ds w' :=
  ⟨h.nd, fun D hD => ⟨(h.at_ D hD).1, hk D _ (h.at_ D hD).2 rfl⟩⟩
theorem Mk.below {B : Nat} {ds : List Nat} {w w' : World} (h : Mk B ds w) (hb : Below w.heap.size w w') : Mk B ds w' := h.keep fun _ _ ho _ => blk_keep ho hb
theorem Mk.set {B b i : Nat} {ds : List Nat} {w : World} {v : Value} {c : Array Value} {t : TypeId} {fr : Nat × Nat} (h : Mk B ds w) (hb : w.heap[b]? = some (.cells c t fr)) : Mk B ds (w.setCell ⟨b, i, none⟩ v) :=
  h.keep fun k o ho hc => (heap_set_other (by rintro rfl; rw [hb] at ho; cases ho; cases hc)).trans ho
theorem Mk.put {B b : Nat} {ds : List Nat} {w : World} {o' : Obj} {c : Array Value} {t : TypeId} {fr : Nat × Nat} (h : Mk B ds w) (hb : w.heap[b]? = some (.cells c t fr)) : Mk B ds (w.putObj b o') :=
  h.keep fun k o ho hc => (World.putObj_heap_other (by rintro rfl; rw [hb] at ho; cases ho; cases hc)).trans ho
theorem Mk.cons {B D : Nat} {ds : List Nat} {w0 w : World} (h0 : Mk B ds w0) (h : Mk B ds w) (hD : D = w0.heap.size) (hB : B ≤ D) (hd : w.heap[D]? = some (.deferred (some []))) : Mk B (D :: ds) w :=
  ⟨List.nodup_cons.2 ⟨fun hm => by have := lt_blk (h0.at_ D hm).2; omega, h.nd⟩, fun E hE => by
    rcases List.mem_cons.1 hE with rfl | hE
    · exact ⟨hB, hd⟩
    · exact h.at_ E hE⟩
theorem Mk.stb {B n : Nat} {ds : List Nat} {w : World} (h : Mk B ds w) (hn : w.heap.size ≤ n) : Stb n (fun W => Mk B ds W) := fun _ _ g hW =>
  ⟨hW.nd, fun D hD => ⟨(hW.at_ D hD).1, (g.block D (lt_blk (hW.at_ D hD).2) (.inl (Nat.lt_of_lt_of_le (lt_blk (h.at_ D hD).2) hn))).trans (hW.at_ D hD).2⟩⟩
/-- A struct or an array that lies in memory, as the result. -/
theorem results_blk {P : Program} {fn : Func} {p : Tmp} {ty : TypeId} (h : fn.results = #[.cell p ty]) (tmps : Array Value) (w : World) (g : Nat) {t : TypeId} {cs : Array Value} {fr : Nat × Nat} {d : TypeDesc}
    (hp : tmps.getD p undef = .pointer (some ⟨g, 0, none⟩)) (hg : w.heap[g]? = some (.cells cs t fr))
    (hu : P.underlying ty = some d) (hd : (match d with | .struct _ | .array _ _ => true | _ => false) = true) {k : Nat} (hi : (P.info? ty).map (·.size) = some k) (hk : cs.size = k) :
    (results fn tmps).run P w = .ok (.agg cs) w := by
  subst hk
  have hp' : tmps[p]?.getD undef = .pointer (some ⟨g, 0, none⟩) := by simpa using hp
  simp [results, h, hp', asAddr, run_loadVar_row w g t ty cs fr d hg hu hd hi]

/-! ### Lists of numbers -/
/-- An element of a list of numbers. -/
def at0 (xs : List Int) (i : Nat) : Int := xs.getD i 0
theorem at0_lt {xs : List Int} {i : Nat} (h : i < xs.length) : at0 xs i = xs[i] := by simp [at0, h]
theorem eq_of_at0 : ∀ {xs ys : List Int}, xs.length = ys.length → (∀ i, i < xs.length → at0 xs i = at0 ys i) → xs = ys := by
  intro xs ys hl h
  apply List.ext_getElem hl
  intro i h1 h2
  have := h i h1
  rwa [at0_lt h1, at0_lt h2] at this

/-- A slice value that reads as a list of numbers. -/
def SlI (w : World) (v : Value) (xs : List Int) : Prop :=
  ∃ ad cap, v = .slice ad xs.length cap ∧ xs.length ≤ 17592186044416 ∧ xs.length ≤ cap ∧
    (0 < xs.length → ∃ b off, ad = some ⟨b, off, none⟩ ∧ b < w.heap.size ∧ ∀ i, i < xs.length → w.cell? ⟨b, off + i, none⟩ = some (.int .i64 (at0 xs i)))
theorem SlI.below {w w' : World} {v : Value} {xs : List Int} {B : Nat} (h : SlI w v xs) (hb : Below B w w') (hB : w.heap.size ≤ B) : SlI w' v xs := by
  obtain ⟨ad, cap, hv, hm, hp, hc⟩ := h
  refine ⟨ad, cap, hv, hm, hp, fun h0 => ?_⟩
  obtain ⟨b, off, ha, hlt, hcell⟩ := hc h0
  exact ⟨b, off, ha, Nat.lt_of_lt_of_le hlt hb.size, fun i hi => (hb.cell (p := ⟨b, off + i, none⟩) (by simpa using by omega)).trans (hcell i hi)⟩
theorem slI_nil (w : World) : SlI w (.slice none 0 0) [] := ⟨none, 0, rfl, by simp, by simp, fun h => by simp at h⟩

/-- A slice value that reads as a list of values of one cell each. -/
def SlV (w : World) (v : Value) (vs : List Value) : Prop :=
  ∃ ad cap, v = .slice ad vs.length cap ∧ vs.length ≤ 140737488355328 ∧ vs.length ≤ cap ∧
    (0 < vs.length → ∃ b off, ad = some ⟨b, off, none⟩ ∧ b < w.heap.size ∧ ∀ i (h : i < vs.length), w.cell? ⟨b, off + i, none⟩ = some vs[i])
theorem SlV.below {w w' : World} {v : Value} {xs : List Value} {B : Nat} (h : SlV w v xs) (hb : Below B w w') (hB : w.heap.size ≤ B) : SlV w' v xs := by
  obtain ⟨ad, cap, hv, hm, hp, hc⟩ := h
  refine ⟨ad, cap, hv, hm, hp, fun h0 => ?_⟩
  obtain ⟨b, off, ha, hlt, hcell⟩ := hc h0
  exact ⟨b, off, ha, Nat.lt_of_lt_of_le hlt hb.size, fun i hi => (hb.cell (p := ⟨b, off + i, none⟩) (by simpa using by omega)).trans (hcell i hi)⟩

/-- A slice value that reads as a list of things of sz cells each. -/
def SlG {α : Type} (enc : α → List Value) (sz : Nat) (w : World) (v : Value) (xs : List α) : Prop :=
  ∃ ad cap, v = .slice ad xs.length cap ∧ xs.length ≤ 8796093022208 ∧ xs.length ≤ cap ∧
    (0 < xs.length → ∃ b off, ad = some ⟨b, off, none⟩ ∧ b < w.heap.size ∧ ∀ i (h : i < xs.length) f u, (enc xs[i])[f]? = some u → w.cell? ⟨b, off + i * sz + f, none⟩ = some u)
theorem SlG.below {α : Type} {enc : α → List Value} {sz : Nat} {w w' : World} {v : Value} {xs : List α} {B : Nat} (h : SlG enc sz w v xs) (hb : Below B w w') (hB : w.heap.size ≤ B) : SlG enc sz w' v xs := by
  obtain ⟨ad, cap, hv, hm, hp, hc⟩ := h
  refine ⟨ad, cap, hv, hm, hp, fun h0 => ?_⟩
  obtain ⟨b, off, ha, hlt, hcell⟩ := hc h0
  exact ⟨b, off, ha, Nat.lt_of_lt_of_le hlt hb.size, fun i hi f u hu => (hb.cell (p := ⟨b, _, none⟩) (by simpa using by omega)).trans (hcell i hi f u hu)⟩
theorem flat_length {α β : Type} {enc : α → List β} {sz : Nat} (he : ∀ x, (enc x).length = sz) (xs : List α) : (xs.flatMap enc).length = xs.length * sz := by
  induction xs with
  | nil => simp
  | cons x xs ih => rw [List.flatMap_cons, List.length_append, he, ih, List.length_cons, Nat.add_mul]; omega
theorem flat_get {α β : Type} {enc : α → List β} {sz : Nat} (he : ∀ x, (enc x).length = sz) : ∀ {xs : List α} {k : Nat} (hk : k < xs.length) {f : Nat}, f < sz → (xs.flatMap enc)[k * sz + f]? = (enc xs[k])[f]?
  | [], _, hk, _, _ => by simp at hk
  | x :: xs, 0, _, f, hf => by
    rw [List.flatMap_cons, Nat.zero_mul, Nat.zero_add, List.getElem?_append_left (by rw [he]; exact hf)]; rfl
  | x :: xs, k + 1, hk, f, hf => by
    rw [List.flatMap_cons, List.getElem?_append_right (by rw [he, Nat.add_mul]; omega), he]
    have e : (k + 1) * sz + f - sz = k * sz + f := by rw [Nat.add_mul]; omega
    rw [e, flat_get he (xs := xs) (by simpa using hk) hf]; rfl
theorem cap_of {W : World} {base : Nat} {e : TypeId} {sz : Nat} {v : Value} {n : Nat} {xs : List Value} (h : W.ownsRow base e sz v n xs) : ∀ ad m cap, v = .slice ad m cap → m ≤ cap := by
  intro ad m cap hv
  rcases h.2 with ⟨h1, _⟩ | ⟨g, c, cur, h1, _, _, hnc, _⟩
  · rw [h1] at hv; injection hv with _ e2 e3; omega
  · rw [h1] at hv; injection hv with _ e2 e3; omega
theorem slG_own {α : Type} {enc : α → List Value} {sz : Nat} (he : ∀ x, (enc x).length = sz) {W : World} {base : Nat} {e : TypeId} {v : Value} {xs : List α} {n : Nat} (h : W.ownsRow base e sz v n (xs.flatMap enc)) (hn : n = xs.length) (hm : xs.length ≤ 8796093022208) : SlG enc sz W v xs := by
  subst hn
  have hcap := cap_of h
  rcases Joins.ownsRow_forms h with ⟨rfl, h0⟩ | ⟨g, cap, rfl⟩
  · exact ⟨none, 0, by rw [h0], hm, by omega, fun h1 => by omega⟩
  · have hl := h.lt g rfl
    refine ⟨_, cap, rfl, hm, hcap _ _ _ rfl, fun _ => ⟨g, 0, rfl, hl.2, fun i hi f u hu => ?_⟩⟩
    have hf : f < sz := by rw [← he xs[i]]; exact (List.getElem?_eq_some_iff.1 hu).1
    have h1 : i * sz + f < xs.length * sz := by
      have : (i + 1) * sz ≤ xs.length * sz := Nat.mul_le_mul_right _ hi
      rw [Nat.add_mul] at this; omega
    have := h.cellAt (i * sz + f) (by first | exact h1 | (rw [flat_length he]; exact h1))
    rw [Nat.zero_add, this, flat_get he hi hf]; exact hu
theorem slI_own {W : World} {base : Nat} {e : TypeId} {v : Value} {xs : List Int} {n : Nat} (h : W.ownsRow base e 1 v n (xs.map (.int .i64))) (hn : n = xs.length) (hm : xs.length ≤ 17592186044416) : SlI W v xs := by
  subst hn
  have hcap := cap_of h
  rcases Joins.ownsRow_forms h with ⟨rfl, h0⟩ | ⟨g, cap, rfl⟩
  · exact ⟨none, 0, by rw [h0], hm, by omega, fun h1 => by omega⟩
  · have hl := h.lt g rfl
    refine ⟨_, cap, rfl, hm, hcap _ _ _ rfl, fun _ => ⟨g, 0, rfl, hl.2, fun i hi => ?_⟩⟩
    have := h.cellAt i (by omega)
    rw [Nat.zero_add, this]
    simp [at0_lt hi, hi]
theorem slV_own {W : World} {base : Nat} {e : TypeId} {v : Value} {xs : List Value} {n : Nat} (h : W.ownsRow base e 1 v n xs) (hn : n = xs.length) (hm : xs.length ≤ 140737488355328) : SlV W v xs := by
  subst hn
  have hcap := cap_of h
  rcases Joins.ownsRow_forms h with ⟨rfl, h0⟩ | ⟨g, cap, rfl⟩
  · exact ⟨none, 0, by rw [h0], hm, by omega, fun h1 => by omega⟩
  · have hl := h.lt g rfl
    refine ⟨_, cap, rfl, hm, hcap _ _ _ rfl, fun _ => ⟨g, 0, rfl, hl.2, fun i hi => ?_⟩⟩
    have := h.cellAt i (by omega)
    rw [Nat.zero_add, this]
    simp [hi]
/-- A new block, as a slice. -/
theorem slI_new {w : World} {xs : List Int} {t : TypeId} {cap : Nat} {fr : Nat × Nat} (hm : xs.length ≤ 17592186044416) (hc : xs.length ≤ cap) {k : Nat} (hk : w.heap[k]? = some (.cells (xs.map (Value.int .i64)).toArray t fr)) : SlI w (.slice (some ⟨k, 0, none⟩) xs.length cap) xs := by
  refine ⟨_, cap, rfl, hm, hc, fun _ => ⟨k, 0, rfl, lt_blk hk, fun i hi => ?_⟩⟩
  rw [Nat.zero_add, cell_blk hk]
  simp [hi, at0]
/-- Such a slice as a source of append. -/
theorem reads_of_slI {w : World} {ad : Option Addr} {n cap : Nat} {xs : List Int} (h : SlI w (.slice ad n cap) xs) : Reads w w.heap.size 1 ad n (xs.map (.int .i64)) := by
  obtain ⟨ad', cap', h1, _, _, h3⟩ := h
  injection h1 with e1 e2 _
  subst e1 e2
  refine ⟨by simp, fun h0 => ?_⟩
  obtain ⟨b, off, rfl, hlt, hc⟩ := h3 h0
  refine ⟨_, rfl, hlt, fun j u hu => ?_⟩
  have hj : j < xs.length := by simpa using (List.getElem?_eq_some_iff.1 hu).1
  rw [add_at, hc j hj]
  simp [hj] at hu
  rw [at0_lt hj, hu]
theorem reads_of_slV {w : World} {ad : Option Addr} {n cap : Nat} {xs : List Value} (h : SlV w (.slice ad n cap) xs) : Reads w w.heap.size 1 ad n xs := by
  obtain ⟨ad', cap', h1, _, _, h3⟩ := h
  injection h1 with e1 e2 _
  subst e1 e2
  refine ⟨by simp, fun h0 => ?_⟩
  obtain ⟨b, off, rfl, hlt, hc⟩ := h3 h0
  refine ⟨_, rfl, hlt, fun j u hu => ?_⟩
  obtain ⟨hj, rfl⟩ := List.getElem?_eq_some_iff.1 hu
  rw [add_at, hc j hj]
/-! ### Slices of the call's own, grown by append -/
theorem Stb.row {B base : Nat} {e : TypeId} {sz : Nat} {v : Value} {n : Nat} {xs : List Value} : Stb B (fun W => W.ownsRow base e sz v n xs) := by
  rintro W W' g ⟨h1, h2⟩
  refine ⟨h1, ?_⟩
  rcases h2 with h | ⟨b, cap, cur, hv, hb, hh, r1, r2, r3, r4⟩
  · exact .inl h
  · exact .inr ⟨b, cap, cur, hv, hb, Stb.cells (B := B) W W' g hh, r1, r2, r3, r4⟩
theorem row_below {W W' : World} {base : Nat} {e : TypeId} {sz : Nat} {v : Value} {n : Nat} {xs : List Value} (h : W.ownsRow base e sz v n xs) (hb : Below W.heap.size W W') : W'.ownsRow base e sz v n xs := Stb.row (B := 0) W W' (Gr.below hb) h
/-- Behind an append onto a slice of the call's own, what lay below is as it was. -/
theorem grown_below {W W' X : World} {v : Value} {B n m : Nat} {xs : List Value} {e : TypeId} {sz : Nat} (h : W.grownBy W' v.ownBlock) (ho : W.ownsRow B e sz v n xs) (hb : m ≤ B) (hB : B ≤ W.heap.size) (hx : Below m X W) : Below m X W' := by
  refine ⟨h.os.trans hx.os, h.tape.trans hx.tape, h.output.trans hx.output, Nat.le_trans hx.size h.size, fun k hk => ?_⟩
  rw [h.block k (by omega) (fun h2 => by have := (ho.lt k h2.symm).1; omega)]
  exact hx.block k hk
theorem form_of {W : World} {base : Nat} {e : TypeId} {sz n : Nat} {v : Value} {xs : List Value} (h : W.ownsRow base e sz v n xs) : ∃ ad cap, v = .slice ad n cap := by
  rcases Joins.ownsRow_forms h with ⟨rfl, h0⟩ | ⟨g, cap, rfl⟩
  · exact ⟨none, 0, by rw [h0]⟩
  · exact ⟨_, cap, rfl⟩
theorem cell_newL {W : World} {xs : List Value} {t : TypeId} {g : Nat} (hg : g = W.heap.size) : ∀ j u, xs[j]? = some u → (W.alloc (.cells xs.toArray t)).cell? ((⟨g, 0, none⟩ : Addr).add j) = some u := by
  subst hg
  intro j u h
  rw [add_at, cell_blk (heap_newI rfl), Nat.zero_add, List.getElem?_toArray]; exact h
/-- What holds behind the append and the store into the variable. -/
structure Appended (W : World) (b : Nat) (t : TypeId) (base : Nat) (e : TypeId) (sz : Nat) (v v' : Value) (m : Nat) (ys : List Value) (w1 : World) : Prop where
  cell : w1.cell? ⟨b, 0, none⟩ = some v
  free : w1.frozen? ⟨b, 0, none⟩ = false
  blk : (w1.setCell ⟨b, 0, none⟩ v').heap[b]? = some (.cells #[v'] t (0, 0))
  row : (w1.setCell ⟨b, 0, none⟩ v').ownsRow base e sz v' m ys
  others : ∀ k, k < base → k ≠ b → (w1.setCell ⟨b, 0, none⟩ v').heap[k]? = W.heap[k]?
  kx : ∀ (B : Nat) (TT : TypeId → Prop), ¬ TT t → ¬ TT e → Kx B TT W (w1.setCell ⟨b, 0, none⟩ v')
  below : ∀ n X, n ≤ b → Below n X W → Below n X (w1.setCell ⟨b, 0, none⟩ v')
  size : W.heap.size ≤ (w1.setCell ⟨b, 0, none⟩ v').heap.size
theorem Kx.mono {B B' : Nat} {TT : TypeId → Prop} {X Y : World} (h : Kx B TT X Y) (hB : B ≤ B') : Kx B' TT X Y := ⟨h.size, fun k o hk => h.same k o (Nat.le_trans hB hk), h.typed⟩
/-! ### Maps of which each entry is right -/
end Ytnjgglnpmhjmiaa
end Go.Proofs
/- Generic: slices of slices; a slice of the call's own whose elements are changed. -/
open Go Go.RowKit Go.YtnjgglnpmhjmiaaIt
namespace Go.Proofs
namespace Ytnjgglnpmhjmiaa
theorem row_same {W W' : World} {base : Nat} {e : TypeId} {sz : Nat} {v : Value} {n : Nat} {xs : List Value} (h : W.ownsRow base e sz v n xs) (hk : ∀ g, v.ownBlock = some g → W'.heap[g]? = W.heap[g]?) : W'.ownsRow base e sz v n xs := by
  refine ⟨h.1, ?_⟩
  rcases h.2 with h | ⟨g, cap, cur, rfl, hb, hh, r1, r2, r3, r4⟩
  · exact .inl h
  · exact .inr ⟨g, cap, cur, rfl, hb, (hk g rfl).trans hh, r1, r2, r3, r4⟩
/-- A slice of lists of numbers. -/
def SlII (w : World) (v : Value) (rows : List (List Int)) : Prop := ∃ vs : List Value, SlV w v vs ∧ vs.length = rows.length ∧ ∀ i (h : i < vs.length) (h' : i < rows.length), SlI w vs[i] rows[i]
theorem SlII.below {w w' : World} {v : Value} {rows : List (List Int)} {B : Nat} (h : SlII w v rows) (hb : Below B w w') (hB : w.heap.size ≤ B) : SlII w' v rows := by
  obtain ⟨vs, h1, h2, h3⟩ := h
  exact ⟨vs, h1.below hb hB, h2, fun i hi hi' => (h3 i hi hi').below hb hB⟩
theorem slI_form {w : World} {v : Value} {xs : List Int} (h : SlI w v xs) : ∃ ad c, v = .slice ad xs.length c := by
  obtain ⟨ad, cap, hv, _⟩ := h; exact ⟨ad, cap, hv⟩
theorem made_rep (z : Value) (hz : z.cells = #[z]) (n : Nat) : (madeCells z.cells (n * 1)).toList = List.replicate n z := by
  apply List.ext_getElem?
  intro i
  rw [List.getElem?_replicate]
  by_cases h : i < n
  · simp [madeCells, hz, h, Nat.mod_one]
  · simp [madeCells, hz, h]
theorem row_full {W : World} {base : Nat} {e : TypeId} {n g : Nat} {xs : List Value} (h : W.ownsRow base e 1 (.slice (some ⟨g, 0, none⟩) n n) n xs) : W.heap[g]? = some (.cells xs.toArray e (0, 0)) := by
  rcases h.2 with ⟨h, _⟩ | ⟨g2, cap2, cur, hv, _, hh, _, _, hsz, ht⟩
  · cases h
  · injection hv with e1 _ e3
    injection e1 with e1
    injection e1 with e1
    subst e1 e3
    rw [hh]
    have : cur = xs.toArray := by
      apply Array.toList_inj.1
      rw [← ht, List.take_of_length_le (by simp [hsz])]
    rw [this]
end Ytnjgglnpmhjmiaa
end Go.Proofs
/- Generic: calls and loads of whole blocks as single steps of a region whose order is open. -/
open Go Go.RowKit Go.YtnjgglnpmhjmiaaIt
namespace Go.Proofs
namespace Ytnjgglnpmhjmiaa
/-- A call of a function value by its contract, as one step. -/
theorem oper_callg {P : Program} {o : Oper} {a : Act} {w : World} {K : Act → World → Prop} {Q : Exit → Act → World → Prop} {c : Operand} {f : Nat} {lb : Array Value} {xs : Array Operand} {ts : Array TypeId}
    (hop : o.op = Op.call { callee := Callee.value c, args := xs, argTypes := ts }) (hcv : a.eval c = .func (.func f) #[] lb) (eg : ∀ args w, (callFunc f args).run P w = .ok (.enter f args) w) {args : List Value} (ha : xs.toList.map a.eval = args) {R : Value → World → Prop}
    (hc : Calls P f (args.toArray ++ lb) w fun e w' => ∃ v, e = .returned v ∧ R v w') (h : ∀ v w', R v w' → K (a.put o.dst v) w') : Oper.wp P o a w K Q := by
  have ha' : xs.map a.eval = args.toArray := by
    apply Array.toList_inj.1
    rw [Array.toList_map, ha]
  have hrs : resolve a.eval { callee := Callee.value c, args := xs, argTypes := ts } o.type = pure { target := .fn (.func f) lb, args := args.toArray } := by
    unfold resolve
    simp only [hcv, ha', Deferred.ofValue]
    simp
  unfold Oper.wp execOp
  simp only [hop, hrs, Sem.run_bind, Sem.run_pure, Result.andThen_ok, invoke, eg]
  simp only [go_sem]
  refine Calls.mono hc ?_
  rintro e w' ⟨v, rfl, hr⟩
  exact h v w' hr
/-- A load of a whole block yields the same in whatever world has the block. -/
theorem yields_load_blk {P : Program} {S : World → Prop} {a : Act} {o : Oper} (ty : TypeId) (x : Operand) (ho : o.op = .load ty x)
    (g : Nat) (hx : a.eval x = .pointer (some ⟨g, 0, none⟩)) {t : TypeId} {cs : Array Value} {fr : Nat × Nat} (hg : ∀ W, S W → W.heap[g]? = some (.cells cs t fr)) {d : TypeDesc}
    (hu : P.underlying ty = some d) (hd : (match d with | .struct _ | .array _ _ => true | _ => false) = true) {k : Nat} (hi : (P.info? ty).map (·.size) = some k) (hk : cs.size = k) :
    ∀ w, S w → (execOp a.eval o).run P w = .ok (.value (.agg cs)) w := by
  intro W hW
  unfold execOp
  simp only [ho, hx, Instr.loadAt, Instr.sureAddr, Sem.run_bind, Sem.run_pure, Result.andThen_ok, run_loadVar_row W g t ty cs fr d (hg W hW) hu hd (by rw [hi, hk])]
/-- A store of a whole block, as one step. -/
theorem oper_store_blk {P : Program} {o : Oper} {a : Act} {w : World} {K : Act → World → Prop} {Q : Exit → Act → World → Prop} (ty : TypeId) (x y : Operand) (ho : o.op = .store ty x y)
    (g : Nat) (hx : a.eval x = .pointer (some ⟨g, 0, none⟩)) {cells : Array Value} (hy : a.eval y = .agg cells)
    {t : TypeId} {old : Array Value} (hg : w.heap[g]? = some (.cells old t (0, 0))) {k : Nat} (hi : (P.info? ty).map (·.size) = some k) (hk : cells.size = k)
    (hold : old.size = k) (h1 : cells.all (·.oneCell') = true)
    (h : K (a.put o.dst undef) (w.putObj g (.cells cells t (0, 0)))) : Oper.wp P o a w K Q :=
  wp_store_row ty x y ho g cells hx hy t old hg (by rw [hk]; exact hi) (by omega) h1 (by rw [setRow_putObj hg]; exact h)
end Ytnjgglnpmhjmiaa
end Go.Proofs
/- Append onto a slice of the call's own: its row is the old one, or new. Over whatever program. -/
open Go Go.RowKit Go.YtnjgglnpmhjmiaaIt
namespace Go
namespace YtnjgglnpmhjmiaaIt
theorem run_append_own2 {P : Program} {w : World} (base : Nat) (t ty e : TypeId) (i : TypeInfo) (z : Value) (size bytes : Nat) (ht : P.underlying t = some (.slice e)) (hi : P.info? e = some i) (hz : i.zero = some z)
    (hsize : i.size = size) (hby : i.bytes = bytes) (hzs : z.cells.size = size) (hsz : 0 < size)
    (v : Value) (n : Nat) (xs : List Value) (hown : w.ownsRow base e size v n xs)
    (a : Addr) (m c : Nat) (news : List Value) (hl : news.length = m * size) (hnews : ∀ j u, news[j]? = some u → w.cell? (a.add j) = some u) (h1 : ∀ u ∈ news, u.oneCell' = true)
    (h63 : n + m ≤ maxLen) (hbytes : (n + m) * bytes ≤ 140737488355328) (hbase : base ≤ w.heap.size) :
    ∃ v' w', (Builtin.append_ #[t, t] ty #[v, .slice (some a) m c]).run P w = .ok v' w' ∧ w'.ownsRow base e size v' (n + m) (xs ++ news) ∧ w.grownBy w' v.ownBlock ∧ ∀ g, v'.ownBlock = some g → v.ownBlock = some g ∨ w.heap.size ≤ g := by
  obtain ⟨v', w', hrun, h2, h3, -⟩ := run_append_own (P := P) w base t ty e i z size bytes ht hi hz hsize hby hzs hsz v n xs hown a m c news hl hnews h1 h63 hbytes hbase
  refine ⟨v', w', hrun, h2, h3, fun g' hg' => ?_⟩
  rcases hown.2 with ⟨rfl, rfl⟩ | ⟨g, cap, cur, rfl, hbg, hg, hnc, hcm, hcs, htake⟩
  · have hx : xs = [] := List.eq_nil_of_length_eq_zero (by simpa using hown.1)
    subst hx
    obtain ⟨v2, w2, hrun2, k2, -, -⟩ := run_append_own (P := P) w w.heap.size t ty e i z size bytes ht hi hz hsize hby hzs hsz (.slice none 0 0) 0 [] (World.ownsRow_nil _ _ _ _) a m c news hl hnews h1 h63 hbytes (Nat.le_refl _)
    rw [hrun2] at hrun
    cases hrun
    exact .inr (k2.lt g' hg').1
  · subst hsize
    by_cases hroom : n + m ≤ cap
    · have hr := run_append_room (P := P) w t ty e i ht hi g n cap cur hg a m c news hl hnews h1 hroom (by rw [hl, hcs, ← Nat.add_mul]; exact Nat.mul_le_mul_right _ hroom)
      rw [hr] at hrun
      cases hrun
      exact .inl (by simpa [Value.ownBlock] using hg')
    · have holds : ∀ j u, xs[j]? = some u → w.cell? ((⟨g, 0, none⟩ : Addr).add j) = some u := hown.cells (g := g) rfl
      have hsmall : n + m ≤ 9223372036854775807 := by simp only [maxLen] at h63; omega
      have hr := run_append_grow (P := P) w t ty e i z ht hi hz ⟨g, 0, none⟩ n cap xs hown.1 holds a m c news hl hnews (by omega) (by omega) (growslice_fits (by omega) (by rw [hby]; exact hbytes))
      rw [hr] at hrun
      cases hrun
      have : g' = w.heap.size := by simpa [Value.ownBlock] using hg'.symm
      exact .inr (by omega)
theorem wpListIn_append_own2 {F : Fence} {n : Nat} {P : Program} (w : World) {ops : Array Oper} {rest : List Oper} {o : Oper} {a : Act} {Q : Exit → Act → World → Prop}
    (hg : o.guard = none) (s x : Operand) (t : TypeId) (hop : o.op = Op.call { callee := Callee.builtin Builtin.append, args := #[s, x], argTypes := #[t, t] })
    (base : Nat) (e : TypeId) (i : TypeInfo) (z : Value) (size bytes : Nat) (h1 : P.underlying t = some (.slice e)) (h2 : P.info? e = some i) (h3 : i.zero = some z) (h4 : i.size = size) (h5 : i.bytes = bytes) (h6 : z.cells.size = size) (h7 : 0 < size)
    (v : Value) (k : Nat) (xs : List Value) (hs : a.eval s = v) (hown : w.ownsRow base e size v k xs) (ad : Addr) (m c : Nat) (news : List Value) (hx : a.eval x = .slice (some ad) m c) (hn : news.length = m * size)
    (hc : ∀ j u, news[j]? = some u → w.cell? (ad.add j) = some u) (h1c : ∀ u ∈ news, u.oneCell' = true) (b1 : k + m ≤ maxLen) (b2 : (k + m) * bytes ≤ 140737488355328) (b3 : base ≤ w.heap.size)
    (hK : ∀ v' w', w'.ownsRow base e size v' (k + m) (xs ++ news) → w.grownBy w' v.ownBlock → (∀ g, v'.ownBlock = some g → v.ownBlock = some g ∨ w.heap.size ≤ g) → wpListIn F n P ops Q rest (a.put o.dst v') w') :
    wpListIn F n P ops Q (o :: rest) a w := by
  refine wpListIn_plain hg fun K hK' => ?_
  obtain ⟨v', w', hrun, r1, r2, r3⟩ := run_append_own2 (P := P) base t o.type e i z size bytes h1 h2 h3 h4 h5 h6 h7 v k xs hown ad m c news hn hc h1c b1 b2 b3
  unfold Oper.wpIn
  refine ⟨?_, ?_⟩
  · simp [Oper.about, hop, resolve, Target.leads, Sem.run_pure]
  · rw [Oper.semAt_plain F _ _ (by rw [hop]; intro c hc'; cases hc')]
    simp [execOp, hop, resolve, invoke, builtin, hs, hx, hrun, Result.andThen]
    exact hK' _ _ (hK v' w' r1 r2 r3)
end YtnjgglnpmhjmiaaIt
end Go
/- make of a whole slice in a round; max in a region whose order is open. Over whatever program. -/
open Go Go.RowKit Go.YtnjgglnpmhjmiaaIt
namespace Go
namespace YtnjgglnpmhjmiaaIt
theorem wpList_max {P : Program} {ops : Array Oper} {rest : List Oper} {o : Oper} {a : Act} {w : World} {Q : Exit → Act → World → Prop} (hgd : o.guard = none) (x y : Operand) (ats : Array TypeId)
    (ho : o.op = .call { callee := .builtin .max, args := #[x, y], argTypes := ats }) {k : IntKind} {m n : Int} (hx : a.eval x = .int k m) (hy : a.eval y = .int k n)
    (h : wpList P ops Q rest (a.put o.dst (.int k (max m n))) w) : wpList P ops Q (o :: rest) a w :=
  wpList_plain hgd fun K hK => by
    have hr : (execOp a.eval o).run P w = .ok (.value (.int k (max m n))) w := by
      unfold execOp
      simp only [ho, resolve, invoke, builtin, Sem.run_bind, Sem.run_pure, Result.andThen_ok, List.map_toArray, List.map_cons, List.map_nil, hx, hy]
      have e : (if m < n then n else m) = max m n := by rw [Int.max_def]; split <;> split <;> omega
      simp [Builtin.max_, Builtin.max2, go_sem, e]
    unfold Oper.wp
    rw [hr]
    exact hK _ _ h
end YtnjgglnpmhjmiaaIt
end Go
/- A region whose order is open and whose last operation is a store that waits for all others: a condition on the world is held up to it. Over whatever program. -/
open Go Go.RowKit Go.YtnjgglnpmhjmiaaIt
namespace Go
namespace YtnjgglnpmhjmiaaIt
section
variable {P : Program} {ops : Array Oper} {Q : Exit → Act → World → Prop} {md : Region.Mode} {S : World → Prop} {z : Nat}
/-- Whatever order is picked, and S holds behind each operation but z. -/
def wpAnyZ (P : Program) (md : Region.Mode) (ops : Array Oper) (Q : Exit → Act → World → Prop) (S : World → Prop) (z : Nat) : Nat → Array Bool → Act → World → Prop
  | 0, listed, a, w => Region.ready md ops listed = [] ∧ Q .normal a w
  | fuel + 1, listed, a, w =>
    (Region.ready md ops listed = [] → Q .normal a w) ∧
    ∀ i ∈ Region.ready md ops listed, wpOp P ops Q i (fun a' w' => (i ≠ z → S w') ∧ wpAnyZ P md ops Q S z fuel (listed.setIfInBounds i true) a' w') a w
/-- Operation z waits for operation i. -/
def waitsB (md : Region.Mode) (ops : Array Oper) (z i : Nat) : Bool := match ops[z]? with
  | some o => o.after.any fun e => Region.binds md e && e.on == i
  | none => false
/-- Each of these may come up. -/
def AllReadyZ (P : Program) (md : Region.Mode) (ops : Array Oper) (Q : Exit → Act → World → Prop) (S : World → Prop) (z : Nat) (fuel : Nat) (listed : Array Bool) (a : Act) (w : World) (rs : List Nat) : Prop :=
  ∀ i ∈ rs, wpOp P ops Q i (fun a' w' => (i ≠ z → S w') ∧ wpAnyZ P md ops Q S z fuel (listed.setIfInBounds i true) a' w') a w
theorem AllReadyZ.nil {fuel : Nat} {listed : Array Bool} {a : Act} {w : World} : AllReadyZ P md ops Q S z fuel listed a w [] := fun _ h => by cases h
theorem AllReadyZ.cons {fuel : Nat} {listed : Array Bool} {a : Act} {w : World} {i : Nat} {o : Oper} {rs : List Nat} (ho : ops[i]? = some o) (hw : Region.wanted o (yielded ops a.tmps) = true)
    (h : ∀ K : Act → World → Prop, (∀ a' w', (i ≠ z → S w') → wpAnyZ P md ops Q S z fuel (listed.setIfInBounds i true) a' w' → K a' w') → Oper.wp P o a w K Q)
    (hs : AllReadyZ P md ops Q S z fuel listed a w rs) : AllReadyZ P md ops Q S z fuel listed a w (i :: rs) := fun j hj => by
  rcases List.mem_cons.1 hj with rfl | hj
  · unfold wpOp
    rw [ho]
    simp only
    rw [if_pos hw]
    exact .inl (h _ fun a' w' h1 h2 => ⟨h1, h2⟩)
  · exact hs j hj
end
end YtnjgglnpmhjmiaaIt
end Go
/- A region whose order is open: first what is quiet within a class of worlds (reads, and calls that lay blocks), then the rest one after the other. Over whatever program. -/
open Go Go.RowKit Go.YtnjgglnpmhjmiaaIt
namespace Go
namespace YtnjgglnpmhjmiaaIt
section
variable {P : Program} {ops : Array Oper} {md : Region.Mode} {C : World → Prop}
/-- A call of a function by its contract, as one step. -/
theorem oper_call {o : Oper} {a : Act} {w : World} {K : Act → World → Prop} {Q : Exit → Act → World → Prop} {f : Nat} {xs : Array Operand} {ts : Array TypeId}
    (hop : o.op = Op.call { callee := Callee.value (Operand.func f), args := xs, argTypes := ts }) (eg : ∀ args w, (callFunc f args).run P w = .ok (.enter f args) w) {v : Value} {R : World → Prop} {args : List Value} (ha : xs.toList.map a.eval = args)
    (hc : Calls P f args.toArray w fun e w' => e = .returned v ∧ R w') (h : ∀ w', R w' → K (a.put o.dst v) w') : Oper.wp P o a w K Q := by
  have ha' : xs.map a.eval = args.toArray := by
    apply Array.toList_inj.1
    rw [Array.toList_map, ha]
  unfold Oper.wp
  simp [execOp, hop, resolve, invoke, Act.eval, go_sem, eg]
  rw [ha']
  refine Calls.mono hc ?_
  rintro e w' ⟨rfl, hr⟩
  exact h w' hr
end
end YtnjgglnpmhjmiaaIt
end Go
/- A region whose order is open: a condition on the world is held until operation z has come up (a store that waits for the loads). Over whatever program. -/
open Go Go.RowKit Go.YtnjgglnpmhjmiaaIt
namespace Go
namespace YtnjgglnpmhjmiaaIt
section
variable {P : Program} {ops : Array Oper} {Q : Exit → Act → World → Prop} {md : Region.Mode} {S : World → Prop} {z : Nat}
theorem getD_set_le {l : Array Bool} {i z : Nat} (h : (l.setIfInBounds i true).getD z true = false) : l.getD z true = false := by
  by_cases hz : i = z
  · subst hz
    rcases Nat.lt_or_ge i l.size with h' | h'
    · simp [h'] at h
    · simp [h'] at h
  · rw [getD_set_ne true hz] at h; exact h
end
end YtnjgglnpmhjmiaaIt
end Go
/- A region whose order is open: a condition on the world is held until operation z has come up (a store that waits for the loads), another one to the end. Over whatever program. -/
open Go Go.RowKit Go.YtnjgglnpmhjmiaaIt
namespace Go
namespace YtnjgglnpmhjmiaaIt
section
variable {P : Program} {ops : Array Oper} {Q : Exit → Act → World → Prop} {md : Region.Mode} {R S : World → Prop} {z : Nat}
/-- Whatever order is picked, R holds to the end, and S until z has come up. -/
def wpAnyX (P : Program) (md : Region.Mode) (ops : Array Oper) (Q : Exit → Act → World → Prop) (R S : World → Prop) (z : Nat) : Nat → Array Bool → Act → World → Prop
  | 0, listed, a, w => Region.ready md ops listed = [] ∧ Q .normal a w
  | fuel + 1, listed, a, w =>
    (Region.ready md ops listed = [] → Q .normal a w) ∧
    ∀ i ∈ Region.ready md ops listed, wpOp P ops Q i (fun a' w' => (R w' ∧ ((listed.setIfInBounds i true).getD z true = false → S w')) ∧ wpAnyX P md ops Q R S z fuel (listed.setIfInBounds i true) a' w') a w
theorem wpAny_of_x : ∀ (fuel : Nat) (listed : Array Bool) (a : Act) (w : World), wpAnyX P md ops Q R S z fuel listed a w → wpAny P md ops Q fuel listed a w
  | 0, _, _, _, h => h
  | fuel + 1, _, _, _, h => ⟨h.1, fun i hi => wpOp_mono (fun a' w' h' => wpAny_of_x fuel _ a' w' h'.2) (h.2 i hi)⟩
theorem wpAnyX_first {i : Nat} {oi : Oper} {v : Value} {T : World → Prop} (hi : ops[i]? = some oi) (hsel : ∀ (j : Nat) (o : Oper) cs b, ops[j]? = some o → o.op ≠ .select cs b)
    (hQ : ∀ c a w, Q (.panic c) (a.put oi.dst v) w → Q (.panic c) a w) (hiz : i ≠ z) (hT : (waitsB md ops z i = true ∧ T = fun w => R w ∧ S w) ∨ T = R) :
    ∀ (fuel : Nat) (listed : Array Bool) (a : Act) (w : World), (waitsB md ops z i = true → (T = fun w => R w ∧ S w) → listed.getD z true = false) →
      (∀ j oj, ops[j]? = some oj → j ≠ i → listed.getD j true = false → (∀ e ∈ oj.after, Region.binds md e = true → e.on ≠ i) → oi.apart ops oj = true) →
      i ∈ Region.ready md ops listed → YieldsIf P ops T oi v a → (R w ∧ (listed.getD z true = false → S w)) →
      wpAnyX P md ops Q R S z fuel (listed.setIfInBounds i true) (a.put oi.dst v) w → wpAnyX P md ops Q R S z (fuel + 1) listed a w := by
  have hTw : ∀ {listed : Array Bool} {w : World}, (waitsB md ops z i = true → (T = fun w => R w ∧ S w) → listed.getD z true = false) → R w ∧ (listed.getD z true = false → S w) → T w := fun h1 h2 => by
    rcases hT with ⟨a, rfl⟩ | rfl
    · exact ⟨h2.1, h2.2 (h1 a rfl)⟩
    · exact h2.1
  intro fuel
  induction fuel with
  | zero =>
    intro listed a w hzz _ hr hy hS H
    refine ⟨fun h => (by rw [h] at hr; cases hr), fun j hj => ?_⟩
    by_cases hji : j = i
    · subst hji; exact hy.wpOp hi (hTw hzz hS) ⟨⟨hS.1, fun h => hS.2 (getD_set_le h)⟩, H⟩
    · have := ready_mono hj hji
      rw [H.1] at this
      cases this
  | succ fuel ih =>
    intro listed a w hzz hfree hr hy hS H
    refine ⟨fun h => (by rw [h] at hr; cases hr), fun j hj => ?_⟩
    by_cases hji : j = i
    · subst hji; exact hy.wpOp hi (hTw hzz hS) ⟨⟨hS.1, fun h => hS.2 (getD_set_le h)⟩, H⟩
    · have h1 := H.2 j (ready_mono hj hji)
      obtain ⟨hjun, oj, hoj, hall⟩ := mem_ready.1 hj
      have hnot : ∀ e ∈ oj.after, Region.binds md e = true → e.on ≠ i := fun e he hb heq => by
        have h1 := hall e he hb
        have h0 := (mem_ready.1 hr).1
        rw [heq] at h1
        rcases Nat.lt_or_ge i listed.size with h' | h'
        · simp [h'] at h0 h1; rw [h0] at h1; cases h1
        · simp [Array.getElem?_eq_none h'] at h1
      have h2 := wpOp_putIf hoj (hfree j oj hoj hji hjun hnot) (fun cs b => hsel i oi cs b hi) (fun cs b => hsel j oj cs b hoj) hQ hy h1
      have hzz' : waitsB md ops z i = true → (T = fun w => R w ∧ S w) → (listed.setIfInBounds j true).getD z true = false := fun hw hTS => by
        have h0 := hzz hw hTS
        have hjz : j ≠ z := fun e => by
          subst e
          unfold waitsB at hw
          rw [hoj] at hw
          obtain ⟨e, he, hb⟩ := Array.any_eq_true'.1 hw
          simp only [Bool.and_eq_true, beq_iff_eq] at hb
          exact hnot e he hb.1 hb.2
        rw [getD_set_ne true hjz]; exact h0
      have hfree' : ∀ k ok, ops[k]? = some ok → k ≠ i → (listed.setIfInBounds j true).getD k true = false →
          (∀ e ∈ ok.after, Region.binds md e = true → e.on ≠ i) → oi.apart ops ok = true := fun k ok hk hki hun hno => by
        refine hfree k ok hk hki ?_ hno
        by_cases hjk : j = k
        · subst hjk; exact hjun
        · rw [getD_set_ne true hjk] at hun; exact hun
      have hcomm : (listed.setIfInBounds i true).setIfInBounds j true = (listed.setIfInBounds j true).setIfInBounds i true := Array.setIfInBounds_comm _ _ (Ne.symm hji)
      have hback : ∀ {W : World}, (((listed.setIfInBounds i true).setIfInBounds j true).getD z true = false → S W) → (z ≠ i → (listed.setIfInBounds j true).getD z true = false → S W) := fun h hz h0 => h (by rw [hcomm, getD_set_ne true (Ne.symm hz)]; exact h0)
      refine wpOp_mono (fun a' w' h3 => ?_) h2
      refine ⟨⟨h3.2.1.1, hback h3.2.1.2 (Ne.symm hiz)⟩, ih (listed.setIfInBounds j true) a' w' hzz' hfree' (ready_mono hr (Ne.symm hji)) h3.1 ⟨h3.2.1.1, hback h3.2.1.2 (Ne.symm hiz)⟩ ?_⟩
      rw [← hcomm]
      exact h3.2.2
/-- Take number i first: it needs S, and z waits for it. -/
theorem wpAnyX_take {i : Nat} {oi : Oper} {v : Value} {fuel : Nat} {listed : Array Bool} {a : Act} {w : World} (hi : ops[i]? = some oi)
    (hs : Region.noSelect ops = true) (hf : (Region.free md ops listed i && waitsB md ops z i && !(listed.getD z true) && decide (i ≠ z)) = true) (hr : (Region.ready md ops listed).contains i = true)
    (hQ : ∀ c a w, Q (.panic c) (a.put oi.dst v) w → Q (.panic c) a w) (hy : YieldsIf P ops (fun w => R w ∧ S w) oi v a) (hS : R w ∧ (listed.getD z true = false → S w))
    (h : wpAnyX P md ops Q R S z fuel (listed.setIfInBounds i true) (a.put oi.dst v) w) : wpAnyX P md ops Q R S z (fuel + 1) listed a w := by
  simp only [Bool.and_eq_true, Bool.not_eq_true', decide_eq_true_eq] at hf
  exact wpAnyX_first (T := fun w => R w ∧ S w) hi (Region.noSelect_spec hs) hQ hf.2 (.inl ⟨hf.1.1.2, rfl⟩) fuel listed a w (fun _ _ => hf.1.2) (Region.free_spec hi hf.1.1.1) (by simpa using hr) hy hS h
/-- Take number i first: it needs only what holds to the end. -/
theorem wpAnyX_keep {i : Nat} {oi : Oper} {v : Value} {fuel : Nat} {listed : Array Bool} {a : Act} {w : World} (hi : ops[i]? = some oi)
    (hs : Region.noSelect ops = true) (hf : (Region.free md ops listed i && decide (i ≠ z) && !(waitsB md ops z i && listed.getD z true)) = true) (hr : (Region.ready md ops listed).contains i = true)
    (hQ : ∀ c a w, Q (.panic c) (a.put oi.dst v) w → Q (.panic c) a w) (hy : YieldsIf P ops R oi v a) (hS : R w ∧ (listed.getD z true = false → S w))
    (h : wpAnyX P md ops Q R S z fuel (listed.setIfInBounds i true) (a.put oi.dst v) w) : wpAnyX P md ops Q R S z (fuel + 1) listed a w := by
  simp only [Bool.and_eq_true, Bool.not_eq_true', decide_eq_true_eq, Bool.and_eq_false_iff] at hf
  exact wpAnyX_first (T := R) hi (Region.noSelect_spec hs) hQ hf.1.2 (.inr rfl) fuel listed a w (fun h1 _ => hf.2.resolve_left (by rw [h1]; simp)) (Region.free_spec hi hf.1.1) (by simpa using hr) hy hS h
theorem wpAnyX_done {listed : Array Bool} {a : Act} {w : World} (hr : Region.ready md ops listed = []) (h : Q .normal a w) :
    ∀ fuel, wpAnyX P md ops Q R S z fuel listed a w
  | 0 => ⟨hr, h⟩
  | _ + 1 => ⟨fun _ => h, by rw [hr]; simp⟩
theorem wp_region_x {id : Nat} {a : Act} {w : World} (hm : P.follows .mixedOrders = true)
    (h : wpAnyX P .any ops Q R S z ops.size (Array.replicate ops.size false) a { w with drawn := w.drawn + 1 }) : (Code.region id ops true).wp P Q a w :=
  wp_region_any hm (wpAny_of_x _ _ _ _ h)
theorem wpIn_region_x {r : Option Nat} {n id : Nat} {a : Act} {w : World} (hm : P.follows .mixedOrders = true) (hnd : noDefer ops = true) (hL : LetsOut Q → False)
    (h : wpAnyX P .any ops Q R S z ops.size (Array.replicate ops.size false) a { w with drawn := w.drawn + 1 }) : (Code.region id ops true).wpIn (fw r) n P Q a w :=
  wpIn_region_any' hm hnd hL (wpAny_of_x _ _ _ _ h)
/-- The only one that may come up comes up. -/
theorem wpAnyX_one {i : Nat} {o : Oper} {fuel : Nat} {listed : Array Bool} {a : Act} {w : World} (hr : Region.ready md ops listed = [i]) (ho : ops[i]? = some o) (hw : Region.wanted o (yielded ops a.tmps) = true)
    (h : ∀ K : Act → World → Prop, (∀ a' w', (R w' ∧ ((listed.setIfInBounds i true).getD z true = false → S w')) → wpAnyX P md ops Q R S z fuel (listed.setIfInBounds i true) a' w' → K a' w') → Oper.wp P o a w K Q) : wpAnyX P md ops Q R S z (fuel + 1) listed a w :=
  ⟨fun h0 => absurd (hr ▸ h0) (by simp), fun j hj => by
    rw [hr] at hj
    simp only [List.mem_singleton] at hj
    subst hj
    unfold wpOp
    rw [ho]
    simp only
    rw [if_pos hw]
    exact .inl (h _ fun a' w' h1 h2 => ⟨h1, h2⟩)⟩
/-- Each of these may come up. -/
def AllReadyX (P : Program) (md : Region.Mode) (ops : Array Oper) (Q : Exit → Act → World → Prop) (R S : World → Prop) (z : Nat) (fuel : Nat) (listed : Array Bool) (a : Act) (w : World) (rs : List Nat) : Prop :=
  ∀ i ∈ rs, wpOp P ops Q i (fun a' w' => (R w' ∧ ((listed.setIfInBounds i true).getD z true = false → S w')) ∧ wpAnyX P md ops Q R S z fuel (listed.setIfInBounds i true) a' w') a w
theorem AllReadyX.nil {fuel : Nat} {listed : Array Bool} {a : Act} {w : World} : AllReadyX P md ops Q R S z fuel listed a w [] := fun _ h => by cases h
theorem AllReadyX.cons {fuel : Nat} {listed : Array Bool} {a : Act} {w : World} {i : Nat} {o : Oper} {rs : List Nat} (ho : ops[i]? = some o) (hw : Region.wanted o (yielded ops a.tmps) = true)
    (h : ∀ K : Act → World → Prop, (∀ a' w', (R w' ∧ ((listed.setIfInBounds i true).getD z true = false → S w')) → wpAnyX P md ops Q R S z fuel (listed.setIfInBounds i true) a' w' → K a' w') → Oper.wp P o a w K Q)
    (hs : AllReadyX P md ops Q R S z fuel listed a w rs) : AllReadyX P md ops Q R S z fuel listed a w (i :: rs) := fun j hj => by
  rcases List.mem_cons.1 hj with rfl | hj
  · unfold wpOp
    rw [ho]
    simp only
    rw [if_pos hw]
    exact .inl (h _ fun a' w' h1 h2 => ⟨h1, h2⟩)
  · exact hs j hj
theorem wpAnyX_ready {rs : List Nat} {fuel : Nat} {listed : Array Bool} {a : Act} {w : World} (hr : Region.ready md ops listed = rs) (hne : rs ≠ [])
    (h : AllReadyX P md ops Q R S z fuel listed a w rs) : wpAnyX P md ops Q R S z (fuel + 1) listed a w := ⟨fun h0 => absurd (hr ▸ h0) hne, hr ▸ h⟩
end
end YtnjgglnpmhjmiaaIt
end Go
namespace Go
namespace YtnjgglnpmhjmiaaIt
section
variable {P : Program} {ops : Array Oper} {Q : Exit → Act → World → Prop} {md : Region.Mode} {R S : World → Prop} {z : Nat}
/-- wpAnyX_keep of an operation that is wanted, what the program's text answers filled in. -/
theorem wpX_kp {i : Nat} {oi : Oper} {v : Value} {fuel : Nat} {listed : Array Bool} {a : Act} {w : World} (hi : ops[i]? = some oi)
    (hQ : ∀ c a w, Q (.panic c) (a.put oi.dst v) w → Q (.panic c) a w) (hy : ∀ w, R w → (execOp a.eval oi).run P w = .ok (.value v) w) (hS : R w ∧ (listed.getD z true = false → S w))
    (h : wpAnyX P md ops Q R S z fuel (listed.setIfInBounds i true) (a.put oi.dst v) w)
    (hs : Region.noSelect ops = true := by kernel_rfl) (hf : (Region.free md ops listed i && decide (i ≠ z) && !(waitsB md ops z i && listed.getD z true)) = true := by kernel_rfl) (hr : (Region.ready md ops listed).contains i = true := by kernel_rfl) (hw : Region.wanted oi (yielded ops a.tmps) = true := by rfl) :
    wpAnyX P md ops Q R S z (fuel + 1) listed a w := wpAnyX_keep hi hs hf hr hQ (.inl ⟨hw, hy⟩) hS h
/-- A slot is put, its list written out. -/
theorem putE : (∀ (a : Act) (d : Tmp) (v : Value), a.put (some d) v = { a with tmps := a.tmps.setIfInBounds d v }) ∧ (∀ (a : Act) (v : Value), a.put none v = a) ∧ (∀ (l : List Value) (i : Nat) (v : Value), l.toArray.setIfInBounds i v = (l.set i v).toArray) ∧ (∀ (x v : Value) (l : List Value), (x :: l).set 0 v = v :: l) ∧ (∀ (x v : Value) (l : List Value) (n : Nat), (x :: l).set (n + 1) v = x :: l.set n v) :=
  ⟨fun _ _ _ => rfl, fun _ _ => rfl, fun l i v => by simp, fun _ _ _ => rfl, fun _ _ _ _ => rfl⟩
end
end YtnjgglnpmhjmiaaIt
end Go
