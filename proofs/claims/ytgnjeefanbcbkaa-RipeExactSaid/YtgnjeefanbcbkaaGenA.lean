/- Generic: what the walks lean on, over whatever program. -/
import Derived.RangeFuncNested
import Derived.RangeFuncBound
import Derived.RangeFuncCalls
import Derived.RangeFuncLeaves
import Derived.RangeFuncWrites
import Derived.Shelf.Abstract
import Derived.WalkKit
import Derived.Deep.QuietTactic
import Derived.BigQuiet
import Derived.TacticsInMore
import Derived.Maps.Keyed
import Derived.StillTailTactics
import Derived.Deep.RegionLaw
import Derived.StillTail
import Derived.OrdersIn
import Derived.OrdersHeld
import Derived.WideKeyArr
import Derived.Maps.AppendAt
import Derived.Deep.AppendLies
import Derived.RegionTactic
import Derived.OwnWalk
import Derived.Below
import Derived.Laws.OwnMore
import Derived.Deep.Draws
import Derived.ChangeSame
import Derived.ProofKit
import Derived.OpenShut
/- A range over a function, with rounds that may panic: what an iterator promises, and the law for the statement. Over whatever program. -/
namespace Go
namespace YtgnjeefanbcbkaaIt
open Go.RowKit

/-- The wide fence, in a round or not. -/
def fw (r : Option Nat) : Fence := { Fence.wide with round := r }
@[go_sem, simp] theorem fw_round (r : Option Nat) : (fw r).round = r := rfl
@[go_sem, simp] theorem fw_fn (r : Option Nat) (f : FuncId) : (fw r).fn f = True := rfl
@[go_sem, simp] theorem fw_depth (r : Option Nat) : (fw r).depth = none := rfl
theorem room_fw (r : Option Nat) (n : Nat) : (fw r).room n := fun _ h => by simp [fw, Fence.wide] at h

section
variable {P : Program}

theorem callsFw {r : Option Nat} {n : Nat} {f : FuncId} {args : Array Value} {w : World} {R : Ending → World → Prop} : CallsIn (fw r) n P f args w R ↔ Calls P f args w R := callsIn_wide (n := n)

/-- A walk in frames of functions of which V holds. -/
def wpV (V : FuncId → Prop) (r : Option Nat) (P : Program) (c : Code) (Q : Exit → Act → World → Prop) (a : Act) (w : World) : Prop :=
  ∀ (b : Frame) (k : List Item) (cs : List Frame), b.roundOf = r → V b.fn →
    ∃ e a' w', Q e a' w' ∧ ArrivesIn (Machine.fenced P Fence.wide) P (lone (b.atR a (.code c :: k)) cs w) b k cs e a' w'

variable {V : FuncId → Prop} {r : Option Nat} {Q : Exit → Act → World → Prop} {a : Act} {w : World}

theorem wpV_of {c : Code} {n : Nat} (h : c.wpIn (fw r) n P Q a w) : wpV V r P c Q a w :=
  fun b k cs hb _ => h b k cs hb trivial (room_fw _ _)
theorem wpV_all {c : Code} {n : Nat} (h : wpV (fun _ => True) r P c Q a w) : c.wpIn (fw r) n P Q a w :=
  fun b k cs hb _ _ => h b k cs hb trivial
theorem wpV_mono {c : Code} {Q' : Exit → Act → World → Prop} (h : wpV V r P c Q a w) (hq : ∀ e a w, Q e a w → Q' e a w) : wpV V r P c Q' a w :=
  fun b k cs hb hv => let ⟨e, a', w', q, x⟩ := h b k cs hb hv; ⟨e, a', w', hq _ _ _ q, x⟩

theorem calm0 {m : Machine} : m.fenced P Fence.wide := fenced_wide P m

theorem wpV_seq {x y : Code} (h : wpV V r P x (Exit.then (wpV V r P y Q) Q) a w) : wpV V r P (.seq x y) Q a w := by
  intro b k cs hro hb
  obtain ⟨e, a₁, w₁, hq, harr⟩ := h b (.code y :: k) cs hro hb
  cases e with
  | normal =>
    obtain ⟨e₂, a₂, w₂, hq₂, harr₂⟩ := hq b k cs hro hb
    exact ⟨e₂, a₂, w₂, hq₂, .of_steps (.head calm0 stepR_seq harr) harr₂⟩
  | exit id => exact ⟨_, a₁, w₁, hq, .of_steps (.one calm0 stepR_seq) (.pass (x := .code y) rfl (fun _ _ => .inl (by simp)) harr)⟩
  | goto l => exact ⟨_, a₁, w₁, hq, .of_steps (.one calm0 stepR_seq) (.pass (x := .code y) rfl (fun _ _ => .inl (by simp)) harr)⟩
  | ret => exact ⟨_, a₁, w₁, hq, .of_steps (.one calm0 stepR_seq) (.pass (x := .code y) rfl (fun _ _ => .inl (by simp)) harr)⟩
  | panic ch => exact ⟨_, a₁, w₁, hq, .of_steps (.one calm0 stepR_seq) (.pass (x := .code y) rfl (fun _ _ => .inl (by simp)) harr)⟩
  | outgrown => exact ⟨_, a₁, w₁, hq, .of_steps (.one calm0 stepR_seq) (.pass (x := .code y) rfl (fun _ _ => .inl (by simp)) harr)⟩
/-- A piece that is walked by the fenced walk, then the rest. -/
theorem wpV_then {x y : Code} (h : ∀ K : Act → World → Prop, (∀ a w, wpV V r P y Q a w → K a w) → x.wpIn (fw r) 0 P (Exit.then K Q) a w) : wpV V r P (.seq x y) Q a w :=
  wpV_seq (wpV_of (h _ fun _ _ h => h))
theorem wpV_cond {c : Operand} {x y : Code} {t : Bool} (hc : a.eval c = .bool t) (h : wpV V r P (if t then x else y) Q a w) : wpV V r P (.cond c x y) Q a w :=
  fun b k cs hro hb => let ⟨e, a', w', q, x⟩ := h b k cs hro hb; ⟨e, a', w', q, .of_steps (.one calm0 (stepR_cond hc)) x⟩

/-! ### Rounds -/

/-- What is asked at a round's end; a panic passes. -/
def roundPostP (P : Program) (l : Nat) (R : Ending → World → Prop) : Exit → Act → World → Prop
  | .normal, _, w => ∃ v w', (Instr.endRound l none).run P w = .ok v w' ∧ R (.returned v) w'
  | .ret, _, w => ∃ v w', (Instr.endRound l (some .ret)).run P w = .ok v w' ∧ R (.returned v) w'
  | .exit id, _, w => ∃ v w', (Instr.endRound l (some (.exit id))).run P w = .ok v w' ∧ R (.returned v) w'
  | .goto t, _, w => ∃ v w', (Instr.endRound l (some (.goto t))).run P w = .ok v w' ∧ R (.returned v) w'
  | .panic ch, a, w => a.defers = [] ∧ R (.panicked ch) w
  | .outgrown, _, _ => False

theorem roundIn_V {l : Nat} {f : FuncId} {tmps : Array Value} {assign body : Code} {w : World} {R : Ending → World → Prop} (hV : V f)
    (hval : (∃ ch w, R (.panicked ch) w) → (P.funcs[f]?).isSome = true)
    (h : wpV V (some l) P assign (Exit.then (fun a₁ w₁ => ∃ w₂, (Instr.beginRound l).run P w₁ = .ok () w₂ ∧ wpV V (some l) P body (roundPostP P l R) a₁ w₂) (fun _ _ _ => False)) { tmps := tmps, defers := [] } w) :
    RoundIn Fence.wide 0 P l f tmps assign body w R := by
  refine ⟨trivial, fun c cs _ => ?_⟩
  let b : Frame := { (default : Frame) with fn := f, kind := .normal, roundOf := some l }
  have hb0 : Frame.round l f tmps assign body .normal = b.atR { tmps := tmps, defers := [] } [.code assign, .beginRound, .code body] := by
    simp [Frame.round, Frame.atR, b]
  obtain ⟨e, a₁, w₁, hq, harr⟩ := h b [.beginRound, .code body] (c :: cs) rfl hV
  rw [← hb0] at harr
  cases e with
  | normal =>
    obtain ⟨w₂, hbr, hbody⟩ := hq
    have s1 : StepsIn (Machine.fenced P Fence.wide) P (lone (b.atR a₁ [.beginRound, .code body]) (c :: cs) w₁) (lone (b.atR a₁ [.code body]) (c :: cs) w₂) :=
      .one calm0 (stepR_beginRound rfl hbr)
    obtain ⟨e₂, a₂, w₃, hq₂, harr₂⟩ := hbody b [] (c :: cs) rfl hV
    cases e₂ with
    | normal =>
      obtain ⟨v, w₄, hend, hR⟩ := hq₂
      exact ⟨.returned v, w₄, hR, (StepsIn.trans harr s1).trans (StepsIn.trans harr₂ (.one calm0 (stepR_round_end rfl rfl hend)))⟩
    | ret =>
      obtain ⟨v, w₄, hend, hR⟩ := hq₂
      obtain ⟨k₁, hs⟩ := harr₂.2 rfl
      exact ⟨.returned v, w₄, hR, (StepsIn.trans harr s1).trans (StepsIn.trans hs (.one calm0 (stepR_round_ret rfl rfl hend)))⟩
    | exit id =>
      obtain ⟨v, w₄, hend, hR⟩ := hq₂
      obtain ⟨k₁, hk, hs⟩ := harr₂.2 rfl rfl
      exact ⟨.returned v, w₄, hR, (StepsIn.trans harr s1).trans (StepsIn.trans hs (.one calm0 (stepR_round_exit rfl rfl hk hend)))⟩
    | goto t =>
      obtain ⟨v, w₄, hend, hR⟩ := hq₂
      obtain ⟨k₁, hk, hs⟩ := harr₂.2 rfl rfl
      exact ⟨.returned v, w₄, hR, (StepsIn.trans harr s1).trans (StepsIn.trans hs (.one calm0 (stepR_round_goto rfl rfl hk hend)))⟩
    | panic chain =>
      obtain ⟨hd, hR⟩ := hq₂
      obtain ⟨todo, hs⟩ := harr₂
      obtain ⟨fn, hfn⟩ := Option.isSome_iff_exists.1 (hval ⟨_, _, hR⟩)
      have hl : Frame.leaving P ({ b.atR a₂ todo with mode := .panicking chain } : Frame) w₃ (.panicked chain) := ⟨rfl, hd, fn, hfn⟩
      exact ⟨.panicked chain, w₃, hR, (StepsIn.trans harr s1).trans (StepsIn.trans hs (.one calm0 (step_leave_panicked hl)))⟩
    | outgrown => exact hq₂.elim
  | exit id => exact hq.elim
  | goto t => exact hq.elim
  | ret => exact hq.elim
  | panic chain => exact hq.elim
  | outgrown => exact hq.elim

/-! ### What an iterator may turn between two rounds -/

/-- New blocks; of what lay, only blocks that hold no cells, from B on. -/
structure Gr (B : Nat) (W W' : World) : Prop where
  os : W'.os = W.os
  tape : W'.tape = W.tape
  output : W'.output = W.output
  size : W.heap.size ≤ W'.heap.size
  block : ∀ k, k < W.heap.size → (k < B ∨ ∃ o, W.heap[k]? = some o ∧ o.isCells = true) → W'.heap[k]? = W.heap[k]?

theorem Gr.refl (B : Nat) (W : World) : Gr B W W := ⟨rfl, rfl, rfl, Nat.le_refl _, fun _ _ _ => rfl⟩
theorem Gr.trans {B : Nat} {X Y Z : World} (h : Gr B X Y) (k : Gr B Y Z) : Gr B X Z :=
  ⟨k.os.trans h.os, k.tape.trans h.tape, k.output.trans h.output, Nat.le_trans h.size k.size, fun i hi hc => by
    have h1 := h.block i hi hc
    refine (k.block i (Nat.lt_of_lt_of_le hi h.size) ?_).trans h1
    rcases hc with hc | ⟨o, ho, hcc⟩
    · exact .inl hc
    · exact .inr ⟨o, h1.trans ho, hcc⟩⟩
theorem Gr.mono {B B' : Nat} {X Y : World} (h : Gr B' X Y) (hB : B ≤ B') : Gr B X Y :=
  ⟨h.os, h.tape, h.output, h.size, fun k hk hc => h.block k hk (hc.imp (fun x => Nat.lt_of_lt_of_le x hB) id)⟩
theorem Gr.below {B : Nat} {X Y : World} (h : Below X.heap.size X Y) : Gr B X Y := ⟨h.os, h.tape, h.output, h.size, fun k hk _ => h.block k hk⟩
theorem Gr.alloc (B : Nat) (X : World) (o : Obj) : Gr B X (X.alloc o) := Gr.below ((Below.refl _ X).alloc (Nat.le_refl _) o)
theorem Gr.putObj {B : Nat} {X : World} {l : Nat} {o : Obj} (o' : Obj) (hB : B ≤ l) (h : X.heap[l]? = some o) (hc : o.isCells = false) : Gr B X (X.putObj l o') :=
  ⟨rfl, rfl, rfl, by simp, fun k _ hk => by
    refine World.putObj_heap_other ?_
    rintro rfl
    rcases hk with hk | ⟨o2, ho, hcc⟩
    · omega
    · rw [h] at ho; cases ho; rw [hc] at hcc; cases hcc⟩

/-- What abides such steps. -/
def Stb (B : Nat) (p : World → Prop) : Prop := ∀ W W', Gr B W W' → p W → p W'
theorem Stb.mono {B B' : Nat} {p : World → Prop} (h : Stb B p) (hB : B ≤ B') : Stb B' p := fun W W' g => h W W' (g.mono hB)
theorem Stb.pure {B : Nat} {p : Prop} : Stb B (fun _ => p) := fun _ _ _ h => h
theorem Stb.and {B : Nat} {p q : World → Prop} (hp : Stb B p) (hq : Stb B q) : Stb B (fun W => p W ∧ q W) := fun W W' g h => ⟨hp W W' g h.1, hq W W' g h.2⟩
theorem Stb.or {B : Nat} {p q : World → Prop} (hp : Stb B p) (hq : Stb B q) : Stb B (fun W => p W ∨ q W) := fun W W' g h => h.imp (hp W W' g) (hq W W' g)
theorem Stb.ex {B : Nat} {α : Sort _} {p : α → World → Prop} (hp : ∀ x, Stb B (p x)) : Stb B (fun W => ∃ x, p x W) := fun W W' g ⟨x, h⟩ => ⟨x, hp x W W' g h⟩
theorem Stb.all {B : Nat} {α : Sort _} {p : α → World → Prop} (hp : ∀ x, Stb B (p x)) : Stb B (fun W => ∀ x, p x W) := fun W W' g h x => hp x W W' g (h x)
theorem Stb.cells {B b : Nat} {c : Array Value} {t : TypeId} {fr : Nat × Nat} : Stb B (fun W => W.heap[b]? = some (.cells c t fr)) := fun _ _ g h =>
  (g.block b (Array.getElem?_eq_some_iff.1 h).1 (.inr ⟨_, h, rfl⟩)).trans h
theorem Stb.old {B b : Nat} {o : Obj} (hb : b < B) : Stb B (fun W => W.heap[b]? = some o) := fun _ _ g h =>
  (g.block b (Array.getElem?_eq_some_iff.1 h).1 (.inl hb)).trans h
theorem cell_lt {W : World} {p : Addr} {v : Value} (h : W.cell? p = some v) : p.block < W.heap.size := by
  unfold World.cell? at h
  cases ho : W.heap[p.block]? with
  | none => simp [ho] at h
  | some o => exact (Array.getElem?_eq_some_iff.1 ho).1
theorem cells_of_cell {W : World} {p : Addr} {v : Value} (h : W.cell? p = some v) : p.block < W.heap.size ∧ ∃ o, W.heap[p.block]? = some o ∧ o.isCells = true := by
  have hl := cell_lt h
  refine ⟨hl, ?_⟩
  unfold World.cell? at h
  cases ho : W.heap[p.block]? with
  | none => simp [ho] at h
  | some o => exact ⟨o, rfl, by cases o <;> simp_all [Obj.isCells]⟩
theorem Stb.cell {B : Nat} {p : Addr} {v : Value} : Stb B (fun W => W.cell? p = some v) := fun W W' g h => by
  obtain ⟨hl, hc⟩ := cells_of_cell h
  exact (World.cell?_of_block (w := W) (g.block _ hl (.inr hc))).trans h
theorem Stb.below {B n : Nat} {X : World} (hn : n ≤ B) (hX : n ≤ X.heap.size) : Stb B (fun W => Below n X W) := fun _ _ g h =>
  ⟨g.os.trans h.os, g.tape.trans h.tape, g.output.trans h.output, Nat.le_trans h.size g.size, fun k hk => (g.block k (Nat.lt_of_lt_of_le hk (Nat.le_trans hX h.size)) (.inl (Nat.lt_of_lt_of_le hk hn))).trans (h.block k hk)⟩

/-- What a round keeps: whatever holds no cells, from B on; and cells of the types of TT. -/
structure Kx (B : Nat) (TT : TypeId → Prop) (W W' : World) : Prop where
  size : W.heap.size ≤ W'.heap.size
  same : ∀ (k : Nat) (o : Obj), B ≤ k → W.heap[k]? = some o → o.isCells = false → W'.heap[k]? = some o
  typed : ∀ (k : Nat) c t fr, W.heap[k]? = some (.cells c t fr) → TT t → W'.heap[k]? = some (.cells c t fr)
theorem Kx.refl (B : Nat) (TT : TypeId → Prop) (W : World) : Kx B TT W W := ⟨Nat.le_refl _, fun _ _ _ h _ => h, fun _ _ _ _ h _ => h⟩
theorem Kx.trans {B : Nat} {TT : TypeId → Prop} {X Y Z : World} (h : Kx B TT X Y) (k : Kx B TT Y Z) : Kx B TT X Z :=
  ⟨Nat.le_trans h.size k.size, fun i o hB hi ho => k.same i o hB (h.same i o hB hi ho) ho, fun i c t fr hi ht => k.typed i c t fr (h.typed i c t fr hi ht) ht⟩
theorem Kx.below {B : Nat} {TT : TypeId → Prop} {X Y : World} (h : Below X.heap.size X Y) : Kx B TT X Y :=
  ⟨h.size, fun k _ _ hk _ => (h.block k (Array.getElem?_eq_some_iff.1 hk).1).trans hk, fun k _ _ _ hk _ => (h.block k (Array.getElem?_eq_some_iff.1 hk).1).trans hk⟩
/-- One block of cells, of a type not in TT, is turned. -/
theorem Kx.one {B b : Nat} {TT : TypeId → Prop} {X Y : World} {c : Array Value} {t : TypeId} {fr : Nat × Nat} (hb : X.heap[b]? = some (.cells c t fr)) (ht : ¬ TT t) (hs : X.heap.size ≤ Y.heap.size) (h : ∀ k, k < X.heap.size → k ≠ b → Y.heap[k]? = X.heap[k]?) : Kx B TT X Y :=
  ⟨hs, fun k o _ hk ho => (h k (Array.getElem?_eq_some_iff.1 hk).1 (by rintro rfl; rw [hb] at hk; cases hk; cases ho)).trans hk,
   fun k c' t' fr' hk ht' => (h k (Array.getElem?_eq_some_iff.1 hk).1 (by rintro rfl; rw [hb] at hk; cases hk; exact ht ht')).trans hk⟩
theorem Kx.setCell {B b i : Nat} {TT : TypeId → Prop} {X : World} {c : Array Value} {t : TypeId} {fr : Nat × Nat} {v : Value} (hb : X.heap[b]? = some (.cells c t fr)) (ht : ¬ TT t) : Kx B TT X (X.setCell ⟨b, i, none⟩ v) :=
  Kx.one hb ht (by simp) (fun k _ hne => Below.heap_setCell _ _ _ _ hne)
theorem Kx.putCells {B b : Nat} {TT : TypeId → Prop} {X : World} {c : Array Value} {t : TypeId} {fr : Nat × Nat} {o : Obj} (hb : X.heap[b]? = some (.cells c t fr)) (ht : ¬ TT t) : Kx B TT X (X.putObj b o) :=
  Kx.one hb ht (by simp) (fun k _ hne => World.putObj_heap_other hne)
/-- A block below B that holds no cells (a map) is turned. -/
theorem Kx.putMap {B b : Nat} {TT : TypeId → Prop} {X : World} {o o' : Obj} (hb : X.heap[b]? = some o) (ho : o.isCells = false) (hB : b < B) : Kx B TT X (X.putObj b o') :=
  ⟨by simp, fun k _ hk h _ => (World.putObj_heap_other (by omega)).trans h, fun k c t fr h _ => (World.putObj_heap_other (by rintro rfl; rw [hb] at h; cases h; cases ho)).trans h⟩
theorem Kx.alloc (B : Nat) (TT : TypeId → Prop) (X : World) (o : Obj) : Kx B TT X (X.alloc o) := Kx.below ((Below.refl _ X).alloc (Nat.le_refl _) o)

/-- What an iterator promises, whatever the rounds do: it hands over ys, one after the other. -/
def Iter (P : Program) (TT : TypeId → Prop) (g : Nat) (lb : Array Value) (ys : List (Array Value)) (Ke : World → Prop) : Prop :=
  ∀ (l : Nat) (W : World) (J : Nat → World → Prop) (Jx : World → Prop) (Jp : List PanicEntry → World → Prop),
    (∀ k W1, J k W1 → Ke W1) → (∀ k, Stb W.heap.size (J k)) → Stb W.heap.size Jx → (∀ ch, Stb W.heap.size (Jp ch)) →
    (∀ k (hk : k < ys.length) W1, W.heap.size ≤ W1.heap.size → J k W1 → YieldAt Fence.wide 0 P l ys[k] W1 fun e W' =>
      (e = .returned (.bool true) ∧ J (k + 1) W' ∧ Kx W.heap.size TT W1 W') ∨ (e = .returned (.bool false) ∧ Jx W' ∧ Kx W.heap.size TT W1 W') ∨ ∃ ch, e = .panicked ch ∧ Jp ch W' ∧ Kx W.heap.size TT W1 W') →
    J 0 W →
    Calls P g (#[.func (.yield l) #[] #[]] ++ lb) W fun e W' => ((∃ v, e = .returned v) ∧ (J ys.length W' ∨ Jx W')) ∨ ∃ ch, e = .panicked ch ∧ Jp ch W'

/-- How a round's body may be left. -/
def bodyP (B : Nat) (TT : TypeId → Prop) (In : World → Prop) (Ix : Code → World → Prop) (Ip : List PanicEntry → World → Prop) (W : World) : Exit → Act → World → Prop
  | .normal, _, W' => Kx B TT W W' ∧ In W'
  | .ret, _, W' => Kx B TT W W' ∧ Ix .ret W'
  | .exit id, _, W' => Kx B TT W W' ∧ Ix (.exit id) W'
  | .goto t, _, W' => Kx B TT W W' ∧ Ix (.goto t) W'
  | .panic ch, a, W' => a.defers = [] ∧ Kx B TT W W' ∧ Ip ch W'
  | .outgrown, _, _ => False

/-- One round, the record's book-keeping aside. -/
theorem yield_of {TT : TypeId → Prop} {V : FuncId → Prop} {l B fn : Nat} {rec : LoopState → Option Code → Loop} {tm : Array Value} {ps : Array Tmp} {assign body : Code} {D : Nat} (hrec : rec = fun st pe => { state := st, pending := pe, fn := fn, tmps := tm, params := ps, assign, body, defers := D })
    (hV : V fn) {y : Array Value} (hy : y.size = ps.size) {I In : World → Prop} {Ix : Code → World → Prop} {Ip : List PanicEntry → World → Prop} {A : Act → World → Prop}
    (hval : (∃ ch W, Ip ch W) → (P.funcs[fn]?).isSome = true) (hBl : B ≤ l)
    (sA : ∀ a', Stb B (A a')) (sIn : Stb B In) (sIx : ∀ c, Stb B (Ix c))
    (hassign : ∀ W, I W → wpV V (some l) P assign (Exit.then (fun a' W' => Kx B TT W W' ∧ A a' W') (fun _ _ _ => False)) { tmps := (ps.zip y).foldl (fun t (p, v) => t.setIfInBounds p v) tm, defers := [] } W)
    (hbody : ∀ a' W, A a' W → (∃ r, W.heap[l]? = some (.loop r)) → wpV V (some l) P body (bodyP B TT In Ix Ip W) a' W)
    {W : World} (hl : W.heap[l]? = some (.loop (rec .ready none))) (hi : I W) :
    YieldAt Fence.wide 0 P l y W fun e W' =>
      (e = .returned (.bool true) ∧ (In W' ∧ W'.heap[l]? = some (.loop (rec .ready none)) ∧ (∀ k, B ≤ k → k ≠ l → ∀ o, W.heap[k]? = some o → o.isCells = false → W'.heap[k]? = some o)) ∧ (W.heap.size ≤ W'.heap.size ∧ ∀ (k : Nat) c t fr, W.heap[k]? = some (.cells c t fr) → TT t → W'.heap[k]? = some (.cells c t fr))) ∨
      (e = .returned (.bool false) ∧ (∃ c, Ix c W' ∧ W'.heap[l]? = some (.loop (rec .done (some c))) ∧ (∀ k, B ≤ k → k ≠ l → ∀ o, W.heap[k]? = some o → o.isCells = false → W'.heap[k]? = some o)) ∧ (W.heap.size ≤ W'.heap.size ∧ ∀ (k : Nat) c t fr, W.heap[k]? = some (.cells c t fr) → TT t → W'.heap[k]? = some (.cells c t fr))) ∨
      ∃ ch, e = .panicked ch ∧ (Ip ch W' ∧ (∀ k, B ≤ k → k ≠ l → ∀ o, W.heap[k]? = some o → o.isCells = false → W'.heap[k]? = some o)) ∧ (W.heap.size ≤ W'.heap.size ∧ ∀ (k : Nat) c t fr, W.heap[k]? = some (.cells c t fr) → TT t → W'.heap[k]? = some (.cells c t fr)) := by
  have hy' := run_yield (P := P) (args := y) hl (by rw [hrec]; exact hy)
  rw [hrec] at hy'
  refine ⟨fn, _, assign, body, hy', ?_⟩
  refine roundIn_V hV (fun ⟨ch, W', h⟩ => hval ?_) (wpV_mono (hassign W hi) ?_)
  · rcases h with ⟨h, _⟩ | ⟨h, _⟩ | ⟨ch', h, h2, _⟩
    · cases h
    · cases h
    · exact ⟨_, _, h2.1⟩
  intro e a' W1 hq
  cases e with
  | normal =>
    obtain ⟨hk1, hA⟩ := hq
    have hl1 := hk1.same l _ hBl hl rfl
    have hsz1 := hk1.size
    have hlt := (Array.getElem?_eq_some_iff.1 hl1).1
    refine ⟨_, run_beginRound hl1 (by rw [hrec]), ?_⟩
    obtain ⟨W2, hW2⟩ : ∃ W2, W2 = W1.putObj l (.loop { rec .ready none with state := .busy }) := ⟨_, rfl⟩
    rw [← hW2]
    have hl2 : W2.heap[l]? = some (.loop { rec .ready none with state := .busy }) := by rw [hW2]; exact World.putObj_heap_same hlt
    have hA2 : A a' W2 := sA a' _ _ (by rw [hW2]; exact Gr.putObj _ hBl hl1 rfl) hA
    have ho2 : ∀ k, B ≤ k → k ≠ l → ∀ o, W.heap[k]? = some o → o.isCells = false → W2.heap[k]? = some o := fun k hk hne o ho hc => by
      rw [hW2, World.putObj_heap_other hne]; exact hk1.same k o hk ho hc
    have hsz2 : W.heap.size ≤ W2.heap.size ∧ ∀ (k : Nat) c t fr, W.heap[k]? = some (.cells c t fr) → TT t → W2.heap[k]? = some (.cells c t fr) := by
      rw [hW2]
      refine ⟨by simpa using hsz1, fun k c t fr hk ht => ?_⟩
      have h2 := hk1.typed k c t fr hk ht
      refine (World.putObj_heap_other ?_).trans h2
      rintro rfl; rw [hl1] at h2; cases h2
    refine wpV_mono (hbody a' W2 hA2 ⟨_, hl2⟩) ?_
    have fin : ∀ (jump : Option Code) (W3 : World), Kx B TT W2 W3 → ∃ W4, (Instr.endRound l jump).run P W3 = .ok (.bool jump.isNone) W4 ∧ Gr B W3 W4 ∧
        W4.heap[l]? = some (.loop (rec (if jump.isNone then .ready else .done) jump)) ∧ (∀ k, B ≤ k → k ≠ l → ∀ o, W.heap[k]? = some o → o.isCells = false → W4.heap[k]? = some o) ∧ (W.heap.size ≤ W4.heap.size ∧ ∀ (k : Nat) c t fr, W.heap[k]? = some (.cells c t fr) → TT t → W4.heap[k]? = some (.cells c t fr)) := by
      intro jump W3 hk3
      have hl3 := hk3.same l _ hBl hl2 rfl
      have hE := run_endRound (P := P) jump hl3
      refine ⟨_, hE, Gr.putObj _ hBl hl3 rfl, ?_, ?_, ?_⟩
      · rw [World.putObj_heap_same (Array.getElem?_eq_some_iff.1 hl3).1, hrec]
      · intro k hk hne o ho hc
        rw [World.putObj_heap_other hne]
        exact hk3.same k o hk (ho2 k hk hne o ho hc) hc
      · refine ⟨by simpa using Nat.le_trans hsz2.1 hk3.size, fun k c t fr hk ht => ?_⟩
        have h2 := hk3.typed k c t fr (hsz2.2 k c t fr hk ht) ht
        refine (World.putObj_heap_other ?_).trans h2
        rintro rfl; rw [hl3] at h2; cases h2
    intro e2 a2 W3 hp
    cases e2 with
    | normal =>
      obtain ⟨hk3, hi3⟩ := hp
      obtain ⟨W4, h1, h2, h3, h4, h5⟩ := fin none W3 hk3
      exact ⟨_, _, h1, .inl ⟨rfl, ⟨sIn _ _ h2 hi3, h3, h4⟩, h5⟩⟩
    | ret =>
      obtain ⟨hk3, hi3⟩ := hp
      obtain ⟨W4, h1, h2, h3, h4, h5⟩ := fin (some .ret) W3 hk3
      exact ⟨_, _, h1, .inr (.inl ⟨rfl, ⟨.ret, sIx _ _ _ h2 hi3, h3, h4⟩, h5⟩)⟩
    | exit id =>
      obtain ⟨hk3, hi3⟩ := hp
      obtain ⟨W4, h1, h2, h3, h4, h5⟩ := fin (some (.exit id)) W3 hk3
      exact ⟨_, _, h1, .inr (.inl ⟨rfl, ⟨.exit id, sIx _ _ _ h2 hi3, h3, h4⟩, h5⟩)⟩
    | goto t =>
      obtain ⟨hk3, hi3⟩ := hp
      obtain ⟨W4, h1, h2, h3, h4, h5⟩ := fin (some (.goto t)) W3 hk3
      exact ⟨_, _, h1, .inr (.inl ⟨rfl, ⟨.goto t, sIx _ _ _ h2 hi3, h3, h4⟩, h5⟩)⟩
    | panic ch =>
      obtain ⟨hd, hk3, hi3⟩ := hp
      exact ⟨hd, .inr (.inr ⟨ch, rfl, ⟨hi3, fun k hk hne o ho hc => hk3.same k o hk (ho2 k hk hne o ho hc) hc⟩, ⟨Nat.le_trans hsz2.1 hk3.size, fun k c t fr hk ht => hk3.typed k c t fr (hsz2.2 k c t fr hk ht) ht⟩⟩)⟩
    | outgrown => exact hp.elim
  | ret => exact hq.elim
  | exit id => exact hq.elim
  | goto t => exact hq.elim
  | panic ch => exact hq.elim
  | outgrown => exact hq.elim

/-- The statement in a function's own frame: the record and the block for deferred calls are laid, the iterator called, the pending jump carried out. -/
theorem wpV_range {V : FuncId → Prop} {g : Operand} {ps : Array Tmp} {assign body : Code} {Q : Exit → Act → World → Prop} {a : Act} {w : World}
    {gf : Nat} {lb : Array Value} (hg : a.eval g = .func (.func gf) #[] lb) (eg : ∀ args w, (callFunc gf args).run P w = .ok (.enter gf args) w)
    {ys : List (Array Value)} {Ke : World → Prop} {TT : TypeId → Prop} (hit : Iter P TT gf lb ys Ke) (hps : ∀ y ∈ ys, y.size = ps.size)
    (I : Nat → World → Prop) (Ix : Code → World → Prop) (Ip : List PanicEntry → World → Prop) (A : Nat → Nat → Act → World → Prop)
    (hval : (∃ ch W, Ip ch W) → ∀ fn, V fn → (P.funcs[fn]?).isSome = true)
    (hK : ∀ k W, I k W → Ke W) (sI : ∀ k, Stb w.heap.size (I k)) (sIx : ∀ c, Stb w.heap.size (Ix c)) (sIp : ∀ ch, Stb w.heap.size (Ip ch)) (sA : ∀ k l a', Stb w.heap.size (A k l a'))
    (h0 : I 0 w)
    (hassign : ∀ k (hk : k < ys.length) (l : Nat) W, I k W → wpV V (some l) P assign (Exit.then (fun a' W' => Kx w.heap.size TT W W' ∧ A k l a' W') (fun _ _ _ => False)) { tmps := (ps.zip ys[k]).foldl (fun t (p, v) => t.setIfInBounds p v) a.tmps, defers := [] } W)
    (hbody : ∀ k, k < ys.length → ∀ (l : Nat) a' W, w.heap.size ≤ l → (∃ r, W.heap[l]? = some (.loop r)) → A k l a' W → wpV V (some l) P body (bodyP w.heap.size TT (I (k + 1)) Ix Ip W) a' W)
    (hdone : ∀ W, I ys.length W → W.heap[w.heap.size]? = some (.deferred (some [])) → Q .normal { a with defers := { target := .collected w.heap.size, args := #[] } :: a.defers } W)
    (hstop : ∀ c W, Ix c W → W.heap[w.heap.size]? = some (.deferred (some [])) → wpV V none P c Q { a with defers := { target := .collected w.heap.size, args := #[] } :: a.defers } W)
    (hpanic : ∀ ch W, Ip ch W → W.heap[w.heap.size]? = some (.deferred (some [])) → Q (.panic ch) { a with defers := { target := .collected w.heap.size, args := #[] } :: a.defers } W) :
    wpV V none P (.rangeFunc g ps assign body) Q a w := by
  intro b k cs hro hbV
  obtain ⟨rec, hrec⟩ : ∃ rec : LoopState → Option Code → Loop, rec = fun st pe => { state := st, pending := pe, fn := b.fn, tmps := a.tmps, params := ps, assign, body, defers := w.heap.size } := ⟨_, rfl⟩
  obtain ⟨W1, hW1⟩ : ∃ W1, (w.alloc (.deferred (some []))).alloc (.loop (rec .ready none)) = W1 := ⟨_, rfl⟩
  have hL1 : W1.heap[w.heap.size + 1]? = some (.loop (rec .ready none)) := by
    rw [← hW1]; have := World.alloc_heap_new (w.alloc (.deferred (some []))) (.loop (rec .ready none)); rwa [World.size_alloc] at this
  have hD1 : W1.heap[w.heap.size]? = some (.deferred (some [])) := by
    rw [← hW1]; exact (Below.heap_alloc _ _ _ (by simp)).trans (World.alloc_heap_new w _)
  have hsz1 : W1.heap.size = w.heap.size + 2 := by rw [← hW1]; simp
  have hg1 : Gr w.heap.size w W1 := by rw [← hW1]; exact (Gr.alloc _ _ _).trans (Gr.alloc _ _ _)
  have hvalb : (∃ ch W, Ip ch W) → (P.funcs[b.fn]?).isSome = true := fun h => hval h _ hbV
  have hcall := hit (w.heap.size + 1) W1 (fun k W => I k W ∧ W.heap[w.heap.size + 1]? = some (.loop (rec .ready none)) ∧ W.heap[w.heap.size]? = some (.deferred (some [])))
    (fun W => (∃ c, Ix c W ∧ W.heap[w.heap.size + 1]? = some (.loop (rec .done (some c)))) ∧ W.heap[w.heap.size]? = some (.deferred (some [])))
    (fun ch W => Ip ch W ∧ W.heap[w.heap.size]? = some (.deferred (some [])))
    (fun k W h => hK k W h.1)
    (fun k => ((sI k).mono (by omega)).and ((Stb.old (by omega)).and (Stb.old (by omega))))
    ((Stb.ex fun c => ((sIx c).mono (by omega)).and (Stb.old (by omega))).and (Stb.old (by omega)))
    (fun ch => ((sIp ch).mono (by omega)).and (Stb.old (by omega)))
    (fun k hk W2 _ h2 => by
      obtain ⟨hi, hl, hD⟩ := h2
      have hy := yield_of (P := P) (V := V) (B := w.heap.size) (l := w.heap.size + 1) (fn := b.fn) hrec hbV (hps _ (List.getElem_mem hk)) hvalb (by omega) (fun a' => sA k _ a') (sI (k + 1)) sIx
        (fun W hI => hassign k hk _ W hI) (fun a' W hA hr => hbody k hk _ a' W (by omega) hr hA) hl hi
      refine hy.mono ?_
      rintro e W' (⟨rfl, ⟨h1, h2, h3⟩, h4⟩ | ⟨rfl, ⟨c, h1, h2, h3⟩, h4⟩ | ⟨ch, rfl, ⟨h1, h3⟩, h4⟩)
      · exact .inl ⟨rfl, ⟨h1, h2, h3 _ (Nat.le_refl _) (by omega) _ hD rfl⟩, ⟨h4.1, fun k o hk ho hc => h3 k (by omega) (by omega) o ho hc, h4.2⟩⟩
      · exact .inr (.inl ⟨rfl, ⟨⟨c, h1, h2⟩, h3 _ (Nat.le_refl _) (by omega) _ hD rfl⟩, ⟨h4.1, fun k o hk ho hc => h3 k (by omega) (by omega) o ho hc, h4.2⟩⟩)
      · exact .inr (.inr ⟨ch, rfl, ⟨h1, h3 _ (Nat.le_refl _) (by omega) _ hD rfl⟩, ⟨h4.1, fun k o hk ho hc => h3 k (by omega) (by omega) o ho hc, h4.2⟩⟩))
    ⟨sI 0 _ _ hg1 h0, hL1, hD1⟩
  have hres : (resolve a.eval (rangeCall g (w.heap.size + 1)) 0).run P W1 = .ok { target := .fn (.func gf) lb, args := #[.func (.yield (w.heap.size + 1)) #[] #[]] } W1 := by
    simp only [resolve, hg]
    simp [go_sem]
  have hinv : (invoke (Target.fn (.func gf) lb) #[.func (.yield (w.heap.size + 1)) #[] #[]]).run P W1 = .ok (.enter gf (#[.func (.yield (w.heap.size + 1)) #[] #[]] ++ lb)) W1 := by
    simp [invoke, go_sem, eg]
  have he : (Instr.enterLoop b.fn a.tmps ps assign body b.roundOf).run P w = .ok (w.heap.size + 1, [{ target := .collected w.heap.size, args := #[] }]) W1 := by
    rw [hro, ← hW1, hrec]; exact run_enterLoop_outer _ _ _ _ _
  have henter := stepR_rangeFunc (P := P) (b := b) (a := a) (k := k) (cs := cs) (w := w) he hres hinv
  obtain ⟨e, w₃, fr, hR, hsteps, hfn, hleave⟩ := hcall (b.atR { a with defers := [{ target := .collected w.heap.size, args := #[] }] ++ a.defers } (.inRangeFunc (w.heap.size + 1) :: k) :: cs)
  rcases hR with ⟨⟨v, rfl⟩, hR⟩ | ⟨ch, rfl, hip, hD⟩
  · have sback : ∀ jump w₄, (Instr.endLoop (w.heap.size + 1)).run P w₃ = .ok jump w₄ →
        StepsIn (Machine.fenced P Fence.wide) P (lone (b.atR a (.code (.rangeFunc g ps assign body) :: k)) cs w) (lone (b.atR { a with defers := { target := .collected w.heap.size, args := #[] } :: a.defers } ((jump.map Item.code).toList ++ k)) cs w₄) := by
      intro jump w₄ hend
      refine .head calm0 henter (StepsIn.trans (stepsIn_wide.2 hsteps) (.head calm0 ?_ (.one calm0 (stepR_endRangeFunc hend))))
      rw [← finish_atR_inRangeFunc (w.heap.size + 1) v]; exact step_leave_returned hleave
    rcases hR with ⟨hi, hl, hD⟩ | ⟨⟨c, hi, hl⟩, hD⟩
    · obtain ⟨W4, hW4⟩ : ∃ W4, W4 = w₃.putObj (w.heap.size + 1) (.loop { rec .ready none with state := .exhausted }) := ⟨_, rfl⟩
      have hend : (Instr.endLoop (w.heap.size + 1)).run P w₃ = .ok none W4 := by
        have := run_endLoop (P := P) hl (by rw [hrec]; simp); rw [hW4]; rw [hrec] at this ⊢; exact this
      have hg4 : Gr w.heap.size w₃ W4 := by rw [hW4]; exact Gr.putObj _ (by omega) hl rfl
      have hD4 : W4.heap[w.heap.size]? = some (.deferred (some [])) := by rw [hW4]; exact (World.putObj_heap_other (by omega)).trans hD
      exact ⟨.normal, _, W4, hdone _ (sI _ _ _ hg4 hi) hD4, sback _ _ hend⟩
    · obtain ⟨W4, hW4⟩ : ∃ W4, W4 = w₃.putObj (w.heap.size + 1) (.loop { rec .done (some c) with state := .exhausted }) := ⟨_, rfl⟩
      have hend : (Instr.endLoop (w.heap.size + 1)).run P w₃ = .ok (some c) W4 := by
        have := run_endLoop (P := P) hl (by rw [hrec]; simp); rw [hW4]; rw [hrec] at this ⊢; exact this
      have hg4 : Gr w.heap.size w₃ W4 := by rw [hW4]; exact Gr.putObj _ (by omega) hl rfl
      have hD4 : W4.heap[w.heap.size]? = some (.deferred (some [])) := by rw [hW4]; exact (World.putObj_heap_other (by omega)).trans hD
      obtain ⟨e', a'', w₅, hq, harr⟩ := hstop c _ (sIx c _ _ hg4 hi) hD4 b k cs hro hbV
      exact ⟨e', a'', w₅, hq, .of_steps (sback _ _ hend) harr⟩
  · refine ⟨.panic ch, _, w₃, hpanic ch _ hip hD, .inRangeFunc (w.heap.size + 1) :: k, .head calm0 henter (StepsIn.trans (stepsIn_wide.2 hsteps) (.one calm0 ?_))⟩
    have := step_leave_panicked (c := b.atR { a with defers := [{ target := .collected w.heap.size, args := #[] }] ++ a.defers } (.inRangeFunc (w.heap.size + 1) :: k)) (cs := cs) hleave
    rw [this, Frame.raise_atR]; rfl

/-- The statement within a round of another such loop. -/
theorem wpV_rangeN {V : FuncId → Prop} {g : Operand} {ps : Array Tmp} {assign body : Code} {Q : Exit → Act → World → Prop} {a : Act} {w : World} {l₀ : Nat} {r₀ : Loop}
    (hr₀ : w.heap[l₀]? = some (.loop r₀))
    {gf : Nat} {lb : Array Value} (hg : a.eval g = .func (.func gf) #[] lb) (eg : ∀ args w, (callFunc gf args).run P w = .ok (.enter gf args) w)
    {ys : List (Array Value)} {Ke : World → Prop} {TT : TypeId → Prop} (hit : Iter P TT gf lb ys Ke) (hps : ∀ y ∈ ys, y.size = ps.size)
    (I : Nat → World → Prop) (Ix : Code → World → Prop) (Ip : List PanicEntry → World → Prop) (A : Nat → Nat → Act → World → Prop)
    (hval : (∃ ch W, Ip ch W) → ∀ fn, V fn → (P.funcs[fn]?).isSome = true)
    (hK : ∀ k W, I k W → Ke W) (sI : ∀ k, Stb w.heap.size (I k)) (sIx : ∀ c, Stb w.heap.size (Ix c)) (sIp : ∀ ch, Stb w.heap.size (Ip ch)) (sA : ∀ k l a', Stb w.heap.size (A k l a'))
    (h0 : I 0 w)
    (hassign : ∀ k (hk : k < ys.length) (l : Nat) W, I k W → wpV V (some l) P assign (Exit.then (fun a' W' => Kx w.heap.size TT W W' ∧ A k l a' W') (fun _ _ _ => False)) { tmps := (ps.zip ys[k]).foldl (fun t (p, v) => t.setIfInBounds p v) a.tmps, defers := [] } W)
    (hbody : ∀ k, k < ys.length → ∀ (l : Nat) a' W, w.heap.size ≤ l → (∃ r, W.heap[l]? = some (.loop r)) → A k l a' W → wpV V (some l) P body (bodyP w.heap.size TT (I (k + 1)) Ix Ip W) a' W)
    (hdone : ∀ W, I ys.length W → Q .normal a W)
    (hstop : ∀ c W, Ix c W → wpV V (some l₀) P c Q a W)
    (hpanic : ∀ ch W, Ip ch W → Q (.panic ch) a W) :
    wpV V (some l₀) P (.rangeFunc g ps assign body) Q a w := by
  intro b k cs hro hbV
  obtain ⟨rec, hrec⟩ : ∃ rec : LoopState → Option Code → Loop, rec = fun st pe => { state := st, pending := pe, fn := b.fn, tmps := a.tmps, params := ps, assign, body, defers := r₀.defers } := ⟨_, rfl⟩
  obtain ⟨W1, hW1⟩ : ∃ W1, w.alloc (.loop (rec .ready none)) = W1 := ⟨_, rfl⟩
  have hL1 : W1.heap[w.heap.size]? = some (.loop (rec .ready none)) := by rw [← hW1]; exact World.alloc_heap_new w _
  have hsz1 : W1.heap.size = w.heap.size + 1 := by rw [← hW1]; simp
  have hg1 : Gr w.heap.size w W1 := by rw [← hW1]; exact Gr.alloc _ _ _
  have hvalb : (∃ ch W, Ip ch W) → (P.funcs[b.fn]?).isSome = true := fun h => hval h _ hbV
  have hcall := hit w.heap.size W1 (fun k W => I k W ∧ W.heap[w.heap.size]? = some (.loop (rec .ready none)))
    (fun W => ∃ c, Ix c W ∧ W.heap[w.heap.size]? = some (.loop (rec .done (some c))))
    (fun ch W => Ip ch W)
    (fun k W h => hK k W h.1)
    (fun k => ((sI k).mono (by omega)).and (Stb.old (by omega)))
    (Stb.ex fun c => ((sIx c).mono (by omega)).and (Stb.old (by omega)))
    (fun ch => (sIp ch).mono (by omega))
    (fun k hk W2 _ h2 => by
      obtain ⟨hi, hl⟩ := h2
      have hy := yield_of (P := P) (V := V) (B := w.heap.size) (l := w.heap.size) (fn := b.fn) hrec hbV (hps _ (List.getElem_mem hk)) hvalb (by omega) (fun a' => sA k _ a') (sI (k + 1)) sIx
        (fun W hI => hassign k hk _ W hI) (fun a' W hA hr => hbody k hk _ a' W (by omega) hr hA) hl hi
      refine hy.mono ?_
      rintro e W' (⟨rfl, ⟨h1, h2, h3⟩, h4⟩ | ⟨rfl, ⟨c, h1, h2, h3⟩, h4⟩ | ⟨ch, rfl, ⟨h1, h3⟩, h4⟩)
      · exact .inl ⟨rfl, ⟨h1, h2⟩, ⟨h4.1, fun k o hk ho hc => h3 k (by omega) (by omega) o ho hc, h4.2⟩⟩
      · exact .inr (.inl ⟨rfl, ⟨c, h1, h2⟩, ⟨h4.1, fun k o hk ho hc => h3 k (by omega) (by omega) o ho hc, h4.2⟩⟩)
      · exact .inr (.inr ⟨ch, rfl, h1, ⟨h4.1, fun k o hk ho hc => h3 k (by omega) (by omega) o ho hc, h4.2⟩⟩))
    ⟨sI 0 _ _ hg1 h0, hL1⟩
  have hres : (resolve a.eval (rangeCall g w.heap.size) 0).run P W1 = .ok { target := .fn (.func gf) lb, args := #[.func (.yield w.heap.size) #[] #[]] } W1 := by
    simp only [resolve, hg]
    simp [go_sem]
  have hinv : (invoke (Target.fn (.func gf) lb) #[.func (.yield w.heap.size) #[] #[]]).run P W1 = .ok (.enter gf (#[.func (.yield w.heap.size) #[] #[]] ++ lb)) W1 := by
    simp [invoke, go_sem, eg]
  have he : (Instr.enterLoop b.fn a.tmps ps assign body b.roundOf).run P w = .ok (w.heap.size, []) W1 := by
    rw [hro, ← hW1, hrec]; exact run_enterLoop_inner hr₀ _ _ _ _ _
  have henter := stepR_rangeFunc (P := P) (b := b) (a := a) (k := k) (cs := cs) (w := w) he hres hinv
  obtain ⟨e, w₃, fr, hR, hsteps, hfn, hleave⟩ := hcall (b.atR { a with defers := [] ++ a.defers } (.inRangeFunc w.heap.size :: k) :: cs)
  rcases hR with ⟨⟨v, rfl⟩, hR⟩ | ⟨ch, rfl, hip⟩
  · have sback : ∀ jump w₄, (Instr.endLoop w.heap.size).run P w₃ = .ok jump w₄ →
        StepsIn (Machine.fenced P Fence.wide) P (lone (b.atR a (.code (.rangeFunc g ps assign body) :: k)) cs w) (lone (b.atR a ((jump.map Item.code).toList ++ k)) cs w₄) := by
      intro jump w₄ hend
      refine .head calm0 henter (StepsIn.trans (stepsIn_wide.2 hsteps) (.head calm0 ?_ (.one calm0 (stepR_endRangeFunc hend))))
      have := step_leave_returned (c := b.atR { a with defers := [] ++ a.defers } (.inRangeFunc w.heap.size :: k)) (cs := cs) hleave
      rw [this, finish_atR_inRangeFunc]; rfl
    rcases hR with ⟨hi, hl⟩ | ⟨c, hi, hl⟩
    · obtain ⟨W4, hW4⟩ : ∃ W4, W4 = w₃.putObj w.heap.size (.loop { rec .ready none with state := .exhausted }) := ⟨_, rfl⟩
      have hend : (Instr.endLoop w.heap.size).run P w₃ = .ok none W4 := by
        have := run_endLoop (P := P) hl (by rw [hrec]; simp); rw [hW4]; rw [hrec] at this ⊢; exact this
      have hg4 : Gr w.heap.size w₃ W4 := by rw [hW4]; exact Gr.putObj _ (by omega) hl rfl
      exact ⟨.normal, _, W4, hdone _ (sI _ _ _ hg4 hi), sback _ _ hend⟩
    · obtain ⟨W4, hW4⟩ : ∃ W4, W4 = w₃.putObj w.heap.size (.loop { rec .done (some c) with state := .exhausted }) := ⟨_, rfl⟩
      have hend : (Instr.endLoop w.heap.size).run P w₃ = .ok (some c) W4 := by
        have := run_endLoop (P := P) hl (by rw [hrec]; simp); rw [hW4]; rw [hrec] at this ⊢; exact this
      have hg4 : Gr w.heap.size w₃ W4 := by rw [hW4]; exact Gr.putObj _ (by omega) hl rfl
      obtain ⟨e', a'', w₅, hq, harr⟩ := hstop c _ (sIx c _ _ hg4 hi) b k cs hro hbV
      exact ⟨e', a'', w₅, hq, .of_steps (sback _ _ hend) harr⟩
  · refine ⟨.panic ch, _, w₃, hpanic ch _ hip, .inRangeFunc w.heap.size :: k, .head calm0 henter (StepsIn.trans (stepsIn_wide.2 hsteps) (.one calm0 ?_))⟩
    have := step_leave_panicked (c := b.atR { a with defers := [] ++ a.defers } (.inRangeFunc w.heap.size :: k)) (cs := cs) hleave
    rw [this, Frame.raise_atR]; rfl

/-! ### A function that holds such a statement -/

theorem calls_of_wpV {V : FuncId → Prop} {f : FuncId} {fn : Func} {c : Code} {args : Array Value} {w : World} {R : Ending → World → Prop}
    (hf : P.funcs[f]? = some fn) (hb : fn.body = some c) (hV : V f)
    (h : wpV V none P c (bodyPostM (fw none) 0 P fn R) { tmps := args ++ Array.replicate (fn.ntmps - args.size) undef, defers := [] } w) : Calls P f args w R := by
  refine (callsFw (r := none) (n := 0)).1 ⟨trivial, fun cs hr => ?_⟩
  let b : Frame := { (default : Frame) with fn := f, kind := .normal, roundOf := none }
  have henter : Frame.enter P f args .normal =
      b.atR { tmps := args ++ Array.replicate (fn.ntmps - args.size) undef, defers := [] } [.code c] := by
    simp [Frame.enter, Frame.atR, hf, hb, b]
  obtain ⟨e, a', w', hq, harr⟩ := h b [] cs rfl hV
  rw [← henter] at harr
  cases e with
  | normal =>
    obtain ⟨e', w'', fr', hR, hs, hfn, hl⟩ := leaves_stepsInM (F := fw none) (n := 0) a'.defers .returning w' { b.atR a' [] with mode := .returning } cs rfl rfl rfl hf rfl trivial hr hq
    exact ⟨e', w'', fr', hR, ComesIn.of_steps (StepsIn.trans harr (.one calm0 (stepR_end rfl))) hs, hfn, hl⟩
  | ret =>
    obtain ⟨todo, hs₀⟩ := harr.1 rfl
    obtain ⟨e', w'', fr', hR, hs, hfn, hl⟩ := leaves_stepsInM (F := fw none) (n := 0) a'.defers .returning w' { b.atR a' todo with mode := .returning } cs rfl rfl rfl hf rfl trivial hr hq
    exact ⟨e', w'', fr', hR, ComesIn.of_steps hs₀ hs, hfn, hl⟩
  | panic chain =>
    obtain ⟨todo, hs₀⟩ := harr
    obtain ⟨e', w'', fr', hR, hs, hfn, hl⟩ := leaves_stepsInM (F := fw none) (n := 0) a'.defers (.panicking chain) w' { b.atR a' todo with mode := .panicking chain } cs rfl rfl rfl hf rfl trivial hr hq
    exact ⟨e', w'', fr', hR, ComesIn.of_steps hs₀ hs, hfn, hl⟩
  | exit id => exact hq.elim
  | goto l => exact hq.elim
  | outgrown => exact ⟨.outgrown, w', b, hq, harr.resolve_left (by simp [b]), rfl, trivial⟩

theorem leave_mark {fn : Func} {R : Ending → World → Prop} {a : Act} {w : World} {v : Value} {D : Nat} (hd : a.defers = [{ target := .collected D, args := #[] }])
    (hD : w.heap[D]? = some (.deferred (some []))) (hr : (results fn a.tmps).run P (w.putObj D (.deferred none)) = .ok v (w.putObj D (.deferred none))) (hR : R (.returned v) (w.putObj D (.deferred none))) :
    bodyPostM (fw none) 0 P fn R .ret a w := by
  show LeavesInM (fw none) 0 P fn a.tmps R a.defers .returning w
  rw [hd]
  exact ⟨by simp, .inl ⟨D, _, rfl, run_takeDeferred hD, v, hr, hR⟩⟩
theorem leave_mark_end {fn : Func} {R : Ending → World → Prop} {a : Act} {w : World} {v : Value} {D : Nat} (hd : a.defers = [{ target := .collected D, args := #[] }])
    (hD : w.heap[D]? = some (.deferred (some []))) (hr : (results fn a.tmps).run P (w.putObj D (.deferred none)) = .ok v (w.putObj D (.deferred none))) (hR : R (.returned v) (w.putObj D (.deferred none))) :
    bodyPostM (fw none) 0 P fn R .normal a w := leave_mark hd hD hr hR
theorem leave_mark_panic {fn : Func} {R : Ending → World → Prop} {a : Act} {w : World} {D : Nat} {ch : List PanicEntry} (hd : a.defers = [{ target := .collected D, args := #[] }])
    (hD : w.heap[D]? = some (.deferred (some []))) (hR : R (.panicked ch) (w.putObj D (.deferred none))) :
    bodyPostM (fw none) 0 P fn R (.panic ch) a w := by
  show LeavesInM (fw none) 0 P fn a.tmps R a.defers (.panicking ch) w
  rw [hd]
  exact ⟨by simp, .inl ⟨D, _, rfl, run_takeDeferred hD, hR⟩⟩
theorem below_putObj {n : Nat} {X W : World} {D : Nat} {o : Obj} (h : Below n X W) (hD : n ≤ D) : Below n X (W.putObj D o) :=
  h.trans ⟨rfl, rfl, rfl, by simp, fun _ hk => World.putObj_heap_other (by omega)⟩
/-- What a call of a function that turns nothing old leaves of the rounds' book-keeping. -/
theorem KeepsFrom.below {B : Nat} {X Y : World} (h : Below X.heap.size X Y) : KeepsFrom B X Y :=
  ⟨h.size, fun k _ _ hk _ => (h.block k (Array.getElem?_eq_some_iff.1 hk).1).trans hk⟩

theorem wpV_block {V : FuncId → Prop} {r : Option Nat} {Q : Exit → Act → World → Prop} {a : Act} {w : World} {id : Nat} {c : Code} (h : wpV V r P c (Exit.inBlock id Q) a w) : wpV V r P (.block id c) Q a w := by
  intro b k cs hro hb
  obtain ⟨e, a₁, w₁, hq, harr⟩ := h b (.inBlock id :: k) cs hro hb
  cases e with
  | normal => exact ⟨.normal, a₁, w₁, hq, .head calm0 stepR_block (StepsIn.trans harr (.one calm0 stepR_inBlock))⟩
  | exit id' =>
    by_cases hid : id' = id
    · simp only [Exit.inBlock, hid, if_true] at hq
      exact ⟨.normal, a₁, w₁, hq, .head calm0 stepR_block (harr.1 k (by simp [exitTo, hid]))⟩
    · simp only [Exit.inBlock, hid, if_false] at hq
      have this : (id == id') = false := by simp; exact fun h => hid h.symm
      have hx : exitTo id' (.inBlock id :: k) = exitTo id' k := by simp [exitTo, this]
      exact ⟨.exit id', a₁, w₁, hq, fun k' hk => .head calm0 stepR_block (harr.1 k' (by rw [hx]; exact hk)),
        fun hr' hk => let ⟨k₁, h1, h2⟩ := harr.2 hr' (by rw [hx]; exact hk); ⟨k₁, h1, .head calm0 stepR_block h2⟩⟩
  | goto l =>
    have hx : gotoIn l (.inBlock id :: k) = gotoIn l k := by simp [gotoIn]
    exact ⟨_, a₁, w₁, hq, fun k' hk => .head calm0 stepR_block (harr.1 k' (by rw [hx]; exact hk)),
      fun hr' hk => let ⟨k₁, h1, h2⟩ := harr.2 hr' (by rw [hx]; exact hk); ⟨k₁, h1, .head calm0 stepR_block h2⟩⟩
  | ret => exact ⟨_, a₁, w₁, hq, .of_steps (.one calm0 stepR_block) harr⟩
  | panic ch => exact ⟨_, a₁, w₁, hq, .of_steps (.one calm0 stepR_block) harr⟩
  | outgrown => exact ⟨_, a₁, w₁, hq, .of_steps (.one calm0 stepR_block) harr⟩

/-- What is asked of a round: the loop's left sides are assigned; whatever then holds of cells alone, the body starts from. -/
def roundV (V : FuncId → Prop) (P : Program) (TT : TypeId → Prop) (B : Nat) (In : World → Prop) (Ix : Code → World → Prop) (Ip : List PanicEntry → World → Prop) (l : Nat) (body : Code) (W : World) (a' : Act) (W' : World) : Prop :=
  Kx B TT W W' ∧ ∃ p : World → Prop, Stb B p ∧ p W' ∧ ∀ W2, (∃ r, W2.heap[l]? = some (.loop r)) → p W2 → wpV V (some l) P body (bodyP B TT In Ix Ip W2) a' W2
def roundW (P : Program) (TT : TypeId → Prop) (B : Nat) (In : World → Prop) (Ix : Code → World → Prop) (l : Nat) (body : Code) (W : World) (a' : Act) (W' : World) : Prop :=
  Kx B TT W W' ∧ ∃ p : World → Prop, Stb B p ∧ p W' ∧ ∀ W2, (∃ r, W2.heap[l]? = some (.loop r)) → p W2 → body.wpIn (fw (some l)) 0 P (bodyP B TT In Ix (fun _ _ => False) W2) a' W2

/-- The statement, assignment and body in one. -/
theorem wpV_rangeR {V : FuncId → Prop} {g : Operand} {ps : Array Tmp} {assign body : Code} {Q : Exit → Act → World → Prop} {a : Act} {w : World}
    {gf : Nat} {lb : Array Value} (hg : a.eval g = .func (.func gf) #[] lb) (eg : ∀ args w, (callFunc gf args).run P w = .ok (.enter gf args) w)
    {ys : List (Array Value)} {Ke : World → Prop} {TT : TypeId → Prop} (hit : Iter P TT gf lb ys Ke) (hps : ∀ y ∈ ys, y.size = ps.size)
    (I : Nat → World → Prop) (Ix : Code → World → Prop) (Ip : List PanicEntry → World → Prop)
    (hval : (∃ ch W, Ip ch W) → ∀ fn, V fn → (P.funcs[fn]?).isSome = true)
    (hK : ∀ k W, I k W → Ke W) (sI : ∀ k, Stb w.heap.size (I k)) (sIx : ∀ c, Stb w.heap.size (Ix c)) (sIp : ∀ ch, Stb w.heap.size (Ip ch))
    (h0 : I 0 w)
    (hround : ∀ k (hk : k < ys.length) (l : Nat) W, I k W → wpV V (some l) P assign (Exit.then (roundV V P TT w.heap.size (I (k + 1)) Ix Ip l body W) (fun _ _ _ => False)) { tmps := (ps.zip ys[k]).foldl (fun t (p, v) => t.setIfInBounds p v) a.tmps, defers := [] } W)
    (hdone : ∀ W, I ys.length W → W.heap[w.heap.size]? = some (.deferred (some [])) → Q .normal { a with defers := { target := .collected w.heap.size, args := #[] } :: a.defers } W)
    (hstop : ∀ c W, Ix c W → W.heap[w.heap.size]? = some (.deferred (some [])) → wpV V none P c Q { a with defers := { target := .collected w.heap.size, args := #[] } :: a.defers } W)
    (hpanic : ∀ ch W, Ip ch W → W.heap[w.heap.size]? = some (.deferred (some [])) → Q (.panic ch) { a with defers := { target := .collected w.heap.size, args := #[] } :: a.defers } W) :
    wpV V none P (.rangeFunc g ps assign body) Q a w :=
  wpV_range hg eg hit hps I Ix Ip (fun k l a' W' => ∃ p : World → Prop, Stb w.heap.size p ∧ p W' ∧ ∀ W2, (∃ r, W2.heap[l]? = some (.loop r)) → p W2 → wpV V (some l) P body (bodyP w.heap.size TT (I (k + 1)) Ix Ip W2) a' W2)
    hval hK sI sIx sIp (fun _ _ _ _ _ g ⟨p, hp, h1, h2⟩ => ⟨p, hp, hp _ _ g h1, h2⟩) h0 (fun k hk l W h => hround k hk l W h) (fun _ _ _ _ W _ hr ⟨_, _, h1, h2⟩ => h2 W hr h1) hdone hstop hpanic
theorem wpV_rangeRN {V : FuncId → Prop} {g : Operand} {ps : Array Tmp} {assign body : Code} {Q : Exit → Act → World → Prop} {a : Act} {w : World} {l₀ : Nat} {r₀ : Loop}
    (hr₀ : w.heap[l₀]? = some (.loop r₀))
    {gf : Nat} {lb : Array Value} (hg : a.eval g = .func (.func gf) #[] lb) (eg : ∀ args w, (callFunc gf args).run P w = .ok (.enter gf args) w)
    {ys : List (Array Value)} {Ke : World → Prop} {TT : TypeId → Prop} (hit : Iter P TT gf lb ys Ke) (hps : ∀ y ∈ ys, y.size = ps.size)
    (I : Nat → World → Prop) (Ix : Code → World → Prop) (Ip : List PanicEntry → World → Prop)
    (hval : (∃ ch W, Ip ch W) → ∀ fn, V fn → (P.funcs[fn]?).isSome = true)
    (hK : ∀ k W, I k W → Ke W) (sI : ∀ k, Stb w.heap.size (I k)) (sIx : ∀ c, Stb w.heap.size (Ix c)) (sIp : ∀ ch, Stb w.heap.size (Ip ch))
    (h0 : I 0 w)
    (hround : ∀ k (hk : k < ys.length) (l : Nat) W, I k W → wpV V (some l) P assign (Exit.then (roundV V P TT w.heap.size (I (k + 1)) Ix Ip l body W) (fun _ _ _ => False)) { tmps := (ps.zip ys[k]).foldl (fun t (p, v) => t.setIfInBounds p v) a.tmps, defers := [] } W)
    (hdone : ∀ W, I ys.length W → Q .normal a W)
    (hstop : ∀ c W, Ix c W → wpV V (some l₀) P c Q a W)
    (hpanic : ∀ ch W, Ip ch W → Q (.panic ch) a W) :
    wpV V (some l₀) P (.rangeFunc g ps assign body) Q a w :=
  wpV_rangeN hr₀ hg eg hit hps I Ix Ip (fun k l a' W' => ∃ p : World → Prop, Stb w.heap.size p ∧ p W' ∧ ∀ W2, (∃ r, W2.heap[l]? = some (.loop r)) → p W2 → wpV V (some l) P body (bodyP w.heap.size TT (I (k + 1)) Ix Ip W2) a' W2)
    hval hK sI sIx sIp (fun _ _ _ _ _ g ⟨p, hp, h1, h2⟩ => ⟨p, hp, hp _ _ g h1, h2⟩) h0 (fun k hk l W h => hround k hk l W h) (fun _ _ _ _ W _ hr ⟨_, _, h1, h2⟩ => h2 W hr h1) hdone hstop hpanic

/-- The statement, no round of which panics. -/
theorem wpIn_range {g : Operand} {ps : Array Tmp} {assign body : Code} {Q : Exit → Act → World → Prop} {a : Act} {w : World}
    {gf : Nat} {lb : Array Value} (hg : a.eval g = .func (.func gf) #[] lb) (eg : ∀ args w, (callFunc gf args).run P w = .ok (.enter gf args) w)
    {ys : List (Array Value)} {Ke : World → Prop} {TT : TypeId → Prop} (hit : Iter P TT gf lb ys Ke) (hps : ∀ y ∈ ys, y.size = ps.size)
    (I : Nat → World → Prop) (Ix : Code → World → Prop)
    (hK : ∀ k W, I k W → Ke W) (sI : ∀ k, Stb w.heap.size (I k)) (sIx : ∀ c, Stb w.heap.size (Ix c))
    (h0 : I 0 w)
    (hround : ∀ k (hk : k < ys.length) (l : Nat) W, I k W → assign.wpIn (fw (some l)) 0 P (Exit.then (roundW P TT w.heap.size (I (k + 1)) Ix l body W) (fun _ _ _ => False)) { tmps := (ps.zip ys[k]).foldl (fun t (p, v) => t.setIfInBounds p v) a.tmps, defers := [] } W)
    (hdone : ∀ W, I ys.length W → W.heap[w.heap.size]? = some (.deferred (some [])) → Q .normal { a with defers := { target := .collected w.heap.size, args := #[] } :: a.defers } W)
    (hstop : ∀ c W, Ix c W → W.heap[w.heap.size]? = some (.deferred (some [])) → c.wpIn (fw none) 0 P Q { a with defers := { target := .collected w.heap.size, args := #[] } :: a.defers } W) :
    (Code.rangeFunc g ps assign body).wpIn (fw none) 0 P Q a w :=
  wpV_all (wpV_rangeR (V := fun _ => True) hg eg hit hps I Ix (fun _ _ => False) (fun ⟨_, _, h⟩ => h.elim) hK sI sIx (fun _ => Stb.pure) h0
    (fun k hk l W h => wpV_mono (wpV_of (hround k hk l W h)) (fun e a w q => by
      cases e with
      | normal => obtain ⟨h1, p, h2, h3, h4⟩ := q; exact ⟨h1, p, h2, h3, fun W2 hr hp => wpV_of (h4 W2 hr hp)⟩
      | _ => exact q)) hdone (fun c W h hD => wpV_of (hstop c W h hD)) (fun _ _ h => h.elim))
theorem wpIn_rangeN {g : Operand} {ps : Array Tmp} {assign body : Code} {Q : Exit → Act → World → Prop} {a : Act} {w : World} {l₀ : Nat} {r₀ : Loop}
    (hr₀ : w.heap[l₀]? = some (.loop r₀))
    {gf : Nat} {lb : Array Value} (hg : a.eval g = .func (.func gf) #[] lb) (eg : ∀ args w, (callFunc gf args).run P w = .ok (.enter gf args) w)
    {ys : List (Array Value)} {Ke : World → Prop} {TT : TypeId → Prop} (hit : Iter P TT gf lb ys Ke) (hps : ∀ y ∈ ys, y.size = ps.size)
    (I : Nat → World → Prop) (Ix : Code → World → Prop)
    (hK : ∀ k W, I k W → Ke W) (sI : ∀ k, Stb w.heap.size (I k)) (sIx : ∀ c, Stb w.heap.size (Ix c))
    (h0 : I 0 w)
    (hround : ∀ k (hk : k < ys.length) (l : Nat) W, I k W → assign.wpIn (fw (some l)) 0 P (Exit.then (roundW P TT w.heap.size (I (k + 1)) Ix l body W) (fun _ _ _ => False)) { tmps := (ps.zip ys[k]).foldl (fun t (p, v) => t.setIfInBounds p v) a.tmps, defers := [] } W)
    (hdone : ∀ W, I ys.length W → Q .normal a W)
    (hstop : ∀ c W, Ix c W → c.wpIn (fw (some l₀)) 0 P Q a W) :
    (Code.rangeFunc g ps assign body).wpIn (fw (some l₀)) 0 P Q a w :=
  wpV_all (wpV_rangeRN (V := fun _ => True) hr₀ hg eg hit hps I Ix (fun _ _ => False) (fun ⟨_, _, h⟩ => h.elim) hK sI sIx (fun _ => Stb.pure) h0
    (fun k hk l W h => wpV_mono (wpV_of (hround k hk l W h)) (fun e a w q => by
      cases e with
      | normal => obtain ⟨h1, p, h2, h3, h4⟩ := q; exact ⟨h1, p, h2, h3, fun W2 hr hp => wpV_of (h4 W2 hr hp)⟩
      | _ => exact q)) hdone (fun c W h => wpV_of (hstop c W h)) (fun _ _ h => h.elim))

/-- A function's contract from its body, in the wide fence. -/
theorem calls_of_wpM {f : FuncId} {fn : Func} {c : Code} {args : Array Value} {w : World} {R : Ending → World → Prop}
    (hf : P.funcs[f]? = some fn) (hb : fn.body = some c)
    (h : c.wpIn (fw none) 0 P (bodyPostM (fw none) 0 P fn R) { tmps := args ++ Array.replicate (fn.ntmps - args.size) undef, defers := [] } w) : Calls P f args w R :=
  calls_of_wpV (V := fun _ => True) hf hb trivial (wpV_of h)
/-- A contract, as the fenced walk meets it. -/
theorem callsTo {r : Option Nat} {n : Nat} {f : FuncId} {args : Array Value} {w : World} {R R' : Ending → World → Prop} (h : Calls P f args w R) (hr : ∀ e w', R e w' → R' e w') : CallsIn (fw r) n P f args w R' :=
  callsFw.2 (h.mono hr)
end
end YtgnjeefanbcbkaaIt
end Go
/- Laws of single operations: a struct or an array read or written whole; regions whose order is open; over whatever program. -/
namespace Go
namespace YtgnjeefanbcbkaaIt
open Go.RowKit
section
variable {P : Program}
/-- A whole struct or array read out of its block, in the fenced walk. -/
theorem wpListIn_load_blk {F : Fence} {n : Nat} {ops : Array Oper} {rest : List Oper} {o : Oper} {a : Act} {w : World} {Q : Exit → Act → World → Prop} (hw : Region.wanted o (yielded ops a.tmps) = true) (ty : TypeId) (x : Operand) (ho : o.op = .load ty x)
    (g : Nat) (hx : a.eval x = .pointer (some ⟨g, 0, none⟩)) {t : TypeId} {cs : Array Value} {fr : Nat × Nat} (hg : w.heap[g]? = some (.cells cs t fr)) {d : TypeDesc}
    (hu : P.underlying ty = some d) (hd : (match d with | .struct _ | .array _ _ => true | _ => false) = true) {k : Nat} (hi : (P.info? ty).map (·.size) = some k) (hk : cs.size = k)
    (h : wpListIn F n P ops Q rest (a.put o.dst (.agg cs)) w) : wpListIn F n P ops Q (o :: rest) a w := by
  refine wpListIn_step fun K hK => ?_
  rw [if_pos hw]
  subst hk
  have hs : Oper.semAt F.round a.eval o = execOp a.eval o := by
    cases hF : F.round with
    | none => rfl
    | some l => exact Oper.semAt_some l _ _ (by rw [ho]; intro c h; cases h)
  unfold Oper.wpIn
  refine ⟨fun f hf => by simp [Oper.about, ho] at hf, ?_⟩
  rw [hs]
  unfold execOp
  simp only [ho, hx, Instr.loadAt, Instr.sureAddr, Sem.run_bind, Sem.run_pure, Result.andThen_ok, run_loadVar_row w g t ty cs fr d hg hu hd hi]
  exact hK _ _ h
theorem wpList_load_blk {ops : Array Oper} {rest : List Oper} {o : Oper} {a : Act} {w : World} {Q : Exit → Act → World → Prop} (hw : Region.wanted o (yielded ops a.tmps) = true) (ty : TypeId) (x : Operand) (ho : o.op = .load ty x)
    (g : Nat) (hx : a.eval x = .pointer (some ⟨g, 0, none⟩)) {t : TypeId} {cs : Array Value} {fr : Nat × Nat} (hg : w.heap[g]? = some (.cells cs t fr)) {d : TypeDesc}
    (hu : P.underlying ty = some d) (hd : (match d with | .struct _ | .array _ _ => true | _ => false) = true) {k : Nat} (hi : (P.info? ty).map (·.size) = some k) (hk : cs.size = k)
    (h : wpList P ops Q rest (a.put o.dst (.agg cs)) w) : wpList P ops Q (o :: rest) a w :=
  wpList_step fun K hK => by rw [if_pos hw]; exact wp_load_row ty x ho g hx t cs fr d hg hu hd (by rw [hk]; exact hi) (hK _ _ h)

theorem setRow_putObj {w : World} {g : Nat} {old cells : Array Value} {t : TypeId} (hg : w.heap[g]? = some (.cells old t (0, 0))) : w.setRow g cells = w.putObj g (.cells cells t (0, 0)) := by
  unfold World.setRow World.putObj
  congr 1
  apply Array.ext_getElem?
  intro k
  rw [Array.getElem?_modify, Array.getElem?_setIfInBounds]
  have hlt := (Array.getElem?_eq_some_iff.1 hg).1
  by_cases h : g = k
  · subst h
    rw [if_pos rfl, if_pos rfl, if_pos hlt, hg]; rfl
  · simp [h]
theorem wpListIn_store_blk {F : Fence} {n : Nat} {ops : Array Oper} {rest : List Oper} {o : Oper} {a : Act} {w : World} {Q : Exit → Act → World → Prop} (hw : Region.wanted o (yielded ops a.tmps) = true) (ty : TypeId) (x y : Operand) (ho : o.op = .store ty x y)
    (g : Nat) (hx : a.eval x = .pointer (some ⟨g, 0, none⟩)) {cells : Array Value} (hy : a.eval y = .agg cells)
    {t : TypeId} {old : Array Value} (hg : w.heap[g]? = some (.cells old t (0, 0))) {k : Nat} (hi : (P.info? ty).map (·.size) = some k) (hk : cells.size = k)
    (hold : old.size = k) (h1 : cells.all (·.oneCell') = true)
    (h : wpListIn F n P ops Q rest (a.put o.dst undef) (w.putObj g (.cells cells t (0, 0)))) : wpListIn F n P ops Q (o :: rest) a w := by
  refine wpListIn_step fun K hK => ?_
  rw [if_pos hw]
  have hs : Oper.semAt F.round a.eval o = execOp a.eval o := by
    cases hF : F.round with
    | none => rfl
    | some l => exact Oper.semAt_some l _ _ (by rw [ho]; intro c h; cases h)
  unfold Oper.wpIn
  refine ⟨fun f hf => by simp [Oper.about, ho] at hf, ?_⟩
  rw [hs]
  unfold execOp
  simp only [ho, hx, hy, Instr.storeAt, Instr.sureAddr, Sem.run_bind, Sem.run_pure, Result.andThen_ok, run_storeVar_row w g t ty old cells hg (by rw [hk]; exact hi) (by omega) h1]
  rw [setRow_putObj hg]
  exact hK _ _ h
theorem wpList_store_blk {ops : Array Oper} {rest : List Oper} {o : Oper} {a : Act} {w : World} {Q : Exit → Act → World → Prop} (hw : Region.wanted o (yielded ops a.tmps) = true) (ty : TypeId) (x y : Operand) (ho : o.op = .store ty x y)
    (g : Nat) (hx : a.eval x = .pointer (some ⟨g, 0, none⟩)) {cells : Array Value} (hy : a.eval y = .agg cells)
    {t : TypeId} {old : Array Value} (hg : w.heap[g]? = some (.cells old t (0, 0))) {k : Nat} (hi : (P.info? ty).map (·.size) = some k) (hk : cells.size = k)
    (hold : old.size = k) (h1 : cells.all (·.oneCell') = true)
    (h : wpList P ops Q rest (a.put o.dst undef) (w.putObj g (.cells cells t (0, 0)))) : wpList P ops Q (o :: rest) a w :=
  wpList_step fun K hK => by rw [if_pos hw]; exact wp_store_row ty x y ho g cells hx hy t old hg (by rw [hk]; exact hi) (by omega) h1 (by rw [setRow_putObj hg]; exact hK _ _ h)

/-! ### Regions whose order is open, and whose calls lay blocks -/

/-- Worlds in which all that lay below B is as in w. -/
structure Ab (B : Nat) (w : World) where
  val : World
  ok : Below B w val
instance {B : Nat} {w : World} : Nonempty (Ab B w) := ⟨⟨w, Below.refl _ _⟩⟩
def AbC (B : Nat) (w W' : World) : Prop := ∃ x : Ab B w, W' = x.val

theorem wp_region_ab {id : Nat} {Q : Exit → Act → World → Prop} {a : Act} {w : World} {l : List Oper} (B : Nat) (w0 : World) (hm : P.follows .mixedOrders = true) (hB : Region.lexB .any l.toArray = true) (hb : Below B w0 w)
    (h : wpQuiet P l.toArray (AbC B w0) (fun a' => ∀ w', AbC B w0 w' → Q .normal a' w') l a) : (Code.region id l.toArray true).wp P Q a w :=
  wp_region_quiet (C := AbC B w0) hm hB ⟨⟨{ w with drawn := w.drawn + 1 }, hb.trans ⟨rfl, rfl, rfl, Nat.le_refl _, fun _ _ => rfl⟩⟩, rfl⟩ (by simpa using h)
theorem wpQuiet_load_blk {ops : Array Oper} {C : World → Prop} {Q : Act → Prop} {a : Act} {o : Oper} {rest : List Oper} (hw : Region.wanted o (yielded ops a.tmps) = true) (ty : TypeId) (x : Operand) (ho : o.op = .load ty x)
    (g : Nat) (hx : a.eval x = .pointer (some ⟨g, 0, none⟩)) {t : TypeId} {cs : Array Value} {fr : Nat × Nat} (hg : ∀ W, C W → W.heap[g]? = some (.cells cs t fr)) {d : TypeDesc}
    (hu : P.underlying ty = some d) (hd : (match d with | .struct _ | .array _ _ => true | _ => false) = true) {k : Nat} (hi : (P.info? ty).map (·.size) = some k) (hk : cs.size = k)
    (h : wpQuiet P ops C Q rest (a.put o.dst (.agg cs))) : wpQuiet P ops C Q (o :: rest) a := by
  subst hk
  refine wpQuiet_step fun K hK => ?_
  rw [if_pos hw]
  refine ⟨_, fun W hW => ?_, hK _ h⟩
  unfold Oper.quietAt execOp
  simp only [ho, hx, Instr.loadAt, Instr.sureAddr, Sem.run_bind, Sem.run_pure, Result.andThen_ok, run_loadVar_row W g t ty cs fr d (hg W hW) hu hd hi]
  exact ⟨rfl, rfl⟩
/-- A call that lays blocks of its own, in such a region. -/
theorem Calls.ab {f : FuncId} {args : Array Value} {B : Nat} {w0 : World} {v : Value} (x : Ab B w0) (hB : B ≤ w0.heap.size) (h : Calls P f args x.val fun e w' => e = .returned v ∧ Below x.val.heap.size x.val w') :
    Calls P f args x.val fun e w'' => e = .returned v ∧ AbC B w0 w'' :=
  h.mono fun _ _ ⟨he, hb⟩ => ⟨he, ⟨_, x.ok.trans (hb.mono (Nat.le_trans hB x.ok.size))⟩, rfl⟩

/-- Results: a struct or an array that lies in memory, and a number or a bool. -/
theorem results_agg_tmp {fn : Func} {p u : Tmp} {ty : TypeId} (h : fn.results = #[.cell p ty, .tmp u]) (tmps : Array Value) (w : World) (g : Nat) {t : TypeId} {cs : Array Value} {fr : Nat × Nat} {d : TypeDesc}
    (hp : tmps.getD p undef = .pointer (some ⟨g, 0, none⟩)) (hg : w.heap[g]? = some (.cells cs t fr))
    (hu : P.underlying ty = some d) (hd : (match d with | .struct _ | .array _ _ => true | _ => false) = true) {k : Nat} (hi : (P.info? ty).map (·.size) = some k) (hk : cs.size = k) :
    (results fn tmps).run P w = .ok (.tuple #[.agg cs, tmps.getD u undef]) w := by
  subst hk
  have hp' : tmps[p]?.getD undef = .pointer (some ⟨g, 0, none⟩) := by simpa using hp
  simp [results, h, hp', asAddr, run_loadVar_row w g t ty cs fr d hg hu hd hi]
/-- A variable of one cell, read. -/
theorem run_loadVar_one {w : World} {b : Nat} {ty : TypeId} {v : Value} {d : TypeDesc} (hc : w.cell? ⟨b, 0, none⟩ = some v) (hu : P.underlying ty = some d) (hd : (match d with | .struct _ | .array _ _ => true | _ => false) = false) :
    (loadVar ty ⟨b, 0, none⟩).run P w = .ok v w := by
  have hagg : (isAgg ty).run P w = .ok false w := by
    unfold isAgg
    rw [Sem.run_bind, run_underlying hu w]
    cases d <;> simp_all
  simp [loadVar, Sem.run_bind, hagg, load, Sem.run, hc]
theorem results_one {fn : Func} {p : Tmp} {ty : TypeId} (h : fn.results = #[.cell p ty]) (tmps : Array Value) (w : World) (b : Nat) {v : Value} {d : TypeDesc}
    (hp : tmps.getD p undef = .pointer (some ⟨b, 0, none⟩)) (hc : w.cell? ⟨b, 0, none⟩ = some v) (hu : P.underlying ty = some d) (hd : (match d with | .struct _ | .array _ _ => true | _ => false) = false) :
    (results fn tmps).run P w = .ok v w := by
  have hp' : tmps[p]?.getD undef = .pointer (some ⟨b, 0, none⟩) := by simpa using hp
  simp [results, h, hp', asAddr, run_loadVar_one hc hu hd]
theorem wpStill_load_blk {ops : Array Oper} {w : World} {Q : Act → Prop} {a : Act} {o : Oper} {rest : List Oper} (hw : Region.wanted o (yielded ops a.tmps) = true) (ty : TypeId) (x : Operand) (ho : o.op = .load ty x)
    (g : Nat) (hx : a.eval x = .pointer (some ⟨g, 0, none⟩)) {t : TypeId} {cs : Array Value} {fr : Nat × Nat} (hg : w.heap[g]? = some (.cells cs t fr)) {d : TypeDesc}
    (hu : P.underlying ty = some d) (hd : (match d with | .struct _ | .array _ _ => true | _ => false) = true) {k : Nat} (hi : (P.info? ty).map (·.size) = some k) (hk : cs.size = k)
    (h : wpStill P ops w Q rest (a.put o.dst (.agg cs))) : wpStill P ops w Q (o :: rest) a := by
  subst hk
  refine wpStill_step fun K hK => ?_
  rw [if_pos hw]
  unfold Oper.still execOp
  simp only [ho, hx, Instr.loadAt, Instr.sureAddr, Sem.run_bind, Sem.run_pure, Result.andThen_ok, run_loadVar_row w g t ty cs fr d hg hu hd hi]
  exact ⟨rfl, hK _ h⟩
/-- An append onto a slice of the call's own, as one step of a region whose order is open. -/
theorem step_append_own {ops : Array Oper} {o : Oper} {a : Act} {w : World} {K : Act → World → Prop} {Q : Exit → Act → World → Prop} {E : Prop}
    (hg : o.guard = none) (s x : Operand) (t : TypeId) (hop : o.op = Op.call { callee := Callee.builtin Builtin.append, args := #[s, x], argTypes := #[t, t] })
    (base e : Nat) (i : TypeInfo) (z : Value) (size bytes : Nat) (h1 : P.underlying t = some (.slice e)) (h2 : P.info? e = some i) (h3 : i.zero = some z) (h4 : i.size = size) (h5 : i.bytes = bytes) (h6 : z.cells.size = size) (h7 : 0 < size)
    (v : Value) (n : Nat) (xs : List Value) (hs : a.eval s = v) (hown : w.ownsRow base e size v n xs)
    (ad : Addr) (m c : Nat) (news : List Value) (hx : a.eval x = .slice (some ad) m c) (hn : news.length = m * size) (hc : ∀ j u, news[j]? = some u → w.cell? (ad.add j) = some u) (h1c : ∀ u ∈ news, u.oneCell' = true)
    (b1 : n + m ≤ maxLen) (b2 : (n + m) * bytes ≤ 140737488355328) (hbase : base ≤ w.heap.size)
    (hK : ∀ v' w', w'.ownsRow base e size v' (n + m) (xs ++ news) → w.grownBy w' v.ownBlock → K (a.put o.dst v') w') :
    if Region.wanted o (yielded ops a.tmps) = true then Oper.wp P o a w K Q else E := by
  have hw : Region.wanted o (yielded ops a.tmps) = true := by simp [Region.wanted, hg]
  rw [if_pos hw]
  obtain ⟨v', w', hrun, r1, r2, _⟩ := run_append_own (P := P) w base t o.type e i z size bytes h1 h2 h3 h4 h5 h6 h7 v n xs hown ad m c news hn hc h1c b1 b2 hbase
  unfold Oper.wp
  simp [execOp, hop, resolve, invoke, builtin, hs, hx, hrun, Result.andThen]
  exact hK v' w' r1 r2
/-- Results: a pointer, a struct or an array in memory, and a number. -/
theorem results_tmp_agg_tmp {fn : Func} {q p u : Tmp} {ty : TypeId} (h : fn.results = #[.tmp q, .cell p ty, .tmp u]) (tmps : Array Value) (w : World) (g : Nat) {t : TypeId} {cs : Array Value} {fr : Nat × Nat} {d : TypeDesc}
    (hp : tmps.getD p undef = .pointer (some ⟨g, 0, none⟩)) (hg : w.heap[g]? = some (.cells cs t fr))
    (hu : P.underlying ty = some d) (hd : (match d with | .struct _ | .array _ _ => true | _ => false) = true) {k : Nat} (hi : (P.info? ty).map (·.size) = some k) (hk : cs.size = k) :
    (results fn tmps).run P w = .ok (.tuple #[tmps.getD q undef, .agg cs, tmps.getD u undef]) w := by
  subst hk
  have hp' : tmps[p]?.getD undef = .pointer (some ⟨g, 0, none⟩) := by simpa using hp
  simp [results, h, hp', asAddr, run_loadVar_row w g t ty cs fr d hg hu hd hi]
end
end YtgnjeefanbcbkaaIt
end Go
/- A region whose order is open, that reads, makes one variable and stores into it at its end. Over whatever program. -/
namespace Go
namespace YtgnjeefanbcbkaaIt
open Go.RowKit
section
variable {P : Program}
/-- Operations that compute or read. -/
def plainOp : Op → Bool
  | .move _ | .assign _ | .load .. | .binOp .. | .unOp .. | .convert .. | .fieldAddr .. | .field .. | .indexAddr .. | .index .. | .build .. | .slice .. | .extract .. => true
  | .call c => match c.callee with
    | .builtin .len => true
    | _ => false
  | _ => false
theorem run_value_form {s : Sem Value} {W W' : World} {x : Next} (h : ((do pure (Next.value (← s))) : Sem Next).run P W = .ok x W') : ∃ u, x = .value u := by
  rw [Sem.run_bind] at h
  cases hr : s.run P W with
  | ok u w1 =>
    rw [hr] at h
    simp only [Result.andThen_ok] at h
    have h2 : Result.ok (Next.value u) w1 = .ok x W' := h
    injection h2 with e1 _
    exact ⟨u, e1.symm⟩
  | halt x w1 => rw [hr] at h; cases h
theorem plain_form {o : Oper} {ρ : Operand → Value} (h : plainOp o.op = true) {W W' : World} {x : Next} (hr : (execOp ρ o).run P W = .ok x W') : ∃ u, x = .value u := by
  unfold execOp at hr
  unfold plainOp at h
  revert h hr
  cases o.op with
  | move y => intro _ hr; injection hr with e _; exact ⟨_, e.symm⟩
  | assign y => intro _ hr; injection hr with e _; exact ⟨_, e.symm⟩
  | call c =>
    intro h hr
    dsimp only at hr h
    unfold resolve at hr
    cases hc : c.callee with
    | builtin b =>
      rw [hc] at h hr
      cases b <;> simp only [Bool.false_eq_true] at h
      simp only [invoke] at hr
      exact run_value_form hr
    | _ => rw [hc] at h; simp at h
  | load t x => intro _ hr; exact run_value_form hr
  | binOp p t x y u => intro _ hr; exact run_value_form hr
  | unOp p t x => intro _ hr; exact run_value_form hr
  | convert t u x => intro _ hr; exact run_value_form hr
  | fieldAddr t x f => intro _ hr; exact run_value_form hr
  | field t x f => intro _ hr; exact run_value_form hr
  | indexAddr t x f => intro _ hr; exact run_value_form hr
  | index t x f => intro _ hr; exact run_value_form hr
  | build t x => intro _ hr; exact run_value_form hr
  | slice t x l h m => intro _ hr; exact run_value_form hr
  | extract t i => intro _ hr; exact run_value_form hr
  | _ => intro h; simp at h


variable {Q : Exit → Act → World → Prop} {D0 D1 : World}
theorem ready_same {md : Region.Mode} {ops ops' : Array Oper} (hs : ops'.size = ops.size) (ha : ∀ i : Nat, (ops'[i]?).map Oper.after = (ops[i]?).map Oper.after) (listed : Array Bool) : Region.ready md ops' listed = Region.ready md ops listed := by
  unfold Region.ready
  rw [hs]
  refine List.filter_congr fun i _ => ?_
  have h := ha i
  cases h1 : ops'[i]? with
  | none => cases h2 : ops[i]? with
    | none => rfl
    | some o => rw [h1, h2] at h; cases h
  | some o' => cases h2 : ops[i]? with
    | none => rw [h1, h2] at h; cases h
    | some o =>
      rw [h1, h2] at h
      have e : o'.after = o.after := by simpa using h
      simp [e]
/-- An operation waits for earlier ones alone. -/
def backB (ops : Array Oper) : Bool := (List.range ops.size).all fun j => ((ops[j]?).map fun o => o.after.all fun e => !Region.binds .any e || decide (e.on < j)).getD true
theorem ready_some {ops : Array Oper} (hb : backB ops = true) {listed : Array Bool} (hsz : listed.size = ops.size) : ∀ i, i < ops.size → listed.getD i true = false → Region.ready .any ops listed ≠ [] := by
  intro i
  induction i using Nat.strongRecOn with
  | _ i ih =>
  intro hi hun
  obtain ⟨o, ho⟩ : ∃ o, ops[i]? = some o := ⟨_, Array.getElem?_eq_getElem hi⟩
  have h1 := List.all_eq_true.1 hb i (List.mem_range.2 hi)
  rw [ho] at h1
  have h2 : ∀ e ∈ o.after, Region.binds .any e = true → e.on < i := fun e he hbd => by
    have h3 : (o.after.all fun e => !Region.binds .any e || decide (e.on < i)) = true := h1
    have := Array.all_eq_true'.1 h3 e he
    simpa [hbd] using this
  by_cases hall : ∀ e ∈ o.after, Region.binds .any e = true → listed.getD e.on false = true
  · intro h0
    have : i ∈ Region.ready .any ops listed := mem_ready.2 ⟨hun, o, ho, hall⟩
    rw [h0] at this; cases this
  · have : ∃ e ∈ o.after, Region.binds .any e = true ∧ listed.getD e.on false ≠ true := by
      refine Classical.byContradiction fun hc => hall fun e he hbd => Classical.byContradiction fun hn => hc ⟨e, he, hbd, hn⟩
    obtain ⟨e, he, hbd, hne⟩ := this
    refine ih e.on (h2 e he hbd) (by have := h2 e he hbd; omega) ?_
    have := h2 e he hbd
    cases hl : listed.getD e.on true with
    | false => rfl
    | true =>
      have hlt : e.on < listed.size := by rw [hsz]; omega
      simp [hlt] at hl hne
      rw [hl] at hne; cases hne
/-- Which world it is: with the new variable, or not yet. -/
def Ph (n : Nat) (D0 D1 : World) (listed : Array Bool) (W : World) : Prop := W = if listed.getD n false then D1 else D0
theorem sim_alloc {ops ops' : Array Oper} {n t : Nat} {on ot : Oper} {elem : TypeId} {p : Value} (hnt : n < t) (htl : t + 1 = ops.size) (hon : ops[n]? = some on) (honop : on.op = .alloc elem) (hot : ops[t]? = some ot) (htd : ot.dst = none)
    (hg : ∀ (i : Nat) (o : Oper), ops[i]? = some o → o.guard = none)
    (hrest : ∀ (i : Nat) (o : Oper), ops[i]? = some o → i ≠ n → i ≠ t → plainOp o.op = true ∧ ops'[i]? = some o)
    (hn' : ops'[n]? = some { on with op := .move (.const p) }) (ht' : ops'[t]? = some { ot with op := .move (.const undef) })
    (hr : ∀ listed, Region.ready .any ops' listed = Region.ready .any ops listed) (hback : backB ops = true)
    (hsink : Region.sinkB .any ops t = true) (hchain : Region.chainB .any ops t = true)
    (hal : (Instr.alloc elem true (.tuple #[])).run P D0 = .ok p D1) {C : World → Prop} (hC0 : C D0) (hC1 : C D1) {R : Act → Prop}
    (hR : ∀ a, R a → ot.wp P a D1 (fun a' w' => Q .normal a' w') Q ∨ (ot.asks P a D1 ∧ LetsOut Q)) :
    ∀ (fuel : Nat) (listed : Array Bool) (a : Act) (W : World), HeadInv .any ops t listed → wpAnyQ P .any ops' C R fuel listed a → Ph n D0 D1 listed W →
      wpAny P .any ops Q fuel listed a W := by
  have wanted : ∀ (i : Nat) (o : Oper), ops[i]? = some o → ∀ y, Region.wanted o y = true := fun i o h y => by simp [Region.wanted, hg i o h]
  intro fuel
  induction fuel with
  | zero =>
    intro listed a W inv h _
    have h0 := h.1
    rw [hr] at h0
    exact absurd h0 (ready_some hback inv.size t (by omega) (inv.tail t (Nat.le_refl _) (by omega)))
  | succ fuel ih =>
    intro listed a W inv h hph
    refine ⟨fun h0 => absurd h0 (ready_some hback inv.size t (by omega) (inv.tail t (Nat.le_refl _) (by omega))), fun i hi => ?_⟩
    have hq := h.2 i (by rw [hr]; exact hi)
    obtain ⟨hun, oi, hoi, hall⟩ := mem_ready.1 hi
    have hilt : i < ops.size := (Array.getElem?_eq_some_iff.1 hoi).1
    have hwi := wanted i oi hoi
    unfold wpOp
    simp only [hoi, hwi, if_true]
    by_cases hit : i = t
    · subst hit
      have : oi = ot := Option.some.inj (hoi.symm.trans hot)
      subst this
      have hbefore : ∀ j, j < i → listed.getD j true = true := fun j hj => by
        cases hl : listed.getD j true with
        | true => rfl
        | false => exact absurd hi (tail_waits hsink hchain (by omega) inv _ j rfl hj hl i (Nat.le_refl _))
      have hnl : listed.getD n false = true := by
        have h1 := hbefore n hnt
        have : n < listed.size := by rw [inv.size]; omega
        simp [this] at h1 ⊢; exact h1
      have hW : W = D1 := by rw [hph, hnl]; rfl
      subst hW
      have hnil : ∀ l2 : Array Bool, l2 = listed.setIfInBounds i true → Region.ready .any ops l2 = [] := fun l2 hl2 => by
        refine List.eq_nil_iff_forall_not_mem.2 fun j hj => ?_
        obtain ⟨hjun, oj, hoj, _⟩ := mem_ready.1 hj
        have hjlt : j < ops.size := (Array.getElem?_eq_some_iff.1 hoj).1
        rw [hl2] at hjun
        by_cases hji : i = j
        · subst hji
          have : i < listed.size := by rw [inv.size]; omega
          simp [this] at hjun
        · rw [getD_set_ne true hji, hbefore j (by omega)] at hjun; cases hjun
      unfold qOp at hq
      simp only [ht'] at hq
      rw [if_pos (by simp [Region.wanted, hg _ _ hoi])] at hq
      obtain ⟨v, _, hK⟩ := hq
      have hRa : R a := by
        have e : a.put ({ oi with op := .move (.const undef) } : Oper).dst v = a := by simp [htd, Act.put]
        rw [e] at hK
        have hn0 := hnil _ rfl
        rw [← hr] at hn0
        cases fuel with
        | zero => exact hK.2
        | succ f => exact hK.1 hn0
      refine (hR a hRa).imp (Oper.wp_mono (fun a' w' hq' => ?_)) id
      have hn0 := hnil _ rfl
      cases fuel with
      | zero => exact ⟨hn0, hq'⟩
      | succ f => exact ⟨fun _ => hq', fun j hj => by rw [hn0] at hj; cases hj⟩
    · left
      by_cases hin : i = n
      · subst hin
        have : oi = on := Option.some.inj (hoi.symm.trans hon)
        subst this
        have hnl : listed.getD i false = false := getD_both hun
        have hW : W = D0 := by rw [hph, hnl]; rfl
        subst hW
        unfold qOp at hq
        simp only [hn'] at hq
        rw [if_pos (by simp [Region.wanted, hg _ _ hoi])] at hq
        obtain ⟨v, hv, hK⟩ := hq
        have h3 := hv W hC0
        unfold Oper.quietAt execOp at h3
        have h4 : W = W ∧ p = v := h3
        rw [← h4.2] at hK
        unfold Oper.wp execOp
        simp only [honop, Sem.run_bind, hal, Result.andThen_ok]
        refine ih _ _ _ (inv.set hi hnt) hK ?_
        unfold Ph
        have : i < listed.size := by rw [inv.size]; omega
        simp [this]
      · obtain ⟨hpl, hoi'⟩ := hrest i oi hoi hin hit
        unfold qOp at hq
        simp only [hoi'] at hq
        rw [if_pos (by simp [Region.wanted, hg _ _ hoi])] at hq
        obtain ⟨v, hv, hK⟩ := hq
        have hC : C W := by
          unfold Ph at hph
          cases hl : listed.getD n false <;> rw [hl] at hph
          · rw [hph]; exact hC0
          · rw [hph]; exact hC1
        have h3 := hv W hC
        unfold Oper.quietAt at h3
        unfold Oper.wp
        have hpf := fun x W' => plain_form (P := P) (ρ := a.eval) hpl (W := W) (W' := W') (x := x)
        generalize hrun : (execOp a.eval oi).run P W = r at *
        cases r with
        | halt x w' => exact h3.elim
        | ok x w' =>
          obtain ⟨u, rfl⟩ := hpf x w' rfl
          obtain ⟨e1, e2⟩ : w' = W ∧ u = v := h3
          rw [e1, e2]
          refine ih _ _ _ (inv.set hi (by omega)) hK ?_
          unfold Ph at hph ⊢
          rw [getD_set_ne false hin]
          exact hph

/-- The region's operations with the two that write struck. -/
def struck (l : List Oper) (n t : Nat) (p : Value) : List Oper := l.mapIdx fun i o => if i = n then { o with op := .move (.const p) } else if i = t then { o with op := .move (.const undef) } else o
def chkA (l : List Oper) (n t : Nat) : Bool :=
  decide (n < t) && decide (t + 1 = l.length) && l.zipIdx.all (fun x => x.1.guard.isNone && (x.2 == n || x.2 == t || plainOp x.1.op)) &&
  backB l.toArray && Region.sinkB .any l.toArray t && Region.chainB .any l.toArray t
theorem struck_get (l : List Oper) (n t : Nat) (p : Value) (i : Nat) : (struck l n t p)[i]? = (l[i]?).map fun o => if i = n then { o with op := .move (.const p) } else if i = t then { o with op := .move (.const undef) } else o := by
  simp [struck]
/-- One of two worlds. -/
structure Tw (D0 D1 : World) where
  val : World
  ok : val = D0 ∨ val = D1
theorem tw_cell {w : World} {o : Obj} (x : Tw w.drew (w.alloc o).drew) {p : Addr} (h : p.block < w.heap.size) : x.val.cell? p = w.cell? p := by
  rcases x.ok with h1 | h1 <;> rw [h1]
  · rfl
  · exact World.cell?_of_block (w := w) (by show (w.heap.push o)[p.block]? = _; rw [Array.getElem?_push, if_neg (by omega)])
instance {D0 D1 : World} : Nonempty (Tw D0 D1) := ⟨⟨D0, .inl rfl⟩⟩
def struckS (l : List Oper) (n t : Nat) (on ot : Oper) (p : Value) : List Oper := (l.set n { on with op := .move (.const p) }).set t { ot with op := .move (.const undef) }
theorem struckS_eq {l : List Oper} {n t : Nat} {on ot : Oper} {p : Value} (hne : n < t) (hon : l[n]? = some on) (hot : l[t]? = some ot) : struckS l n t on ot p = struck l n t p := by
  apply List.ext_getElem?
  intro i
  rw [struck_get, struckS, List.getElem?_set, List.getElem?_set]
  obtain ⟨h1, rfl⟩ := List.getElem?_eq_some_iff.1 hon
  obtain ⟨h2, rfl⟩ := List.getElem?_eq_some_iff.1 hot
  by_cases e1 : t = i
  · subst e1
    have : ¬ t = n := by omega
    simp [h2, this]
  · rw [if_neg e1]
    by_cases e2 : n = i
    · subst e2; simp [h1]
    · rw [if_neg e2]
      have e1' : ¬ i = t := fun h => e1 h.symm
      have e2' : ¬ i = n := fun h => e2 h.symm
      cases l[i]? <;> simp [e1', e2']
theorem wp_region_alloc {id : Nat} {Q : Exit → Act → World → Prop} {a : Act} {w : World} {l : List Oper} (n t : Nat) {on ot : Oper} {elem : TypeId} {obj : Obj} {p : Value} (hm : P.follows .mixedOrders = true)
    (hc : chkA l n t = true) (hon : l[n]? = some on) (honop : on.op = .alloc elem) (hot : l[t]? = some ot) (htd : ot.dst = none) (hB : Region.lexB .any (struckS l n t on ot p).toArray = true)
    (hal : (Instr.alloc elem true (.tuple #[])).run P w.drew = .ok p (w.alloc obj).drew)
    (h : wpQuiet P (struckS l n t on ot p).toArray (fun W => ∃ x : Tw w.drew (w.alloc obj).drew, W = x.val) (fun a' => wpList P l.toArray Q [ot] a' (w.alloc obj).drew) (struckS l n t on ot p) a) : (Code.region id l.toArray true).wp P Q a w := by
  simp only [chkA, Bool.and_eq_true, decide_eq_true_eq] at hc
  obtain ⟨⟨⟨⟨⟨hnt, htl⟩, hall⟩, hback⟩, hsink⟩, hchain⟩ := hc
  rw [struckS_eq hnt hon hot] at hB h
  have each : ∀ (i : Nat) (o : Oper), l[i]? = some o → o.guard = none ∧ (i ≠ n → i ≠ t → plainOp o.op = true) := fun i o ho => by
    have hmem : (o, i) ∈ l.zipIdx := by
      rw [List.mem_zipIdx_iff_getElem?]; exact ho
    have := List.all_eq_true.1 hall _ hmem
    simp only [Bool.and_eq_true, Option.isNone_iff_eq_none, Bool.or_eq_true, beq_iff_eq] at this
    exact ⟨this.1, fun h1 h2 => by rcases this.2 with (h3 | h3) | h3 <;> first | contradiction | exact h3⟩
  have hg : ∀ (i : Nat) (o : Oper), l.toArray[i]? = some o → o.guard = none := fun i o ho => (each i o (by simpa using ho)).1
  have hrest : ∀ (i : Nat) (o : Oper), l.toArray[i]? = some o → i ≠ n → i ≠ t → plainOp o.op = true ∧ (struck l n t p).toArray[i]? = some o := fun i o ho h1 h2 => by
    have ho' : l[i]? = some o := by simpa using ho
    refine ⟨(each i o ho').2 h1 h2, ?_⟩
    rw [List.getElem?_toArray, struck_get, ho']
    simp [h1, h2]
  have hr : ∀ listed, Region.ready .any (struck l n t p).toArray listed = Region.ready .any l.toArray listed := ready_same (by simp [struck]) fun i => by
    rw [List.getElem?_toArray, List.getElem?_toArray, struck_get]
    cases l[i]? with
    | none => rfl
    | some o =>
      simp only [Option.map_some]
      split
      · rfl
      · split <;> rfl
  have hB' := hB
  simp only [Region.lexB, Bool.and_eq_true] at hB'
  refine wp_region_any hm ?_
  have hq := wpAnyQ_lex (P := P) (C := fun W => ∃ x : Tw w.drew (w.alloc obj).drew, W = x.val) (md := .any) hB'.1 (struck l n t p) 0 (Array.replicate (struck l n t p).toArray.size false) a (by simp) (by simpa using hB'.2) h
  have e1 : (struck l n t p).toArray.size = l.toArray.size := by simp [struck]
  rw [e1] at hq
  have e2 : (struck l n t p).length = l.toArray.size := by simp [struck]
  rw [e2] at hq
  refine sim_alloc (D0 := w.drew) (D1 := w.drew.alloc obj) (p := p) hnt (by simpa using htl) (by simpa using hon) honop (by simpa using hot) htd hg hrest ?_ ?_ hr hback hsink hchain hal ⟨⟨_, .inl rfl⟩, rfl⟩ ⟨⟨_, .inr rfl⟩, rfl⟩ (R := fun a' => wpList P l.toArray Q [ot] a' (w.alloc obj).drew) ?_ _ _ _ _ ⟨by simp, fun j oj _ hl e _ _ => ?_, fun i hi hilt => ?_⟩ hq ?_
  · rw [List.getElem?_toArray, struck_get, hon]; simp
  · rw [List.getElem?_toArray, struck_get, hot]
    have : ¬ t = n := by omega
    simp [this]
  · intro a' ha'
    have hgt := (each t ot hot).1
    have hw : Region.wanted ot (yielded l.toArray a'.tmps) = true := by simp [Region.wanted, hgt]
    unfold wpList at ha'
    rw [if_pos hw] at ha'
    exact ha'
  · rw [getD_replicate_false] at hl; cases hl
  · have : i < l.length := by simpa using hilt
    simp [this]
  · unfold Ph
    rw [getD_replicate_false]; rfl
end
end YtgnjeefanbcbkaaIt
end Go
/- min of two numbers, not parted; over whatever program. -/
namespace Go
namespace YtgnjeefanbcbkaaIt
open Go.RowKit
theorem wpList_min {P : Program} {ops : Array Oper} {rest : List Oper} {o : Oper} {a : Act} {w : World} {Q : Exit → Act → World → Prop} (hgd : o.guard = none) (x y : Operand) (ats : Array TypeId)
    (ho : o.op = .call { callee := .builtin .min, args := #[x, y], argTypes := ats }) {k : IntKind} {m n : Int} (hx : a.eval x = .int k m) (hy : a.eval y = .int k n)
    (h : wpList P ops Q rest (a.put o.dst (.int k (min m n))) w) : wpList P ops Q (o :: rest) a w :=
  wpList_plain hgd fun K hK => by
    have hr : (execOp a.eval o).run P w = .ok (.value (.int k (min m n))) w := by
      unfold execOp
      simp only [ho, resolve, invoke, builtin, Sem.run_bind, Sem.run_pure, Result.andThen_ok, List.map_toArray, List.map_cons, List.map_nil, hx, hy]
      have e : (if n < m then n else m) = min m n := by rw [Int.min_def]; split <;> split <;> omega
      simp [Builtin.min_, Builtin.min2, go_sem, e]
    unfold Oper.wp
    rw [hr]
    exact hK _ _ h
end YtgnjeefanbcbkaaIt
end Go
/- Regions whose order is open, in a round: the plain calculus serves there too. Over whatever program. -/
namespace Go
namespace YtgnjeefanbcbkaaIt
open Go.RowKit
section
variable {P : Program} {ops : Array Oper} {Q : Exit → Act → World → Prop} {md : Region.Mode}

def noDefer (ops : Array Oper) : Bool := ops.toList.all fun o => match o.op with | .defer _ => false | _ => true
theorem noDefer_at (h : noDefer ops = true) {i : Nat} {o : Oper} (ho : ops[i]? = some o) : ∀ c, o.op ≠ .defer c := by
  intro c hc
  have hm : o ∈ ops.toList := List.mem_of_getElem? (by simpa using ho)
  have := List.all_eq_true.1 h o hm
  rw [hc] at this
  cases this
theorem wpOpIn_of_wpOp {r : Option Nat} {n : Nat} (hnd : noDefer ops = true) (hL : LetsOut Q → False) {i : Nat} {K : Act → World → Prop} {a : Act} {w : World} (h : wpOp P ops Q i K a w) : wpOpIn (fw r) n P ops Q i K a w := by
  unfold wpOp at h
  unfold wpOpIn
  split at h
  · rename_i ho; rw [ho]; exact h
  · rename_i o ho
    rw [ho]
    simp only
    split at h
    · rename_i hw
      rw [if_pos hw]
      rcases h with h | h
      · refine ⟨fun _ _ => trivial, ?_⟩
        rw [Oper.semAt_eq _ _ _ (noDefer_at hnd ho)]
        unfold Oper.wp at h
        generalize (execOp a.eval o).run P w = x at h
        cases x with
        | ok x w' =>
          cases x <;> simp only [Oper.upon, Oper.uponIn] at h ⊢ <;>
            first
              | exact h
              | exact ⟨fun h => by simp at h, callsFw.2 h⟩
              | exact ⟨fun h => by simp at h, fun c cs _ => let ⟨v, w'', hR, hs⟩ := h c cs; ⟨v, w'', hR, stepsIn_wide.2 hs⟩⟩
        | halt x w' => cases x <;> simp only [Oper.upon, Oper.uponIn] at h ⊢ <;> exact h
      · exact (hL h.2).elim
    · rename_i hw
      rw [if_neg hw]
      exact ⟨fun _ _ => trivial, h⟩
theorem wpAnyIn_of_wpAny {r : Option Nat} {n : Nat} (hnd : noDefer ops = true) (hL : LetsOut Q → False) : ∀ (fuel : Nat) (listed : Array Bool) (a : Act) (w : World), wpAny P md ops Q fuel listed a w → wpAnyIn (fw r) n P md ops Q fuel listed a w
  | 0, _, _, _, h => h
  | fuel + 1, _, _, _, h => ⟨h.1, fun i hi => wpOpIn_mono (fun a' w' h' => wpAnyIn_of_wpAny hnd hL fuel _ a' w' h') (wpOpIn_of_wpOp hnd hL (h.2 i hi))⟩
theorem wpIn_region_any' {r : Option Nat} {n id : Nat} {a : Act} {w : World} (hm : P.follows .mixedOrders = true) (hnd : noDefer ops = true) (hL : LetsOut Q → False)
    (h : wpAny P .any ops Q ops.size (Array.replicate ops.size false) a { w with drawn := w.drawn + 1 }) : (Code.region id ops true).wpIn (fw r) n P Q a w :=
  wpIn_region_any hm (wpAnyIn_of_wpAny hnd hL _ _ _ _ h)
/-- The beginning, in a round or not: a condition S on the world is held. -/
theorem wpIn_region_held {r : Option Nat} {n id : Nat} {a : Act} {w : World} {S : World → Prop} (hm : P.follows .mixedOrders = true) (hnd : noDefer ops = true) (hL : LetsOut Q → False)
    (h : wpAnyH P .any ops Q S ops.size (Array.replicate ops.size false) a { w with drawn := w.drawn + 1 }) : (Code.region id ops true).wpIn (fw r) n P Q a w :=
  wpIn_region_any' hm hnd hL (wpAny_of_held _ _ _ _ h)
/-- The only one that may come up comes up. -/
theorem wpAnyH_one {S : World → Prop} {i : Nat} {o : Oper} {fuel : Nat} {listed : Array Bool} {a : Act} {w : World} (hr : Region.ready md ops listed = [i]) (ho : ops[i]? = some o) (hw : Region.wanted o (yielded ops a.tmps) = true)
    (h : ∀ K : Act → World → Prop, (∀ a' w', S w' → wpAnyH P md ops Q S fuel (listed.setIfInBounds i true) a' w' → K a' w') → Oper.wp P o a w K Q) : wpAnyH P md ops Q S (fuel + 1) listed a w :=
  wpAnyH_all hr (by simp) fun j hj => by
    simp only [List.mem_singleton] at hj
    subst hj
    unfold wpOp
    rw [ho]
    simp only
    rw [if_pos hw]
    exact .inl (h _ fun a' w' h1 h2 => ⟨h1, h2⟩)
end
end YtgnjeefanbcbkaaIt
end Go
/- Maps of which only this is known: each entry is right. Over whatever program. -/
namespace Go
namespace YtgnjeefanbcbkaaIt
open Go.RowKit
open Go.Maps (Keyed)

/-- Block b is a map each of whose entries satisfies G. -/
def Memo (w : World) (b : Nat) (G : Value → Value → Prop) : Prop := ∃ es clock, w.heap[b]? = some (.map es clock) ∧ ∀ e ∈ es.toList, G e.key e.val

section
variable {P : Program}
theorem run_getObj_map {w : World} {b : Nat} {es : Array MapEntry} {clock : Nat} (h : w.heap[b]? = some (.map es clock)) : (getObj b).run P w = .ok (.map es clock) w := by simp [getObj, Sem.run, h]
theorem run_setObj_map {w : World} {b : Nat} {es : Array MapEntry} {clock : Nat} (o : Obj) (h : w.heap[b]? = some (.map es clock)) : (setObj b o).run P w = .ok () (w.putObj b o) := by simp [setObj, Sem.run, h, World.putObj]

theorem Memo.look {w : World} {b : Nat} {G : Value → Value → Prop} {t k e : TypeId} (h : Memo w b G) (K : Keyed P k) (ht : P.underlying t = some (.map k e)) {z : Value} (hz : ∀ w, (zeroValue e).run P w = .ok z w)
    (hG : ∀ x v, G x v → ∃ l, keyOf P k x = some l) {key : Value} {kl : Lit} (hkey : keyOf P k key = some kl) :
    (∀ W, W.heap[b]? = w.heap[b]? → (Instr.lookup t (.map (some b)) key true).run P W = .ok (.tuple #[z, .bool false]) W) ∨
    (∀ W, W.heap[b]? = w.heap[b]? → ∃ v, G key v ∧ (Instr.lookup t (.map (some b)) key true).run P W = .ok (.tuple #[v, .bool true]) W) := by
  obtain ⟨es, clock, hb0, hes⟩ := h
  have hk : ∀ x ∈ es.toList, ∃ l, keyOf P k x.key = some l := fun x hx => hG _ _ (hes x hx)
  by_cases hin : ∃ x ∈ es.toList, x.key = key
  · refine .inr fun W hW => ?_
    have hb := hW.trans hb0
    have hu := run_underlying (P := P) ht W
    have hck := K.check W es.isEmpty hkey
    rcases K.find W hkey es.toList hk with ⟨hf, hno⟩ | ⟨j, x, hf, hj, hx⟩
    · obtain ⟨x, hx, he⟩ := hin
      exact absurd he (hno x hx)
    · refine ⟨x.val, by rw [← hx]; exact hes x (List.mem_of_getElem? hj), ?_⟩
      unfold Instr.lookup
      simp [Sem.run_bind, hu, run_getObj_map hb, hck, hf, Result.andThen]
  · refine .inl fun W hW => ?_
    have hb := hW.trans hb0
    have hu := run_underlying (P := P) ht W
    have hck := K.check W es.isEmpty hkey
    rcases K.find W hkey es.toList hk with ⟨hf, _⟩ | ⟨j, x, hf, hj, hx⟩
    · unfold Instr.lookup
      simp [Sem.run_bind, hu, run_getObj_map hb, hck, hf, hz, Result.andThen]
    · exact absurd ⟨x, List.mem_of_getElem? hj, hx⟩ hin

theorem Memo.update {w : World} {b : Nat} {G : Value → Value → Prop} {t k e : TypeId} (h : Memo w b G) (K : Keyed P k) (ht : P.underlying t = some (.map k e))
    (hG : ∀ x v, G x v → ∃ l, keyOf P k x = some l) {key : Value} {kl : Lit} (hkey : keyOf P k key = some kl) {v : Value} (hv : G key v) :
    ∃ es' clock', (Instr.mapUpdate t (.map (some b)) key v).run P w = .ok () (w.putObj b (.map es' clock')) ∧ ∀ e ∈ es'.toList, G e.key e.val := by
  obtain ⟨es, clock, hb, hes⟩ := h
  have hk : ∀ x ∈ es.toList, ∃ l, keyOf P k x.key = some l := fun x hx => hG _ _ (hes x hx)
  have hu := run_underlying (P := P) ht w
  have hck := K.check w false hkey
  rcases K.find w hkey es.toList hk with ⟨hf, _⟩ | ⟨j, x, hf, hj, hx⟩
  · refine ⟨es.push { key := key, val := v, born := clock }, clock + 1, ?_, ?_⟩
    · unfold Instr.mapUpdate
      simp [Sem.run_bind, hu, run_getObj_map hb, hck, hf, run_setObj_map _ hb, Result.andThen]
    · intro x hx
      simp at hx
      rcases hx with hx | rfl
      · exact hes x (by simpa using hx)
      · exact hv
  · have hj' : es[j]? = some x := by simpa using hj
    refine ⟨es.modify j fun e => { e with key := key, val := v }, clock, ?_, ?_⟩
    · unfold Instr.mapUpdate
      have hst := K.stays w hkey
      subst hx
      simp [Sem.run_bind, hu, run_getObj_map hb, hck, hf, hj', hst, run_setObj_map _ hb, Result.andThen]
    · intro y hy
      obtain ⟨i, hi⟩ := List.getElem?_of_mem hy
      simp only [Array.getElem?_toList, Array.getElem?_modify] at hi
      by_cases hij : j = i
      · subst hij
        rw [if_pos rfl, hj'] at hi
        simp at hi
        subst hi
        exact hv
      · rw [if_neg hij] at hi
        exact hes y (List.mem_of_getElem? (by simpa using hi))

/-- A look-up, its run being known, in a region whose order is open. -/
theorem wpQuiet_lookup_run {ops : Array Oper} {C : World → Prop} {Q : Act → Prop} {a : Act} {o : Oper} {rest : List Oper} (hw : Region.wanted o (yielded ops a.tmps) = true) (t : TypeId) (m k : Operand) (ok : Bool) (ho : o.op = .lookup t m k ok)
    {mv kv v : Value} (hm : a.eval m = mv) (hk : a.eval k = kv) (hrun : ∀ W, C W → (Instr.lookup t mv kv ok).run P W = .ok v W) (h : wpQuiet P ops C Q rest (a.put o.dst v)) : wpQuiet P ops C Q (o :: rest) a := by
  refine wpQuiet_step fun K hK => ?_
  rw [if_pos hw]
  refine ⟨_, fun W hW => ?_, hK _ h⟩
  unfold Oper.quietAt execOp
  simp only [ho, hm, hk, Sem.run_bind, hrun W hW, Result.andThen_ok, Sem.run_pure]
  exact ⟨rfl, rfl⟩
theorem wpList_lookup_run {ops : Array Oper} {rest : List Oper} {o : Oper} {a : Act} {w : World} {Q : Exit → Act → World → Prop} (hw : Region.wanted o (yielded ops a.tmps) = true) (t : TypeId) (m k : Operand) (ok : Bool) (ho : o.op = .lookup t m k ok)
    {mv kv v : Value} (hm : a.eval m = mv) (hk : a.eval k = kv) (hrun : (Instr.lookup t mv kv ok).run P w = .ok v w) (h : wpList P ops Q rest (a.put o.dst v) w) : wpList P ops Q (o :: rest) a w := by
  refine wpList_step fun K hK => ?_
  rw [if_pos hw]
  unfold Oper.wp execOp
  simp only [ho, hm, hk, Sem.run_bind, hrun, Result.andThen_ok, Sem.run_pure]
  exact hK _ _ h
/-- A store into a map, its run being known. -/
theorem wpList_mapUpdate_run {ops : Array Oper} {rest : List Oper} {o : Oper} {a : Act} {w w' : World} {Q : Exit → Act → World → Prop} (hw : Region.wanted o (yielded ops a.tmps) = true) (t : TypeId) (m k v : Operand) (ho : o.op = .mapUpdate t m k v)
    {mv kv vv : Value} (hm : a.eval m = mv) (hk : a.eval k = kv) (hv : a.eval v = vv) (hrun : (Instr.mapUpdate t mv kv vv).run P w = .ok () w') (h : wpList P ops Q rest (a.put o.dst undef) w') : wpList P ops Q (o :: rest) a w := by
  refine wpList_step fun K hK => ?_
  rw [if_pos hw]
  unfold Oper.wp execOp
  simp only [ho, hm, hk, hv, Sem.run_bind, hrun, Result.andThen_ok, Sem.run_pure]
  exact hK _ _ h
theorem wpIn_of_wp {c : Code} {n : Nat} {Q : Exit → Act → World → Prop} {a : Act} {w : World} (h : c.wp P Q a w) : c.wpIn (fw none) n P Q a w := (wpIn_wide (n := n)).2 h

/-- All that lay below B but block m is as it was. -/
structure Bm (m B : Nat) (w w' : World) : Prop where
  os : w'.os = w.os
  tape : w'.tape = w.tape
  output : w'.output = w.output
  size : w.heap.size ≤ w'.heap.size
  block : ∀ k, k < B → k ≠ m → w'.heap[k]? = w.heap[k]?
theorem Bm.refl (m B : Nat) (w : World) : Bm m B w w := ⟨rfl, rfl, rfl, Nat.le_refl _, fun _ _ _ => rfl⟩
theorem Bm.trans {m B : Nat} {x y z : World} (h : Bm m B x y) (k : Bm m B y z) : Bm m B x z :=
  ⟨k.os.trans h.os, k.tape.trans h.tape, k.output.trans h.output, Nat.le_trans h.size k.size, fun i hi hne => (k.block i hi hne).trans (h.block i hi hne)⟩
theorem Bm.mono {m B B' : Nat} {x y : World} (h : Bm m B x y) (hB : B' ≤ B) : Bm m B' x y := ⟨h.os, h.tape, h.output, h.size, fun i hi hne => h.block i (Nat.lt_of_lt_of_le hi hB) hne⟩
theorem Bm.of {m B : Nat} {x y : World} (h : Below B x y) : Bm m B x y := ⟨h.os, h.tape, h.output, h.size, fun i hi _ => h.block i hi⟩
theorem Bm.put {m B : Nat} (x : World) (o : Obj) : Bm m B x (x.putObj m o) := ⟨rfl, rfl, rfl, by simp, fun _ _ hne => World.putObj_heap_other hne⟩
theorem Kx.bm {m B : Nat} {TT : TypeId → Prop} {x y : World} (h : Bm m x.heap.size x y) {o : Obj} (hm : x.heap[m]? = some o) (ho : o.isCells = false) (hB : m < B) : Kx B TT x y :=
  ⟨h.size, fun k _ hk hx _ => (h.block k (Array.getElem?_eq_some_iff.1 hx).1 (by omega)).trans hx, fun k _ _ _ hx _ => (h.block k (Array.getElem?_eq_some_iff.1 hx).1 (by rintro rfl; rw [hm] at hx; cases hx; cases ho)).trans hx⟩
theorem Memo.below {w w' : World} {b B : Nat} {G : Value → Value → Prop} (h : Memo w b G) (hb : Below B w w') (hB : b < B) : Memo w' b G := by
  obtain ⟨es, clock, h1, h2⟩ := h
  exact ⟨es, clock, (hb.block b hB).trans h1, h2⟩
theorem Memo.lt {w : World} {b : Nat} {G : Value → Value → Prop} (h : Memo w b G) : b < w.heap.size := by
  obtain ⟨es, clock, h1, _⟩ := h
  exact (Array.getElem?_eq_some_iff.1 h1).1
theorem Memo.stb {B b : Nat} {G : Value → Value → Prop} (hb : b < B) : Stb B (fun w => Memo w b G) := fun _ _ g ⟨es, clock, h1, h2⟩ => ⟨es, clock, Stb.old hb _ _ g h1, h2⟩
theorem Stb.bm {B n m : Nat} {X : World} (hn : n ≤ B) (hX : n ≤ X.heap.size) : Stb B (fun W => Bm m n X W) := fun _ _ g h =>
  ⟨g.os.trans h.os, g.tape.trans h.tape, g.output.trans h.output, Nat.le_trans h.size g.size, fun k hk hne => (g.block k (Nat.lt_of_lt_of_le hk (Nat.le_trans hX h.size)) (.inl (Nat.lt_of_lt_of_le hk hn))).trans (h.block k hk hne)⟩

theorem mapM_some {α β : Type} {f : α → Option β} : ∀ {l : List α}, (∀ x ∈ l, (f x).isSome = true) → (l.mapM f).isSome = true
  | [], _ => rfl
  | x :: l, h => by
    obtain ⟨y, hy⟩ := Option.isSome_iff_exists.1 (h x (by simp))
    obtain ⟨ys, hys⟩ := Option.isSome_iff_exists.1 (mapM_some (l := l) (fun z hz => h z (by simp [hz])))
    simp [List.mapM_cons, hy, hys]
/-- An array of numbers is a key. -/
theorem keyOf_ints {k e n : Nat} (A : WideMaps.ArrKey P k e n) (he : P.underlying e = some (.int .i64)) (hsz : ∃ m, P.types.size = m + 1) {xs : List Int} (hl : xs.length = n) (hb : ∀ x ∈ xs, (Lit.int .i64 x).wf = true) :
    ∃ l, keyOf P k (.agg (xs.map (Value.int .i64)).toArray) = some l := by
  obtain ⟨m, hm⟩ := hsz
  have hkt := A.keyType ⟨m, hm⟩
  have hsome : (P.keyLits (P.types.size + 1) k (xs.map (Value.int .i64))).isSome = true := by
    rw [hm]
    unfold Program.keyLits
    rw [A.hu]
    simp only [List.length_map, A.size, hl, if_pos, Option.isSome_map]
    refine mapM_some (fun i hi => ?_)
    have hi' : i < xs.length := by simp at hi; omega
    unfold Program.keyLits
    rw [he, A.one]
    have hd : ((xs.map (Value.int .i64)).drop (i * 1)).take 1 = [.int .i64 xs[i]] := by
      rw [Nat.mul_one, List.drop_eq_getElem_cons (by simpa using hi')]
      simp
    rw [hd]
    simp [hb _ (List.getElem_mem hi')]
  obtain ⟨ls, hls⟩ := Option.isSome_iff_exists.1 hsome
  have hc : (Value.agg (xs.map (Value.int .i64)).toArray).cells.toList = xs.map (Value.int .i64) := by simp [Value.cells]
  have hf : (Value.agg (xs.map (Value.int .i64)).toArray).formed P k = true := by simp [Value.formed, A.hu, A.size, hl]
  refine ⟨.string (keyBytes ls), ?_⟩
  unfold keyOf
  rw [A.hu]
  simp only [hkt, hf, hc, hls, Bool.and_self, if_true, Option.map_some]
end
end YtgnjeefanbcbkaaIt
end Go
/- Lemmas on slices that come in, nil or not, and on append with such a source (the guide gives them to copy). -/
namespace Go
namespace YtgnjeefanbcbkaaIt
open Go.RowKit
theorem block_of_add (a : Addr) (n : Nat) : (a.add n).block = a.block := by unfold Addr.add; split <;> rfl
theorem add_of_add (a : Addr) (i j : Nat) : (a.add i).add j = a.add (i + j) := by
  unfold Addr.add
  by_cases hi : i = 0 <;> by_cases hj : j = 0 <;> simp [hi, hj, Nat.add_assoc]

def Reads (w : World) (B size : Nat) (A : Option Addr) (n : Nat) (xs : List Value) : Prop :=
  xs.length = n * size ∧ (0 < n → ∃ ad, A = some ad ∧ ad.block < B ∧ ∀ j u, xs[j]? = some u → w.cell? (ad.add j) = some u)

section
variable {w w' : World} {B B' size n : Nat} {A : Option Addr} {xs : List Value}
theorem Reads.none_ : Reads w B size A 0 [] := ⟨by simp, fun h => absurd h (by omega)⟩
theorem Reads.at_ {k : Nat} (h : Reads w B 1 A n xs) (hk : k < n) : ∃ ad u, A = some ad ∧ ad.block < B ∧ xs[k]? = some u ∧ w.cell? (ad.add k) = some u := by
  obtain ⟨ad, e, hb, hc⟩ := h.2 (by omega)
  have hl : k < xs.length := by have := h.1; omega
  exact ⟨ad, xs[k], e, hb, List.getElem?_eq_getElem hl, hc k _ (List.getElem?_eq_getElem hl)⟩
theorem Reads.keep (h : Reads w B size A n xs) (hk : ∀ p : Addr, p.block < B → w'.cell? p = w.cell? p) : Reads w' B size A n xs :=
  ⟨h.1, fun hn => by
    obtain ⟨ad, e, hb, hc⟩ := h.2 hn
    exact ⟨ad, e, hb, fun j u hu => (hk _ (by rw [block_of_add]; exact hb)).trans (hc j u hu)⟩⟩
theorem Reads.more (h : Reads w B size A n xs) (hB : B ≤ B') : Reads w B' size A n xs :=
  ⟨h.1, fun hn => by
    obtain ⟨ad, e, hb, hc⟩ := h.2 hn
    exact ⟨ad, e, by omega, hc⟩⟩
theorem Reads.below (h : Reads w B size A n xs) (hb : Below B w w') : Reads w' B size A n xs := h.keep fun _ hp => hb.cell hp
theorem Reads.drew (h : Reads w B size A n xs) : Reads w.drew B size A n xs := h
theorem Reads.drewN (h : Reads w B size A n xs) (k : Nat) : Reads (w.drewN k) B size A n xs := h
theorem Reads.alloc (h : Reads w B size A n xs) (hB : B ≤ w.heap.size) (o : Obj) : Reads (w.alloc o) B size A n xs := h.keep fun p hp => World.cell?_alloc_lt w o p (by omega)
theorem Reads.setCell (h : Reads w B size A n xs) {p : Addr} (hB : B ≤ p.block) (u : Value) : Reads (w.setCell p u) B size A n xs :=
  h.keep fun q hq => World.cell?_setCell_other w p q u (fun e => by subst e; omega)
theorem Reads.grown (h : Reads w B size A n xs) {row : Option Nat} (hg : w.grownBy w' row) (hB : B ≤ w.heap.size) (hr : ∀ g, row = some g → B ≤ g) : Reads w' B size A n xs :=
  h.keep fun p hp => World.cell?_of_block (hg.block p.block (by omega) (fun e => by have := hr _ e.symm; omega))
theorem Reads.cut (h : Reads w B size A n xs) {k cap : Nat} (hk : k ≤ n) (hc : n ≤ cap) :
    Reads w B size (if cap = k then A else A.map (·.add (k * size))) (n - k) (xs.drop (k * size)) := by
  refine ⟨by rw [List.length_drop, h.1, Nat.sub_mul], fun hn => ?_⟩
  obtain ⟨ad, rfl, hb, hcell⟩ := h.2 (by omega)
  rw [if_neg (by omega)]
  refine ⟨ad.add (k * size), rfl, by rw [block_of_add]; exact hb, fun j u hu => ?_⟩
  rw [add_of_add]
  exact hcell _ u (by rw [← hu, List.getElem?_drop])
theorem Reads.of_own {base : Nat} {e : TypeId} {c : Nat} (h : w.ownsRow base e size (.slice A n c) n xs) : Reads w w.heap.size size A n xs := by
  refine ⟨h.1, fun hn => ?_⟩
  obtain ⟨g, cap, hv, _, hlt⟩ := h.form hn
  have hA : A = some ⟨g, 0, none⟩ := by injection hv
  subst hA
  exact ⟨_, rfl, hlt, h.cells (g := g) rfl⟩
end
section
variable {P : Program} (w : World)

theorem run_append_of_nil (base : Nat) (t ty e : TypeId) (i : TypeInfo) (size : Nat) (ht : P.underlying t = some (.slice e)) (hi : P.info? e = some i)
    (v : Value) (n : Nat) (xs : List Value) (hown : w.ownsRow base e size v n xs) (c : Nat) : (Builtin.append_ #[t, t] ty #[v, .slice none 0 c]).run P w = .ok v w := by
  rcases hown.2 with ⟨rfl, rfl⟩ | ⟨g, cap, cur, rfl, _, _, hnc, _⟩
  · simp [Builtin.append_, run_underlying ht, sizeOf, typeInfo, hi, Builtin.lenOf, Builtin.firstCells]
  · simp [Builtin.append_, run_underlying ht, sizeOf, typeInfo, hi, Builtin.lenOf, Builtin.firstCells, hnc, storeCells]

theorem run_append_any (base : Nat) (t ty e : TypeId) (i : TypeInfo) (z : Value) (size bytes : Nat) (ht : P.underlying t = some (.slice e)) (hi : P.info? e = some i) (hz : i.zero = some z)
    (hsize : i.size = size) (hby : i.bytes = bytes) (hzs : z.cells.size = size) (hsz : 0 < size)
    (v : Value) (n : Nat) (xs : List Value) (hown : w.ownsRow base e size v n xs)
    (B : Nat) (A : Option Addr) (m c : Nat) (news : List Value) (hr : Reads w B size A m news) (h1 : ∀ u ∈ news, u.oneCell' = true)
    (h63 : n + m ≤ maxLen) (hbytes : (n + m) * bytes ≤ 140737488355328) (hbase : base ≤ w.heap.size) :
    ∃ v' w', (Builtin.append_ #[t, t] ty #[v, .slice A m c]).run P w = .ok v' w' ∧ w'.ownsRow base e size v' (n + m) (xs ++ news) ∧ w.grownBy w' v.ownBlock ∧
      (v'.ownBlock = v.ownBlock ∨ v'.ownBlock = some w.heap.size) := by
  rcases A with _ | ad
  · have hm : m = 0 := by
      rcases Nat.eq_zero_or_pos m with h0 | h0
      · exact h0
      · obtain ⟨ad, h, _⟩ := hr.2 h0
        cases h
    subst hm
    have hn : news = [] := List.eq_nil_of_length_eq_zero (by simpa using hr.1)
    subst hn
    exact ⟨v, w, run_append_of_nil w base t ty e i size ht hi v n xs hown c, by simpa using hown, World.grownBy.refl w _, .inl rfl⟩
  · have hcells : ∀ j u, news[j]? = some u → w.cell? (ad.add j) = some u := by
      intro j u hu
      rcases Nat.eq_zero_or_pos m with h0 | h0
      · subst h0
        have hn : news = [] := List.eq_nil_of_length_eq_zero (by simpa using hr.1)
        subst hn
        simp at hu
      · obtain ⟨ad', h, _, hc⟩ := hr.2 h0
        injection h with h
        subst h
        exact hc j u hu
    obtain ⟨v', w', hrun, h2, h3, _, h5⟩ := run_append_own_at (P := P) w base t ty e i z size bytes ht hi hz hsize hby hzs hsz v n xs hown ad m c news hr.1 hcells h1 h63 hbytes hbase
    exact ⟨v', w', hrun, h2, h3, h5⟩

theorem wp_append_any {o : Oper} {a : Act} {K : Act → World → Prop} {Q : Exit → Act → World → Prop} (s x : Operand) (t : TypeId)
    (ho : o.op = .call { callee := .builtin .append, args := #[s, x], argTypes := #[t, t] })
    (base : Nat) (e : TypeId) (i : TypeInfo) (z : Value) (size bytes : Nat) (ht : P.underlying t = some (.slice e)) (hi : P.info? e = some i) (hz : i.zero = some z)
    (hsize : i.size = size) (hby : i.bytes = bytes) (hzs : z.cells.size = size) (hsz : 0 < size)
    (v : Value) (n : Nat) (xs : List Value) (hs : a.eval s = v) (hown : w.ownsRow base e size v n xs)
    (B : Nat) (A : Option Addr) (m c : Nat) (news : List Value) (hx : a.eval x = .slice A m c) (hr : Reads w B size A m news) (h1 : ∀ u ∈ news, u.oneCell' = true)
    (h63 : n + m ≤ maxLen) (hbytes : (n + m) * bytes ≤ 140737488355328) (hbase : base ≤ w.heap.size)
    (h : ∀ v' w', w'.ownsRow base e size v' (n + m) (xs ++ news) → w.grownBy w' v.ownBlock → (v'.ownBlock = v.ownBlock ∨ v'.ownBlock = some w.heap.size) → K (a.put o.dst v') w') : o.wp P a w K Q := by
  obtain ⟨v', w', hrun, h2, h3, h4⟩ := run_append_any (P := P) w base t o.type e i z size bytes ht hi hz hsize hby hzs hsz v n xs hown B A m c news hr h1 h63 hbytes hbase
  unfold Oper.wp execOp
  simp only [ho, resolve, invoke, builtin, Sem.run_bind, Sem.run_pure, Result.andThen_ok, List.map_toArray, List.map_cons, List.map_nil, hs, hx, hrun]
  exact h v' w' h2 h3 h4

theorem wpList_append_any {ops : Array Oper} {rest : List Oper} {o : Oper} {a : Act} {Q : Exit → Act → World → Prop} (hgd : o.guard = none) (s x : Operand) (t : TypeId)
    (ho : o.op = .call { callee := .builtin .append, args := #[s, x], argTypes := #[t, t] })
    (base : Nat) (e : TypeId) (i : TypeInfo) (z : Value) (size bytes : Nat) (ht : P.underlying t = some (.slice e)) (hi : P.info? e = some i) (hz : i.zero = some z)
    (hsize : i.size = size) (hby : i.bytes = bytes) (hzs : z.cells.size = size) (hsz : 0 < size)
    (v : Value) (n : Nat) (xs : List Value) (hs : a.eval s = v) (hown : w.ownsRow base e size v n xs)
    (B : Nat) (A : Option Addr) (m c : Nat) (news : List Value) (hx : a.eval x = .slice A m c) (hr : Reads w B size A m news) (h1 : ∀ u ∈ news, u.oneCell' = true)
    (h63 : n + m ≤ maxLen) (hbytes : (n + m) * bytes ≤ 140737488355328) (hbase : base ≤ w.heap.size)
    (h : ∀ v' w', w'.ownsRow base e size v' (n + m) (xs ++ news) → w.grownBy w' v.ownBlock → (v'.ownBlock = v.ownBlock ∨ v'.ownBlock = some w.heap.size) → wpList P ops Q rest (a.put o.dst v') w') : wpList P ops Q (o :: rest) a w :=
  wpList_plain hgd fun _ hK => wp_append_any w s x t ho base e i z size bytes ht hi hz hsize hby hzs hsz v n xs hs hown B A m c news hx hr h1 h63 hbytes hbase fun v' w' h2 h3 h4 => hK _ _ (h v' w' h2 h3 h4)

theorem step_append_any {ops : Array Oper} {o : Oper} {a : Act} {K : Act → World → Prop} {Q : Exit → Act → World → Prop} {E : Prop} (hgd : o.guard = none) (s x : Operand) (t : TypeId)
    (ho : o.op = .call { callee := .builtin .append, args := #[s, x], argTypes := #[t, t] })
    (base : Nat) (e : TypeId) (i : TypeInfo) (z : Value) (size bytes : Nat) (ht : P.underlying t = some (.slice e)) (hi : P.info? e = some i) (hz : i.zero = some z)
    (hsize : i.size = size) (hby : i.bytes = bytes) (hzs : z.cells.size = size) (hsz : 0 < size)
    (v : Value) (n : Nat) (xs : List Value) (hs : a.eval s = v) (hown : w.ownsRow base e size v n xs)
    (B : Nat) (A : Option Addr) (m c : Nat) (news : List Value) (hx : a.eval x = .slice A m c) (hr : Reads w B size A m news) (h1 : ∀ u ∈ news, u.oneCell' = true)
    (h63 : n + m ≤ maxLen) (hbytes : (n + m) * bytes ≤ 140737488355328) (hbase : base ≤ w.heap.size)
    (h : ∀ v' w', w'.ownsRow base e size v' (n + m) (xs ++ news) → w.grownBy w' v.ownBlock → (v'.ownBlock = v.ownBlock ∨ v'.ownBlock = some w.heap.size) → K (a.put o.dst v') w') :
    if Region.wanted o (yielded ops a.tmps) = true then Oper.wp P o a w K Q else E := by
  have hw : Region.wanted o (yielded ops a.tmps) = true := by simp [Region.wanted, hgd]
  rw [if_pos hw]
  exact wp_append_any w s x t ho base e i z size bytes ht hi hz hsize hby hzs hsz v n xs hs hown B A m c news hx hr h1 h63 hbytes hbase h
end

end YtgnjeefanbcbkaaIt
end Go
/- The last step of each statement, where the call leaves all that was there as it was. -/
namespace Go
namespace YtgnjeefanbcbkaaIt
open Go.RowKit Go.WideShapes Go.ChangeShapes
section
variable {H : Type} {enc : TypeId × Value → H} {P : Program}
theorem post_of_below {f : Func} {s : ChangeSpec} {apart fresh handsOn again : Bool} {W W' : World} {args : Array Value} {v : Value} {ds gs : List (DataW H)} {before pa pv : List MemPlace}
    (hW : DataW.Whole enc P f.params.toList s.vars apart W args.toList ds gs before)
    (hres : ∀ (b : Nat) (sp : Nat → Bool) (hd : Bool), DataW.TrodAll enc P W' b sp hd f.resultTypes.toList (v.resultList f.resultTypes.size) (s.fn H (ds ++ gs)).results [])
    (hargs : ∀ sp : Nat → Bool, (∀ p ∈ before, sp p.block = true) → DataW.TrodAll enc P W' 0 sp true f.params.toList args.toList (s.fn H (ds ++ gs)).args pa)
    (hvars : ∀ sp : Nat → Bool, (∀ p ∈ before, sp p.block = true) → DataW.TrodVars enc P W' sp s.vars (s.fn H (ds ++ gs)).vars pv)
    (hps : before = pa ++ pv) (hb : Below W.heap.size W W')
    (hok : ∀ (j : Nat) (t : TypeId) (r : Value), f.resultTypes[j]? = some t → (v.resultList f.resultTypes.size)[j]? = some r → Value.okWide P W' .any 0 t r) :
    s.post enc P f apart fresh handsOn again W args v W' := by
  have hlt : ∀ p ∈ before, p.block < W.heap.size := fun p hp => hW.lt p hp
  have hold : ∀ p ∈ before, (fun b => decide (b < W.heap.size)) p.block = true := fun p hp => by simpa using hlt p hp
  refine ⟨ds, gs, before, [], pa, pv, hW, hres _ _ _, hargs _ hold, hvars _ hold, World.keptBut_mono (fun p hp => ⟨hp, ?_⟩) (hb.frame (· ∈ before)), fun _ => ?_⟩
  · rw [hps, List.mem_append] at hp
    exact Or.inr hp
  · obtain ⟨_, _, _, _, _, hz, hn⟩ := hW
    refine ⟨hok, _, _, ([] ++ pa) ++ pv, ⟨[] ++ pa, pv, trodAll_append (hargs _ (fun _ _ => rfl)) (hres _ _ _), hvars _ (fun _ _ => rfl), rfl, ?_, ?_⟩, ?_⟩
    · intro b off hp
      have hin : MemPlace.cell b off ∈ before := by rw [hps]; simpa using hp
      rw [hb.frozen (hlt _ hin)]
      exact hz b off hin
    · intro ha
      have := hn ha
      rw [hps] at this
      simpa using this
    · intro p hp _
      rw [hps]
      simpa using hp
end
end YtgnjeefanbcbkaaIt
end Go
