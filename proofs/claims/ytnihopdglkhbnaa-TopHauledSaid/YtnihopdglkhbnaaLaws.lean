/- A range over a function, with rounds that may panic: what an iterator promises, and the law for the statement. Over whatever program. -/
import Derived.RangeFuncNested
import Derived.RangeFuncBound
import Derived.RangeFuncCalls
import Derived.RangeFuncLeaves
import Derived.RangeFuncWrites
import Derived.Shelf.Abstract
import Derived.WalkKit
import Derived.Deep.QuietTactic
import Derived.BigQuiet
import Derived.TacticsInMore
import Derived.Maps.Keyed
import Derived.StillTailTactics
import Derived.Deep.RegionLaw
namespace Go
namespace YtnihopdglkhbnaaIt
open Go.RowKit

/-- The wide fence, in a round or not. -/
def fw (r : Option Nat) : Fence := { Fence.wide with round := r }
@[go_sem, simp] theorem fw_round (r : Option Nat) : (fw r).round = r := rfl
@[go_sem, simp] theorem fw_fn (r : Option Nat) (f : FuncId) : (fw r).fn f = True := rfl
@[go_sem, simp] theorem fw_depth (r : Option Nat) : (fw r).depth = none := rfl
theorem room_fw (r : Option Nat) (n : Nat) : (fw r).room n := fun _ h => by simp [fw, Fence.wide] at h

section
variable {P : Program}

theorem callsFw {r : Option Nat} {n : Nat} {f : FuncId} {args : Array Value} {w : World} {R : Ending → World → Prop} : CallsIn (fw r) n P f args w R ↔ Calls P f args w R := callsIn_wide (n := n)

/-- A walk in frames of functions of which V holds. -/
def wpV (V : FuncId → Prop) (r : Option Nat) (P : Program) (c : Code) (Q : Exit → Act → World → Prop) (a : Act) (w : World) : Prop :=
  ∀ (b : Frame) (k : List Item) (cs : List Frame), b.roundOf = r → V b.fn →
    ∃ e a' w', Q e a' w' ∧ ArrivesIn (Machine.fenced P Fence.wide) P (lone (b.atR a (.code c :: k)) cs w) b k cs e a' w'

variable {V : FuncId → Prop} {r : Option Nat} {Q : Exit → Act → World → Prop} {a : Act} {w : World}

theorem wpV_of {c : Code} {n : Nat} (h : c.wpIn (fw r) n P Q a w) : wpV V r P c Q a w :=
  fun b k cs hb _ => h b k cs hb trivial (room_fw _ _)
theorem wpV_all {c : Code} {n : Nat} (h : wpV (fun _ => True) r P c Q a w) : c.wpIn (fw r) n P Q a w :=
  fun b k cs hb _ _ => h b k cs hb trivial
theorem wpV_mono {c : Code} {Q' : Exit → Act → World → Prop} (h : wpV V r P c Q a w) (hq : ∀ e a w, Q e a w → Q' e a w) : wpV V r P c Q' a w :=
  fun b k cs hb hv => let ⟨e, a', w', q, x⟩ := h b k cs hb hv; ⟨e, a', w', hq _ _ _ q, x⟩

theorem calm0 {m : Machine} : m.fenced P Fence.wide := fenced_wide P m

theorem wpV_seq {x y : Code} (h : wpV V r P x (Exit.then (wpV V r P y Q) Q) a w) : wpV V r P (.seq x y) Q a w := by
  intro b k cs hro hb
  obtain ⟨e, a₁, w₁, hq, harr⟩ := h b (.code y :: k) cs hro hb
  cases e with
  | normal =>
    obtain ⟨e₂, a₂, w₂, hq₂, harr₂⟩ := hq b k cs hro hb
    exact ⟨e₂, a₂, w₂, hq₂, .of_steps (.head calm0 stepR_seq harr) harr₂⟩
  | exit id => exact ⟨_, a₁, w₁, hq, .of_steps (.one calm0 stepR_seq) (.pass (x := .code y) rfl (fun _ _ => .inl (by simp)) harr)⟩
  | goto l => exact ⟨_, a₁, w₁, hq, .of_steps (.one calm0 stepR_seq) (.pass (x := .code y) rfl (fun _ _ => .inl (by simp)) harr)⟩
  | ret => exact ⟨_, a₁, w₁, hq, .of_steps (.one calm0 stepR_seq) (.pass (x := .code y) rfl (fun _ _ => .inl (by simp)) harr)⟩
  | panic ch => exact ⟨_, a₁, w₁, hq, .of_steps (.one calm0 stepR_seq) (.pass (x := .code y) rfl (fun _ _ => .inl (by simp)) harr)⟩
  | outgrown => exact ⟨_, a₁, w₁, hq, .of_steps (.one calm0 stepR_seq) (.pass (x := .code y) rfl (fun _ _ => .inl (by simp)) harr)⟩
/-- A piece that is walked by the fenced walk, then the rest. -/
theorem wpV_then {x y : Code} (h : ∀ K : Act → World → Prop, (∀ a w, wpV V r P y Q a w → K a w) → x.wpIn (fw r) 0 P (Exit.then K Q) a w) : wpV V r P (.seq x y) Q a w :=
  wpV_seq (wpV_of (h _ fun _ _ h => h))
theorem wpV_cond {c : Operand} {x y : Code} {t : Bool} (hc : a.eval c = .bool t) (h : wpV V r P (if t then x else y) Q a w) : wpV V r P (.cond c x y) Q a w :=
  fun b k cs hro hb => let ⟨e, a', w', q, x⟩ := h b k cs hro hb; ⟨e, a', w', q, .of_steps (.one calm0 (stepR_cond hc)) x⟩

/-! ### Rounds -/

/-- What is asked at a round's end; a panic passes. -/
def roundPostP (P : Program) (l : Nat) (R : Ending → World → Prop) : Exit → Act → World → Prop
  | .normal, _, w => ∃ v w', (Instr.endRound l none).run P w = .ok v w' ∧ R (.returned v) w'
  | .ret, _, w => ∃ v w', (Instr.endRound l (some .ret)).run P w = .ok v w' ∧ R (.returned v) w'
  | .exit id, _, w => ∃ v w', (Instr.endRound l (some (.exit id))).run P w = .ok v w' ∧ R (.returned v) w'
  | .goto t, _, w => ∃ v w', (Instr.endRound l (some (.goto t))).run P w = .ok v w' ∧ R (.returned v) w'
  | .panic ch, a, w => a.defers = [] ∧ R (.panicked ch) w
  | .outgrown, _, _ => False

theorem roundIn_V {l : Nat} {f : FuncId} {tmps : Array Value} {assign body : Code} {w : World} {R : Ending → World → Prop} (hV : V f)
    (hval : (∃ ch w, R (.panicked ch) w) → (P.funcs[f]?).isSome = true)
    (h : wpV V (some l) P assign (Exit.then (fun a₁ w₁ => ∃ w₂, (Instr.beginRound l).run P w₁ = .ok () w₂ ∧ wpV V (some l) P body (roundPostP P l R) a₁ w₂) (fun _ _ _ => False)) { tmps := tmps, defers := [] } w) :
    RoundIn Fence.wide 0 P l f tmps assign body w R := by
  refine ⟨trivial, fun c cs _ => ?_⟩
  let b : Frame := { (default : Frame) with fn := f, kind := .normal, roundOf := some l }
  have hb0 : Frame.round l f tmps assign body .normal = b.atR { tmps := tmps, defers := [] } [.code assign, .beginRound, .code body] := by
    simp [Frame.round, Frame.atR, b]
  obtain ⟨e, a₁, w₁, hq, harr⟩ := h b [.beginRound, .code body] (c :: cs) rfl hV
  rw [← hb0] at harr
  cases e with
  | normal =>
    obtain ⟨w₂, hbr, hbody⟩ := hq
    have s1 : StepsIn (Machine.fenced P Fence.wide) P (lone (b.atR a₁ [.beginRound, .code body]) (c :: cs) w₁) (lone (b.atR a₁ [.code body]) (c :: cs) w₂) :=
      .one calm0 (stepR_beginRound rfl hbr)
    obtain ⟨e₂, a₂, w₃, hq₂, harr₂⟩ := hbody b [] (c :: cs) rfl hV
    cases e₂ with
    | normal =>
      obtain ⟨v, w₄, hend, hR⟩ := hq₂
      exact ⟨.returned v, w₄, hR, (StepsIn.trans harr s1).trans (StepsIn.trans harr₂ (.one calm0 (stepR_round_end rfl rfl hend)))⟩
    | ret =>
      obtain ⟨v, w₄, hend, hR⟩ := hq₂
      obtain ⟨k₁, hs⟩ := harr₂.2 rfl
      exact ⟨.returned v, w₄, hR, (StepsIn.trans harr s1).trans (StepsIn.trans hs (.one calm0 (stepR_round_ret rfl rfl hend)))⟩
    | exit id =>
      obtain ⟨v, w₄, hend, hR⟩ := hq₂
      obtain ⟨k₁, hk, hs⟩ := harr₂.2 rfl rfl
      exact ⟨.returned v, w₄, hR, (StepsIn.trans harr s1).trans (StepsIn.trans hs (.one calm0 (stepR_round_exit rfl rfl hk hend)))⟩
    | goto t =>
      obtain ⟨v, w₄, hend, hR⟩ := hq₂
      obtain ⟨k₁, hk, hs⟩ := harr₂.2 rfl rfl
      exact ⟨.returned v, w₄, hR, (StepsIn.trans harr s1).trans (StepsIn.trans hs (.one calm0 (stepR_round_goto rfl rfl hk hend)))⟩
    | panic chain =>
      obtain ⟨hd, hR⟩ := hq₂
      obtain ⟨todo, hs⟩ := harr₂
      obtain ⟨fn, hfn⟩ := Option.isSome_iff_exists.1 (hval ⟨_, _, hR⟩)
      have hl : Frame.leaving P ({ b.atR a₂ todo with mode := .panicking chain } : Frame) w₃ (.panicked chain) := ⟨rfl, hd, fn, hfn⟩
      exact ⟨.panicked chain, w₃, hR, (StepsIn.trans harr s1).trans (StepsIn.trans hs (.one calm0 (step_leave_panicked hl)))⟩
    | outgrown => exact hq₂.elim
  | exit id => exact hq.elim
  | goto t => exact hq.elim
  | ret => exact hq.elim
  | panic chain => exact hq.elim
  | outgrown => exact hq.elim

/-! ### What an iterator may turn between two rounds -/

/-- New blocks; of what lay, only blocks that hold no cells, from B on. -/
structure Gr (B : Nat) (W W' : World) : Prop where
  os : W'.os = W.os
  tape : W'.tape = W.tape
  output : W'.output = W.output
  size : W.heap.size ≤ W'.heap.size
  block : ∀ k, k < W.heap.size → (k < B ∨ ∃ o, W.heap[k]? = some o ∧ o.isCells = true) → W'.heap[k]? = W.heap[k]?

theorem Gr.refl (B : Nat) (W : World) : Gr B W W := ⟨rfl, rfl, rfl, Nat.le_refl _, fun _ _ _ => rfl⟩
theorem Gr.trans {B : Nat} {X Y Z : World} (h : Gr B X Y) (k : Gr B Y Z) : Gr B X Z :=
  ⟨k.os.trans h.os, k.tape.trans h.tape, k.output.trans h.output, Nat.le_trans h.size k.size, fun i hi hc => by
    have h1 := h.block i hi hc
    refine (k.block i (Nat.lt_of_lt_of_le hi h.size) ?_).trans h1
    rcases hc with hc | ⟨o, ho, hcc⟩
    · exact .inl hc
    · exact .inr ⟨o, h1.trans ho, hcc⟩⟩
theorem Gr.mono {B B' : Nat} {X Y : World} (h : Gr B' X Y) (hB : B ≤ B') : Gr B X Y :=
  ⟨h.os, h.tape, h.output, h.size, fun k hk hc => h.block k hk (hc.imp (fun x => Nat.lt_of_lt_of_le x hB) id)⟩
theorem Gr.below {B : Nat} {X Y : World} (h : Below X.heap.size X Y) : Gr B X Y := ⟨h.os, h.tape, h.output, h.size, fun k hk _ => h.block k hk⟩
theorem Gr.alloc (B : Nat) (X : World) (o : Obj) : Gr B X (X.alloc o) := Gr.below ((Below.refl _ X).alloc (Nat.le_refl _) o)
theorem Gr.putObj {B : Nat} {X : World} {l : Nat} {o : Obj} (o' : Obj) (hB : B ≤ l) (h : X.heap[l]? = some o) (hc : o.isCells = false) : Gr B X (X.putObj l o') :=
  ⟨rfl, rfl, rfl, by simp, fun k _ hk => by
    refine World.putObj_heap_other ?_
    rintro rfl
    rcases hk with hk | ⟨o2, ho, hcc⟩
    · omega
    · rw [h] at ho; cases ho; rw [hc] at hcc; cases hcc⟩

/-- What abides such steps. -/
def Stb (B : Nat) (p : World → Prop) : Prop := ∀ W W', Gr B W W' → p W → p W'
theorem Stb.mono {B B' : Nat} {p : World → Prop} (h : Stb B p) (hB : B ≤ B') : Stb B' p := fun W W' g => h W W' (g.mono hB)
theorem Stb.pure {B : Nat} {p : Prop} : Stb B (fun _ => p) := fun _ _ _ h => h
theorem Stb.and {B : Nat} {p q : World → Prop} (hp : Stb B p) (hq : Stb B q) : Stb B (fun W => p W ∧ q W) := fun W W' g h => ⟨hp W W' g h.1, hq W W' g h.2⟩
theorem Stb.or {B : Nat} {p q : World → Prop} (hp : Stb B p) (hq : Stb B q) : Stb B (fun W => p W ∨ q W) := fun W W' g h => h.imp (hp W W' g) (hq W W' g)
theorem Stb.ex {B : Nat} {α : Sort _} {p : α → World → Prop} (hp : ∀ x, Stb B (p x)) : Stb B (fun W => ∃ x, p x W) := fun W W' g ⟨x, h⟩ => ⟨x, hp x W W' g h⟩
theorem Stb.all {B : Nat} {α : Sort _} {p : α → World → Prop} (hp : ∀ x, Stb B (p x)) : Stb B (fun W => ∀ x, p x W) := fun W W' g h x => hp x W W' g (h x)
theorem Stb.cells {B b : Nat} {c : Array Value} {t : TypeId} {fr : Nat × Nat} : Stb B (fun W => W.heap[b]? = some (.cells c t fr)) := fun _ _ g h =>
  (g.block b (Array.getElem?_eq_some_iff.1 h).1 (.inr ⟨_, h, rfl⟩)).trans h
theorem Stb.old {B b : Nat} {o : Obj} (hb : b < B) : Stb B (fun W => W.heap[b]? = some o) := fun _ _ g h =>
  (g.block b (Array.getElem?_eq_some_iff.1 h).1 (.inl hb)).trans h
theorem cell_lt {W : World} {p : Addr} {v : Value} (h : W.cell? p = some v) : p.block < W.heap.size := by
  unfold World.cell? at h
  cases ho : W.heap[p.block]? with
  | none => simp [ho] at h
  | some o => exact (Array.getElem?_eq_some_iff.1 ho).1
theorem cells_of_cell {W : World} {p : Addr} {v : Value} (h : W.cell? p = some v) : p.block < W.heap.size ∧ ∃ o, W.heap[p.block]? = some o ∧ o.isCells = true := by
  have hl := cell_lt h
  refine ⟨hl, ?_⟩
  unfold World.cell? at h
  cases ho : W.heap[p.block]? with
  | none => simp [ho] at h
  | some o => exact ⟨o, rfl, by cases o <;> simp_all [Obj.isCells]⟩
theorem Stb.cell {B : Nat} {p : Addr} {v : Value} : Stb B (fun W => W.cell? p = some v) := fun W W' g h => by
  obtain ⟨hl, hc⟩ := cells_of_cell h
  exact (World.cell?_of_block (w := W) (g.block _ hl (.inr hc))).trans h
theorem Stb.below {B n : Nat} {X : World} (hn : n ≤ B) (hX : n ≤ X.heap.size) : Stb B (fun W => Below n X W) := fun _ _ g h =>
  ⟨g.os.trans h.os, g.tape.trans h.tape, g.output.trans h.output, Nat.le_trans h.size g.size, fun k hk => (g.block k (Nat.lt_of_lt_of_le hk (Nat.le_trans hX h.size)) (.inl (Nat.lt_of_lt_of_le hk hn))).trans (h.block k hk)⟩

/-- What a round keeps: whatever holds no cells, from B on; and cells of the types of TT. -/
structure Kx (B : Nat) (TT : TypeId → Prop) (W W' : World) : Prop where
  size : W.heap.size ≤ W'.heap.size
  same : ∀ (k : Nat) (o : Obj), B ≤ k → W.heap[k]? = some o → o.isCells = false → W'.heap[k]? = some o
  typed : ∀ (k : Nat) c t fr, W.heap[k]? = some (.cells c t fr) → TT t → W'.heap[k]? = some (.cells c t fr)
theorem Kx.refl (B : Nat) (TT : TypeId → Prop) (W : World) : Kx B TT W W := ⟨Nat.le_refl _, fun _ _ _ h _ => h, fun _ _ _ _ h _ => h⟩
theorem Kx.trans {B : Nat} {TT : TypeId → Prop} {X Y Z : World} (h : Kx B TT X Y) (k : Kx B TT Y Z) : Kx B TT X Z :=
  ⟨Nat.le_trans h.size k.size, fun i o hB hi ho => k.same i o hB (h.same i o hB hi ho) ho, fun i c t fr hi ht => k.typed i c t fr (h.typed i c t fr hi ht) ht⟩
theorem Kx.below {B : Nat} {TT : TypeId → Prop} {X Y : World} (h : Below X.heap.size X Y) : Kx B TT X Y :=
  ⟨h.size, fun k _ _ hk _ => (h.block k (Array.getElem?_eq_some_iff.1 hk).1).trans hk, fun k _ _ _ hk _ => (h.block k (Array.getElem?_eq_some_iff.1 hk).1).trans hk⟩
/-- One block of cells, of a type not in TT, is turned. -/
theorem Kx.one {B b : Nat} {TT : TypeId → Prop} {X Y : World} {c : Array Value} {t : TypeId} {fr : Nat × Nat} (hb : X.heap[b]? = some (.cells c t fr)) (ht : ¬ TT t) (hs : X.heap.size ≤ Y.heap.size) (h : ∀ k, k < X.heap.size → k ≠ b → Y.heap[k]? = X.heap[k]?) : Kx B TT X Y :=
  ⟨hs, fun k o _ hk ho => (h k (Array.getElem?_eq_some_iff.1 hk).1 (by rintro rfl; rw [hb] at hk; cases hk; cases ho)).trans hk,
   fun k c' t' fr' hk ht' => (h k (Array.getElem?_eq_some_iff.1 hk).1 (by rintro rfl; rw [hb] at hk; cases hk; exact ht ht')).trans hk⟩
theorem Kx.setCell {B b i : Nat} {TT : TypeId → Prop} {X : World} {c : Array Value} {t : TypeId} {fr : Nat × Nat} {v : Value} (hb : X.heap[b]? = some (.cells c t fr)) (ht : ¬ TT t) : Kx B TT X (X.setCell ⟨b, i, none⟩ v) :=
  Kx.one hb ht (by simp) (fun k _ hne => Below.heap_setCell _ _ _ _ hne)
theorem Kx.putCells {B b : Nat} {TT : TypeId → Prop} {X : World} {c : Array Value} {t : TypeId} {fr : Nat × Nat} {o : Obj} (hb : X.heap[b]? = some (.cells c t fr)) (ht : ¬ TT t) : Kx B TT X (X.putObj b o) :=
  Kx.one hb ht (by simp) (fun k _ hne => World.putObj_heap_other hne)
/-- A block below B that holds no cells (a map) is turned. -/
theorem Kx.putMap {B b : Nat} {TT : TypeId → Prop} {X : World} {o o' : Obj} (hb : X.heap[b]? = some o) (ho : o.isCells = false) (hB : b < B) : Kx B TT X (X.putObj b o') :=
  ⟨by simp, fun k _ hk h _ => (World.putObj_heap_other (by omega)).trans h, fun k c t fr h _ => (World.putObj_heap_other (by rintro rfl; rw [hb] at h; cases h; cases ho)).trans h⟩
theorem Kx.alloc (B : Nat) (TT : TypeId → Prop) (X : World) (o : Obj) : Kx B TT X (X.alloc o) := Kx.below ((Below.refl _ X).alloc (Nat.le_refl _) o)

/-- What an iterator promises, whatever the rounds do: it hands over ys, one after the other. -/
def Iter (P : Program) (TT : TypeId → Prop) (g : Nat) (lb : Array Value) (ys : List (Array Value)) (Ke : World → Prop) : Prop :=
  ∀ (l : Nat) (W : World) (J : Nat → World → Prop) (Jx : World → Prop) (Jp : List PanicEntry → World → Prop),
    (∀ k W1, J k W1 → Ke W1) → (∀ k, Stb W.heap.size (J k)) → Stb W.heap.size Jx → (∀ ch, Stb W.heap.size (Jp ch)) →
    (∀ k (hk : k < ys.length) W1, W.heap.size ≤ W1.heap.size → J k W1 → YieldAt Fence.wide 0 P l ys[k] W1 fun e W' =>
      (e = .returned (.bool true) ∧ J (k + 1) W' ∧ Kx W.heap.size TT W1 W') ∨ (e = .returned (.bool false) ∧ Jx W' ∧ Kx W.heap.size TT W1 W') ∨ ∃ ch, e = .panicked ch ∧ Jp ch W' ∧ Kx W.heap.size TT W1 W') →
    J 0 W →
    Calls P g (#[.func (.yield l) #[] #[]] ++ lb) W fun e W' => ((∃ v, e = .returned v) ∧ (J ys.length W' ∨ Jx W')) ∨ ∃ ch, e = .panicked ch ∧ Jp ch W'

/-- How a round's body may be left. -/
def bodyP (B : Nat) (TT : TypeId → Prop) (In : World → Prop) (Ix : Code → World → Prop) (Ip : List PanicEntry → World → Prop) (W : World) : Exit → Act → World → Prop
  | .normal, _, W' => Kx B TT W W' ∧ In W'
  | .ret, _, W' => Kx B TT W W' ∧ Ix .ret W'
  | .exit id, _, W' => Kx B TT W W' ∧ Ix (.exit id) W'
  | .goto t, _, W' => Kx B TT W W' ∧ Ix (.goto t) W'
  | .panic ch, a, W' => a.defers = [] ∧ Kx B TT W W' ∧ Ip ch W'
  | .outgrown, _, _ => False

/-- One round, the record's book-keeping aside. -/
theorem yield_of {TT : TypeId → Prop} {V : FuncId → Prop} {l B fn : Nat} {rec : LoopState → Option Code → Loop} {tm : Array Value} {ps : Array Tmp} {assign body : Code} {D : Nat} (hrec : rec = fun st pe => { state := st, pending := pe, fn := fn, tmps := tm, params := ps, assign, body, defers := D })
    (hV : V fn) {y : Array Value} (hy : y.size = ps.size) {I In : World → Prop} {Ix : Code → World → Prop} {Ip : List PanicEntry → World → Prop} {A : Act → World → Prop}
    (hval : (∃ ch W, Ip ch W) → (P.funcs[fn]?).isSome = true) (hBl : B ≤ l)
    (sA : ∀ a', Stb B (A a')) (sIn : Stb B In) (sIx : ∀ c, Stb B (Ix c))
    (hassign : ∀ W, I W → wpV V (some l) P assign (Exit.then (fun a' W' => Kx B TT W W' ∧ A a' W') (fun _ _ _ => False)) { tmps := (ps.zip y).foldl (fun t (p, v) => t.setIfInBounds p v) tm, defers := [] } W)
    (hbody : ∀ a' W, A a' W → (∃ r, W.heap[l]? = some (.loop r)) → wpV V (some l) P body (bodyP B TT In Ix Ip W) a' W)
    {W : World} (hl : W.heap[l]? = some (.loop (rec .ready none))) (hi : I W) :
    YieldAt Fence.wide 0 P l y W fun e W' =>
      (e = .returned (.bool true) ∧ (In W' ∧ W'.heap[l]? = some (.loop (rec .ready none)) ∧ (∀ k, B ≤ k → k ≠ l → ∀ o, W.heap[k]? = some o → o.isCells = false → W'.heap[k]? = some o)) ∧ (W.heap.size ≤ W'.heap.size ∧ ∀ (k : Nat) c t fr, W.heap[k]? = some (.cells c t fr) → TT t → W'.heap[k]? = some (.cells c t fr))) ∨
      (e = .returned (.bool false) ∧ (∃ c, Ix c W' ∧ W'.heap[l]? = some (.loop (rec .done (some c))) ∧ (∀ k, B ≤ k → k ≠ l → ∀ o, W.heap[k]? = some o → o.isCells = false → W'.heap[k]? = some o)) ∧ (W.heap.size ≤ W'.heap.size ∧ ∀ (k : Nat) c t fr, W.heap[k]? = some (.cells c t fr) → TT t → W'.heap[k]? = some (.cells c t fr))) ∨
      ∃ ch, e = .panicked ch ∧ (Ip ch W' ∧ (∀ k, B ≤ k → k ≠ l → ∀ o, W.heap[k]? = some o → o.isCells = false → W'.heap[k]? = some o)) ∧ (W.heap.size ≤ W'.heap.size ∧ ∀ (k : Nat) c t fr, W.heap[k]? = some (.cells c t fr) → TT t → W'.heap[k]? = some (.cells c t fr)) := by
  have hy' := run_yield (P := P) (args := y) hl (by rw [hrec]; exact hy)
  rw [hrec] at hy'
  refine ⟨fn, _, assign, body, hy', ?_⟩
  refine roundIn_V hV (fun ⟨ch, W', h⟩ => hval ?_) (wpV_mono (hassign W hi) ?_)
  · rcases h with ⟨h, _⟩ | ⟨h, _⟩ | ⟨ch', h, h2, _⟩
    · cases h
    · cases h
    · exact ⟨_, _, h2.1⟩
  intro e a' W1 hq
  cases e with
  | normal =>
    obtain ⟨hk1, hA⟩ := hq
    have hl1 := hk1.same l _ hBl hl rfl
    have hsz1 := hk1.size
    have hlt := (Array.getElem?_eq_some_iff.1 hl1).1
    refine ⟨_, run_beginRound hl1 (by rw [hrec]), ?_⟩
    obtain ⟨W2, hW2⟩ : ∃ W2, W2 = W1.putObj l (.loop { rec .ready none with state := .busy }) := ⟨_, rfl⟩
    rw [← hW2]
    have hl2 : W2.heap[l]? = some (.loop { rec .ready none with state := .busy }) := by rw [hW2]; exact World.putObj_heap_same hlt
    have hA2 : A a' W2 := sA a' _ _ (by rw [hW2]; exact Gr.putObj _ hBl hl1 rfl) hA
    have ho2 : ∀ k, B ≤ k → k ≠ l → ∀ o, W.heap[k]? = some o → o.isCells = false → W2.heap[k]? = some o := fun k hk hne o ho hc => by
      rw [hW2, World.putObj_heap_other hne]; exact hk1.same k o hk ho hc
    have hsz2 : W.heap.size ≤ W2.heap.size ∧ ∀ (k : Nat) c t fr, W.heap[k]? = some (.cells c t fr) → TT t → W2.heap[k]? = some (.cells c t fr) := by
      rw [hW2]
      refine ⟨by simpa using hsz1, fun k c t fr hk ht => ?_⟩
      have h2 := hk1.typed k c t fr hk ht
      refine (World.putObj_heap_other ?_).trans h2
      rintro rfl; rw [hl1] at h2; cases h2
    refine wpV_mono (hbody a' W2 hA2 ⟨_, hl2⟩) ?_
    have fin : ∀ (jump : Option Code) (W3 : World), Kx B TT W2 W3 → ∃ W4, (Instr.endRound l jump).run P W3 = .ok (.bool jump.isNone) W4 ∧ Gr B W3 W4 ∧
        W4.heap[l]? = some (.loop (rec (if jump.isNone then .ready else .done) jump)) ∧ (∀ k, B ≤ k → k ≠ l → ∀ o, W.heap[k]? = some o → o.isCells = false → W4.heap[k]? = some o) ∧ (W.heap.size ≤ W4.heap.size ∧ ∀ (k : Nat) c t fr, W.heap[k]? = some (.cells c t fr) → TT t → W4.heap[k]? = some (.cells c t fr)) := by
      intro jump W3 hk3
      have hl3 := hk3.same l _ hBl hl2 rfl
      have hE := run_endRound (P := P) jump hl3
      refine ⟨_, hE, Gr.putObj _ hBl hl3 rfl, ?_, ?_, ?_⟩
      · rw [World.putObj_heap_same (Array.getElem?_eq_some_iff.1 hl3).1, hrec]
      · intro k hk hne o ho hc
        rw [World.putObj_heap_other hne]
        exact hk3.same k o hk (ho2 k hk hne o ho hc) hc
      · refine ⟨by simpa using Nat.le_trans hsz2.1 hk3.size, fun k c t fr hk ht => ?_⟩
        have h2 := hk3.typed k c t fr (hsz2.2 k c t fr hk ht) ht
        refine (World.putObj_heap_other ?_).trans h2
        rintro rfl; rw [hl3] at h2; cases h2
    intro e2 a2 W3 hp
    cases e2 with
    | normal =>
      obtain ⟨hk3, hi3⟩ := hp
      obtain ⟨W4, h1, h2, h3, h4, h5⟩ := fin none W3 hk3
      exact ⟨_, _, h1, .inl ⟨rfl, ⟨sIn _ _ h2 hi3, h3, h4⟩, h5⟩⟩
    | ret =>
      obtain ⟨hk3, hi3⟩ := hp
      obtain ⟨W4, h1, h2, h3, h4, h5⟩ := fin (some .ret) W3 hk3
      exact ⟨_, _, h1, .inr (.inl ⟨rfl, ⟨.ret, sIx _ _ _ h2 hi3, h3, h4⟩, h5⟩)⟩
    | exit id =>
      obtain ⟨hk3, hi3⟩ := hp
      obtain ⟨W4, h1, h2, h3, h4, h5⟩ := fin (some (.exit id)) W3 hk3
      exact ⟨_, _, h1, .inr (.inl ⟨rfl, ⟨.exit id, sIx _ _ _ h2 hi3, h3, h4⟩, h5⟩)⟩
    | goto t =>
      obtain ⟨hk3, hi3⟩ := hp
      obtain ⟨W4, h1, h2, h3, h4, h5⟩ := fin (some (.goto t)) W3 hk3
      exact ⟨_, _, h1, .inr (.inl ⟨rfl, ⟨.goto t, sIx _ _ _ h2 hi3, h3, h4⟩, h5⟩)⟩
    | panic ch =>
      obtain ⟨hd, hk3, hi3⟩ := hp
      exact ⟨hd, .inr (.inr ⟨ch, rfl, ⟨hi3, fun k hk hne o ho hc => hk3.same k o hk (ho2 k hk hne o ho hc) hc⟩, ⟨Nat.le_trans hsz2.1 hk3.size, fun k c t fr hk ht => hk3.typed k c t fr (hsz2.2 k c t fr hk ht) ht⟩⟩)⟩
    | outgrown => exact hp.elim
  | ret => exact hq.elim
  | exit id => exact hq.elim
  | goto t => exact hq.elim
  | panic ch => exact hq.elim
  | outgrown => exact hq.elim

/-- The statement in a function's own frame: the record and the block for deferred calls are laid, the iterator called, the pending jump carried out. -/
theorem wpV_range {V : FuncId → Prop} {g : Operand} {ps : Array Tmp} {assign body : Code} {Q : Exit → Act → World → Prop} {a : Act} {w : World}
    {gf : Nat} {lb : Array Value} (hg : a.eval g = .func (.func gf) #[] lb) (eg : ∀ args w, (callFunc gf args).run P w = .ok (.enter gf args) w)
    {ys : List (Array Value)} {Ke : World → Prop} {TT : TypeId → Prop} (hit : Iter P TT gf lb ys Ke) (hps : ∀ y ∈ ys, y.size = ps.size)
    (I : Nat → World → Prop) (Ix : Code → World → Prop) (Ip : List PanicEntry → World → Prop) (A : Nat → Nat → Act → World → Prop)
    (hval : (∃ ch W, Ip ch W) → ∀ fn, V fn → (P.funcs[fn]?).isSome = true)
    (hK : ∀ k W, I k W → Ke W) (sI : ∀ k, Stb w.heap.size (I k)) (sIx : ∀ c, Stb w.heap.size (Ix c)) (sIp : ∀ ch, Stb w.heap.size (Ip ch)) (sA : ∀ k l a', Stb w.heap.size (A k l a'))
    (h0 : I 0 w)
    (hassign : ∀ k (hk : k < ys.length) (l : Nat) W, I k W → wpV V (some l) P assign (Exit.then (fun a' W' => Kx w.heap.size TT W W' ∧ A k l a' W') (fun _ _ _ => False)) { tmps := (ps.zip ys[k]).foldl (fun t (p, v) => t.setIfInBounds p v) a.tmps, defers := [] } W)
    (hbody : ∀ k, k < ys.length → ∀ (l : Nat) a' W, w.heap.size ≤ l → (∃ r, W.heap[l]? = some (.loop r)) → A k l a' W → wpV V (some l) P body (bodyP w.heap.size TT (I (k + 1)) Ix Ip W) a' W)
    (hdone : ∀ W, I ys.length W → W.heap[w.heap.size]? = some (.deferred (some [])) → Q .normal { a with defers := { target := .collected w.heap.size, args := #[] } :: a.defers } W)
    (hstop : ∀ c W, Ix c W → W.heap[w.heap.size]? = some (.deferred (some [])) → wpV V none P c Q { a with defers := { target := .collected w.heap.size, args := #[] } :: a.defers } W)
    (hpanic : ∀ ch W, Ip ch W → W.heap[w.heap.size]? = some (.deferred (some [])) → Q (.panic ch) { a with defers := { target := .collected w.heap.size, args := #[] } :: a.defers } W) :
    wpV V none P (.rangeFunc g ps assign body) Q a w := by
  intro b k cs hro hbV
  obtain ⟨rec, hrec⟩ : ∃ rec : LoopState → Option Code → Loop, rec = fun st pe => { state := st, pending := pe, fn := b.fn, tmps := a.tmps, params := ps, assign, body, defers := w.heap.size } := ⟨_, rfl⟩
  obtain ⟨W1, hW1⟩ : ∃ W1, (w.alloc (.deferred (some []))).alloc (.loop (rec .ready none)) = W1 := ⟨_, rfl⟩
  have hL1 : W1.heap[w.heap.size + 1]? = some (.loop (rec .ready none)) := by
    rw [← hW1]; have := World.alloc_heap_new (w.alloc (.deferred (some []))) (.loop (rec .ready none)); rwa [World.size_alloc] at this
  have hD1 : W1.heap[w.heap.size]? = some (.deferred (some [])) := by
    rw [← hW1]; exact (Below.heap_alloc _ _ _ (by simp)).trans (World.alloc_heap_new w _)
  have hsz1 : W1.heap.size = w.heap.size + 2 := by rw [← hW1]; simp
  have hg1 : Gr w.heap.size w W1 := by rw [← hW1]; exact (Gr.alloc _ _ _).trans (Gr.alloc _ _ _)
  have hvalb : (∃ ch W, Ip ch W) → (P.funcs[b.fn]?).isSome = true := fun h => hval h _ hbV
  have hcall := hit (w.heap.size + 1) W1 (fun k W => I k W ∧ W.heap[w.heap.size + 1]? = some (.loop (rec .ready none)) ∧ W.heap[w.heap.size]? = some (.deferred (some [])))
    (fun W => (∃ c, Ix c W ∧ W.heap[w.heap.size + 1]? = some (.loop (rec .done (some c)))) ∧ W.heap[w.heap.size]? = some (.deferred (some [])))
    (fun ch W => Ip ch W ∧ W.heap[w.heap.size]? = some (.deferred (some [])))
    (fun k W h => hK k W h.1)
    (fun k => ((sI k).mono (by omega)).and ((Stb.old (by omega)).and (Stb.old (by omega))))
    ((Stb.ex fun c => ((sIx c).mono (by omega)).and (Stb.old (by omega))).and (Stb.old (by omega)))
    (fun ch => ((sIp ch).mono (by omega)).and (Stb.old (by omega)))
    (fun k hk W2 _ h2 => by
      obtain ⟨hi, hl, hD⟩ := h2
      have hy := yield_of (P := P) (V := V) (B := w.heap.size) (l := w.heap.size + 1) (fn := b.fn) hrec hbV (hps _ (List.getElem_mem hk)) hvalb (by omega) (fun a' => sA k _ a') (sI (k + 1)) sIx
        (fun W hI => hassign k hk _ W hI) (fun a' W hA hr => hbody k hk _ a' W (by omega) hr hA) hl hi
      refine hy.mono ?_
      rintro e W' (⟨rfl, ⟨h1, h2, h3⟩, h4⟩ | ⟨rfl, ⟨c, h1, h2, h3⟩, h4⟩ | ⟨ch, rfl, ⟨h1, h3⟩, h4⟩)
      · exact .inl ⟨rfl, ⟨h1, h2, h3 _ (Nat.le_refl _) (by omega) _ hD rfl⟩, ⟨h4.1, fun k o hk ho hc => h3 k (by omega) (by omega) o ho hc, h4.2⟩⟩
      · exact .inr (.inl ⟨rfl, ⟨⟨c, h1, h2⟩, h3 _ (Nat.le_refl _) (by omega) _ hD rfl⟩, ⟨h4.1, fun k o hk ho hc => h3 k (by omega) (by omega) o ho hc, h4.2⟩⟩)
      · exact .inr (.inr ⟨ch, rfl, ⟨h1, h3 _ (Nat.le_refl _) (by omega) _ hD rfl⟩, ⟨h4.1, fun k o hk ho hc => h3 k (by omega) (by omega) o ho hc, h4.2⟩⟩))
    ⟨sI 0 _ _ hg1 h0, hL1, hD1⟩
  have hres : (resolve a.eval (rangeCall g (w.heap.size + 1)) 0).run P W1 = .ok { target := .fn (.func gf) lb, args := #[.func (.yield (w.heap.size + 1)) #[] #[]] } W1 := by
    simp only [resolve, hg]
    simp [go_sem]
  have hinv : (invoke (Target.fn (.func gf) lb) #[.func (.yield (w.heap.size + 1)) #[] #[]]).run P W1 = .ok (.enter gf (#[.func (.yield (w.heap.size + 1)) #[] #[]] ++ lb)) W1 := by
    simp [invoke, go_sem, eg]
  have he : (Instr.enterLoop b.fn a.tmps ps assign body b.roundOf).run P w = .ok (w.heap.size + 1, [{ target := .collected w.heap.size, args := #[] }]) W1 := by
    rw [hro, ← hW1, hrec]; exact run_enterLoop_outer _ _ _ _ _
  have henter := stepR_rangeFunc (P := P) (b := b) (a := a) (k := k) (cs := cs) (w := w) he hres hinv
  obtain ⟨e, w₃, fr, hR, hsteps, hfn, hleave⟩ := hcall (b.atR { a with defers := [{ target := .collected w.heap.size, args := #[] }] ++ a.defers } (.inRangeFunc (w.heap.size + 1) :: k) :: cs)
  rcases hR with ⟨⟨v, rfl⟩, hR⟩ | ⟨ch, rfl, hip, hD⟩
  · have sback : ∀ jump w₄, (Instr.endLoop (w.heap.size + 1)).run P w₃ = .ok jump w₄ →
        StepsIn (Machine.fenced P Fence.wide) P (lone (b.atR a (.code (.rangeFunc g ps assign body) :: k)) cs w) (lone (b.atR { a with defers := { target := .collected w.heap.size, args := #[] } :: a.defers } ((jump.map Item.code).toList ++ k)) cs w₄) := by
      intro jump w₄ hend
      refine .head calm0 henter (StepsIn.trans (stepsIn_wide.2 hsteps) (.head calm0 ?_ (.one calm0 (stepR_endRangeFunc hend))))
      rw [← finish_atR_inRangeFunc (w.heap.size + 1) v]; exact step_leave_returned hleave
    rcases hR with ⟨hi, hl, hD⟩ | ⟨⟨c, hi, hl⟩, hD⟩
    · obtain ⟨W4, hW4⟩ : ∃ W4, W4 = w₃.putObj (w.heap.size + 1) (.loop { rec .ready none with state := .exhausted }) := ⟨_, rfl⟩
      have hend : (Instr.endLoop (w.heap.size + 1)).run P w₃ = .ok none W4 := by
        have := run_endLoop (P := P) hl (by rw [hrec]; simp); rw [hW4]; rw [hrec] at this ⊢; exact this
      have hg4 : Gr w.heap.size w₃ W4 := by rw [hW4]; exact Gr.putObj _ (by omega) hl rfl
      have hD4 : W4.heap[w.heap.size]? = some (.deferred (some [])) := by rw [hW4]; exact (World.putObj_heap_other (by omega)).trans hD
      exact ⟨.normal, _, W4, hdone _ (sI _ _ _ hg4 hi) hD4, sback _ _ hend⟩
    · obtain ⟨W4, hW4⟩ : ∃ W4, W4 = w₃.putObj (w.heap.size + 1) (.loop { rec .done (some c) with state := .exhausted }) := ⟨_, rfl⟩
      have hend : (Instr.endLoop (w.heap.size + 1)).run P w₃ = .ok (some c) W4 := by
        have := run_endLoop (P := P) hl (by rw [hrec]; simp); rw [hW4]; rw [hrec] at this ⊢; exact this
      have hg4 : Gr w.heap.size w₃ W4 := by rw [hW4]; exact Gr.putObj _ (by omega) hl rfl
      have hD4 : W4.heap[w.heap.size]? = some (.deferred (some [])) := by rw [hW4]; exact (World.putObj_heap_other (by omega)).trans hD
      obtain ⟨e', a'', w₅, hq, harr⟩ := hstop c _ (sIx c _ _ hg4 hi) hD4 b k cs hro hbV
      exact ⟨e', a'', w₅, hq, .of_steps (sback _ _ hend) harr⟩
  · refine ⟨.panic ch, _, w₃, hpanic ch _ hip hD, .inRangeFunc (w.heap.size + 1) :: k, .head calm0 henter (StepsIn.trans (stepsIn_wide.2 hsteps) (.one calm0 ?_))⟩
    have := step_leave_panicked (c := b.atR { a with defers := [{ target := .collected w.heap.size, args := #[] }] ++ a.defers } (.inRangeFunc (w.heap.size + 1) :: k)) (cs := cs) hleave
    rw [this, Frame.raise_atR]; rfl

/-- The statement within a round of another such loop. -/
theorem wpV_rangeN {V : FuncId → Prop} {g : Operand} {ps : Array Tmp} {assign body : Code} {Q : Exit → Act → World → Prop} {a : Act} {w : World} {l₀ : Nat} {r₀ : Loop}
    (hr₀ : w.heap[l₀]? = some (.loop r₀))
    {gf : Nat} {lb : Array Value} (hg : a.eval g = .func (.func gf) #[] lb) (eg : ∀ args w, (callFunc gf args).run P w = .ok (.enter gf args) w)
    {ys : List (Array Value)} {Ke : World → Prop} {TT : TypeId → Prop} (hit : Iter P TT gf lb ys Ke) (hps : ∀ y ∈ ys, y.size = ps.size)
    (I : Nat → World → Prop) (Ix : Code → World → Prop) (Ip : List PanicEntry → World → Prop) (A : Nat → Nat → Act → World → Prop)
    (hval : (∃ ch W, Ip ch W) → ∀ fn, V fn → (P.funcs[fn]?).isSome = true)
    (hK : ∀ k W, I k W → Ke W) (sI : ∀ k, Stb w.heap.size (I k)) (sIx : ∀ c, Stb w.heap.size (Ix c)) (sIp : ∀ ch, Stb w.heap.size (Ip ch)) (sA : ∀ k l a', Stb w.heap.size (A k l a'))
    (h0 : I 0 w)
    (hassign : ∀ k (hk : k < ys.length) (l : Nat) W, I k W → wpV V (some l) P assign (Exit.then (fun a' W' => Kx w.heap.size TT W W' ∧ A k l a' W') (fun _ _ _ => False)) { tmps := (ps.zip ys[k]).foldl (fun t (p, v) => t.setIfInBounds p v) a.tmps, defers := [] } W)
    (hbody : ∀ k, k < ys.length → ∀ (l : Nat) a' W, w.heap.size ≤ l → (∃ r, W.heap[l]? = some (.loop r)) → A k l a' W → wpV V (some l) P body (bodyP w.heap.size TT (I (k + 1)) Ix Ip W) a' W)
    (hdone : ∀ W, I ys.length W → Q .normal a W)
    (hstop : ∀ c W, Ix c W → wpV V (some l₀) P c Q a W)
    (hpanic : ∀ ch W, Ip ch W → Q (.panic ch) a W) :
    wpV V (some l₀) P (.rangeFunc g ps assign body) Q a w := by
  intro b k cs hro hbV
  obtain ⟨rec, hrec⟩ : ∃ rec : LoopState → Option Code → Loop, rec = fun st pe => { state := st, pending := pe, fn := b.fn, tmps := a.tmps, params := ps, assign, body, defers := r₀.defers } := ⟨_, rfl⟩
  obtain ⟨W1, hW1⟩ : ∃ W1, w.alloc (.loop (rec .ready none)) = W1 := ⟨_, rfl⟩
  have hL1 : W1.heap[w.heap.size]? = some (.loop (rec .ready none)) := by rw [← hW1]; exact World.alloc_heap_new w _
  have hsz1 : W1.heap.size = w.heap.size + 1 := by rw [← hW1]; simp
  have hg1 : Gr w.heap.size w W1 := by rw [← hW1]; exact Gr.alloc _ _ _
  have hvalb : (∃ ch W, Ip ch W) → (P.funcs[b.fn]?).isSome = true := fun h => hval h _ hbV
  have hcall := hit w.heap.size W1 (fun k W => I k W ∧ W.heap[w.heap.size]? = some (.loop (rec .ready none)))
    (fun W => ∃ c, Ix c W ∧ W.heap[w.heap.size]? = some (.loop (rec .done (some c))))
    (fun ch W => Ip ch W)
    (fun k W h => hK k W h.1)
    (fun k => ((sI k).mono (by omega)).and (Stb.old (by omega)))
    (Stb.ex fun c => ((sIx c).mono (by omega)).and (Stb.old (by omega)))
    (fun ch => (sIp ch).mono (by omega))
    (fun k hk W2 _ h2 => by
      obtain ⟨hi, hl⟩ := h2
      have hy := yield_of (P := P) (V := V) (B := w.heap.size) (l := w.heap.size) (fn := b.fn) hrec hbV (hps _ (List.getElem_mem hk)) hvalb (by omega) (fun a' => sA k _ a') (sI (k + 1)) sIx
        (fun W hI => hassign k hk _ W hI) (fun a' W hA hr => hbody k hk _ a' W (by omega) hr hA) hl hi
      refine hy.mono ?_
      rintro e W' (⟨rfl, ⟨h1, h2, h3⟩, h4⟩ | ⟨rfl, ⟨c, h1, h2, h3⟩, h4⟩ | ⟨ch, rfl, ⟨h1, h3⟩, h4⟩)
      · exact .inl ⟨rfl, ⟨h1, h2⟩, ⟨h4.1, fun k o hk ho hc => h3 k (by omega) (by omega) o ho hc, h4.2⟩⟩
      · exact .inr (.inl ⟨rfl, ⟨c, h1, h2⟩, ⟨h4.1, fun k o hk ho hc => h3 k (by omega) (by omega) o ho hc, h4.2⟩⟩)
      · exact .inr (.inr ⟨ch, rfl, h1, ⟨h4.1, fun k o hk ho hc => h3 k (by omega) (by omega) o ho hc, h4.2⟩⟩))
    ⟨sI 0 _ _ hg1 h0, hL1⟩
  have hres : (resolve a.eval (rangeCall g w.heap.size) 0).run P W1 = .ok { target := .fn (.func gf) lb, args := #[.func (.yield w.heap.size) #[] #[]] } W1 := by
    simp only [resolve, hg]
    simp [go_sem]
  have hinv : (invoke (Target.fn (.func gf) lb) #[.func (.yield w.heap.size) #[] #[]]).run P W1 = .ok (.enter gf (#[.func (.yield w.heap.size) #[] #[]] ++ lb)) W1 := by
    simp [invoke, go_sem, eg]
  have he : (Instr.enterLoop b.fn a.tmps ps assign body b.roundOf).run P w = .ok (w.heap.size, []) W1 := by
    rw [hro, ← hW1, hrec]; exact run_enterLoop_inner hr₀ _ _ _ _ _
  have henter := stepR_rangeFunc (P := P) (b := b) (a := a) (k := k) (cs := cs) (w := w) he hres hinv
  obtain ⟨e, w₃, fr, hR, hsteps, hfn, hleave⟩ := hcall (b.atR { a with defers := [] ++ a.defers } (.inRangeFunc w.heap.size :: k) :: cs)
  rcases hR with ⟨⟨v, rfl⟩, hR⟩ | ⟨ch, rfl, hip⟩
  · have sback : ∀ jump w₄, (Instr.endLoop w.heap.size).run P w₃ = .ok jump w₄ →
        StepsIn (Machine.fenced P Fence.wide) P (lone (b.atR a (.code (.rangeFunc g ps assign body) :: k)) cs w) (lone (b.atR a ((jump.map Item.code).toList ++ k)) cs w₄) := by
      intro jump w₄ hend
      refine .head calm0 henter (StepsIn.trans (stepsIn_wide.2 hsteps) (.head calm0 ?_ (.one calm0 (stepR_endRangeFunc hend))))
      have := step_leave_returned (c := b.atR { a with defers := [] ++ a.defers } (.inRangeFunc w.heap.size :: k)) (cs := cs) hleave
      rw [this, finish_atR_inRangeFunc]; rfl
    rcases hR with ⟨hi, hl⟩ | ⟨c, hi, hl⟩
    · obtain ⟨W4, hW4⟩ : ∃ W4, W4 = w₃.putObj w.heap.size (.loop { rec .ready none with state := .exhausted }) := ⟨_, rfl⟩
      have hend : (Instr.endLoop w.heap.size).run P w₃ = .ok none W4 := by
        have := run_endLoop (P := P) hl (by rw [hrec]; simp); rw [hW4]; rw [hrec] at this ⊢; exact this
      have hg4 : Gr w.heap.size w₃ W4 := by rw [hW4]; exact Gr.putObj _ (by omega) hl rfl
      exact ⟨.normal, _, W4, hdone _ (sI _ _ _ hg4 hi), sback _ _ hend⟩
    · obtain ⟨W4, hW4⟩ : ∃ W4, W4 = w₃.putObj w.heap.size (.loop { rec .done (some c) with state := .exhausted }) := ⟨_, rfl⟩
      have hend : (Instr.endLoop w.heap.size).run P w₃ = .ok (some c) W4 := by
        have := run_endLoop (P := P) hl (by rw [hrec]; simp); rw [hW4]; rw [hrec] at this ⊢; exact this
      have hg4 : Gr w.heap.size w₃ W4 := by rw [hW4]; exact Gr.putObj _ (by omega) hl rfl
      obtain ⟨e', a'', w₅, hq, harr⟩ := hstop c _ (sIx c _ _ hg4 hi) b k cs hro hbV
      exact ⟨e', a'', w₅, hq, .of_steps (sback _ _ hend) harr⟩
  · refine ⟨.panic ch, _, w₃, hpanic ch _ hip, .inRangeFunc w.heap.size :: k, .head calm0 henter (StepsIn.trans (stepsIn_wide.2 hsteps) (.one calm0 ?_))⟩
    have := step_leave_panicked (c := b.atR { a with defers := [] ++ a.defers } (.inRangeFunc w.heap.size :: k)) (cs := cs) hleave
    rw [this, Frame.raise_atR]; rfl

/-! ### A function that holds such a statement -/

theorem calls_of_wpV {V : FuncId → Prop} {f : FuncId} {fn : Func} {c : Code} {args : Array Value} {w : World} {R : Ending → World → Prop}
    (hf : P.funcs[f]? = some fn) (hb : fn.body = some c) (hV : V f)
    (h : wpV V none P c (bodyPostM (fw none) 0 P fn R) { tmps := args ++ Array.replicate (fn.ntmps - args.size) undef, defers := [] } w) : Calls P f args w R := by
  refine (callsFw (r := none) (n := 0)).1 ⟨trivial, fun cs hr => ?_⟩
  let b : Frame := { (default : Frame) with fn := f, kind := .normal, roundOf := none }
  have henter : Frame.enter P f args .normal =
      b.atR { tmps := args ++ Array.replicate (fn.ntmps - args.size) undef, defers := [] } [.code c] := by
    simp [Frame.enter, Frame.atR, hf, hb, b]
  obtain ⟨e, a', w', hq, harr⟩ := h b [] cs rfl hV
  rw [← henter] at harr
  cases e with
  | normal =>
    obtain ⟨e', w'', fr', hR, hs, hfn, hl⟩ := leaves_stepsInM (F := fw none) (n := 0) a'.defers .returning w' { b.atR a' [] with mode := .returning } cs rfl rfl rfl hf rfl trivial hr hq
    exact ⟨e', w'', fr', hR, ComesIn.of_steps (StepsIn.trans harr (.one calm0 (stepR_end rfl))) hs, hfn, hl⟩
  | ret =>
    obtain ⟨todo, hs₀⟩ := harr.1 rfl
    obtain ⟨e', w'', fr', hR, hs, hfn, hl⟩ := leaves_stepsInM (F := fw none) (n := 0) a'.defers .returning w' { b.atR a' todo with mode := .returning } cs rfl rfl rfl hf rfl trivial hr hq
    exact ⟨e', w'', fr', hR, ComesIn.of_steps hs₀ hs, hfn, hl⟩
  | panic chain =>
    obtain ⟨todo, hs₀⟩ := harr
    obtain ⟨e', w'', fr', hR, hs, hfn, hl⟩ := leaves_stepsInM (F := fw none) (n := 0) a'.defers (.panicking chain) w' { b.atR a' todo with mode := .panicking chain } cs rfl rfl rfl hf rfl trivial hr hq
    exact ⟨e', w'', fr', hR, ComesIn.of_steps hs₀ hs, hfn, hl⟩
  | exit id => exact hq.elim
  | goto l => exact hq.elim
  | outgrown => exact ⟨.outgrown, w', b, hq, harr.resolve_left (by simp [b]), rfl, trivial⟩

theorem leave_mark {fn : Func} {R : Ending → World → Prop} {a : Act} {w : World} {v : Value} {D : Nat} (hd : a.defers = [{ target := .collected D, args := #[] }])
    (hD : w.heap[D]? = some (.deferred (some []))) (hr : (results fn a.tmps).run P (w.putObj D (.deferred none)) = .ok v (w.putObj D (.deferred none))) (hR : R (.returned v) (w.putObj D (.deferred none))) :
    bodyPostM (fw none) 0 P fn R .ret a w := by
  show LeavesInM (fw none) 0 P fn a.tmps R a.defers .returning w
  rw [hd]
  exact ⟨by simp, .inl ⟨D, _, rfl, run_takeDeferred hD, v, hr, hR⟩⟩
theorem leave_mark_end {fn : Func} {R : Ending → World → Prop} {a : Act} {w : World} {v : Value} {D : Nat} (hd : a.defers = [{ target := .collected D, args := #[] }])
    (hD : w.heap[D]? = some (.deferred (some []))) (hr : (results fn a.tmps).run P (w.putObj D (.deferred none)) = .ok v (w.putObj D (.deferred none))) (hR : R (.returned v) (w.putObj D (.deferred none))) :
    bodyPostM (fw none) 0 P fn R .normal a w := leave_mark hd hD hr hR
theorem leave_mark_panic {fn : Func} {R : Ending → World → Prop} {a : Act} {w : World} {D : Nat} {ch : List PanicEntry} (hd : a.defers = [{ target := .collected D, args := #[] }])
    (hD : w.heap[D]? = some (.deferred (some []))) (hR : R (.panicked ch) (w.putObj D (.deferred none))) :
    bodyPostM (fw none) 0 P fn R (.panic ch) a w := by
  show LeavesInM (fw none) 0 P fn a.tmps R a.defers (.panicking ch) w
  rw [hd]
  exact ⟨by simp, .inl ⟨D, _, rfl, run_takeDeferred hD, hR⟩⟩
theorem below_putObj {n : Nat} {X W : World} {D : Nat} {o : Obj} (h : Below n X W) (hD : n ≤ D) : Below n X (W.putObj D o) :=
  h.trans ⟨rfl, rfl, rfl, by simp, fun _ hk => World.putObj_heap_other (by omega)⟩
/-- What a call of a function that turns nothing old leaves of the rounds' book-keeping. -/
theorem KeepsFrom.below {B : Nat} {X Y : World} (h : Below X.heap.size X Y) : KeepsFrom B X Y :=
  ⟨h.size, fun k _ _ hk _ => (h.block k (Array.getElem?_eq_some_iff.1 hk).1).trans hk⟩

theorem wpV_block {V : FuncId → Prop} {r : Option Nat} {Q : Exit → Act → World → Prop} {a : Act} {w : World} {id : Nat} {c : Code} (h : wpV V r P c (Exit.inBlock id Q) a w) : wpV V r P (.block id c) Q a w := by
  intro b k cs hro hb
  obtain ⟨e, a₁, w₁, hq, harr⟩ := h b (.inBlock id :: k) cs hro hb
  cases e with
  | normal => exact ⟨.normal, a₁, w₁, hq, .head calm0 stepR_block (StepsIn.trans harr (.one calm0 stepR_inBlock))⟩
  | exit id' =>
    by_cases hid : id' = id
    · simp only [Exit.inBlock, hid, if_true] at hq
      exact ⟨.normal, a₁, w₁, hq, .head calm0 stepR_block (harr.1 k (by simp [exitTo, hid]))⟩
    · simp only [Exit.inBlock, hid, if_false] at hq
      have this : (id == id') = false := by simp; exact fun h => hid h.symm
      have hx : exitTo id' (.inBlock id :: k) = exitTo id' k := by simp [exitTo, this]
      exact ⟨.exit id', a₁, w₁, hq, fun k' hk => .head calm0 stepR_block (harr.1 k' (by rw [hx]; exact hk)),
        fun hr' hk => let ⟨k₁, h1, h2⟩ := harr.2 hr' (by rw [hx]; exact hk); ⟨k₁, h1, .head calm0 stepR_block h2⟩⟩
  | goto l =>
    have hx : gotoIn l (.inBlock id :: k) = gotoIn l k := by simp [gotoIn]
    exact ⟨_, a₁, w₁, hq, fun k' hk => .head calm0 stepR_block (harr.1 k' (by rw [hx]; exact hk)),
      fun hr' hk => let ⟨k₁, h1, h2⟩ := harr.2 hr' (by rw [hx]; exact hk); ⟨k₁, h1, .head calm0 stepR_block h2⟩⟩
  | ret => exact ⟨_, a₁, w₁, hq, .of_steps (.one calm0 stepR_block) harr⟩
  | panic ch => exact ⟨_, a₁, w₁, hq, .of_steps (.one calm0 stepR_block) harr⟩
  | outgrown => exact ⟨_, a₁, w₁, hq, .of_steps (.one calm0 stepR_block) harr⟩

/-- What is asked of a round: the loop's left sides are assigned; whatever then holds of cells alone, the body starts from. -/
def roundV (V : FuncId → Prop) (P : Program) (TT : TypeId → Prop) (B : Nat) (In : World → Prop) (Ix : Code → World → Prop) (Ip : List PanicEntry → World → Prop) (l : Nat) (body : Code) (W : World) (a' : Act) (W' : World) : Prop :=
  Kx B TT W W' ∧ ∃ p : World → Prop, Stb B p ∧ p W' ∧ ∀ W2, (∃ r, W2.heap[l]? = some (.loop r)) → p W2 → wpV V (some l) P body (bodyP B TT In Ix Ip W2) a' W2
def roundW (P : Program) (TT : TypeId → Prop) (B : Nat) (In : World → Prop) (Ix : Code → World → Prop) (l : Nat) (body : Code) (W : World) (a' : Act) (W' : World) : Prop :=
  Kx B TT W W' ∧ ∃ p : World → Prop, Stb B p ∧ p W' ∧ ∀ W2, (∃ r, W2.heap[l]? = some (.loop r)) → p W2 → body.wpIn (fw (some l)) 0 P (bodyP B TT In Ix (fun _ _ => False) W2) a' W2

/-- The statement, assignment and body in one. -/
theorem wpV_rangeR {V : FuncId → Prop} {g : Operand} {ps : Array Tmp} {assign body : Code} {Q : Exit → Act → World → Prop} {a : Act} {w : World}
    {gf : Nat} {lb : Array Value} (hg : a.eval g = .func (.func gf) #[] lb) (eg : ∀ args w, (callFunc gf args).run P w = .ok (.enter gf args) w)
    {ys : List (Array Value)} {Ke : World → Prop} {TT : TypeId → Prop} (hit : Iter P TT gf lb ys Ke) (hps : ∀ y ∈ ys, y.size = ps.size)
    (I : Nat → World → Prop) (Ix : Code → World → Prop) (Ip : List PanicEntry → World → Prop)
    (hval : (∃ ch W, Ip ch W) → ∀ fn, V fn → (P.funcs[fn]?).isSome = true)
    (hK : ∀ k W, I k W → Ke W) (sI : ∀ k, Stb w.heap.size (I k)) (sIx : ∀ c, Stb w.heap.size (Ix c)) (sIp : ∀ ch, Stb w.heap.size (Ip ch))
    (h0 : I 0 w)
    (hround : ∀ k (hk : k < ys.length) (l : Nat) W, I k W → wpV V (some l) P assign (Exit.then (roundV V P TT w.heap.size (I (k + 1)) Ix Ip l body W) (fun _ _ _ => False)) { tmps := (ps.zip ys[k]).foldl (fun t (p, v) => t.setIfInBounds p v) a.tmps, defers := [] } W)
    (hdone : ∀ W, I ys.length W → W.heap[w.heap.size]? = some (.deferred (some [])) → Q .normal { a with defers := { target := .collected w.heap.size, args := #[] } :: a.defers } W)
    (hstop : ∀ c W, Ix c W → W.heap[w.heap.size]? = some (.deferred (some [])) → wpV V none P c Q { a with defers := { target := .collected w.heap.size, args := #[] } :: a.defers } W)
    (hpanic : ∀ ch W, Ip ch W → W.heap[w.heap.size]? = some (.deferred (some [])) → Q (.panic ch) { a with defers := { target := .collected w.heap.size, args := #[] } :: a.defers } W) :
    wpV V none P (.rangeFunc g ps assign body) Q a w :=
  wpV_range hg eg hit hps I Ix Ip (fun k l a' W' => ∃ p : World → Prop, Stb w.heap.size p ∧ p W' ∧ ∀ W2, (∃ r, W2.heap[l]? = some (.loop r)) → p W2 → wpV V (some l) P body (bodyP w.heap.size TT (I (k + 1)) Ix Ip W2) a' W2)
    hval hK sI sIx sIp (fun _ _ _ _ _ g ⟨p, hp, h1, h2⟩ => ⟨p, hp, hp _ _ g h1, h2⟩) h0 (fun k hk l W h => hround k hk l W h) (fun _ _ _ _ W _ hr ⟨_, _, h1, h2⟩ => h2 W hr h1) hdone hstop hpanic
theorem wpV_rangeRN {V : FuncId → Prop} {g : Operand} {ps : Array Tmp} {assign body : Code} {Q : Exit → Act → World → Prop} {a : Act} {w : World} {l₀ : Nat} {r₀ : Loop}
    (hr₀ : w.heap[l₀]? = some (.loop r₀))
    {gf : Nat} {lb : Array Value} (hg : a.eval g = .func (.func gf) #[] lb) (eg : ∀ args w, (callFunc gf args).run P w = .ok (.enter gf args) w)
    {ys : List (Array Value)} {Ke : World → Prop} {TT : TypeId → Prop} (hit : Iter P TT gf lb ys Ke) (hps : ∀ y ∈ ys, y.size = ps.size)
    (I : Nat → World → Prop) (Ix : Code → World → Prop) (Ip : List PanicEntry → World → Prop)
    (hval : (∃ ch W, Ip ch W) → ∀ fn, V fn → (P.funcs[fn]?).isSome = true)
    (hK : ∀ k W, I k W → Ke W) (sI : ∀ k, Stb w.heap.size (I k)) (sIx : ∀ c, Stb w.heap.size (Ix c)) (sIp : ∀ ch, Stb w.heap.size (Ip ch))
    (h0 : I 0 w)
    (hround : ∀ k (hk : k < ys.length) (l : Nat) W, I k W → wpV V (some l) P assign (Exit.then (roundV V P TT w.heap.size (I (k + 1)) Ix Ip l body W) (fun _ _ _ => False)) { tmps := (ps.zip ys[k]).foldl (fun t (p, v) => t.setIfInBounds p v) a.tmps, defers := [] } W)
    (hdone : ∀ W, I ys.length W → Q .normal a W)
    (hstop : ∀ c W, Ix c W → wpV V (some l₀) P c Q a W)
    (hpanic : ∀ ch W, Ip ch W → Q (.panic ch) a W) :
    wpV V (some l₀) P (.rangeFunc g ps assign body) Q a w :=
  wpV_rangeN hr₀ hg eg hit hps I Ix Ip (fun k l a' W' => ∃ p : World → Prop, Stb w.heap.size p ∧ p W' ∧ ∀ W2, (∃ r, W2.heap[l]? = some (.loop r)) → p W2 → wpV V (some l) P body (bodyP w.heap.size TT (I (k + 1)) Ix Ip W2) a' W2)
    hval hK sI sIx sIp (fun _ _ _ _ _ g ⟨p, hp, h1, h2⟩ => ⟨p, hp, hp _ _ g h1, h2⟩) h0 (fun k hk l W h => hround k hk l W h) (fun _ _ _ _ W _ hr ⟨_, _, h1, h2⟩ => h2 W hr h1) hdone hstop hpanic

/-- The statement, no round of which panics. -/
theorem wpIn_range {g : Operand} {ps : Array Tmp} {assign body : Code} {Q : Exit → Act → World → Prop} {a : Act} {w : World}
    {gf : Nat} {lb : Array Value} (hg : a.eval g = .func (.func gf) #[] lb) (eg : ∀ args w, (callFunc gf args).run P w = .ok (.enter gf args) w)
    {ys : List (Array Value)} {Ke : World → Prop} {TT : TypeId → Prop} (hit : Iter P TT gf lb ys Ke) (hps : ∀ y ∈ ys, y.size = ps.size)
    (I : Nat → World → Prop) (Ix : Code → World → Prop)
    (hK : ∀ k W, I k W → Ke W) (sI : ∀ k, Stb w.heap.size (I k)) (sIx : ∀ c, Stb w.heap.size (Ix c))
    (h0 : I 0 w)
    (hround : ∀ k (hk : k < ys.length) (l : Nat) W, I k W → assign.wpIn (fw (some l)) 0 P (Exit.then (roundW P TT w.heap.size (I (k + 1)) Ix l body W) (fun _ _ _ => False)) { tmps := (ps.zip ys[k]).foldl (fun t (p, v) => t.setIfInBounds p v) a.tmps, defers := [] } W)
    (hdone : ∀ W, I ys.length W → W.heap[w.heap.size]? = some (.deferred (some [])) → Q .normal { a with defers := { target := .collected w.heap.size, args := #[] } :: a.defers } W)
    (hstop : ∀ c W, Ix c W → W.heap[w.heap.size]? = some (.deferred (some [])) → c.wpIn (fw none) 0 P Q { a with defers := { target := .collected w.heap.size, args := #[] } :: a.defers } W) :
    (Code.rangeFunc g ps assign body).wpIn (fw none) 0 P Q a w :=
  wpV_all (wpV_rangeR (V := fun _ => True) hg eg hit hps I Ix (fun _ _ => False) (fun ⟨_, _, h⟩ => h.elim) hK sI sIx (fun _ => Stb.pure) h0
    (fun k hk l W h => wpV_mono (wpV_of (hround k hk l W h)) (fun e a w q => by
      cases e with
      | normal => obtain ⟨h1, p, h2, h3, h4⟩ := q; exact ⟨h1, p, h2, h3, fun W2 hr hp => wpV_of (h4 W2 hr hp)⟩
      | _ => exact q)) hdone (fun c W h hD => wpV_of (hstop c W h hD)) (fun _ _ h => h.elim))
theorem wpIn_rangeN {g : Operand} {ps : Array Tmp} {assign body : Code} {Q : Exit → Act → World → Prop} {a : Act} {w : World} {l₀ : Nat} {r₀ : Loop}
    (hr₀ : w.heap[l₀]? = some (.loop r₀))
    {gf : Nat} {lb : Array Value} (hg : a.eval g = .func (.func gf) #[] lb) (eg : ∀ args w, (callFunc gf args).run P w = .ok (.enter gf args) w)
    {ys : List (Array Value)} {Ke : World → Prop} {TT : TypeId → Prop} (hit : Iter P TT gf lb ys Ke) (hps : ∀ y ∈ ys, y.size = ps.size)
    (I : Nat → World → Prop) (Ix : Code → World → Prop)
    (hK : ∀ k W, I k W → Ke W) (sI : ∀ k, Stb w.heap.size (I k)) (sIx : ∀ c, Stb w.heap.size (Ix c))
    (h0 : I 0 w)
    (hround : ∀ k (hk : k < ys.length) (l : Nat) W, I k W → assign.wpIn (fw (some l)) 0 P (Exit.then (roundW P TT w.heap.size (I (k + 1)) Ix l body W) (fun _ _ _ => False)) { tmps := (ps.zip ys[k]).foldl (fun t (p, v) => t.setIfInBounds p v) a.tmps, defers := [] } W)
    (hdone : ∀ W, I ys.length W → Q .normal a W)
    (hstop : ∀ c W, Ix c W → c.wpIn (fw (some l₀)) 0 P Q a W) :
    (Code.rangeFunc g ps assign body).wpIn (fw (some l₀)) 0 P Q a w :=
  wpV_all (wpV_rangeRN (V := fun _ => True) hr₀ hg eg hit hps I Ix (fun _ _ => False) (fun ⟨_, _, h⟩ => h.elim) hK sI sIx (fun _ => Stb.pure) h0
    (fun k hk l W h => wpV_mono (wpV_of (hround k hk l W h)) (fun e a w q => by
      cases e with
      | normal => obtain ⟨h1, p, h2, h3, h4⟩ := q; exact ⟨h1, p, h2, h3, fun W2 hr hp => wpV_of (h4 W2 hr hp)⟩
      | _ => exact q)) hdone (fun c W h => wpV_of (hstop c W h)) (fun _ _ h => h.elim))

/-- A function's contract from its body, in the wide fence. -/
theorem calls_of_wpM {f : FuncId} {fn : Func} {c : Code} {args : Array Value} {w : World} {R : Ending → World → Prop}
    (hf : P.funcs[f]? = some fn) (hb : fn.body = some c)
    (h : c.wpIn (fw none) 0 P (bodyPostM (fw none) 0 P fn R) { tmps := args ++ Array.replicate (fn.ntmps - args.size) undef, defers := [] } w) : Calls P f args w R :=
  calls_of_wpV (V := fun _ => True) hf hb trivial (wpV_of h)
/-- A contract, as the fenced walk meets it. -/
theorem callsTo {r : Option Nat} {n : Nat} {f : FuncId} {args : Array Value} {w : World} {R R' : Ending → World → Prop} (h : Calls P f args w R) (hr : ∀ e w', R e w' → R' e w') : CallsIn (fw r) n P f args w R' :=
  callsFw.2 (h.mono hr)
end
end YtnihopdglkhbnaaIt
end Go
/- Laws of single operations: a struct or an array read or written whole; regions whose order is open; over whatever program. -/
namespace Go
namespace YtnihopdglkhbnaaIt
open Go.RowKit
section
variable {P : Program}
/-- A whole struct or array read out of its block, in the fenced walk. -/
theorem wpListIn_load_blk {F : Fence} {n : Nat} {ops : Array Oper} {rest : List Oper} {o : Oper} {a : Act} {w : World} {Q : Exit → Act → World → Prop} (hw : Region.wanted o (yielded ops a.tmps) = true) (ty : TypeId) (x : Operand) (ho : o.op = .load ty x)
    (g : Nat) (hx : a.eval x = .pointer (some ⟨g, 0, none⟩)) {t : TypeId} {cs : Array Value} {fr : Nat × Nat} (hg : w.heap[g]? = some (.cells cs t fr)) {d : TypeDesc}
    (hu : P.underlying ty = some d) (hd : (match d with | .struct _ | .array _ _ => true | _ => false) = true) {k : Nat} (hi : (P.info? ty).map (·.size) = some k) (hk : cs.size = k)
    (h : wpListIn F n P ops Q rest (a.put o.dst (.agg cs)) w) : wpListIn F n P ops Q (o :: rest) a w := by
  refine wpListIn_step fun K hK => ?_
  rw [if_pos hw]
  subst hk
  have hs : Oper.semAt F.round a.eval o = execOp a.eval o := by
    cases hF : F.round with
    | none => rfl
    | some l => exact Oper.semAt_some l _ _ (by rw [ho]; intro c h; cases h)
  unfold Oper.wpIn
  refine ⟨fun f hf => by simp [Oper.about, ho] at hf, ?_⟩
  rw [hs]
  unfold execOp
  simp only [ho, hx, Instr.loadAt, Instr.sureAddr, Sem.run_bind, Sem.run_pure, Result.andThen_ok, run_loadVar_row w g t ty cs fr d hg hu hd hi]
  exact hK _ _ h
theorem wpList_load_blk {ops : Array Oper} {rest : List Oper} {o : Oper} {a : Act} {w : World} {Q : Exit → Act → World → Prop} (hw : Region.wanted o (yielded ops a.tmps) = true) (ty : TypeId) (x : Operand) (ho : o.op = .load ty x)
    (g : Nat) (hx : a.eval x = .pointer (some ⟨g, 0, none⟩)) {t : TypeId} {cs : Array Value} {fr : Nat × Nat} (hg : w.heap[g]? = some (.cells cs t fr)) {d : TypeDesc}
    (hu : P.underlying ty = some d) (hd : (match d with | .struct _ | .array _ _ => true | _ => false) = true) {k : Nat} (hi : (P.info? ty).map (·.size) = some k) (hk : cs.size = k)
    (h : wpList P ops Q rest (a.put o.dst (.agg cs)) w) : wpList P ops Q (o :: rest) a w :=
  wpList_step fun K hK => by rw [if_pos hw]; exact wp_load_row ty x ho g hx t cs fr d hg hu hd (by rw [hk]; exact hi) (hK _ _ h)

theorem setRow_putObj {w : World} {g : Nat} {old cells : Array Value} {t : TypeId} (hg : w.heap[g]? = some (.cells old t (0, 0))) : w.setRow g cells = w.putObj g (.cells cells t (0, 0)) := by
  unfold World.setRow World.putObj
  congr 1
  apply Array.ext_getElem?
  intro k
  rw [Array.getElem?_modify, Array.getElem?_setIfInBounds]
  have hlt := (Array.getElem?_eq_some_iff.1 hg).1
  by_cases h : g = k
  · subst h
    rw [if_pos rfl, if_pos rfl, if_pos hlt, hg]; rfl
  · simp [h]
theorem wpListIn_store_blk {F : Fence} {n : Nat} {ops : Array Oper} {rest : List Oper} {o : Oper} {a : Act} {w : World} {Q : Exit → Act → World → Prop} (hw : Region.wanted o (yielded ops a.tmps) = true) (ty : TypeId) (x y : Operand) (ho : o.op = .store ty x y)
    (g : Nat) (hx : a.eval x = .pointer (some ⟨g, 0, none⟩)) {cells : Array Value} (hy : a.eval y = .agg cells)
    {t : TypeId} {old : Array Value} (hg : w.heap[g]? = some (.cells old t (0, 0))) {k : Nat} (hi : (P.info? ty).map (·.size) = some k) (hk : cells.size = k)
    (hold : old.size = k) (h1 : cells.all (·.oneCell') = true)
    (h : wpListIn F n P ops Q rest (a.put o.dst undef) (w.putObj g (.cells cells t (0, 0)))) : wpListIn F n P ops Q (o :: rest) a w := by
  refine wpListIn_step fun K hK => ?_
  rw [if_pos hw]
  have hs : Oper.semAt F.round a.eval o = execOp a.eval o := by
    cases hF : F.round with
    | none => rfl
    | some l => exact Oper.semAt_some l _ _ (by rw [ho]; intro c h; cases h)
  unfold Oper.wpIn
  refine ⟨fun f hf => by simp [Oper.about, ho] at hf, ?_⟩
  rw [hs]
  unfold execOp
  simp only [ho, hx, hy, Instr.storeAt, Instr.sureAddr, Sem.run_bind, Sem.run_pure, Result.andThen_ok, run_storeVar_row w g t ty old cells hg (by rw [hk]; exact hi) (by omega) h1]
  rw [setRow_putObj hg]
  exact hK _ _ h
theorem wpList_store_blk {ops : Array Oper} {rest : List Oper} {o : Oper} {a : Act} {w : World} {Q : Exit → Act → World → Prop} (hw : Region.wanted o (yielded ops a.tmps) = true) (ty : TypeId) (x y : Operand) (ho : o.op = .store ty x y)
    (g : Nat) (hx : a.eval x = .pointer (some ⟨g, 0, none⟩)) {cells : Array Value} (hy : a.eval y = .agg cells)
    {t : TypeId} {old : Array Value} (hg : w.heap[g]? = some (.cells old t (0, 0))) {k : Nat} (hi : (P.info? ty).map (·.size) = some k) (hk : cells.size = k)
    (hold : old.size = k) (h1 : cells.all (·.oneCell') = true)
    (h : wpList P ops Q rest (a.put o.dst undef) (w.putObj g (.cells cells t (0, 0)))) : wpList P ops Q (o :: rest) a w :=
  wpList_step fun K hK => by rw [if_pos hw]; exact wp_store_row ty x y ho g cells hx hy t old hg (by rw [hk]; exact hi) (by omega) h1 (by rw [setRow_putObj hg]; exact hK _ _ h)

/-! ### Regions whose order is open, and whose calls lay blocks -/

/-- Worlds in which all that lay below B is as in w. -/
structure Ab (B : Nat) (w : World) where
  val : World
  ok : Below B w val
instance {B : Nat} {w : World} : Nonempty (Ab B w) := ⟨⟨w, Below.refl _ _⟩⟩
def AbC (B : Nat) (w W' : World) : Prop := ∃ x : Ab B w, W' = x.val

theorem wp_region_ab {id : Nat} {Q : Exit → Act → World → Prop} {a : Act} {w : World} {l : List Oper} (B : Nat) (w0 : World) (hm : P.follows .mixedOrders = true) (hB : Region.lexB .any l.toArray = true) (hb : Below B w0 w)
    (h : wpQuiet P l.toArray (AbC B w0) (fun a' => ∀ w', AbC B w0 w' → Q .normal a' w') l a) : (Code.region id l.toArray true).wp P Q a w :=
  wp_region_quiet (C := AbC B w0) hm hB ⟨⟨{ w with drawn := w.drawn + 1 }, hb.trans ⟨rfl, rfl, rfl, Nat.le_refl _, fun _ _ => rfl⟩⟩, rfl⟩ (by simpa using h)
theorem wpQuiet_load_blk {ops : Array Oper} {C : World → Prop} {Q : Act → Prop} {a : Act} {o : Oper} {rest : List Oper} (hw : Region.wanted o (yielded ops a.tmps) = true) (ty : TypeId) (x : Operand) (ho : o.op = .load ty x)
    (g : Nat) (hx : a.eval x = .pointer (some ⟨g, 0, none⟩)) {t : TypeId} {cs : Array Value} {fr : Nat × Nat} (hg : ∀ W, C W → W.heap[g]? = some (.cells cs t fr)) {d : TypeDesc}
    (hu : P.underlying ty = some d) (hd : (match d with | .struct _ | .array _ _ => true | _ => false) = true) {k : Nat} (hi : (P.info? ty).map (·.size) = some k) (hk : cs.size = k)
    (h : wpQuiet P ops C Q rest (a.put o.dst (.agg cs))) : wpQuiet P ops C Q (o :: rest) a := by
  subst hk
  refine wpQuiet_step fun K hK => ?_
  rw [if_pos hw]
  refine ⟨_, fun W hW => ?_, hK _ h⟩
  unfold Oper.quietAt execOp
  simp only [ho, hx, Instr.loadAt, Instr.sureAddr, Sem.run_bind, Sem.run_pure, Result.andThen_ok, run_loadVar_row W g t ty cs fr d (hg W hW) hu hd hi]
  exact ⟨rfl, rfl⟩
/-- A call that lays blocks of its own, in such a region. -/
theorem Calls.ab {f : FuncId} {args : Array Value} {B : Nat} {w0 : World} {v : Value} (x : Ab B w0) (hB : B ≤ w0.heap.size) (h : Calls P f args x.val fun e w' => e = .returned v ∧ Below x.val.heap.size x.val w') :
    Calls P f args x.val fun e w'' => e = .returned v ∧ AbC B w0 w'' :=
  h.mono fun _ _ ⟨he, hb⟩ => ⟨he, ⟨_, x.ok.trans (hb.mono (Nat.le_trans hB x.ok.size))⟩, rfl⟩

/-- Results: a struct or an array that lies in memory, and a number or a bool. -/
theorem results_agg_tmp {fn : Func} {p u : Tmp} {ty : TypeId} (h : fn.results = #[.cell p ty, .tmp u]) (tmps : Array Value) (w : World) (g : Nat) {t : TypeId} {cs : Array Value} {fr : Nat × Nat} {d : TypeDesc}
    (hp : tmps.getD p undef = .pointer (some ⟨g, 0, none⟩)) (hg : w.heap[g]? = some (.cells cs t fr))
    (hu : P.underlying ty = some d) (hd : (match d with | .struct _ | .array _ _ => true | _ => false) = true) {k : Nat} (hi : (P.info? ty).map (·.size) = some k) (hk : cs.size = k) :
    (results fn tmps).run P w = .ok (.tuple #[.agg cs, tmps.getD u undef]) w := by
  subst hk
  have hp' : tmps[p]?.getD undef = .pointer (some ⟨g, 0, none⟩) := by simpa using hp
  simp [results, h, hp', asAddr, run_loadVar_row w g t ty cs fr d hg hu hd hi]
/-- A variable of one cell, read. -/
theorem run_loadVar_one {w : World} {b : Nat} {ty : TypeId} {v : Value} {d : TypeDesc} (hc : w.cell? ⟨b, 0, none⟩ = some v) (hu : P.underlying ty = some d) (hd : (match d with | .struct _ | .array _ _ => true | _ => false) = false) :
    (loadVar ty ⟨b, 0, none⟩).run P w = .ok v w := by
  have hagg : (isAgg ty).run P w = .ok false w := by
    unfold isAgg
    rw [Sem.run_bind, run_underlying hu w]
    cases d <;> simp_all
  simp [loadVar, Sem.run_bind, hagg, load, Sem.run, hc]
theorem results_one {fn : Func} {p : Tmp} {ty : TypeId} (h : fn.results = #[.cell p ty]) (tmps : Array Value) (w : World) (b : Nat) {v : Value} {d : TypeDesc}
    (hp : tmps.getD p undef = .pointer (some ⟨b, 0, none⟩)) (hc : w.cell? ⟨b, 0, none⟩ = some v) (hu : P.underlying ty = some d) (hd : (match d with | .struct _ | .array _ _ => true | _ => false) = false) :
    (results fn tmps).run P w = .ok v w := by
  have hp' : tmps[p]?.getD undef = .pointer (some ⟨b, 0, none⟩) := by simpa using hp
  simp [results, h, hp', asAddr, run_loadVar_one hc hu hd]
theorem wpStill_load_blk {ops : Array Oper} {w : World} {Q : Act → Prop} {a : Act} {o : Oper} {rest : List Oper} (hw : Region.wanted o (yielded ops a.tmps) = true) (ty : TypeId) (x : Operand) (ho : o.op = .load ty x)
    (g : Nat) (hx : a.eval x = .pointer (some ⟨g, 0, none⟩)) {t : TypeId} {cs : Array Value} {fr : Nat × Nat} (hg : w.heap[g]? = some (.cells cs t fr)) {d : TypeDesc}
    (hu : P.underlying ty = some d) (hd : (match d with | .struct _ | .array _ _ => true | _ => false) = true) {k : Nat} (hi : (P.info? ty).map (·.size) = some k) (hk : cs.size = k)
    (h : wpStill P ops w Q rest (a.put o.dst (.agg cs))) : wpStill P ops w Q (o :: rest) a := by
  subst hk
  refine wpStill_step fun K hK => ?_
  rw [if_pos hw]
  unfold Oper.still execOp
  simp only [ho, hx, Instr.loadAt, Instr.sureAddr, Sem.run_bind, Sem.run_pure, Result.andThen_ok, run_loadVar_row w g t ty cs fr d hg hu hd hi]
  exact ⟨rfl, hK _ h⟩
/-- An append onto a slice of the call's own, as one step of a region whose order is open. -/
theorem step_append_own {ops : Array Oper} {o : Oper} {a : Act} {w : World} {K : Act → World → Prop} {Q : Exit → Act → World → Prop} {E : Prop}
    (hg : o.guard = none) (s x : Operand) (t : TypeId) (hop : o.op = Op.call { callee := Callee.builtin Builtin.append, args := #[s, x], argTypes := #[t, t] })
    (base e : Nat) (i : TypeInfo) (z : Value) (size bytes : Nat) (h1 : P.underlying t = some (.slice e)) (h2 : P.info? e = some i) (h3 : i.zero = some z) (h4 : i.size = size) (h5 : i.bytes = bytes) (h6 : z.cells.size = size) (h7 : 0 < size)
    (v : Value) (n : Nat) (xs : List Value) (hs : a.eval s = v) (hown : w.ownsRow base e size v n xs)
    (ad : Addr) (m c : Nat) (news : List Value) (hx : a.eval x = .slice (some ad) m c) (hn : news.length = m * size) (hc : ∀ j u, news[j]? = some u → w.cell? (ad.add j) = some u) (h1c : ∀ u ∈ news, u.oneCell' = true)
    (b1 : n + m ≤ maxLen) (b2 : (n + m) * bytes ≤ 140737488355328) (hbase : base ≤ w.heap.size)
    (hK : ∀ v' w', w'.ownsRow base e size v' (n + m) (xs ++ news) → w.grownBy w' v.ownBlock → K (a.put o.dst v') w') :
    if Region.wanted o (yielded ops a.tmps) = true then Oper.wp P o a w K Q else E := by
  have hw : Region.wanted o (yielded ops a.tmps) = true := by simp [Region.wanted, hg]
  rw [if_pos hw]
  obtain ⟨v', w', hrun, r1, r2, _⟩ := run_append_own (P := P) w base t o.type e i z size bytes h1 h2 h3 h4 h5 h6 h7 v n xs hown ad m c news hn hc h1c b1 b2 hbase
  unfold Oper.wp
  simp [execOp, hop, resolve, invoke, builtin, hs, hx, hrun, Result.andThen]
  exact hK v' w' r1 r2
/-- Results: a pointer, a struct or an array in memory, and a number. -/
theorem results_tmp_agg_tmp {fn : Func} {q p u : Tmp} {ty : TypeId} (h : fn.results = #[.tmp q, .cell p ty, .tmp u]) (tmps : Array Value) (w : World) (g : Nat) {t : TypeId} {cs : Array Value} {fr : Nat × Nat} {d : TypeDesc}
    (hp : tmps.getD p undef = .pointer (some ⟨g, 0, none⟩)) (hg : w.heap[g]? = some (.cells cs t fr))
    (hu : P.underlying ty = some d) (hd : (match d with | .struct _ | .array _ _ => true | _ => false) = true) {k : Nat} (hi : (P.info? ty).map (·.size) = some k) (hk : cs.size = k) :
    (results fn tmps).run P w = .ok (.tuple #[tmps.getD q undef, .agg cs, tmps.getD u undef]) w := by
  subst hk
  have hp' : tmps[p]?.getD undef = .pointer (some ⟨g, 0, none⟩) := by simpa using hp
  simp [results, h, hp', asAddr, run_loadVar_row w g t ty cs fr d hg hu hd hi]
end
end YtnihopdglkhbnaaIt
end Go
