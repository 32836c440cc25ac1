/- A range over a function whose iterator has memory of its own, and hands some of it over: which blocks are the rounds' own is kept track of. Over whatever program. -/
import Derived.Test.YtnjgglnpmhjmiaaGenL
import Derived.Deep.AppendSrc
import Derived.Deep.Upon
open Go Go.RowKit Go.YtnjgglnpmhjmiaaIt
namespace Go
namespace YtnjgglnpmhjmiaaIt
section
variable {P : Program}
/-- An iterator's step: what lay below B, and the rounds' own blocks S, are as they were. -/
structure GrS (B : Nat) (S : Nat → Prop) (W W' : World) : Prop where
 os : W'.os = W.os
 tape : W'.tape = W.tape
 output : W'.output = W.output
 size : W.heap.size ≤ W'.heap.size
 block : ∀ k, k < W.heap.size → (k < B ∨ S k) → W'.heap[k]? = W.heap[k]?
theorem GrS.refl (B : Nat) (S : Nat → Prop) (W : World) : GrS B S W W := ⟨rfl, rfl, rfl, Nat.le_refl _, fun _ _ _ => rfl⟩
theorem GrS.trans {B : Nat} {S : Nat → Prop} {X Y Z : World} (h : GrS B S X Y) (k : GrS B S Y Z) : GrS B S X Z :=
 ⟨k.os.trans h.os, k.tape.trans h.tape, k.output.trans h.output, Nat.le_trans h.size k.size, fun i hi hc => (k.block i (Nat.lt_of_lt_of_le hi h.size) hc).trans (h.block i hi hc)⟩
theorem GrS.mono {B B' : Nat} {S S' : Nat → Prop} {X Y : World} (h : GrS B' S' X Y) (hB : B ≤ B') (hS : ∀ i, S i → S' i) : GrS B S X Y :=
 ⟨h.os, h.tape, h.output, h.size, fun k hk hc => h.block k hk (hc.imp (fun x => Nat.lt_of_lt_of_le x hB) (hS k))⟩
theorem GrS.below {B : Nat} {S : Nat → Prop} {X Y : World} (h : Below X.heap.size X Y) : GrS B S X Y := ⟨h.os, h.tape, h.output, h.size, fun k hk _ => h.block k hk⟩
theorem GrS.putObj {B : Nat} {S : Nat → Prop} {X : World} {l : Nat} (o : Obj) (hB : B ≤ l) (hS : ¬ S l) : GrS B S X (X.putObj l o) :=
 ⟨rfl, rfl, rfl, by simp, fun k _ hk => by
  refine World.putObj_heap_other ?_
  rintro rfl
  rcases hk with hk | hk
  ·omega
  ·exact hS hk⟩
theorem GrS.setCell {B : Nat} {S : Nat → Prop} {X : World} {l i : Nat} (v : Value) (hB : B ≤ l) (hS : ¬ S l) : GrS B S X (X.setCell ⟨l, i, none⟩ v) :=
 ⟨rfl, rfl, rfl, by rw [World.size_setCell]; exact Nat.le_refl _, fun k _ hk => by
  refine Below.heap_setCell _ _ _ _ ?_
  rintro rfl
  rcases hk with hk | hk
  ·exact absurd hB (by simpa using hk)
  ·exact hS hk⟩
/-- What abides an iterator's steps, and more blocks of the rounds' own. -/
def StbS (B : Nat) (p : (Nat → Prop) → World → Prop) : Prop := ∀ S S' W W', (∀ i, S i → S' i) → GrS B S W W' → p S W → p S' W'
theorem StbS.mono {B B' : Nat} {p : (Nat → Prop) → World → Prop} (h : StbS B p) (hB : B ≤ B') : StbS B' p := fun S S' W W' hS g => h S S' W W' hS (g.mono hB (fun _ h => h))
theorem StbS.and {B : Nat} {p q : (Nat → Prop) → World → Prop} (hp : StbS B p) (hq : StbS B q) : StbS B (fun S W => p S W ∧ q S W) := fun S S' W W' hS g h => ⟨hp S S' W W' hS g h.1, hq S S' W W' hS g h.2⟩
theorem StbS.ex {B : Nat} {α : Sort _} {p : α → (Nat → Prop) → World → Prop} (hp : ∀ x, StbS B (p x)) : StbS B (fun S W => ∃ x, p x S W) := fun S S' W W' hS g ⟨x, h⟩ => ⟨x, hp x S S' W W' hS g h⟩
theorem StbS.pure {B : Nat} {p : Prop} : StbS B (fun _ _ => p) := fun _ _ _ _ _ _ h => h
theorem StbS.old {B b : Nat} {o : Obj} (hb : b < B) : StbS B (fun _ W => W.heap[b]? = some o) := fun _ _ _ _ _ g h =>
 (g.block b (Array.getElem?_eq_some_iff.1 h).1 (.inl hb)).trans h
/-- More blocks. -/
def ext (S : Nat → Prop) (a b : Nat) : Nat → Prop := fun i => S i ∨ (a ≤ i ∧ i < b)
/-- A round's step: of what lay from B on, only the rounds' own blocks are turned. -/
structure KxS (B : Nat) (S : Nat → Prop) (W W' : World) : Prop where
 size : W.heap.size ≤ W'.heap.size
 same : ∀ k, B ≤ k → k < W.heap.size → ¬ S k → W'.heap[k]? = W.heap[k]?
theorem KxS.refl (B : Nat) (S : Nat → Prop) (W : World) : KxS B S W W := ⟨Nat.le_refl _, fun _ _ _ _ => rfl⟩
theorem KxS.below {B : Nat} {S : Nat → Prop} {X Y : World} (h : Below X.heap.size X Y) : KxS B S X Y := ⟨h.size, fun k _ hk _ => h.block k hk⟩
theorem KxS.trans {B : Nat} {S : Nat → Prop} {X Y Z : World} (h : KxS B S X Y) (k : KxS B (ext S X.heap.size Y.heap.size) Y Z) : KxS B S X Z :=
 ⟨Nat.le_trans h.size k.size, fun i hB hi hS => (k.same i hB (Nat.lt_of_lt_of_le hi h.size) (fun e => by rcases e with e | e; exact hS e; omega)).trans (h.same i hB hi hS)⟩
/-- What an iterator with memory promises: one after the other it hands over what Y says. -/
def IterS (P : Program) (g : Nat) (lb : Array Value) (n : Nat) (Y : Nat → (Nat → Prop) → (Nat → Prop) → World → Array Value → Prop) (Ke : World → Prop) : Prop :=
 ∀ (l : Nat) (W : World) (J : Nat → (Nat → Prop) → World → Prop) (Jx : (Nat → Prop) → World → Prop),
  (∀ k S W1, J k S W1 → Ke W1) → (∀ k, StbS W.heap.size (J k)) → StbS W.heap.size Jx →
  (∀ k, k < n → ∀ S0 S W1 y, W.heap.size ≤ W1.heap.size → (∀ i, S i → W.heap.size ≤ i ∧ i < W1.heap.size) → (∀ i, S0 i → S i) → J k S0 W1 → Y k S0 S W1 y → YieldAt Fence.wide 0 P l y W1 fun e W' =>
   (e = .returned (.bool true) ∧ J (k + 1) (ext S W1.heap.size W'.heap.size) W' ∧ KxS W.heap.size S W1 W') ∨ (e = .returned (.bool false) ∧ Jx (ext S W1.heap.size W'.heap.size) W' ∧ KxS W.heap.size S W1 W')) →
  J 0 (fun _ => False) W →
  Calls P g (#[.func (.yield l) #[] #[]] ++ lb) W fun e W' => (∃ v, e = .returned v) ∧ ∃ S, (∀ i, S i → W.heap.size ≤ i ∧ i < W'.heap.size) ∧ (J n S W' ∨ Jx S W')
/-- How a round's body may be left. -/
def bodyS (B : Nat) (S : Nat → Prop) (In : (Nat → Prop) → World → Prop) (Ix : Code → (Nat → Prop) → World → Prop) (W : World) : Exit → Act → World → Prop
 | .normal, _, W' => KxS B S W W' ∧ In (ext S W.heap.size W'.heap.size) W'
 | .ret, _, W' => KxS B S W W' ∧ Ix .ret (ext S W.heap.size W'.heap.size) W'
 | .exit id, _, W' => KxS B S W W' ∧ Ix (.exit id) (ext S W.heap.size W'.heap.size) W'
 | .goto t, _, W' => KxS B S W W' ∧ Ix (.goto t) (ext S W.heap.size W'.heap.size) W'
 | .panic _, _, _ => False
 | .outgrown, _, _ => False
/-- One round, the record's book-keeping aside. -/
theorem yield_ofS {V : FuncId → Prop} {l B fn : Nat} {rec : LoopState → Option Code → Loop} {tm : Array Value} {ps : Array Tmp} {assign body : Code} {D : Nat} (hrec : rec = fun st pe => { state := st, pending := pe, fn := fn, tmps := tm, params := ps, assign, body, defers := D })
  (hV : V fn) {y : Array Value} (hy : y.size = ps.size) {S : Nat → Prop} {In : (Nat → Prop) → World → Prop} {Ix : Code → (Nat → Prop) → World → Prop} (hBl : B ≤ l) (hSl : ¬ S l)
  (sIn : StbS B In) (sIx : ∀ c, StbS B (Ix c)) {W : World}
  (hround : wpV V (some l) P assign (Exit.then (fun a' W' => W' = W ∧ ∀ W2, GrS B S W W2 → W2.heap.size = W.heap.size → (∃ r, W2.heap[l]? = some (.loop r)) → wpV V (some l) P body (bodyS B S In Ix W2) a' W2) (fun _ _ _ => False)) { tmps := (ps.zip y).foldl (fun t (p, v) => t.setIfInBounds p v) tm, defers := [] } W)
  (hl : W.heap[l]? = some (.loop (rec .ready none))) :
  YieldAt Fence.wide 0 P l y W fun e W' =>
   (e = .returned (.bool true) ∧ (In (ext S W.heap.size W'.heap.size) W' ∧ W'.heap[l]? = some (.loop (rec .ready none))) ∧ (W.heap.size ≤ W'.heap.size ∧ ∀ k, B ≤ k → k < W.heap.size → k ≠ l → ¬ S k → W'.heap[k]? = W.heap[k]?)) ∨
   (e = .returned (.bool false) ∧ (∃ c, Ix c (ext S W.heap.size W'.heap.size) W' ∧ W'.heap[l]? = some (.loop (rec .done (some c)))) ∧ (W.heap.size ≤ W'.heap.size ∧ ∀ k, B ≤ k → k < W.heap.size → k ≠ l → ¬ S k → W'.heap[k]? = W.heap[k]?)) := by
 have hy' := run_yield (P := P) (args := y) hl (by rw [hrec]; exact hy)
 rw [hrec] at hy'
 refine ⟨fn, _, assign, body, hy', ?_⟩
 refine roundIn_V hV (fun ⟨ch, W', h⟩ => ?_) (wpV_mono hround ?_)
 ·rcases h with ⟨h, _⟩ | ⟨h, _⟩ <;> cases h
 intro e a' W1 hq
 cases e with
 | normal =>
  obtain ⟨rfl, hb⟩ := hq
  have hlt := (Array.getElem?_eq_some_iff.1 hl).1
  refine ⟨_, run_beginRound hl (by rw [hrec]), ?_⟩
  obtain ⟨W2, hW2⟩ : ∃ W2, W2 = W1.putObj l (.loop { rec .ready none with state := .busy }) := ⟨_, rfl⟩
  rw [← hW2]
  have hl2 : W2.heap[l]? = some (.loop { rec .ready none with state := .busy }) := by rw [hW2]; exact World.putObj_heap_same hlt
  have hg2 : GrS B S W1 W2 := by rw [hW2]; exact GrS.putObj _ hBl hSl
  have hz2 : W2.heap.size = W1.heap.size := by rw [hW2]; simp
  have ho2 : ∀ k, k ≠ l → W2.heap[k]? = W1.heap[k]? := fun k hne => by rw [hW2]; exact World.putObj_heap_other hne
  refine wpV_mono (hb W2 hg2 hz2 ⟨_, hl2⟩) ?_
  have fin : ∀ (jump : Option Code) (W3 : World) (Z : (Nat → Prop) → World → Prop), StbS B Z → KxS B S W2 W3 → Z (ext S W2.heap.size W3.heap.size) W3 → ∃ W4, (Instr.endRound l jump).run P W3 = .ok (.bool jump.isNone) W4 ∧ Z (ext S W1.heap.size W4.heap.size) W4 ∧
    W4.heap[l]? = some (.loop (rec (if jump.isNone then .ready else .done) jump)) ∧ (W1.heap.size ≤ W4.heap.size ∧ ∀ k, B ≤ k → k < W1.heap.size → k ≠ l → ¬ S k → W4.heap[k]? = W1.heap[k]?) := by
   intro jump W3 Z sZ hk3 hZ
   have hl3 := (hk3.same l hBl (by omega) hSl).trans hl2
   have hE := run_endRound (P := P) jump hl3
   have hz4 : ∀ o, (W3.putObj l o).heap.size = W3.heap.size := fun o => by simp
   have hs3 := hk3.size
   refine ⟨_, hE, ?_, ?_, ?_, ?_⟩
   ·rw [hz4, ← hz2]
    refine sZ _ _ _ _ (fun _ h => h) (GrS.putObj _ hBl ?_) hZ
    rintro (h | h)
    ·exact hSl h
    ·omega
   ·rw [World.putObj_heap_same (Array.getElem?_eq_some_iff.1 hl3).1, hrec]
   ·rw [hz4]; omega
   ·intro k hk hlt' hne hS
    rw [World.putObj_heap_other hne]
    exact (hk3.same k hk (by omega) hS).trans (ho2 k hne)
  intro e2 a2 W3 hp
  cases e2 with
  | normal =>
   obtain ⟨W4, h1, h2, h3, h4⟩ := fin none W3 In sIn hp.1 hp.2
   exact ⟨_, _, h1, .inl ⟨rfl, ⟨h2, h3⟩, h4⟩⟩
  | ret =>
   obtain ⟨W4, h1, h2, h3, h4⟩ := fin (some .ret) W3 _ (sIx .ret) hp.1 hp.2
   exact ⟨_, _, h1, .inr ⟨rfl, ⟨.ret, h2, h3⟩, h4⟩⟩
  | exit id =>
   obtain ⟨W4, h1, h2, h3, h4⟩ := fin (some (.exit id)) W3 _ (sIx (.exit id)) hp.1 hp.2
   exact ⟨_, _, h1, .inr ⟨rfl, ⟨.exit id, h2, h3⟩, h4⟩⟩
  | goto t =>
   obtain ⟨W4, h1, h2, h3, h4⟩ := fin (some (.goto t)) W3 _ (sIx (.goto t)) hp.1 hp.2
   exact ⟨_, _, h1, .inr ⟨rfl, ⟨.goto t, h2, h3⟩, h4⟩⟩
  | panic ch => exact hp.elim
  | outgrown => exact hp.elim
 | ret => exact hq.elim
 | exit id => exact hq.elim
 | goto t => exact hq.elim
 | panic ch => exact hq.elim
 | outgrown => exact hq.elim
/-- The statement in a function's own frame. -/
theorem wpV_rangeS {V : FuncId → Prop} {g : Operand} {ps : Array Tmp} {assign body : Code} {Q : Exit → Act → World → Prop} {a : Act} {w : World}
  {gf : Nat} {lb : Array Value} (hg : a.eval g = .func (.func gf) #[] lb) (eg : ∀ args w, (callFunc gf args).run P w = .ok (.enter gf args) w)
  {n : Nat} {Y : Nat → (Nat → Prop) → (Nat → Prop) → World → Array Value → Prop} {Ke : World → Prop} (hit : IterS P gf lb n Y Ke) (hps : ∀ k S0 S W y, Y k S0 S W y → y.size = ps.size)
  (I : Nat → (Nat → Prop) → World → Prop) (Ix : Code → (Nat → Prop) → World → Prop)
  (hK : ∀ k S W, I k S W → Ke W) (sI : ∀ k, StbS w.heap.size (I k)) (sIx : ∀ c, StbS w.heap.size (Ix c))
  (h0 : I 0 (fun _ => False) w)
  (hround : ∀ k, k < n → ∀ (l : Nat) S0 S W y, (∀ i, S i → w.heap.size ≤ i ∧ i < W.heap.size) → w.heap.size ≤ W.heap.size → (∀ i, S0 i → S i) → I k S0 W → Y k S0 S W y →
   wpV V (some l) P assign (Exit.then (fun a' W' => W' = W ∧ ∀ W2, GrS w.heap.size S W W2 → W2.heap.size = W.heap.size → (∃ r, W2.heap[l]? = some (.loop r)) → wpV V (some l) P body (bodyS w.heap.size S (I (k + 1)) Ix W2) a' W2) (fun _ _ _ => False)) { tmps := (ps.zip y).foldl (fun t (p, v) => t.setIfInBounds p v) a.tmps, defers := [] } W)
  (hdone : ∀ S W, (∀ i, S i → w.heap.size ≤ i ∧ i < W.heap.size) → I n S W → W.heap[w.heap.size]? = some (.deferred (some [])) → Q .normal { a with defers := { target := .collected w.heap.size, args := #[] } :: a.defers } W)
  (hstop : ∀ c S W, (∀ i, S i → w.heap.size ≤ i ∧ i < W.heap.size) → Ix c S W → W.heap[w.heap.size]? = some (.deferred (some [])) → wpV V none P c Q { a with defers := { target := .collected w.heap.size, args := #[] } :: a.defers } W) :
  wpV V none P (.rangeFunc g ps assign body) Q a w := by
 intro b k cs hro hbV
 obtain ⟨rec, hrec⟩ : ∃ rec : LoopState → Option Code → Loop, rec = fun st pe => { state := st, pending := pe, fn := b.fn, tmps := a.tmps, params := ps, assign, body, defers := w.heap.size } := ⟨_, rfl⟩
 obtain ⟨W1, hW1⟩ : ∃ W1, (w.alloc (.deferred (some []))).alloc (.loop (rec .ready none)) = W1 := ⟨_, rfl⟩
 have hL1 : W1.heap[w.heap.size + 1]? = some (.loop (rec .ready none)) := by
  rw [← hW1]; have := World.alloc_heap_new (w.alloc (.deferred (some []))) (.loop (rec .ready none)); rwa [World.size_alloc] at this
 have hD1 : W1.heap[w.heap.size]? = some (.deferred (some [])) := by
  rw [← hW1]; exact (Below.heap_alloc _ _ _ (by simp)).trans (World.alloc_heap_new w _)
 have hsz1 : W1.heap.size = w.heap.size + 2 := by rw [← hW1]; simp
 have hg1 : GrS w.heap.size (fun _ => False) w W1 := by rw [← hW1]; exact (GrS.below ((Below.refl _ _).alloc (Nat.le_refl _) _)).trans (GrS.below ((Below.refl _ _).alloc (Nat.le_refl _) _))
 have hcall := hit (w.heap.size + 1) W1 (fun k S W => I k S W ∧ W.heap[w.heap.size + 1]? = some (.loop (rec .ready none)) ∧ W.heap[w.heap.size]? = some (.deferred (some [])))
  (fun S W => (∃ c, Ix c S W ∧ W.heap[w.heap.size + 1]? = some (.loop (rec .done (some c)))) ∧ W.heap[w.heap.size]? = some (.deferred (some [])))
  (fun k S W h => hK k S W h.1)
  (fun k => ((sI k).mono (by omega)).and ((StbS.old (by omega)).and (StbS.old (by omega))))
  ((StbS.ex fun c => ((sIx c).mono (by omega)).and (StbS.old (by omega))).and (StbS.old (by omega)))
  (fun k hk S0 S W2 y hz2 hS hSS h2 hY => by
   obtain ⟨hi, hl, hD⟩ := h2
   have hy := yield_ofS (P := P) (V := V) (B := w.heap.size) (l := w.heap.size + 1) (fn := b.fn) hrec hbV (hps _ _ _ _ _ hY) (S := S) (by omega) (fun e => by have := (hS _ e).1; omega) (sI (k + 1)) sIx
    (hround k hk _ S0 S W2 y (fun i hi' => ⟨by have := (hS i hi').1; omega, (hS i hi').2⟩) (by omega) hSS hi hY) hl
   refine hy.mono ?_
   rintro e W' (⟨rfl, ⟨h1, h2⟩, h3, h4⟩ | ⟨rfl, ⟨c, h1, h2⟩, h3, h4⟩)
   ·exact .inl ⟨rfl, ⟨h1, h2, (h4 _ (Nat.le_refl _) (by omega) (by omega) (fun e => by have := (hS _ e).1; omega)).trans hD⟩, ⟨h3, fun k hk hlt hS' => h4 k (by omega) hlt (by omega) hS'⟩⟩
   ·exact .inr ⟨rfl, ⟨⟨c, h1, h2⟩, (h4 _ (Nat.le_refl _) (by omega) (by omega) (fun e => by have := (hS _ e).1; omega)).trans hD⟩, ⟨h3, fun k hk hlt hS' => h4 k (by omega) hlt (by omega) hS'⟩⟩)
  ⟨sI 0 _ _ _ _ (fun _ h => h) hg1 h0, hL1, hD1⟩
 have hres : (resolve a.eval (rangeCall g (w.heap.size + 1)) 0).run P W1 = .ok { target := .fn (.func gf) lb, args := #[.func (.yield (w.heap.size + 1)) #[] #[]] } W1 := by
  simp only [resolve, hg]
  simp [go_sem]
 have hinv : (invoke (Target.fn (.func gf) lb) #[.func (.yield (w.heap.size + 1)) #[] #[]]).run P W1 = .ok (.enter gf (#[.func (.yield (w.heap.size + 1)) #[] #[]] ++ lb)) W1 := by
  simp [invoke, go_sem, eg]
 have he : (Instr.enterLoop b.fn a.tmps ps assign body b.roundOf).run P w = .ok (w.heap.size + 1, [{ target := .collected w.heap.size, args := #[] }]) W1 := by
  rw [hro, ← hW1, hrec]; exact run_enterLoop_outer _ _ _ _ _
 have henter := stepR_rangeFunc (P := P) (b := b) (a := a) (k := k) (cs := cs) (w := w) he hres hinv
 obtain ⟨e, w₃, fr, hR, hsteps, hfn, hleave⟩ := hcall (b.atR { a with defers := [{ target := .collected w.heap.size, args := #[] }] ++ a.defers } (.inRangeFunc (w.heap.size + 1) :: k) :: cs)
 obtain ⟨⟨v, rfl⟩, S, hS, hR⟩ := hR
 have hnl : ¬ S (w.heap.size + 1) := fun e => by have := (hS _ e).1; omega
 have sback : ∀ jump w₄, (Instr.endLoop (w.heap.size + 1)).run P w₃ = .ok jump w₄ →
   StepsIn (Machine.fenced P Fence.wide) P (lone (b.atR a (.code (.rangeFunc g ps assign body) :: k)) cs w) (lone (b.atR { a with defers := { target := .collected w.heap.size, args := #[] } :: a.defers } ((jump.map Item.code).toList ++ k)) cs w₄) := by
  intro jump w₄ hend
  refine .head calm0 henter (StepsIn.trans (stepsIn_wide.2 hsteps) (.head calm0 ?_ (.one calm0 (stepR_endRangeFunc hend))))
  rw [← finish_atR_inRangeFunc (w.heap.size + 1) v]; exact step_leave_returned hleave
 rcases hR with ⟨hi, hl, hD⟩ | ⟨⟨c, hi, hl⟩, hD⟩
 ·obtain ⟨W4, hW4⟩ : ∃ W4, W4 = w₃.putObj (w.heap.size + 1) (.loop { rec .ready none with state := .exhausted }) := ⟨_, rfl⟩
  have hend : (Instr.endLoop (w.heap.size + 1)).run P w₃ = .ok none W4 := by
   have := run_endLoop (P := P) hl (by rw [hrec]; simp); rw [hW4]; rw [hrec] at this ⊢; exact this
  have hg4 : GrS w.heap.size S w₃ W4 := by rw [hW4]; exact GrS.putObj _ (by omega) hnl
  have hD4 : W4.heap[w.heap.size]? = some (.deferred (some [])) := by rw [hW4]; exact (World.putObj_heap_other (by omega)).trans hD
  have hz4 : W4.heap.size = w₃.heap.size := by rw [hW4]; simp
  exact ⟨.normal, _, W4, hdone S _ (fun i h => by have := hS i h; omega) (sI _ _ _ _ _ (fun _ h => h) hg4 hi) hD4, sback _ _ hend⟩
 ·obtain ⟨W4, hW4⟩ : ∃ W4, W4 = w₃.putObj (w.heap.size + 1) (.loop { rec .done (some c) with state := .exhausted }) := ⟨_, rfl⟩
  have hend : (Instr.endLoop (w.heap.size + 1)).run P w₃ = .ok (some c) W4 := by
   have := run_endLoop (P := P) hl (by rw [hrec]; simp); rw [hW4]; rw [hrec] at this ⊢; exact this
  have hg4 : GrS w.heap.size S w₃ W4 := by rw [hW4]; exact GrS.putObj _ (by omega) hnl
  have hD4 : W4.heap[w.heap.size]? = some (.deferred (some [])) := by rw [hW4]; exact (World.putObj_heap_other (by omega)).trans hD
  have hz4 : W4.heap.size = w₃.heap.size := by rw [hW4]; simp
  obtain ⟨e', a'', w₅, hq, harr⟩ := hstop c S _ (fun i h => by have := hS i h; omega) (sIx c _ _ _ _ (fun _ h => h) hg4 hi) hD4 b k cs hro hbV
  exact ⟨e', a'', w₅, hq, .of_steps (sback _ _ hend) harr⟩
/-- The statement, as the fenced walk meets it. -/
theorem wpIn_rangeS {g : Operand} {ps : Array Tmp} {assign body : Code} {Q : Exit → Act → World → Prop} {a : Act} {w : World}
  {gf : Nat} {lb : Array Value} (hg : a.eval g = .func (.func gf) #[] lb) (eg : ∀ args w, (callFunc gf args).run P w = .ok (.enter gf args) w)
  {n : Nat} {Y : Nat → (Nat → Prop) → (Nat → Prop) → World → Array Value → Prop} {Ke : World → Prop} (hit : IterS P gf lb n Y Ke) (hps : ∀ k S0 S W y, Y k S0 S W y → y.size = ps.size)
  (I : Nat → (Nat → Prop) → World → Prop) (Ix : Code → (Nat → Prop) → World → Prop)
  (hK : ∀ k S W, I k S W → Ke W) (sI : ∀ k, StbS w.heap.size (I k)) (sIx : ∀ c, StbS w.heap.size (Ix c))
  (h0 : I 0 (fun _ => False) w)
  (hround : ∀ k, k < n → ∀ (l : Nat) S0 S W y, (∀ i, S i → w.heap.size ≤ i ∧ i < W.heap.size) → w.heap.size ≤ W.heap.size → (∀ i, S0 i → S i) → I k S0 W → Y k S0 S W y →
   assign.wpIn (fw (some l)) 0 P (Exit.then (fun a' W' => W' = W ∧ ∀ W2, GrS w.heap.size S W W2 → W2.heap.size = W.heap.size → (∃ r, W2.heap[l]? = some (.loop r)) → body.wpIn (fw (some l)) 0 P (bodyS w.heap.size S (I (k + 1)) Ix W2) a' W2) (fun _ _ _ => False)) { tmps := (ps.zip y).foldl (fun t (p, v) => t.setIfInBounds p v) a.tmps, defers := [] } W)
  (hdone : ∀ S W, (∀ i, S i → w.heap.size ≤ i ∧ i < W.heap.size) → I n S W → W.heap[w.heap.size]? = some (.deferred (some [])) → Q .normal { a with defers := { target := .collected w.heap.size, args := #[] } :: a.defers } W)
  (hstop : ∀ c S W, (∀ i, S i → w.heap.size ≤ i ∧ i < W.heap.size) → Ix c S W → W.heap[w.heap.size]? = some (.deferred (some [])) → c.wpIn (fw none) 0 P Q { a with defers := { target := .collected w.heap.size, args := #[] } :: a.defers } W) :
  (Code.rangeFunc g ps assign body).wpIn (fw none) 0 P Q a w :=
 wpV_all (wpV_rangeS (V := fun _ => True) hg eg hit hps I Ix hK sI sIx h0
  (fun k hk l S0 S W y hS hz hSS h hY => wpV_mono (wpV_of (hround k hk l S0 S W y hS hz hSS h hY)) (fun e a w q => by
   cases e with
   | normal => obtain ⟨h1, h2⟩ := q; exact ⟨h1, fun W2 g z r => wpV_of (h2 W2 g z r)⟩
   | _ => exact q)) hdone (fun c S W hS h hD => wpV_of (hstop c S W hS h hD)))
end
end YtnjgglnpmhjmiaaIt
end Go
/- Maps whose entries are known exactly; slices of the call's own that are cut at their front and grow at their end. Over whatever program. -/
open Go Go.RowKit Go.YtnjgglnpmhjmiaaIt
namespace Go
namespace YtnjgglnpmhjmiaaIt
open Go.Maps (Keyed)
section
variable {P : Program}
/-- Block b is a map with m entries: F tells which. -/
def MapF {α : Type} (enc : α → Value) (w : World) (b m : Nat) (F : α → Option Value) : Prop :=
 ∃ es clock, w.heap[b]? = some (.map es clock) ∧ es.size = m ∧ (es.toList.map MapEntry.key).Nodup ∧ (∀ e ∈ es.toList, ∃ s, e.key = enc s ∧ F s = some e.val) ∧ ∀ s v, F s = some v → ∃ e ∈ es.toList, e.key = enc s
theorem MapF.lt {α : Type} {enc : α → Value} {w : World} {b m : Nat} {F : α → Option Value} (h : MapF enc w b m F) : b < w.heap.size := by
 obtain ⟨es, clock, h1, -⟩ := h
 exact (Array.getElem?_eq_some_iff.1 h1).1
theorem MapF.keep {α : Type} {enc : α → Value} {w w' : World} {b m : Nat} {F : α → Option Value} (h : MapF enc w b m F) (e : w'.heap[b]? = w.heap[b]?) : MapF enc w' b m F := by
 obtain ⟨es, clock, h1, h2⟩ := h
 exact ⟨es, clock, e.trans h1, h2⟩
theorem MapF.below {α : Type} {enc : α → Value} {w w' : World} {b m : Nat} {F : α → Option Value} (h : MapF enc w b m F) (hb : Below w.heap.size w w') : MapF enc w' b m F := h.keep (hb.block b h.lt)
theorem MapF.congr {α : Type} {enc : α → Value} {w : World} {b m : Nat} {F G : α → Option Value} (h : MapF enc w b m F) (e : ∀ s, G s = F s) : MapF enc w b m G := by
 rw [show G = F from funext e]; exact h
theorem mapF_new {α : Type} (enc : α → Value) (w : World) (c : Nat) : MapF enc (w.alloc (.map #[] c)) w.heap.size 0 (fun _ => none) := ⟨#[], c, World.alloc_heap_new w _, rfl, by simp, fun e he => by simp at he, fun s v h => by cases h⟩
/-- A look-up. -/
theorem MapF.look {α : Type} {enc : α → Value} {w : World} {b m : Nat} {F : α → Option Value} (h : MapF enc w b m F) {t k e : TypeId} (K : Keyed P k) (ht : P.underlying t = some (.map k e)) {z : Value} (hz : ∀ w, (zeroValue e).run P w = .ok z w)
  (hinj : ∀ s t, enc s = enc t → s = t) (hF : ∀ s v, F s = some v → ∃ l, keyOf P k (enc s) = some l) {s : α} (hs : ∃ l, keyOf P k (enc s) = some l) (W : World) (hW : W.heap[b]? = w.heap[b]?) :
  (Instr.lookup t (.map (some b)) (enc s) true).run P W = .ok (.tuple #[(F s).getD z, .bool (F s).isSome]) W ∧ (Instr.lookup t (.map (some b)) (enc s) false).run P W = .ok ((F s).getD z) W := by
 obtain ⟨es, clock, hb0, -, -, hes, hFs⟩ := h
 obtain ⟨kl, hkey⟩ := hs
 have hk : ∀ x ∈ es.toList, ∃ l, keyOf P k x.key = some l := fun x hx => by
  obtain ⟨t, e1, e2⟩ := hes x hx
  rw [e1]; exact hF t _ e2
 have hb := hW.trans hb0
 have hu := run_underlying (P := P) ht W
 have hck := K.check W es.isEmpty hkey
 rcases K.find W hkey es.toList hk with ⟨hf, hno⟩ | ⟨j, x, hf, hj, hx⟩
 ·have hn : F s = none := by
   cases hfs : F s with
   | none => rfl
   | some v =>
    obtain ⟨x, hx, e⟩ := hFs s v hfs
    exact absurd e (hno x hx)
  rw [hn]
  constructor
  ·unfold Instr.lookup
   simp [Sem.run_bind, hu, run_getObj_map hb, hck, hf, hz, Result.andThen]
  ·unfold Instr.lookup
   simp [Sem.run_bind, hu, run_getObj_map hb, hck, hf, hz, Result.andThen]
 ·obtain ⟨t', e1, e2⟩ := hes x (List.mem_of_getElem? hj)
  have hst : t' = s := hinj _ _ (e1.symm.trans hx)
  rw [hst] at e2
  rw [e2]
  constructor
  ·unfold Instr.lookup
   simp [Sem.run_bind, hu, run_getObj_map hb, hck, hf, Result.andThen]
  ·unfold Instr.lookup
   simp [Sem.run_bind, hu, run_getObj_map hb, hck, hf, Result.andThen]
def updF {α : Type} [DecidableEq α] (F : α → Option Value) (s : α) (v : Value) : α → Option Value := fun t => if t = s then some v else F t
/-- A store. -/
theorem MapF.update {α : Type} [DecidableEq α] {enc : α → Value} {w : World} {b m : Nat} {F : α → Option Value} (h : MapF enc w b m F) {t k e : TypeId} (K : Keyed P k) (ht : P.underlying t = some (.map k e))
  (hinj : ∀ s t, enc s = enc t → s = t) (hF : ∀ s v, F s = some v → ∃ l, keyOf P k (enc s) = some l) {s : α} (hs : ∃ l, keyOf P k (enc s) = some l) (v : Value) :
  ∃ o, (Instr.mapUpdate t (.map (some b)) (enc s) v).run P w = .ok () (w.putObj b o) ∧ MapF enc (w.putObj b o) b (if (F s).isSome = true then m else m + 1) (updF F s v) := by
 have hlt := h.lt
 obtain ⟨es, clock, hb, hm, hnd, hes, hFs⟩ := h
 obtain ⟨kl, hkey⟩ := hs
 have hk : ∀ x ∈ es.toList, ∃ l, keyOf P k x.key = some l := fun x hx => by
  obtain ⟨t, e1, e2⟩ := hes x hx
  rw [e1]; exact hF t _ e2
 have hu := run_underlying (P := P) ht w
 have hck := K.check w false hkey
 rcases K.find w hkey es.toList hk with ⟨hf, hno⟩ | ⟨j, x, hf, hj, hx⟩
 ·have hn : F s = none := by
   cases hfs : F s with
   | none => rfl
   | some v =>
    obtain ⟨x, hx, e⟩ := hFs s v hfs
    exact absurd e (hno x hx)
  refine ⟨.map (es.push { key := enc s, val := v, born := clock }) (clock + 1), ?_, _, _, World.putObj_heap_same hlt, by simp [hn, hm], ?_, fun x hx => ?_, fun t u hu' => ?_⟩
  ·unfold Instr.mapUpdate
   simp [Sem.run_bind, hu, run_getObj_map hb, hck, hf, run_setObj_map _ hb, Result.andThen]
  ·rw [Array.toList_push, List.map_append, List.nodup_append]
   refine ⟨hnd, by simp, fun a ha b hb' e => ?_⟩
   obtain ⟨x, hx, rfl⟩ := List.mem_map.1 ha
   have : b = enc s := by simpa using hb'
   exact hno x hx (e.trans this)
  ·simp only [Array.toList_push, List.mem_append, List.mem_singleton] at hx
   rcases hx with hx | rfl
   ·obtain ⟨t, e1, e2⟩ := hes x hx
    refine ⟨t, e1, ?_⟩
    have hts : t ≠ s := fun e => by rw [e, hn] at e2; cases e2
    simp [updF, hts, e2]
   ·exact ⟨s, rfl, by simp [updF]⟩
  ·by_cases hts : t = s
   ·subst hts
    exact ⟨{ key := enc t, val := v, born := clock }, by simp, rfl⟩
   ·simp only [updF, if_neg hts] at hu'
    obtain ⟨x, hx, e1⟩ := hFs t u hu'
    exact ⟨x, by simp [hx], e1⟩
 ·have hj' : es[j]? = some x := by simpa using hj
  obtain ⟨t', e1, e2⟩ := hes x (List.mem_of_getElem? hj)
  have hst : t' = s := hinj _ _ (e1.symm.trans hx)
  rw [hst] at e1 e2
  refine ⟨.map (es.modify j fun e => { e with key := enc s, val := v }) clock, ?_, _, _, World.putObj_heap_same hlt, by simp [e2, hm], ?_, fun y hy => ?_, fun t u hu' => ?_⟩
  ·unfold Instr.mapUpdate
   have hst := K.stays w hkey
   simp [Sem.run_bind, hu, run_getObj_map hb, hck, hf, hj', e1, hst, run_setObj_map _ hb, Result.andThen]
  ·have hsame : (es.modify j fun e => { e with key := enc s, val := v }).toList.map MapEntry.key = es.toList.map MapEntry.key := by
    refine List.ext_getElem? fun i => ?_
    simp only [List.getElem?_map, Array.getElem?_toList, Array.getElem?_modify]
    by_cases hij : j = i
    ·subst hij; rw [if_pos rfl, hj']; simp [e1]
    ·rw [if_neg hij]
   rw [hsame]; exact hnd
  ·obtain ⟨i, hi⟩ := List.getElem?_of_mem hy
   simp only [Array.getElem?_toList, Array.getElem?_modify] at hi
   by_cases hij : j = i
   ·subst hij
    rw [if_pos rfl, hj'] at hi
    simp at hi
    subst hi
    exact ⟨s, rfl, by simp [updF]⟩
   ·rw [if_neg hij] at hi
    obtain ⟨t, e3, e4⟩ := hes y (List.mem_of_getElem? (by simpa using hi))
    refine ⟨t, e3, ?_⟩
    unfold updF
    by_cases hts : t = s
    ·exfalso
     subst hts
     have hi2 : es.toList[i]? = some y := by simpa using hi
     have hp := List.pairwise_iff_getElem.1 hnd
     obtain ⟨hil, hie⟩ := List.getElem?_eq_some_iff.1 hi2
     obtain ⟨hjl, hje⟩ := List.getElem?_eq_some_iff.1 hj
     have he : (es.toList.map MapEntry.key)[i]'(by simpa using hil) = (es.toList.map MapEntry.key)[j]'(by simpa using hjl) := by
      rw [List.getElem_map, List.getElem_map, hie, hje, e3, e1]
     rcases Nat.lt_or_ge i j with h3 | h3
     ·exact hp i j (by simpa using hil) (by simpa using hjl) h3 he
     ·exact hp j i (by simpa using hjl) (by simpa using hil) (by omega) he.symm
    ·rw [if_neg hts]; exact e4
  ·by_cases hts : t = s
   ·subst hts
    refine ⟨{ x with key := enc t, val := v }, ?_, rfl⟩
    refine List.mem_of_getElem? (i := j) ?_
    simp [hj']
   ·simp only [updF, if_neg hts] at hu'
    obtain ⟨y, hy, e5⟩ := hFs t u hu'
    obtain ⟨i, hi⟩ := List.getElem?_of_mem hy
    have hij : j ≠ i := fun e => by
     subst e
     rw [hj] at hi
     cases hi
     exact hts (hinj _ _ (e5.symm.trans e1))
    refine ⟨y, List.mem_of_getElem? (i := i) ?_, e5⟩
    simp only [Array.getElem?_toList, Array.getElem?_modify, if_neg hij]
    simpa using hi
/-! ### Slices that are cut at their front -/
theorem heap_setCells {g : Nat} {e : TypeId} {fr : Nat × Nat} : ∀ (vs : List Value) (o : Nat) {w : World} {cur : Array Value}, w.heap[g]? = some (.cells cur e fr) →
  ∃ cur', (w.setCells g o vs).heap[g]? = some (.cells cur' e fr) ∧ cur'.size = cur.size ∧ ∀ i, cur'[i]? = if o ≤ i ∧ i < o + vs.length ∧ i < cur.size then vs[i - o]? else cur[i]?
 | [], o, w, cur, h => ⟨cur, h, rfl, fun i => by rw [if_neg (by simp only [List.length_nil]; omega)]⟩
 | v :: vs, o, w, cur, h => by
  have h1 : (w.setCell ⟨g, o, none⟩ v).heap[g]? = some (.cells (cur.setIfInBounds o v) e fr) := by
   have hlt := (Array.getElem?_eq_some_iff.1 h).1
   unfold World.setCell
   simp [h, Array.getElem?_modify]
  obtain ⟨cur', k1, k2, k3⟩ := heap_setCells vs (o + 1) h1
  refine ⟨cur', k1, by simpa using k2, fun i => ?_⟩
  rw [k3 i]
  simp only [Array.size_setIfInBounds, List.length_cons]
  by_cases hi : o = i
  ·subst hi
   rw [if_neg (by omega)]
   by_cases hs : o < cur.size
   ·rw [if_pos (by omega)]; simp [hs]
   ·rw [if_neg (by omega)]; simp [hs]
  ·by_cases hc : o + 1 ≤ i ∧ i < o + 1 + vs.length ∧ i < cur.size
   ·rw [if_pos hc, if_pos (by omega), show i - o = (i - (o + 1)) + 1 by omega]; simp
   ·rw [if_neg hc, if_neg (by omega), Array.getElem?_setIfInBounds_ne hi]
theorem setCells_same (b : Nat) : ∀ (vs : List Value) (o : Nat) (w : World), (w.setCells b o vs).os = w.os ∧ (w.setCells b o vs).tape = w.tape ∧ (w.setCells b o vs).output = w.output ∧ (w.setCells b o vs).heap.size = w.heap.size
 | [], _, _ => ⟨rfl, rfl, rfl, rfl⟩
 | v :: vs, o, w => by
  obtain ⟨h1, h2, h3, h4⟩ := setCells_same b vs (o + 1) (w.setCell ⟨b, o, none⟩ v)
  exact ⟨h1, h2, h3, h4.trans (World.size_setCell ..)⟩
/-- A slice of the call's own: n elements of sz cells each, anywhere in its block. -/
def QuO (w : World) (base : Nat) (e : TypeId) (sz : Nat) (g : Nat) (v : Value) (n : Nat) (xs : List Value) : Prop :=
 ∃ off cap cur, v = .slice (some ⟨g, off, none⟩) n cap ∧ base ≤ g ∧ w.heap[g]? = some (.cells cur e (0, 0)) ∧ n ≤ cap ∧ off + cap * sz ≤ cur.size ∧ xs.length = n * sz ∧ ∀ j, j < xs.length → cur[off + j]? = xs[j]?
theorem QuO.lt {w : World} {base : Nat} {e : TypeId} {sz g : Nat} {v : Value} {n : Nat} {xs : List Value} (h : QuO w base e sz g v n xs) : g < w.heap.size := by
 obtain ⟨off, cap, cur, -, -, h1, -⟩ := h
 exact (Array.getElem?_eq_some_iff.1 h1).1
theorem QuO.base {w : World} {base : Nat} {e : TypeId} {sz g : Nat} {v : Value} {n : Nat} {xs : List Value} (h : QuO w base e sz g v n xs) : base ≤ g := by
 obtain ⟨off, cap, cur, -, h1, -⟩ := h
 exact h1
theorem QuO.keep {w w' : World} {base : Nat} {e : TypeId} {sz g : Nat} {v : Value} {n : Nat} {xs : List Value} (h : QuO w base e sz g v n xs) (hk : w'.heap[g]? = w.heap[g]?) : QuO w' base e sz g v n xs := by
 obtain ⟨off, cap, cur, h0, hb, h1, h2⟩ := h
 exact ⟨off, cap, cur, h0, hb, hk.trans h1, h2⟩
theorem QuO.form {w : World} {base : Nat} {e : TypeId} {sz g : Nat} {v : Value} {n : Nat} {xs : List Value} (h : QuO w base e sz g v n xs) : ∃ off cap, v = .slice (some ⟨g, off, none⟩) n cap := by
 obtain ⟨off, cap, cur, h0, -⟩ := h
 exact ⟨off, cap, h0⟩
theorem QuO.at_ {w : World} {base : Nat} {e : TypeId} {sz g off : Nat} {n cap : Nat} {xs : List Value} (h : QuO w base e sz g (.slice (some ⟨g, off, none⟩) n cap) n xs) {j : Nat} (hj : j < xs.length) : w.cell? ⟨g, off + j, none⟩ = xs[j]? := by
 obtain ⟨off', cap', cur, h0, -, h1, -, -, -, h5⟩ := h
 injection h0 with h0 _ _
 injection h0 with h0
 injection h0 with _ h0 _
 subst h0
 rw [← h5 j hj]
 simp [World.cell?, h1]
/-- The first element is cut off. -/
theorem QuO.cut {w : World} {base : Nat} {e : TypeId} {sz g off : Nat} {n cap : Nat} {xs : List Value} (h : QuO w base e sz g (.slice (some ⟨g, off, none⟩) (n + 1) cap) (n + 1) xs) : QuO w base e sz g (.slice (some ⟨g, off + sz, none⟩) n (cap - 1)) n (xs.drop sz) := by
 obtain ⟨off', cap', cur, h0, hb, h1, h2, h3, h4, h5⟩ := h
 injection h0 with h0 _ hc
 injection h0 with h0
 injection h0 with _ h0 _
 subst h0 hc
 obtain ⟨c, rfl⟩ : ∃ c, cap = c + 1 := ⟨cap - 1, by omega⟩
 rw [Nat.add_mul] at h3 h4
 refine ⟨_, _, cur, rfl, hb, h1, by omega, ?_, by rw [List.length_drop]; omega, fun j hj => ?_⟩
 ·rw [Nat.add_sub_cancel]; omega
 ·rw [List.length_drop] at hj
  rw [List.getElem?_drop, ← h5 (sz + j) (by omega), Nat.add_assoc]
/-- One more behind it. -/
theorem run_append_q {w : World} {base : Nat} {e : TypeId} {size g : Nat} {v : Value} {n : Nat} {xs : List Value} (h : QuO w base e size g v n xs) (t ty : TypeId) (i : TypeInfo) (z : Value) (bytes : Nat) (ht : P.underlying t = some (.slice e)) (hi : P.info? e = some i) (hz : i.zero = some z)
  (hsize : i.size = size) (hby : i.bytes = bytes) (hzs : z.cells.size = size) (a : Addr) (c : Nat) (news : List Value) (hl : news.length = size) (hnews : ∀ j u, news[j]? = some u → w.cell? (a.add j) = some u) (h1 : ∀ u ∈ news, u.oneCell' = true)
  (h63 : n + 1 ≤ maxLen) (hbytes : (n + 1) * bytes ≤ 140737488355328) (hbase : base ≤ w.heap.size) :
  ∃ v' w' g', (Builtin.append_ #[t, t] ty #[v, .slice (some a) 1 c]).run P w = .ok v' w' ∧ QuO w' base e size g' v' (n + 1) (xs ++ news) ∧ (g' = g ∨ g' = w.heap.size) ∧ (w'.os = w.os ∧ w'.tape = w.tape ∧ w'.output = w.output ∧ w.heap.size ≤ w'.heap.size) ∧ ∀ k, k < w.heap.size → k ≠ g → w'.heap[k]? = w.heap[k]? := by
 obtain ⟨off, cap, cur, rfl, hb, hg, hn, hfit, hx, hxs⟩ := h
 subst hsize
 subst hby
 have hl1 : news.length = 1 * i.size := by rw [hl, Nat.one_mul]
 by_cases hroom : n + 1 ≤ cap
 ·have hfit2 : off + n * i.size + i.size ≤ cur.size := by
   have : (n + 1) * i.size ≤ cap * i.size := Nat.mul_le_mul_right _ hroom
   rw [Nat.add_mul] at this; omega
  have hs := Src.ofSlice (P := P) (w := w) ht a 1 c news hl1 hnews h1
  have hr := run_append_room_src (P := P) w t t ty e i ht hi g off n cap (.slice (some a) 1 c) 1 news hs hroom (fun j hj => by
   simp only [World.cell?, hg]
   rw [hl] at hj
   simp; omega) (fun j hj => by simp [World.frozen?, hg])
  obtain ⟨cur', k1, k2, k3⟩ := heap_setCells news (off + n * i.size) hg
  refine ⟨_, _, g, hr, ⟨off, cap, cur', rfl, hb, k1, hroom, by rw [k2]; exact hfit, by rw [List.length_append, hx, hl, Nat.add_mul, Nat.one_mul], fun j hj => ?_⟩, .inl rfl, by obtain ⟨q1, q2, q3, q4⟩ := setCells_same g news (off + n * i.size) w; exact ⟨q1, q2, q3, Nat.le_of_eq q4.symm⟩, fun k hk hne => World.heap_setCells_other w g _ news hk hne⟩
  rw [k3]
  rw [List.length_append, hx, hl] at hj
  by_cases hj2 : j < n * i.size
  ·rw [if_neg (by omega), hxs j (by omega), List.getElem?_append_left (by omega)]
  ·rw [if_pos (by omega), List.getElem?_append_right (by omega), hx, show off + j - (off + n * i.size) = j - n * i.size by omega]
 ·have hgrow : cap < n + 1 := by omega
  have hsmall : n + 1 ≤ 9223372036854775807 := by simp only [maxLen] at h63; omega
  have hr := run_append_grow (P := P) w t ty e i z ht hi hz ⟨g, off, none⟩ n cap xs hx (fun j u hu => by
   have hj := (List.getElem?_eq_some_iff.1 hu).1
   rw [← hu, ← hxs j hj, Addr.add_lit]
   simp [World.cell?, hg]) a 1 c news hl1 hnews hgrow (by omega) (growslice_fits hgrow hbytes)
  have hge := grownCap_ge w (n + 1) cap e
  refine ⟨_, _, w.heap.size, hr, ⟨0, _, _, rfl, hbase, World.alloc_heap_new w.drew _, hge, ?_, by rw [List.length_append, hx, hl, Nat.add_mul, Nat.one_mul], fun j hj => ?_⟩, .inr rfl, ⟨rfl, rfl, rfl, by simp⟩, fun k hk _ => Below.heap_alloc w.drew _ k hk⟩
  ·simp only [Array.size_append, List.size_toArray, size_zeroCells, hzs, hx, hl, Nat.zero_add]
   have : (grownCap w (n + 1) cap e - (n + 1)) * i.size + (n + 1) * i.size = grownCap w (n + 1) cap e * i.size := by rw [← Nat.add_mul]; congr 1; omega
   rw [Nat.add_mul, Nat.one_mul] at this
   omega
  ·rw [Nat.zero_add, ← Array.getElem?_toList]
   simp only [Array.toList_append]
   rw [List.getElem?_append_left (by simpa using hj)]
theorem oper_append_q {o : Oper} {a : Act} {w : World} {K : Act → World → Prop} {Q : Exit → Act → World → Prop} (s x : Operand) (t : TypeId) (ho : o.op = .call { callee := .builtin .append, args := #[s, x], argTypes := #[t, t] })
  {base : Nat} {e : TypeId} {size g : Nat} {v : Value} {n : Nat} {xs : List Value} (h : QuO w base e size g v n xs) (hs : a.eval s = v) (i : TypeInfo) (z : Value) (bytes : Nat) (ht : P.underlying t = some (.slice e)) (hi : P.info? e = some i) (hz : i.zero = some z)
  (hsize : i.size = size) (hby : i.bytes = bytes) (hzs : z.cells.size = size) (ad : Addr) (c : Nat) (news : List Value) (hx : a.eval x = .slice (some ad) 1 c) (hl : news.length = size) (hnews : ∀ j u, news[j]? = some u → w.cell? (ad.add j) = some u) (h1 : ∀ u ∈ news, u.oneCell' = true)
  (h63 : n + 1 ≤ maxLen) (hbytes : (n + 1) * bytes ≤ 140737488355328) (hbase : base ≤ w.heap.size)
  (hK : ∀ v' w' g', QuO w' base e size g' v' (n + 1) (xs ++ news) → (g' = g ∨ g' = w.heap.size) → (w'.os = w.os ∧ w'.tape = w.tape ∧ w'.output = w.output ∧ w.heap.size ≤ w'.heap.size) → (∀ k, k < w.heap.size → k ≠ g → w'.heap[k]? = w.heap[k]?) → K (a.put o.dst v') w') : o.wp P a w K Q := by
 obtain ⟨v', w', g', hrun, r1, r2, r3, r4⟩ := run_append_q (P := P) h t o.type i z bytes ht hi hz hsize hby hzs ad c news hl hnews h1 h63 hbytes hbase
 unfold Oper.wp execOp
 simp only [ho, resolve, invoke, builtin, Sem.run_bind, Sem.run_pure, Result.andThen_ok, List.map_toArray, List.map_cons, List.map_nil, hs, hx, hrun]
 exact hK _ _ _ r1 r2 r3 r4
/-- A map is looked up: it yields the same in whatever world has it. -/
theorem yields_lookup {C : World → Prop} {a : Act} {o : Oper} (t : TypeId) (m k : Operand) (ok : Bool) (ho : o.op = .lookup t m k ok) {mv kv v : Value} (hm : a.eval m = mv) (hk : a.eval k = kv) (hrun : ∀ W, C W → (Instr.lookup t mv kv ok).run P W = .ok v W) :
  ∀ w, C w → (execOp a.eval o).run P w = .ok (.value v) w := by
 intro w hw
 unfold execOp
 simp only [ho, hm, hk, Sem.run_bind, hrun w hw, Result.andThen_ok, Sem.run_pure]
end
end YtnjgglnpmhjmiaaIt
end Go
/- Within an iterator: a region whose order is open and that may call a round: a condition on the world is held until operation z has come up (a store that waits for the loads), another one to the end. Over whatever program. -/
open Go Go.RowKit Go.YtnjgglnpmhjmiaaIt
namespace Go
namespace YtnjgglnpmhjmiaaIt
section
variable {P : Program} {ops : Array Oper} {Q : Exit → Act → World → Prop} {md : Region.Mode} {R S : World → Prop} {z : Nat}
/-- Whatever order is picked, R holds to the end, and S until z has come up. -/
def wpAnyW (P : Program) (md : Region.Mode) (ops : Array Oper) (Q : Exit → Act → World → Prop) (R S : World → Prop) (z : Nat) : Nat → Array Bool → Act → World → Prop
 | 0, listed, a, w => Region.ready md ops listed = [] ∧ Q .normal a w
 | fuel + 1, listed, a, w =>
  (Region.ready md ops listed = [] → Q .normal a w) ∧
  ∀ i ∈ Region.ready md ops listed, wpOpIn (fw none) 0 P ops Q i (fun a' w' => (R w' ∧ ((listed.setIfInBounds i true).getD z true = false → S w')) ∧ wpAnyW P md ops Q R S z fuel (listed.setIfInBounds i true) a' w') a w
theorem yieldsIf_wpOpW {T : World → Prop} {i : Nat} {o : Oper} {v : Value} {a : Act} (hi : ops[i]? = some o) (hy : YieldsIf P ops T o v a) {K : Act → World → Prop} {w : World} (hS : T w) (h : K (a.put o.dst v) w) : wpOpIn (fw none) 0 P ops Q i K a w := by
 unfold Go.wpOpIn
 simp only [hi]
 have hab : ∀ f, o.about P w a.eval = some f → (fw none).fn f := fun _ _ => trivial
 rcases hy with ⟨hw, hv⟩ | ⟨hw, rfl⟩
 ·simp only [hw, if_true, Oper.wpIn, fw_round, Oper.semAt_none, hv w hS, Oper.uponIn]; exact ⟨hab, h⟩
 ·simp only [hw, Bool.false_eq_true, if_false]; exact ⟨hab, h⟩
theorem wpOpIn_putIf {T : World → Prop} {j : Nat} {oi oj : Oper} {v : Value} (hj : ops[j]? = some oj) (hap : oi.apart ops oj = true)
  (hsi : ∀ cs b, oi.op ≠ .select cs b) (hsj : ∀ cs b, oj.op ≠ .select cs b)
  (hQ : ∀ c a w, Q (.panic c) (a.put oi.dst v) w → Q (.panic c) a w) {K : Act → World → Prop} {a : Act} {w : World}
  (hy : YieldsIf P ops T oi v a) (h : wpOpIn (fw none) 0 P ops Q j K (a.put oi.dst v) w) :
  wpOpIn (fw none) 0 P ops Q j (fun a' w' => YieldsIf P ops T oi v a' ∧ K (a'.put oi.dst v) w') a w := by
 obtain ⟨h1, h2, h3⟩ := Oper.apart_spec hap
 have keep : ∀ (a : Act), YieldsIf P ops T oi v a → ∀ u, YieldsIf P ops T oi v (a.put oj.dst u) := fun a hy u =>
  hy.of_same (execOp_put oi hsi a oj.dst u h3) (wanted_put oi a oj.dst u h3)
 have keepD : ∀ d, YieldsIf P ops T oi v { a with defers := d :: a.defers } := fun d => hy.of_same rfl rfl
 unfold wpOpIn at *
 simp only [hj] at *
 rw [wanted_put oj a oi.dst v h1] at h
 split
 ·rename_i hw
  simp only [hw, if_true] at h
  unfold Oper.wpIn at *
  refine ⟨fun _ _ => trivial, ?_⟩
  have h := h.2
  rw [fw_round, Oper.semAt_none, execOp_put oj hsj a oi.dst v h1] at h
  rw [fw_round, Oper.semAt_none]
  generalize (execOp a.eval oj).run P w = r at *
  cases r with
  | ok x w' =>
   cases x <;> simp only [Oper.uponIn] at h ⊢
   case value u => exact ⟨keep a hy u, by rw [← Act.put_comm a v u h2]; exact h⟩
   case skip => exact ⟨keep a hy _, by rw [← Act.put_comm a v undef h2]; exact h⟩
   case defer d =>
    refine ⟨keep _ (keepD d) _, ?_⟩
    rw [← Act.put_comm _ v undef h2, ← Act.put_defers]
    exact h
   case enter f args =>
    refine ⟨h.1, CallsIn.mono h.2 fun e w'' he => ?_⟩
    cases e with
    | returned u => exact ⟨keep a hy u, by rw [← Act.put_comm a v u h2]; exact he⟩
    | panicked c => exact hQ _ _ _ he
    | outgrown => exact he
   case row row args => exact ⟨h.1, RowsIn.mono h.2 fun u w'' he => ⟨keep a hy u, by rw [← Act.put_comm a v u h2]; exact he⟩⟩
   case round l f tmps assign body =>
    refine ⟨h.1, RoundIn.mono h.2 fun e w'' he => ?_⟩
    cases e with
    | returned u => exact ⟨keep a hy u, by rw [← Act.put_comm a v u h2]; exact he⟩
    | panicked c => exact hQ _ _ _ he
    | outgrown => exact he
  | halt x w' =>
   cases x <;> simp only [Oper.uponIn] at h ⊢
   case panic u => exact hQ _ _ _ h
 ·rename_i hw
  simp only [hw] at h
  exact ⟨fun _ _ => trivial, keep a hy _, by rw [← Act.put_comm a v undef h2]; exact h.2⟩
theorem wpAnyIn_of_w : ∀ (fuel : Nat) (listed : Array Bool) (a : Act) (w : World), wpAnyW P md ops Q R S z fuel listed a w → wpAnyIn (fw none) 0 P md ops Q fuel listed a w
 | 0, _, _, _, h => h
 | fuel + 1, _, _, _, h => ⟨h.1, fun i hi => wpOpIn_mono (fun a' w' h' => wpAnyIn_of_w fuel _ a' w' h'.2) (h.2 i hi)⟩
theorem wpAnyW_first {i : Nat} {oi : Oper} {v : Value} {T : World → Prop} (hi : ops[i]? = some oi) (hsel : ∀ (j : Nat) (o : Oper) cs b, ops[j]? = some o → o.op ≠ .select cs b)
  (hQ : ∀ c a w, Q (.panic c) (a.put oi.dst v) w → Q (.panic c) a w) (hiz : i ≠ z) (hT : (waitsB md ops z i = true ∧ T = fun w => R w ∧ S w) ∨ T = R) :
  ∀ (fuel : Nat) (listed : Array Bool) (a : Act) (w : World), (waitsB md ops z i = true → (T = fun w => R w ∧ S w) → listed.getD z true = false) →
   (∀ j oj, ops[j]? = some oj → j ≠ i → listed.getD j true = false → (∀ e ∈ oj.after, Region.binds md e = true → e.on ≠ i) → oi.apart ops oj = true) →
   i ∈ Region.ready md ops listed → YieldsIf P ops T oi v a → (R w ∧ (listed.getD z true = false → S w)) →
   wpAnyW P md ops Q R S z fuel (listed.setIfInBounds i true) (a.put oi.dst v) w → wpAnyW P md ops Q R S z (fuel + 1) listed a w := by
 have hTw : ∀ {listed : Array Bool} {w : World}, (waitsB md ops z i = true → (T = fun w => R w ∧ S w) → listed.getD z true = false) → R w ∧ (listed.getD z true = false → S w) → T w := fun h1 h2 => by
  rcases hT with ⟨a, rfl⟩ | rfl
  ·exact ⟨h2.1, h2.2 (h1 a rfl)⟩
  ·exact h2.1
 intro fuel
 induction fuel with
 | zero =>
  intro listed a w hzz _ hr hy hS H
  refine ⟨fun h => (by rw [h] at hr; cases hr), fun j hj => ?_⟩
  by_cases hji : j = i
  ·subst hji; exact yieldsIf_wpOpW hi hy (hTw hzz hS) ⟨⟨hS.1, fun h => hS.2 (getD_set_le h)⟩, H⟩
  ·have := ready_mono hj hji
   rw [H.1] at this
   cases this
 | succ fuel ih =>
  intro listed a w hzz hfree hr hy hS H
  refine ⟨fun h => (by rw [h] at hr; cases hr), fun j hj => ?_⟩
  by_cases hji : j = i
  ·subst hji; exact yieldsIf_wpOpW hi hy (hTw hzz hS) ⟨⟨hS.1, fun h => hS.2 (getD_set_le h)⟩, H⟩
  ·have h1 := H.2 j (ready_mono hj hji)
   obtain ⟨hjun, oj, hoj, hall⟩ := mem_ready.1 hj
   have hnot : ∀ e ∈ oj.after, Region.binds md e = true → e.on ≠ i := fun e he hb heq => by
    have h1 := hall e he hb
    have h0 := (mem_ready.1 hr).1
    rw [heq] at h1
    rcases Nat.lt_or_ge i listed.size with h' | h'
    ·simp [h'] at h0 h1; rw [h0] at h1; cases h1
    ·simp [Array.getElem?_eq_none h'] at h1
   have h2 := wpOpIn_putIf hoj (hfree j oj hoj hji hjun hnot) (fun cs b => hsel i oi cs b hi) (fun cs b => hsel j oj cs b hoj) hQ hy h1
   have hzz' : waitsB md ops z i = true → (T = fun w => R w ∧ S w) → (listed.setIfInBounds j true).getD z true = false := fun hw hTS => by
    have h0 := hzz hw hTS
    have hjz : j ≠ z := fun e => by
     subst e
     unfold waitsB at hw
     rw [hoj] at hw
     obtain ⟨e, he, hb⟩ := Array.any_eq_true'.1 hw
     simp only [Bool.and_eq_true, beq_iff_eq] at hb
     exact hnot e he hb.1 hb.2
    rw [getD_set_ne true hjz]; exact h0
   have hfree' : ∀ k ok, ops[k]? = some ok → k ≠ i → (listed.setIfInBounds j true).getD k true = false →
     (∀ e ∈ ok.after, Region.binds md e = true → e.on ≠ i) → oi.apart ops ok = true := fun k ok hk hki hun hno => by
    refine hfree k ok hk hki ?_ hno
    by_cases hjk : j = k
    ·subst hjk; exact hjun
    ·rw [getD_set_ne true hjk] at hun; exact hun
   have hcomm : (listed.setIfInBounds i true).setIfInBounds j true = (listed.setIfInBounds j true).setIfInBounds i true := Array.setIfInBounds_comm _ _ (Ne.symm hji)
   have hback : ∀ {W : World}, (((listed.setIfInBounds i true).setIfInBounds j true).getD z true = false → S W) → (z ≠ i → (listed.setIfInBounds j true).getD z true = false → S W) := fun h hz h0 => h (by rw [hcomm, getD_set_ne true (Ne.symm hz)]; exact h0)
   refine wpOpIn_mono (fun a' w' h3 => ?_) h2
   refine ⟨⟨h3.2.1.1, hback h3.2.1.2 (Ne.symm hiz)⟩, ih (listed.setIfInBounds j true) a' w' hzz' hfree' (ready_mono hr (Ne.symm hji)) h3.1 ⟨h3.2.1.1, hback h3.2.1.2 (Ne.symm hiz)⟩ ?_⟩
   rw [← hcomm]
   exact h3.2.2
/-- Take number i first: it needs only what holds to the end. -/
theorem wpAnyW_keep {i : Nat} {oi : Oper} {v : Value} {fuel : Nat} {listed : Array Bool} {a : Act} {w : World} (hi : ops[i]? = some oi)
  (hs : Region.noSelect ops = true) (hf : (Region.free md ops listed i && decide (i ≠ z) && !(waitsB md ops z i && listed.getD z true)) = true) (hr : (Region.ready md ops listed).contains i = true)
  (hQ : ∀ c a w, Q (.panic c) (a.put oi.dst v) w → Q (.panic c) a w) (hy : YieldsIf P ops R oi v a) (hS : R w ∧ (listed.getD z true = false → S w))
  (h : wpAnyW P md ops Q R S z fuel (listed.setIfInBounds i true) (a.put oi.dst v) w) : wpAnyW P md ops Q R S z (fuel + 1) listed a w := by
 simp only [Bool.and_eq_true, Bool.not_eq_true', decide_eq_true_eq, Bool.and_eq_false_iff] at hf
 exact wpAnyW_first (T := R) hi (Region.noSelect_spec hs) hQ hf.1.2 (.inr rfl) fuel listed a w (fun h1 _ => hf.2.resolve_left (by rw [h1]; simp)) (Region.free_spec hi hf.1.1) (by simpa using hr) hy hS h
theorem wpAnyW_done {listed : Array Bool} {a : Act} {w : World} (hr : Region.ready md ops listed = []) (h : Q .normal a w) :
  ∀ fuel, wpAnyW P md ops Q R S z fuel listed a w
 | 0 => ⟨hr, h⟩
 | _ + 1 => ⟨fun _ => h, by rw [hr]; simp⟩
theorem wpIn_region_w {id : Nat} {a : Act} {w : World} (hm : P.follows .mixedOrders = true)
  (h : wpAnyW P .any ops Q R S z ops.size (Array.replicate ops.size false) a { w with drawn := w.drawn + 1 }) : (Code.region id ops true).wpIn (fw none) 0 P Q a w :=
 wpIn_region_any hm (wpAnyIn_of_w _ _ _ _ h)
/-- The only one that may come up comes up. -/
theorem wpAnyW_one {i : Nat} {o : Oper} {fuel : Nat} {listed : Array Bool} {a : Act} {w : World} (hr : Region.ready md ops listed = [i]) (ho : ops[i]? = some o) (hw : Region.wanted o (yielded ops a.tmps) = true)
  (h : ∀ K : Act → World → Prop, (∀ a' w', (R w' ∧ ((listed.setIfInBounds i true).getD z true = false → S w')) → wpAnyW P md ops Q R S z fuel (listed.setIfInBounds i true) a' w' → K a' w') → Oper.wpIn (fw none) 0 P o a w K Q) : wpAnyW P md ops Q R S z (fuel + 1) listed a w :=
 ⟨fun h0 => absurd (hr ▸ h0) (by simp), fun j hj => by
  rw [hr] at hj
  simp only [List.mem_singleton] at hj
  subst hj
  unfold wpOpIn
  rw [ho]
  simp only
  rw [if_pos hw]
  exact (h _ fun a' w' h1 h2 => ⟨h1, h2⟩)⟩
/-- Each of these may come up. -/
def AllReadyW (P : Program) (md : Region.Mode) (ops : Array Oper) (Q : Exit → Act → World → Prop) (R S : World → Prop) (z : Nat) (fuel : Nat) (listed : Array Bool) (a : Act) (w : World) (rs : List Nat) : Prop :=
 ∀ i ∈ rs, wpOpIn (fw none) 0 P ops Q i (fun a' w' => (R w' ∧ ((listed.setIfInBounds i true).getD z true = false → S w')) ∧ wpAnyW P md ops Q R S z fuel (listed.setIfInBounds i true) a' w') a w
theorem AllReadyW.nil {fuel : Nat} {listed : Array Bool} {a : Act} {w : World} : AllReadyW P md ops Q R S z fuel listed a w [] := fun _ h => by cases h
theorem AllReadyW.cons {fuel : Nat} {listed : Array Bool} {a : Act} {w : World} {i : Nat} {o : Oper} {rs : List Nat} (ho : ops[i]? = some o) (hw : Region.wanted o (yielded ops a.tmps) = true)
  (h : ∀ K : Act → World → Prop, (∀ a' w', (R w' ∧ ((listed.setIfInBounds i true).getD z true = false → S w')) → wpAnyW P md ops Q R S z fuel (listed.setIfInBounds i true) a' w' → K a' w') → Oper.wpIn (fw none) 0 P o a w K Q)
  (hs : AllReadyW P md ops Q R S z fuel listed a w rs) : AllReadyW P md ops Q R S z fuel listed a w (i :: rs) := fun j hj => by
 rcases List.mem_cons.1 hj with rfl | hj
 ·unfold wpOpIn
  rw [ho]
  simp only
  rw [if_pos hw]
  exact (h _ fun a' w' h1 h2 => ⟨h1, h2⟩)
 ·exact hs j hj
/-- A call of a function by its contract, as one step. -/
theorem operIn_call {o : Oper} {a : Act} {w : World} {K : Act → World → Prop} {Q : Exit → Act → World → Prop} {f : Nat} {xs : Array Operand} {ts : Array TypeId}
  (hop : o.op = Op.call { callee := Callee.value (Operand.func f), args := xs, argTypes := ts }) (eg : ∀ args w, (callFunc f args).run P w = .ok (.enter f args) w) {R : Value → World → Prop} {args : List Value} (ha : xs.toList.map a.eval = args)
  (hc : Calls P f args.toArray w fun e w' => ∃ v, e = .returned v ∧ R v w') (h : ∀ v w', R v w' → K (a.put o.dst v) w') : Oper.wpIn (fw none) 0 P o a w K Q := by
 have ha' : xs.map a.eval = args.toArray := by
  apply Array.toList_inj.1
  rw [Array.toList_map, ha]
 refine ⟨fun _ _ => trivial, ?_⟩
 rw [fw_round, Oper.semAt_none]
 simp [execOp, hop, resolve, invoke, Act.eval, go_sem, eg]
 rw [ha']
 refine callsFw.2 (Calls.mono hc ?_)
 rintro e w' ⟨v, rfl, hr⟩
 exact h v w' hr
/-- A round is called. -/
theorem operIn_yield {o : Oper} {a : Act} {w : World} {K : Act → World → Prop} {Q : Exit → Act → World → Prop} {c : Operand} {l : Nat} {xs : Array Operand} {ts : Array TypeId}
  (hop : o.op = Op.call { callee := Callee.value c, args := xs, argTypes := ts }) (hc : a.eval c = .func (.yield l) #[] #[]) {args : List Value} (ha : xs.toList.map a.eval = args)
  {R : Value → World → Prop} (hy : YieldAt Fence.wide 0 P l args.toArray w fun e w' => ∃ v, e = .returned v ∧ R v w') (h : ∀ v w', R v w' → K (a.put o.dst v) w') : Oper.wpIn (fw none) 0 P o a w K Q := by
 have ha' : xs.map a.eval = args.toArray := by
  apply Array.toList_inj.1
  rw [Array.toList_map, ha]
 obtain ⟨fn, tmps, assign, body, hr, hR⟩ := hy
 refine ⟨fun _ _ => trivial, ?_⟩
 rw [fw_round, Oper.semAt_none]
 have hx : (execOp a.eval o).run P w = .ok (.round l fn tmps assign body) w := by
  generalize a.eval = ρ at hc ha'
  simp [execOp, hop, resolve, invoke, hc, go_sem, ha', hr]
 rw [hx, Oper.uponIn_round]
 refine ⟨fun h => by simp at h, RoundIn.mono (F := Fence.wide) hR ?_⟩
 rintro e w' ⟨v, rfl, hr⟩
 exact h v w' hr
end
end YtnjgglnpmhjmiaaIt
end Go
/- A region whose order is open: an operation is taken first for which z waits by way of another one. Lists that are a call's own, or the rounds' own. Over whatever program. -/
open Go Go.RowKit Go.YtnjgglnpmhjmiaaIt Go.Proofs.Ytnjgglnpmhjmiaa
namespace Go
namespace YtnjgglnpmhjmiaaIt
section
variable {P : Program} {ops : Array Oper} {Q : Exit → Act → World → Prop} {md : Region.Mode} {R S : World → Prop} {z : Nat}
theorem not_ready_of_waits {z i : Nat} {listed : Array Bool} (hw : waitsB md ops z i = true) (hi : listed.getD i true = false) : z ∉ Region.ready md ops listed := by
 intro hz
 obtain ⟨-, oj, hoj, hall⟩ := mem_ready.1 hz
 unfold waitsB at hw
 rw [hoj] at hw
 obtain ⟨e, he, hb⟩ := Array.any_eq_true'.1 hw
 simp only [Bool.and_eq_true, beq_iff_eq] at hb
 have h1 := hall e he hb.1
 rw [hb.2] at h1
 rcases Nat.lt_or_ge i listed.size with h' | h'
 ·simp [h'] at hi h1; rw [hi] at h1; cases h1
 ·simp [Array.getElem?_eq_none h'] at hi
theorem wpAnyX_first2 {i m : Nat} {oi : Oper} {v : Value} (hi : ops[i]? = some oi) (hsel : ∀ (j : Nat) (o : Oper) cs b, ops[j]? = some o → o.op ≠ .select cs b)
  (hQ : ∀ c a w, Q (.panic c) (a.put oi.dst v) w → Q (.panic c) a w) (hiz : i ≠ z) (hzm : waitsB md ops z m = true) (hmi : waitsB md ops m i = true) :
  ∀ (fuel : Nat) (listed : Array Bool) (a : Act) (w : World), listed.getD z true = false → listed.getD m true = false →
   (∀ j oj, ops[j]? = some oj → j ≠ i → listed.getD j true = false → (∀ e ∈ oj.after, Region.binds md e = true → e.on ≠ i) → oi.apart ops oj = true) →
   i ∈ Region.ready md ops listed → YieldsIf P ops (fun w => R w ∧ S w) oi v a → (R w ∧ (listed.getD z true = false → S w)) →
   wpAnyX P md ops Q R S z fuel (listed.setIfInBounds i true) (a.put oi.dst v) w → wpAnyX P md ops Q R S z (fuel + 1) listed a w := by
 intro fuel
 induction fuel with
 | zero =>
  intro listed a w hz0 hm0 _ hr hy hS H
  refine ⟨fun h => (by rw [h] at hr; cases hr), fun j hj => ?_⟩
  by_cases hji : j = i
  ·subst hji; exact hy.wpOp hi ⟨hS.1, hS.2 hz0⟩ ⟨⟨hS.1, fun h => hS.2 (getD_set_le h)⟩, H⟩
  ·have := ready_mono hj hji
   rw [H.1] at this
   cases this
 | succ fuel ih =>
  intro listed a w hz0 hm0 hfree hr hy hS H
  refine ⟨fun h => (by rw [h] at hr; cases hr), fun j hj => ?_⟩
  by_cases hji : j = i
  ·subst hji; exact hy.wpOp hi ⟨hS.1, hS.2 hz0⟩ ⟨⟨hS.1, fun h => hS.2 (getD_set_le h)⟩, H⟩
  ·have h1 := H.2 j (ready_mono hj hji)
   have hi0 := (mem_ready.1 hr).1
   obtain ⟨hjun, oj, hoj, hall⟩ := mem_ready.1 hj
   have hnot : ∀ e ∈ oj.after, Region.binds md e = true → e.on ≠ i := fun e he hb heq => by
    have h1 := hall e he hb
    have h0 := (mem_ready.1 hr).1
    rw [heq] at h1
    rcases Nat.lt_or_ge i listed.size with h' | h'
    ·simp [h'] at h0 h1; rw [h0] at h1; cases h1
    ·simp [Array.getElem?_eq_none h'] at h1
   have h2 := wpOp_putIf hoj (hfree j oj hoj hji hjun hnot) (fun cs b => hsel i oi cs b hi) (fun cs b => hsel j oj cs b hoj) hQ hy h1
   have hjz : j ≠ z := fun e => not_ready_of_waits hzm hm0 (e ▸ hj)
   have hjm : j ≠ m := fun e => not_ready_of_waits hmi hi0 (e ▸ hj)
   have hz1 : (listed.setIfInBounds j true).getD z true = false := by rw [getD_set_ne true hjz]; exact hz0
   have hm1 : (listed.setIfInBounds j true).getD m true = false := by rw [getD_set_ne true hjm]; exact hm0
   have hfree' : ∀ k ok, ops[k]? = some ok → k ≠ i → (listed.setIfInBounds j true).getD k true = false →
     (∀ e ∈ ok.after, Region.binds md e = true → e.on ≠ i) → oi.apart ops ok = true := fun k ok hk hki hun hno => by
    refine hfree k ok hk hki ?_ hno
    by_cases hjk : j = k
    ·subst hjk; exact hjun
    ·rw [getD_set_ne true hjk] at hun; exact hun
   have hcomm : (listed.setIfInBounds i true).setIfInBounds j true = (listed.setIfInBounds j true).setIfInBounds i true := Array.setIfInBounds_comm _ _ (Ne.symm hji)
   have hback : ∀ {W : World}, (((listed.setIfInBounds i true).setIfInBounds j true).getD z true = false → S W) → (z ≠ i → (listed.setIfInBounds j true).getD z true = false → S W) := fun h hz h0 => h (by rw [hcomm, getD_set_ne true (Ne.symm hz)]; exact h0)
   refine wpOp_mono (fun a' w' h3 => ?_) h2
   refine ⟨⟨h3.2.1.1, hback h3.2.1.2 (Ne.symm hiz)⟩, ih (listed.setIfInBounds j true) a' w' hz1 hm1 hfree' (ready_mono hr (Ne.symm hji)) h3.1 ⟨h3.2.1.1, hback h3.2.1.2 (Ne.symm hiz)⟩ ?_⟩
   rw [← hcomm]
   exact h3.2.2
/-- Take number i first: it needs S, and z waits for m, which waits for it. -/
theorem wpAnyX_take2 {i : Nat} (m : Nat) {oi : Oper} {v : Value} {fuel : Nat} {listed : Array Bool} {a : Act} {w : World} (hi : ops[i]? = some oi)
  (hs : Region.noSelect ops = true) (hf : (Region.free md ops listed i && waitsB md ops z m && waitsB md ops m i && !(listed.getD z true) && !(listed.getD m true) && decide (i ≠ z)) = true) (hr : (Region.ready md ops listed).contains i = true)
  (hQ : ∀ c a w, Q (.panic c) (a.put oi.dst v) w → Q (.panic c) a w) (hy : YieldsIf P ops (fun w => R w ∧ S w) oi v a) (hS : R w ∧ (listed.getD z true = false → S w))
  (h : wpAnyX P md ops Q R S z fuel (listed.setIfInBounds i true) (a.put oi.dst v) w) : wpAnyX P md ops Q R S z (fuel + 1) listed a w := by
 simp only [Bool.and_eq_true, Bool.not_eq_true', decide_eq_true_eq] at hf
 exact wpAnyX_first2 hi (Region.noSelect_spec hs) hQ hf.2 hf.1.1.1.1.2 hf.1.1.1.2 fuel listed a w hf.1.1.2 hf.1.2 (Region.free_spec hi hf.1.1.1.1.1) (by simpa using hr) hy hS h
/-- A list of one element, as append reads it. -/
theorem reads_one {w : World} {g : Nat} {u : Value} {e : TypeId} {fr : Nat × Nat} (hg : w.heap[g]? = some (.cells #[u] e fr)) : Reads w w.heap.size 1 (some ⟨g, 0, none⟩) 1 [u] := by
 refine ⟨by simp, fun _ => ⟨_, rfl, lt_blk hg, fun j v hv => ?_⟩⟩
 have hj : j = 0 := by
  have := (List.getElem?_eq_some_iff.1 hv).1
  simpa using this
 subst hj
 rw [show (Addr.add ⟨g, 0, none⟩ 0) = (⟨g, 0, none⟩ : Addr) from rfl, cell_blk hg]
 simpa using hv
/-- append(v, u), v a list of the call's own -/
theorem oper_app {o : Oper} {a : Act} {K : Act → World → Prop} {Q : Exit → Act → World → Prop} (s x : Operand) (t e : TypeId) (ho : o.op = .call { callee := .builtin .append, args := #[s, x], argTypes := #[t, t] })
  {z : Value} {bytes : Nat} (hu : P.underlying t = some (.slice e)) (hinf : (P.info? e).map (fun i => (i.zero, i.size, i.bytes)) = some (some z, 1, bytes)) (hzs : z.cells.size = 1) (hby : bytes ≤ 1000)
  {w : World} {base g : Nat} {v u : Value} {xs : List Value} (hr : w.ownsRow base e 1 v xs.length xs) (hl : xs.length ≤ 10000) (hs : a.eval s = v) (hx : a.eval x = .slice (some ⟨g, 0, none⟩) 1 1)
  (hg : w.heap[g]? = some (.cells #[u] e (0, 0))) (h1 : u.oneCell' = true) (hbase : base ≤ w.heap.size)
  (h : ∀ v' w', w'.ownsRow base e 1 v' (xs.length + 1) (xs ++ [u]) → w.grownBy w' v.ownBlock → (v'.ownBlock = v.ownBlock ∨ v'.ownBlock = some w.heap.size) → K (a.put o.dst v') w') : o.wp P a w K Q := by
 obtain ⟨i3, hi3, hy1, hy2, hy3⟩ := info_parts hinf
 refine wp_append_any w s x t ho base e i3 z 1 bytes hu hi3 hy1 hy2 hy3 hzs (by decide) _ xs.length _ hs hr _ (some ⟨g, 0, none⟩) 1 1 _ hx (reads_one hg) (by intro q hq; rw [List.mem_singleton.1 hq]; exact h1) (Nat.le_trans (by omega : xs.length + 1 ≤ 10001) (by decide)) ?_ hbase h
 have := Nat.mul_le_mul (show xs.length + 1 ≤ 10001 by omega) hby
 omega
/-- A list that is the rounds' own. -/
def RowS (S : Nat → Prop) (w : World) (base : Nat) (e : TypeId) (v : Value) (xs : List Value) : Prop := w.ownsRow base e 1 v xs.length xs ∧ ∀ g, v.ownBlock = some g → S g
theorem RowS.nil (S : Nat → Prop) (w : World) (base : Nat) (e : TypeId) : RowS S w base e (.slice none 0 0) [] := ⟨⟨rfl, .inl ⟨rfl, rfl⟩⟩, fun g h => by cases h⟩
theorem own_lt {w : World} {base : Nat} {e : TypeId} {v : Value} {n : Nat} {xs : List Value} (h : w.ownsRow base e 1 v n xs) {g : Nat} (hg : v.ownBlock = some g) : base ≤ g ∧ g < w.heap.size ∧ ∃ cur, w.heap[g]? = some (.cells cur e (0, 0)) := by
 rcases h.2 with ⟨rfl, _⟩ | ⟨g', cap, cur, rfl, hb, hh, -⟩
 ·cases hg
 ·have : g' = g := by injection hg
  subst this
  exact ⟨hb, lt_blk hh, cur, hh⟩
theorem own_same {w w' : World} {base : Nat} {e : TypeId} {v : Value} {n : Nat} {xs : List Value} (h : w.ownsRow base e 1 v n xs) (hk : ∀ g, v.ownBlock = some g → w'.heap[g]? = w.heap[g]?) : w'.ownsRow base e 1 v n xs := by
 refine ⟨h.1, ?_⟩
 rcases h.2 with h | ⟨g, cap, cur, rfl, hb, hh, r1, r2, r3, r4⟩
 ·exact .inl h
 ·exact .inr ⟨g, cap, cur, rfl, hb, (hk g rfl).trans hh, r1, r2, r3, r4⟩
theorem RowS.stb {B base : Nat} {e : TypeId} {v : Value} {xs : List Value} : StbS B (fun S W => RowS S W base e v xs) := fun _ _ _ _ hS g h =>
 ⟨own_same h.1 fun i hi => g.block i (own_lt h.1 hi).2.1 (.inr (h.2 i hi)), fun i hi => hS i (h.2 i hi)⟩
end
end YtnjgglnpmhjmiaaIt
end Go
