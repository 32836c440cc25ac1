/- A range over an iterator whose rounds begin with blocks of their own for what is handed over. -/
import Derived.Test.YtnjgglnpmhjmiaaGenX
open Go Go.RowKit Go.YtnjgglnpmhjmiaaIt
namespace Go
namespace YtnjgglnpmhjmiaaIt
section
variable {P : Program}
/-- One round, the record's book-keeping aside. -/
theorem yield_ofB {V : FuncId → Prop} {l B fn : Nat} {rec : LoopState → Option Code → Loop} {tm : Array Value} {ps : Array Tmp} {assign body : Code} {D : Nat} (hrec : rec = fun st pe => { state := st, pending := pe, fn := fn, tmps := tm, params := ps, assign, body, defers := D })
  (hV : V fn) {y : Array Value} (hy : y.size = ps.size) {S : Nat → Prop} {In : (Nat → Prop) → World → Prop} {Ix : Code → (Nat → Prop) → World → Prop} (hBl : B ≤ l) (hSl : ¬ S l)
  (sIn : StbS B In) (sIx : ∀ c, StbS B (Ix c)) {W : World}
  (hround : wpV V (some l) P assign (Exit.then (fun a' W' => Below W.heap.size W W' ∧ ∀ W2, GrS B (ext S W.heap.size W'.heap.size) W' W2 → W2.heap.size = W'.heap.size → (∃ r, W2.heap[l]? = some (.loop r)) → wpV V (some l) P body (bodyS B (ext S W.heap.size W'.heap.size) In Ix W2) a' W2) (fun _ _ _ => False)) { tmps := (ps.zip y).foldl (fun t (p, v) => t.setIfInBounds p v) tm, defers := [] } W)
  (hl : W.heap[l]? = some (.loop (rec .ready none))) :
  YieldAt Fence.wide 0 P l y W fun e W' =>
   (e = .returned (.bool true) ∧ (In (ext S W.heap.size W'.heap.size) W' ∧ W'.heap[l]? = some (.loop (rec .ready none))) ∧ (W.heap.size ≤ W'.heap.size ∧ ∀ k, B ≤ k → k < W.heap.size → k ≠ l → ¬ S k → W'.heap[k]? = W.heap[k]?)) ∨
   (e = .returned (.bool false) ∧ (∃ c, Ix c (ext S W.heap.size W'.heap.size) W' ∧ W'.heap[l]? = some (.loop (rec .done (some c)))) ∧ (W.heap.size ≤ W'.heap.size ∧ ∀ k, B ≤ k → k < W.heap.size → k ≠ l → ¬ S k → W'.heap[k]? = W.heap[k]?)) := by
 have hy' := run_yield (P := P) (args := y) hl (by rw [hrec]; exact hy)
 rw [hrec] at hy'
 refine ⟨fn, _, assign, body, hy', ?_⟩
 refine roundIn_V hV (fun ⟨ch, W', h⟩ => ?_) (wpV_mono hround ?_)
 ·rcases h with ⟨h, _⟩ | ⟨h, _⟩ <;> cases h
 intro e a' W1 hq
 cases e with
 | normal =>
  obtain ⟨hbw, hb⟩ := hq
  have hlt := (Array.getElem?_eq_some_iff.1 hl).1
  have hl1 : W1.heap[l]? = some (.loop (rec .ready none)) := (hbw.block l hlt).trans hl
  have hlt1 := (Array.getElem?_eq_some_iff.1 hl1).1
  have hzw := hbw.size
  have hnS : ¬ ext S W.heap.size W1.heap.size l := by
   rintro (h | h)
   ·exact hSl h
   ·omega
  refine ⟨_, run_beginRound hl1 (by rw [hrec]), ?_⟩
  obtain ⟨W2, hW2⟩ : ∃ W2, W2 = W1.putObj l (.loop { rec .ready none with state := .busy }) := ⟨_, rfl⟩
  rw [← hW2]
  have hl2 : W2.heap[l]? = some (.loop { rec .ready none with state := .busy }) := by rw [hW2]; exact World.putObj_heap_same hlt1
  have hg2 : GrS B (ext S W.heap.size W1.heap.size) W1 W2 := by rw [hW2]; exact GrS.putObj _ hBl hnS
  have hz2 : W2.heap.size = W1.heap.size := by rw [hW2]; simp
  have ho2 : ∀ k, k ≠ l → W2.heap[k]? = W1.heap[k]? := fun k hne => by rw [hW2]; exact World.putObj_heap_other hne
  refine wpV_mono (hb W2 hg2 hz2 ⟨_, hl2⟩) ?_
  have fin : ∀ (jump : Option Code) (W3 : World) (Z : (Nat → Prop) → World → Prop), StbS B Z → KxS B (ext S W.heap.size W1.heap.size) W2 W3 → Z (ext (ext S W.heap.size W1.heap.size) W2.heap.size W3.heap.size) W3 → ∃ W4, (Instr.endRound l jump).run P W3 = .ok (.bool jump.isNone) W4 ∧ Z (ext S W.heap.size W4.heap.size) W4 ∧
    W4.heap[l]? = some (.loop (rec (if jump.isNone then .ready else .done) jump)) ∧ (W.heap.size ≤ W4.heap.size ∧ ∀ k, B ≤ k → k < W.heap.size → k ≠ l → ¬ S k → W4.heap[k]? = W.heap[k]?) := by
   intro jump W3 Z sZ hk3 hZ
   have hl3 := (hk3.same l hBl (by omega) hnS).trans hl2
   have hE := run_endRound (P := P) jump hl3
   have hz4 : ∀ o, (W3.putObj l o).heap.size = W3.heap.size := fun o => by simp
   have hs3 := hk3.size
   refine ⟨_, hE, ?_, ?_, ?_, ?_⟩
   ·rw [hz4]
    refine sZ _ _ _ _ ?_ (GrS.putObj _ hBl ?_) hZ
    ·rintro i ((h | h) | h)
     ·exact .inl h
     ·exact .inr (by omega)
     ·exact .inr (by omega)
    ·rintro (h | h)
     ·exact hnS h
     ·omega
   ·rw [World.putObj_heap_same (Array.getElem?_eq_some_iff.1 hl3).1, hrec]
   ·rw [hz4]; omega
   ·intro k hk hlt' hne hS
    rw [World.putObj_heap_other hne]
    refine ((hk3.same k hk (by omega) ?_).trans (ho2 k hne)).trans (hbw.block k hlt')
    rintro (h | h)
    ·exact hS h
    ·omega
  intro e2 a2 W3 hp
  cases e2 with
  | normal =>
   obtain ⟨W4, h1, h2, h3, h4⟩ := fin none W3 In sIn hp.1 hp.2
   exact ⟨_, _, h1, .inl ⟨rfl, ⟨h2, h3⟩, h4⟩⟩
  | ret =>
   obtain ⟨W4, h1, h2, h3, h4⟩ := fin (some .ret) W3 _ (sIx .ret) hp.1 hp.2
   exact ⟨_, _, h1, .inr ⟨rfl, ⟨.ret, h2, h3⟩, h4⟩⟩
  | exit id =>
   obtain ⟨W4, h1, h2, h3, h4⟩ := fin (some (.exit id)) W3 _ (sIx (.exit id)) hp.1 hp.2
   exact ⟨_, _, h1, .inr ⟨rfl, ⟨.exit id, h2, h3⟩, h4⟩⟩
  | goto t =>
   obtain ⟨W4, h1, h2, h3, h4⟩ := fin (some (.goto t)) W3 _ (sIx (.goto t)) hp.1 hp.2
   exact ⟨_, _, h1, .inr ⟨rfl, ⟨.goto t, h2, h3⟩, h4⟩⟩
  | panic ch => exact hp.elim
  | outgrown => exact hp.elim
 | ret => exact hq.elim
 | exit id => exact hq.elim
 | goto t => exact hq.elim
 | panic ch => exact hq.elim
 | outgrown => exact hq.elim
/-- The statement in a function's own frame. -/
theorem wpV_rangeB {V : FuncId → Prop} {g : Operand} {ps : Array Tmp} {assign body : Code} {Q : Exit → Act → World → Prop} {a : Act} {w : World}
  {gf : Nat} {lb : Array Value} (hg : a.eval g = .func (.func gf) #[] lb) (eg : ∀ args w, (callFunc gf args).run P w = .ok (.enter gf args) w)
  {n : Nat} {Y : Nat → (Nat → Prop) → (Nat → Prop) → World → Array Value → Prop} {Ke : World → Prop} (hit : IterS P gf lb n Y Ke) (hps : ∀ k S0 S W y, Y k S0 S W y → y.size = ps.size)
  (I : Nat → (Nat → Prop) → World → Prop) (Ix : Code → (Nat → Prop) → World → Prop)
  (hK : ∀ k S W, I k S W → Ke W) (sI : ∀ k, StbS w.heap.size (I k)) (sIx : ∀ c, StbS w.heap.size (Ix c))
  (h0 : I 0 (fun _ => False) w)
  (hround : ∀ k, k < n → ∀ (l : Nat) S0 S W y, (∀ i, S i → w.heap.size ≤ i ∧ i < W.heap.size) → w.heap.size ≤ W.heap.size → (∀ i, S0 i → S i) → I k S0 W → Y k S0 S W y →
   wpV V (some l) P assign (Exit.then (fun a' W' => Below W.heap.size W W' ∧ ∀ W2, GrS w.heap.size (ext S W.heap.size W'.heap.size) W' W2 → W2.heap.size = W'.heap.size → (∃ r, W2.heap[l]? = some (.loop r)) → wpV V (some l) P body (bodyS w.heap.size (ext S W.heap.size W'.heap.size) (I (k + 1)) Ix W2) a' W2) (fun _ _ _ => False)) { tmps := (ps.zip y).foldl (fun t (p, v) => t.setIfInBounds p v) a.tmps, defers := [] } W)
  (hdone : ∀ S W, (∀ i, S i → w.heap.size ≤ i ∧ i < W.heap.size) → I n S W → W.heap[w.heap.size]? = some (.deferred (some [])) → Q .normal { a with defers := { target := .collected w.heap.size, args := #[] } :: a.defers } W)
  (hstop : ∀ c S W, (∀ i, S i → w.heap.size ≤ i ∧ i < W.heap.size) → Ix c S W → W.heap[w.heap.size]? = some (.deferred (some [])) → wpV V none P c Q { a with defers := { target := .collected w.heap.size, args := #[] } :: a.defers } W) :
  wpV V none P (.rangeFunc g ps assign body) Q a w := by
 intro b k cs hro hbV
 obtain ⟨rec, hrec⟩ : ∃ rec : LoopState → Option Code → Loop, rec = fun st pe => { state := st, pending := pe, fn := b.fn, tmps := a.tmps, params := ps, assign, body, defers := w.heap.size } := ⟨_, rfl⟩
 obtain ⟨W1, hW1⟩ : ∃ W1, (w.alloc (.deferred (some []))).alloc (.loop (rec .ready none)) = W1 := ⟨_, rfl⟩
 have hL1 : W1.heap[w.heap.size + 1]? = some (.loop (rec .ready none)) := by
  rw [← hW1]; have := World.alloc_heap_new (w.alloc (.deferred (some []))) (.loop (rec .ready none)); rwa [World.size_alloc] at this
 have hD1 : W1.heap[w.heap.size]? = some (.deferred (some [])) := by
  rw [← hW1]; exact (Below.heap_alloc _ _ _ (by simp)).trans (World.alloc_heap_new w _)
 have hsz1 : W1.heap.size = w.heap.size + 2 := by rw [← hW1]; simp
 have hg1 : GrS w.heap.size (fun _ => False) w W1 := by rw [← hW1]; exact (GrS.below ((Below.refl _ _).alloc (Nat.le_refl _) _)).trans (GrS.below ((Below.refl _ _).alloc (Nat.le_refl _) _))
 have hcall := hit (w.heap.size + 1) W1 (fun k S W => I k S W ∧ W.heap[w.heap.size + 1]? = some (.loop (rec .ready none)) ∧ W.heap[w.heap.size]? = some (.deferred (some [])))
  (fun S W => (∃ c, Ix c S W ∧ W.heap[w.heap.size + 1]? = some (.loop (rec .done (some c)))) ∧ W.heap[w.heap.size]? = some (.deferred (some [])))
  (fun k S W h => hK k S W h.1)
  (fun k => ((sI k).mono (by omega)).and ((StbS.old (by omega)).and (StbS.old (by omega))))
  ((StbS.ex fun c => ((sIx c).mono (by omega)).and (StbS.old (by omega))).and (StbS.old (by omega)))
  (fun k hk S0 S W2 y hz2 hS hSS h2 hY => by
   obtain ⟨hi, hl, hD⟩ := h2
   have hy := yield_ofB (P := P) (V := V) (B := w.heap.size) (l := w.heap.size + 1) (fn := b.fn) hrec hbV (hps _ _ _ _ _ hY) (S := S) (by omega) (fun e => by have := (hS _ e).1; omega) (sI (k + 1)) sIx
    (hround k hk _ S0 S W2 y (fun i hi' => ⟨by have := (hS i hi').1; omega, (hS i hi').2⟩) (by omega) hSS hi hY) hl
   refine hy.mono ?_
   rintro e W' (⟨rfl, ⟨h1, h2⟩, h3, h4⟩ | ⟨rfl, ⟨c, h1, h2⟩, h3, h4⟩)
   ·exact .inl ⟨rfl, ⟨h1, h2, (h4 _ (Nat.le_refl _) (by omega) (by omega) (fun e => by have := (hS _ e).1; omega)).trans hD⟩, ⟨h3, fun k hk hlt hS' => h4 k (by omega) hlt (by omega) hS'⟩⟩
   ·exact .inr ⟨rfl, ⟨⟨c, h1, h2⟩, (h4 _ (Nat.le_refl _) (by omega) (by omega) (fun e => by have := (hS _ e).1; omega)).trans hD⟩, ⟨h3, fun k hk hlt hS' => h4 k (by omega) hlt (by omega) hS'⟩⟩)
  ⟨sI 0 _ _ _ _ (fun _ h => h) hg1 h0, hL1, hD1⟩
 have hres : (resolve a.eval (rangeCall g (w.heap.size + 1)) 0).run P W1 = .ok { target := .fn (.func gf) lb, args := #[.func (.yield (w.heap.size + 1)) #[] #[]] } W1 := by
  simp only [resolve, hg]
  simp [go_sem]
 have hinv : (invoke (Target.fn (.func gf) lb) #[.func (.yield (w.heap.size + 1)) #[] #[]]).run P W1 = .ok (.enter gf (#[.func (.yield (w.heap.size + 1)) #[] #[]] ++ lb)) W1 := by
  simp [invoke, go_sem, eg]
 have he : (Instr.enterLoop b.fn a.tmps ps assign body b.roundOf).run P w = .ok (w.heap.size + 1, [{ target := .collected w.heap.size, args := #[] }]) W1 := by
  rw [hro, ← hW1, hrec]; exact run_enterLoop_outer _ _ _ _ _
 have henter := stepR_rangeFunc (P := P) (b := b) (a := a) (k := k) (cs := cs) (w := w) he hres hinv
 obtain ⟨e, w₃, fr, hR, hsteps, hfn, hleave⟩ := hcall (b.atR { a with defers := [{ target := .collected w.heap.size, args := #[] }] ++ a.defers } (.inRangeFunc (w.heap.size + 1) :: k) :: cs)
 obtain ⟨⟨v, rfl⟩, S, hS, hR⟩ := hR
 have hnl : ¬ S (w.heap.size + 1) := fun e => by have := (hS _ e).1; omega
 have sback : ∀ jump w₄, (Instr.endLoop (w.heap.size + 1)).run P w₃ = .ok jump w₄ →
   StepsIn (Machine.fenced P Fence.wide) P (lone (b.atR a (.code (.rangeFunc g ps assign body) :: k)) cs w) (lone (b.atR { a with defers := { target := .collected w.heap.size, args := #[] } :: a.defers } ((jump.map Item.code).toList ++ k)) cs w₄) := by
  intro jump w₄ hend
  refine .head calm0 henter (StepsIn.trans (stepsIn_wide.2 hsteps) (.head calm0 ?_ (.one calm0 (stepR_endRangeFunc hend))))
  rw [← finish_atR_inRangeFunc (w.heap.size + 1) v]; exact step_leave_returned hleave
 rcases hR with ⟨hi, hl, hD⟩ | ⟨⟨c, hi, hl⟩, hD⟩
 ·obtain ⟨W4, hW4⟩ : ∃ W4, W4 = w₃.putObj (w.heap.size + 1) (.loop { rec .ready none with state := .exhausted }) := ⟨_, rfl⟩
  have hend : (Instr.endLoop (w.heap.size + 1)).run P w₃ = .ok none W4 := by
   have := run_endLoop (P := P) hl (by rw [hrec]; simp); rw [hW4]; rw [hrec] at this ⊢; exact this
  have hg4 : GrS w.heap.size S w₃ W4 := by rw [hW4]; exact GrS.putObj _ (by omega) hnl
  have hD4 : W4.heap[w.heap.size]? = some (.deferred (some [])) := by rw [hW4]; exact (World.putObj_heap_other (by omega)).trans hD
  have hz4 : W4.heap.size = w₃.heap.size := by rw [hW4]; simp
  exact ⟨.normal, _, W4, hdone S _ (fun i h => by have := hS i h; omega) (sI _ _ _ _ _ (fun _ h => h) hg4 hi) hD4, sback _ _ hend⟩
 ·obtain ⟨W4, hW4⟩ : ∃ W4, W4 = w₃.putObj (w.heap.size + 1) (.loop { rec .done (some c) with state := .exhausted }) := ⟨_, rfl⟩
  have hend : (Instr.endLoop (w.heap.size + 1)).run P w₃ = .ok (some c) W4 := by
   have := run_endLoop (P := P) hl (by rw [hrec]; simp); rw [hW4]; rw [hrec] at this ⊢; exact this
  have hg4 : GrS w.heap.size S w₃ W4 := by rw [hW4]; exact GrS.putObj _ (by omega) hnl
  have hD4 : W4.heap[w.heap.size]? = some (.deferred (some [])) := by rw [hW4]; exact (World.putObj_heap_other (by omega)).trans hD
  have hz4 : W4.heap.size = w₃.heap.size := by rw [hW4]; simp
  obtain ⟨e', a'', w₅, hq, harr⟩ := hstop c S _ (fun i h => by have := hS i h; omega) (sIx c _ _ _ _ (fun _ h => h) hg4 hi) hD4 b k cs hro hbV
  exact ⟨e', a'', w₅, hq, .of_steps (sback _ _ hend) harr⟩
/-- The statement, as the fenced walk meets it. -/
theorem wpIn_rangeB {g : Operand} {ps : Array Tmp} {assign body : Code} {Q : Exit → Act → World → Prop} {a : Act} {w : World}
  {gf : Nat} {lb : Array Value} (hg : a.eval g = .func (.func gf) #[] lb) (eg : ∀ args w, (callFunc gf args).run P w = .ok (.enter gf args) w)
  {n : Nat} {Y : Nat → (Nat → Prop) → (Nat → Prop) → World → Array Value → Prop} {Ke : World → Prop} (hit : IterS P gf lb n Y Ke) (hps : ∀ k S0 S W y, Y k S0 S W y → y.size = ps.size)
  (I : Nat → (Nat → Prop) → World → Prop) (Ix : Code → (Nat → Prop) → World → Prop)
  (hK : ∀ k S W, I k S W → Ke W) (sI : ∀ k, StbS w.heap.size (I k)) (sIx : ∀ c, StbS w.heap.size (Ix c))
  (h0 : I 0 (fun _ => False) w)
  (hround : ∀ k, k < n → ∀ (l : Nat) S0 S W y, (∀ i, S i → w.heap.size ≤ i ∧ i < W.heap.size) → w.heap.size ≤ W.heap.size → (∀ i, S0 i → S i) → I k S0 W → Y k S0 S W y →
   assign.wpIn (fw (some l)) 0 P (Exit.then (fun a' W' => Below W.heap.size W W' ∧ ∀ W2, GrS w.heap.size (ext S W.heap.size W'.heap.size) W' W2 → W2.heap.size = W'.heap.size → (∃ r, W2.heap[l]? = some (.loop r)) → body.wpIn (fw (some l)) 0 P (bodyS w.heap.size (ext S W.heap.size W'.heap.size) (I (k + 1)) Ix W2) a' W2) (fun _ _ _ => False)) { tmps := (ps.zip y).foldl (fun t (p, v) => t.setIfInBounds p v) a.tmps, defers := [] } W)
  (hdone : ∀ S W, (∀ i, S i → w.heap.size ≤ i ∧ i < W.heap.size) → I n S W → W.heap[w.heap.size]? = some (.deferred (some [])) → Q .normal { a with defers := { target := .collected w.heap.size, args := #[] } :: a.defers } W)
  (hstop : ∀ c S W, (∀ i, S i → w.heap.size ≤ i ∧ i < W.heap.size) → Ix c S W → W.heap[w.heap.size]? = some (.deferred (some [])) → c.wpIn (fw none) 0 P Q { a with defers := { target := .collected w.heap.size, args := #[] } :: a.defers } W) :
  (Code.rangeFunc g ps assign body).wpIn (fw none) 0 P Q a w :=
 wpV_all (wpV_rangeB (V := fun _ => True) hg eg hit hps I Ix hK sI sIx h0
  (fun k hk l S0 S W y hS hz hSS h hY => wpV_mono (wpV_of (hround k hk l S0 S W y hS hz hSS h hY)) (fun e a w q => by
   cases e with
   | normal => obtain ⟨h1, h2⟩ := q; exact ⟨h1, fun W2 g z r => wpV_of (h2 W2 g z r)⟩
   | _ => exact q)) hdone (fun c S W hS h hD => wpV_of (hstop c S W hS h hD)))
end
end YtnjgglnpmhjmiaaIt
end Go

