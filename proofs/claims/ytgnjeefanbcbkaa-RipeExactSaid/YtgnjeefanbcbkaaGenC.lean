/- Generic: slices of slices; a slice of the call's own whose elements are changed. -/
import Derived.Test.YtgnjeefanbcbkaaGenB
open Go Go.RowKit Go.YtgnjeefanbcbkaaIt
namespace Go.Proofs
namespace Ytgnjeefanbcbkaa
theorem row_same {W W' : World} {base : Nat} {e : TypeId} {sz : Nat} {v : Value} {n : Nat} {xs : List Value} (h : W.ownsRow base e sz v n xs) (hk : ∀ g, v.ownBlock = some g → W'.heap[g]? = W.heap[g]?) : W'.ownsRow base e sz v n xs := by
  refine ⟨h.1, ?_⟩
  rcases h.2 with h | ⟨g, cap, cur, rfl, hb, hh, r1, r2, r3, r4⟩
  · exact .inl h
  · exact .inr ⟨g, cap, cur, rfl, hb, (hk g rfl).trans hh, r1, r2, r3, r4⟩
theorem row_putO {W : World} {base : Nat} {e : TypeId} {sz : Nat} {v : Value} {n b : Nat} {xs : List Value} {o : Obj} (h : W.ownsRow base e sz v n xs) (hb : b < base) : (W.putObj b o).ownsRow base e sz v n xs :=
  row_same h fun g hg => World.putObj_heap_other (by have := (h.lt g hg).1; omega)
/-- A slice of lists of numbers. -/
def SlII (w : World) (v : Value) (rows : List (List Int)) : Prop := ∃ vs : List Value, SlV w v vs ∧ vs.length = rows.length ∧ ∀ i (h : i < vs.length) (h' : i < rows.length), SlI w vs[i] rows[i]
theorem SlII.below {w w' : World} {v : Value} {rows : List (List Int)} {B : Nat} (h : SlII w v rows) (hb : Below B w w') (hB : w.heap.size ≤ B) : SlII w' v rows := by
  obtain ⟨vs, h1, h2, h3⟩ := h
  exact ⟨vs, h1.below hb hB, h2, fun i hi hi' => (h3 i hi hi').below hb hB⟩
theorem slI_form {w : World} {v : Value} {xs : List Int} (h : SlI w v xs) : ∃ ad c, v = .slice ad xs.length c := by
  obtain ⟨ad, cap, hv, _⟩ := h; exact ⟨ad, cap, hv⟩
def isSl : Value → Bool
  | .slice .. => true
  | _ => false
/-- A block of slices is turned: lists of numbers are not touched. -/
theorem SlI.bmv {w w' : World} {v : Value} {xs : List Int} {bo : Nat} {cs : Array Value} {t : TypeId} {fr : Nat × Nat} (h : SlI w v xs) (hb : w.heap[bo]? = some (.cells cs t fr)) (hs : ∀ (i : Nat) u, cs[i]? = some u → isSl u = true) (hB : Bm bo w.heap.size w w') : SlI w' v xs := by
  obtain ⟨ad, cap, hv, hmx, hp, hc⟩ := h
  refine ⟨ad, cap, hv, hmx, hp, fun h0 => ?_⟩
  obtain ⟨b, off, ha, hlt, hcell⟩ := hc h0
  have hn : b ≠ bo := by
    rintro rfl
    have h1 := hcell 0 h0
    rw [cell_blk hb] at h1
    have := hs _ _ h1
    cases this
  exact ⟨b, off, ha, Nat.lt_of_lt_of_le hlt hB.size, fun i hi => (World.cell?_of_block (w := w) (hB.block b hlt hn)).trans (hcell i hi)⟩
theorem bm_below_lo {bo B n : Nat} {w w' : World} (h : Bm bo B w w') (hn : n ≤ bo) (hB : n ≤ B) : Below n w w' := ⟨h.os, h.tape, h.output, h.size, fun k hk => h.block k (by omega) (by omega)⟩
theorem made_rep (z : Value) (hz : z.cells = #[z]) (n : Nat) : (madeCells z.cells (n * 1)).toList = List.replicate n z := by
  apply List.ext_getElem?
  intro i
  rw [List.getElem?_replicate]
  by_cases h : i < n
  · simp [madeCells, hz, h, Nat.mod_one]
  · simp [madeCells, hz, h]
/-- A row's block, opened. -/
theorem row_block {W : World} {base : Nat} {e : TypeId} {sz n cap g : Nat} {xs : List Value} (h : W.ownsRow base e sz (.slice (some ⟨g, 0, none⟩) n cap) n xs) : ∃ cur, W.heap[g]? = some (.cells cur e (0, 0)) := by
  rcases h.2 with ⟨h, _⟩ | ⟨g2, cap2, cur, hv, _, hh, _⟩
  · cases h
  · injection hv with e1 _ _
    injection e1 with e1
    injection e1 with e1
    subst e1
    exact ⟨cur, hh⟩
theorem row_full {W : World} {base : Nat} {e : TypeId} {n g : Nat} {xs : List Value} (h : W.ownsRow base e 1 (.slice (some ⟨g, 0, none⟩) n n) n xs) : W.heap[g]? = some (.cells xs.toArray e (0, 0)) := by
  rcases h.2 with ⟨h, _⟩ | ⟨g2, cap2, cur, hv, _, hh, _, _, hsz, ht⟩
  · cases h
  · injection hv with e1 _ e3
    injection e1 with e1
    injection e1 with e1
    subst e1 e3
    rw [hh]
    have : cur = xs.toArray := by
      apply Array.toList_inj.1
      rw [← ht, List.take_of_length_le (by simp [hsz])]
    rw [this]
/-- A call of a function by its contract, as one step of a region whose order is open. -/
theorem step_call {P : Program} {ops : Array Oper} {o : Oper} {a : Act} {w : World} {K : Act → World → Prop} {Q : Exit → Act → World → Prop} {E : Prop} (hgd : o.guard = none) {f : Nat} {xs : Array Operand} {ts : Array TypeId}
    (hop : o.op = Op.call { callee := Callee.value (Operand.func f), args := xs, argTypes := ts }) (eg : ∀ args w, (callFunc f args).run P w = .ok (.enter f args) w) {v : Value} {R : World → Prop} {args : List Value} (ha : xs.toList.map a.eval = args)
    (hc : Calls P f args.toArray w fun e w' => e = .returned v ∧ R w') (h : ∀ w', R w' → K (a.put o.dst v) w') :
    if Region.wanted o (yielded ops a.tmps) = true then Oper.wp P o a w K Q else E := by
  have ha' : xs.map a.eval = args.toArray := by
    apply Array.toList_inj.1
    rw [Array.toList_map, ha]
  have hw : Region.wanted o (yielded ops a.tmps) = true := by simp [Region.wanted, hgd]
  rw [if_pos hw]
  unfold Oper.wp
  simp [execOp, hop, resolve, invoke, Act.eval, go_sem, eg]
  rw [ha']
  refine Calls.mono hc ?_
  rintro e w' ⟨rfl, hr⟩
  exact h w' hr
theorem append_same1 {W w1 : World} {e : TypeId} {sz base : Nat} {v : Value} {n : Nat} {xs : List Value} {o : Obj} (_ho : W.ownsRow base e sz v n xs) (hg : (W.alloc o).grownBy w1 v.ownBlock) :
    (∀ k, k < W.heap.size → v.ownBlock ≠ some k → w1.heap[k]? = W.heap[k]?) ∧ W.heap.size + 1 ≤ w1.heap.size ∧ w1.os = W.os ∧ w1.tape = W.tape ∧ w1.output = W.output := by
  have hsz : (W.alloc o).heap.size = W.heap.size + 1 := sz_al W o
  refine ⟨fun k hk hne => ?_, by have := hg.size; omega, hg.os, hg.tape, hg.output⟩
  rw [hg.block k (by omega) (fun h => hne h.symm)]
  exact heap_oldI hk
/-- The region of a number in a code. -/
def regionIn (id : Nat) : Code → Option Code
  | .region i ops d => if i = id then some (.region i ops d) else none
  | .seq a b => match regionIn id a with
    | some c => some c
    | none => regionIn id b
  | .block _ c => regionIn id c
  | .loop c => regionIn id c
  | .scope c => regionIn id c
  | .cond _ a b => match regionIn id a with
    | some c => some c
    | none => regionIn id b
  | .rangeFunc _ _ a b => match regionIn id a with
    | some c => some c
    | none => regionIn id b
  | _ => none
def regOf (f : Func) (id : Nat) : Code := ((f.body.bind (regionIn id)).getD .skip)
end Ytgnjeefanbcbkaa
end Go.Proofs
