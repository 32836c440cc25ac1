/- Generic: numbers within bounds, slices that read as lists, blocks of cells; over whatever program. -/
import Derived.Test.YtgnjeefanbcbkaaGenA
import Derived.Outline
import Derived.WalkLawsBesides
import Derived.WalkSpells
import Derived.Lib.Hide
import Derived.Handy
import Derived.Deep.LoopGhost
import Derived.LoopNIn
import Derived.LoopIn
import Derived.OwnWalkIn
import Derived.Lib.SmallJoins
import Derived.Laws.StructEq
import Derived.Deep.SlicePairs
import Derived.Deep.RegionHeld3
import Derived.SizedLaws
import Derived.Carry
import Derived.ChangeSlices
open Go Go.RowKit Go.YtgnjeefanbcbkaaIt
attribute [go_sem] Oper.semAt_some
namespace Go.Proofs
namespace Ytgnjeefanbcbkaa

/-- A number lies from lo to hi. -/
def btw (lo n hi : Int) : Bool := decide (lo ≤ n ∧ n ≤ hi)
theorem btw_true {lo n hi : Int} : btw lo n hi = true ↔ lo ≤ n ∧ n ≤ hi := by simp [btw]
theorem btw_false {lo n hi : Int} : btw lo n hi = false ↔ ¬ (lo ≤ n ∧ n ≤ hi) := by simp only [btw, decide_eq_false_iff_not]

/-! ### Blocks -/
theorem cell_blk {W : World} {b i : Nat} {c : Array Value} {t : TypeId} {fr : Nat × Nat} (h : W.heap[b]? = some (.cells c t fr)) : W.cell? ⟨b, i, none⟩ = c[i]? := by
  simp [World.cell?, h]
theorem free_blk {W : World} {b i : Nat} {c : Array Value} {t : TypeId} (h : W.heap[b]? = some (.cells c t (0, 0))) : W.frozen? ⟨b, i, none⟩ = false := by
  simp [World.frozen?, h]
theorem lt_blk {W : World} {b : Nat} {o : Obj} (h : W.heap[b]? = some o) : b < W.heap.size := (Array.getElem?_eq_some_iff.1 h).1
theorem blk_below {W W' : World} {B b : Nat} {o : Obj} (h : W.heap[b]? = some o) (hb : Below B W W') (hB : b < B) : W'.heap[b]? = some o := (hb.block b hB).trans h
theorem blk_keep {W W' : World} {b : Nat} {o : Obj} (h : W.heap[b]? = some o) (hb : Below W.heap.size W W') : W'.heap[b]? = some o := blk_below h hb (lt_blk h)
theorem heap_alloc_if (w : World) (o : Obj) (k : Nat) : (w.alloc o).heap[k]? = if k = w.heap.size then some o else w.heap[k]? := by
  show (w.heap.push o)[k]? = _
  rw [Array.getElem?_push]
theorem heap_newI {w : World} {o : Obj} {k : Nat} (h : k = w.heap.size) : (w.alloc o).heap[k]? = some o := by rw [heap_alloc_if, if_pos h]
theorem heap_oldI {w : World} {o : Obj} {k : Nat} (h : k < w.heap.size) : (w.alloc o).heap[k]? = w.heap[k]? := by rw [heap_alloc_if, if_neg (by omega)]
theorem heap_set_blk {W : World} {b i : Nat} {c : Array Value} {t : TypeId} {fr : Nat × Nat} {v : Value} (h : W.heap[b]? = some (.cells c t fr)) : (W.setCell ⟨b, i, none⟩ v).heap[b]? = some (.cells (c.setIfInBounds i v) t fr) := by
  simp only [World.setCell, Array.getElem?_modify, if_pos, h]; rfl
theorem heap_set_other {W : World} {b b' i : Nat} {v : Value} (hne : b ≠ b') : (W.setCell ⟨b', i, none⟩ v).heap[b]? = W.heap[b]? := by
  simp only [World.setCell, Array.getElem?_modify]
  rw [if_neg (fun e => hne e.symm)]
theorem btr {n : Nat} {w x y : World} (h : Below n w x) (k : Below x.heap.size x y) (hn : n ≤ w.heap.size) : Below n w y := h.trans (k.mono (Nat.le_trans hn h.size))
theorem addr_block (a : Addr) (j : Nat) : (a.add j).block = a.block := by unfold Addr.add; split <;> rfl
theorem add_at {b o i : Nat} : (⟨b, o, none⟩ : Addr).add i = ⟨b, o + i, none⟩ := by cases i <;> simp [Addr.add]

/-! New blocks, one after the other. -/
theorem sz_al (w : World) (o : Obj) : (w.alloc o).heap.size = w.heap.size + 1 := World.size_alloc w o
theorem blkE1 {w w1 : World} {a : Obj} (h : w.alloc a = w1) : w1.heap[w.heap.size]? = some a ∧ Below w.heap.size w w1 ∧ w1.heap.size = w.heap.size + 1 := by
  subst h
  exact ⟨heap_newI rfl, (Below.refl _ _).alloc (Nat.le_refl _) _, sz_al _ _⟩
theorem blkE2 {w w1 : World} {a b : Obj} (h : (w.alloc a).alloc b = w1) : w1.heap[w.heap.size]? = some a ∧ w1.heap[w.heap.size + 1]? = some b ∧ Below w.heap.size w w1 ∧ w1.heap.size = w.heap.size + 2 := by
  subst h
  obtain ⟨hba, hb, hs⟩ := blkE1 (w := w) (a := a) rfl
  exact ⟨(heap_oldI (by rw [hs]; omega)).trans hba, heap_newI (by rw [hs]), hb.alloc hb.size _, by rw [sz_al, hs]⟩
theorem blkE3 {w w1 : World} {a b c : Obj} (h : ((w.alloc a).alloc b).alloc c = w1) : w1.heap[w.heap.size]? = some a ∧ w1.heap[w.heap.size + 1]? = some b ∧ w1.heap[w.heap.size + 1 + 1]? = some c ∧ Below w.heap.size w w1 ∧ w1.heap.size = w.heap.size + 3 := by
  subst h
  obtain ⟨hba, hbb, hb, hs⟩ := blkE2 (w := w) (a := a) (b := b) rfl
  exact ⟨(heap_oldI (by rw [hs]; omega)).trans hba, (heap_oldI (by rw [hs]; omega)).trans hbb, heap_newI (by rw [hs]), hb.alloc hb.size _, by rw [sz_al, hs]⟩
theorem blkE4 {w w1 : World} {a b c d : Obj} (h : (((w.alloc a).alloc b).alloc c).alloc d = w1) : w1.heap[w.heap.size]? = some a ∧ w1.heap[w.heap.size + 1]? = some b ∧ w1.heap[w.heap.size + 1 + 1]? = some c ∧ w1.heap[w.heap.size + 1 + 1 + 1]? = some d ∧ Below w.heap.size w w1 ∧ w1.heap.size = w.heap.size + 4 := by
  subst h
  obtain ⟨hba, hbb, hbc, hb, hs⟩ := blkE3 (w := w) (a := a) (b := b) (c := c) rfl
  exact ⟨(heap_oldI (by rw [hs]; omega)).trans hba, (heap_oldI (by rw [hs]; omega)).trans hbb, (heap_oldI (by rw [hs]; omega)).trans hbc, heap_newI (by rw [hs]), hb.alloc hb.size _, by rw [sz_al, hs]⟩
theorem blkE5 {w w1 : World} {a b c d e : Obj} (h : ((((w.alloc a).alloc b).alloc c).alloc d).alloc e = w1) : w1.heap[w.heap.size]? = some a ∧ w1.heap[w.heap.size + 1]? = some b ∧ w1.heap[w.heap.size + 1 + 1]? = some c ∧ w1.heap[w.heap.size + 1 + 1 + 1]? = some d ∧ w1.heap[w.heap.size + 1 + 1 + 1 + 1]? = some e ∧ Below w.heap.size w w1 ∧ w1.heap.size = w.heap.size + 5 := by
  subst h
  obtain ⟨hba, hbb, hbc, hbd, hb, hs⟩ := blkE4 (w := w) (a := a) (b := b) (c := c) (d := d) rfl
  exact ⟨(heap_oldI (by rw [hs]; omega)).trans hba, (heap_oldI (by rw [hs]; omega)).trans hbb, (heap_oldI (by rw [hs]; omega)).trans hbc, (heap_oldI (by rw [hs]; omega)).trans hbd, heap_newI (by rw [hs]), hb.alloc hb.size _, by rw [sz_al, hs]⟩
theorem blkE6 {w w1 : World} {a b c d e f : Obj} (h : (((((w.alloc a).alloc b).alloc c).alloc d).alloc e).alloc f = w1) : w1.heap[w.heap.size]? = some a ∧ w1.heap[w.heap.size + 1]? = some b ∧ w1.heap[w.heap.size + 1 + 1]? = some c ∧ w1.heap[w.heap.size + 1 + 1 + 1]? = some d ∧ w1.heap[w.heap.size + 1 + 1 + 1 + 1]? = some e ∧ w1.heap[w.heap.size + 1 + 1 + 1 + 1 + 1]? = some f ∧ Below w.heap.size w w1 ∧ w1.heap.size = w.heap.size + 6 := by
  subst h
  obtain ⟨hba, hbb, hbc, hbd, hbe, hb, hs⟩ := blkE5 (w := w) (a := a) (b := b) (c := c) (d := d) (e := e) rfl
  exact ⟨(heap_oldI (by rw [hs]; omega)).trans hba, (heap_oldI (by rw [hs]; omega)).trans hbb, (heap_oldI (by rw [hs]; omega)).trans hbc, (heap_oldI (by rw [hs]; omega)).trans hbd, (heap_oldI (by rw [hs]; omega)).trans hbe, heap_newI (by rw [hs]), hb.alloc hb.size _, by rw [sz_al, hs]⟩
theorem blkE7 {w w1 : World} {a b c d e f g : Obj} (h : ((((((w.alloc a).alloc b).alloc c).alloc d).alloc e).alloc f).alloc g = w1) : w1.heap[w.heap.size]? = some a ∧ w1.heap[w.heap.size + 1]? = some b ∧ w1.heap[w.heap.size + 1 + 1]? = some c ∧ w1.heap[w.heap.size + 1 + 1 + 1]? = some d ∧ w1.heap[w.heap.size + 1 + 1 + 1 + 1]? = some e ∧ w1.heap[w.heap.size + 1 + 1 + 1 + 1 + 1]? = some f ∧ w1.heap[w.heap.size + 1 + 1 + 1 + 1 + 1 + 1]? = some g ∧ Below w.heap.size w w1 ∧ w1.heap.size = w.heap.size + 7 := by
  subst h
  obtain ⟨hba, hbb, hbc, hbd, hbe, hbf, hb, hs⟩ := blkE6 (w := w) (a := a) (b := b) (c := c) (d := d) (e := e) (f := f) rfl
  exact ⟨(heap_oldI (by rw [hs]; omega)).trans hba, (heap_oldI (by rw [hs]; omega)).trans hbb, (heap_oldI (by rw [hs]; omega)).trans hbc, (heap_oldI (by rw [hs]; omega)).trans hbd, (heap_oldI (by rw [hs]; omega)).trans hbe, (heap_oldI (by rw [hs]; omega)).trans hbf, heap_newI (by rw [hs]), hb.alloc hb.size _, by rw [sz_al, hs]⟩
theorem blk1 {w w1 : World} {a : Obj} (h : w.alloc a = w1) : w1.heap[w.heap.size]? = some a ∧ Below w.heap.size w w1 ∧ w.heap.size + 1 ≤ w1.heap.size := by
  obtain ⟨h0, hb, hs⟩ := blkE1 h
  exact ⟨h0, hb, Nat.le_of_eq hs.symm⟩
theorem blk2 {w w1 : World} {a b : Obj} (h : (w.alloc a).alloc b = w1) : w1.heap[w.heap.size]? = some a ∧ w1.heap[w.heap.size + 1]? = some b ∧ Below w.heap.size w w1 ∧ w.heap.size + 2 ≤ w1.heap.size := by
  obtain ⟨h0, h1, hb, hs⟩ := blkE2 h
  exact ⟨h0, h1, hb, Nat.le_of_eq hs.symm⟩
theorem blk3 {w w1 : World} {a b c : Obj} (h : ((w.alloc a).alloc b).alloc c = w1) : w1.heap[w.heap.size]? = some a ∧ w1.heap[w.heap.size + 1]? = some b ∧ w1.heap[w.heap.size + 1 + 1]? = some c ∧ Below w.heap.size w w1 ∧ w.heap.size + 3 ≤ w1.heap.size := by
  obtain ⟨h0, h1, h2, hb, hs⟩ := blkE3 h
  exact ⟨h0, h1, h2, hb, Nat.le_of_eq hs.symm⟩
theorem blk4 {w w1 : World} {a b c d : Obj} (h : (((w.alloc a).alloc b).alloc c).alloc d = w1) : w1.heap[w.heap.size]? = some a ∧ w1.heap[w.heap.size + 1]? = some b ∧ w1.heap[w.heap.size + 1 + 1]? = some c ∧ w1.heap[w.heap.size + 1 + 1 + 1]? = some d ∧ Below w.heap.size w w1 ∧ w.heap.size + 4 ≤ w1.heap.size := by
  obtain ⟨h0, h1, h2, h3, hb, hs⟩ := blkE4 h
  exact ⟨h0, h1, h2, h3, hb, Nat.le_of_eq hs.symm⟩
theorem blk5 {w w1 : World} {a b c d e : Obj} (h : ((((w.alloc a).alloc b).alloc c).alloc d).alloc e = w1) : w1.heap[w.heap.size]? = some a ∧ w1.heap[w.heap.size + 1]? = some b ∧ w1.heap[w.heap.size + 1 + 1]? = some c ∧ w1.heap[w.heap.size + 1 + 1 + 1]? = some d ∧ w1.heap[w.heap.size + 1 + 1 + 1 + 1]? = some e ∧ Below w.heap.size w w1 ∧ w.heap.size + 5 ≤ w1.heap.size := by
  obtain ⟨h0, h1, h2, h3, h4, hb, hs⟩ := blkE5 h
  exact ⟨h0, h1, h2, h3, h4, hb, Nat.le_of_eq hs.symm⟩
theorem blk6 {w w1 : World} {a b c d e f : Obj} (h : (((((w.alloc a).alloc b).alloc c).alloc d).alloc e).alloc f = w1) : w1.heap[w.heap.size]? = some a ∧ w1.heap[w.heap.size + 1]? = some b ∧ w1.heap[w.heap.size + 1 + 1]? = some c ∧ w1.heap[w.heap.size + 1 + 1 + 1]? = some d ∧ w1.heap[w.heap.size + 1 + 1 + 1 + 1]? = some e ∧ w1.heap[w.heap.size + 1 + 1 + 1 + 1 + 1]? = some f ∧ Below w.heap.size w w1 ∧ w.heap.size + 6 ≤ w1.heap.size := by
  obtain ⟨h0, h1, h2, h3, h4, h5, hb, hs⟩ := blkE6 h
  exact ⟨h0, h1, h2, h3, h4, h5, hb, Nat.le_of_eq hs.symm⟩
theorem blk7 {w w1 : World} {a b c d e f g : Obj} (h : ((((((w.alloc a).alloc b).alloc c).alloc d).alloc e).alloc f).alloc g = w1) : w1.heap[w.heap.size]? = some a ∧ w1.heap[w.heap.size + 1]? = some b ∧ w1.heap[w.heap.size + 1 + 1]? = some c ∧ w1.heap[w.heap.size + 1 + 1 + 1]? = some d ∧ w1.heap[w.heap.size + 1 + 1 + 1 + 1]? = some e ∧ w1.heap[w.heap.size + 1 + 1 + 1 + 1 + 1]? = some f ∧ w1.heap[w.heap.size + 1 + 1 + 1 + 1 + 1 + 1]? = some g ∧ Below w.heap.size w w1 ∧ w.heap.size + 7 ≤ w1.heap.size := by
  obtain ⟨h0, h1, h2, h3, h4, h5, h6, hb, hs⟩ := blkE7 h
  exact ⟨h0, h1, h2, h3, h4, h5, h6, hb, Nat.le_of_eq hs.symm⟩
/-- A call that turns nothing, in a region whose order is open. -/
theorem calls_ab_same {P : Program} {f : FuncId} {args : Array Value} {B : Nat} {w0 : World} {v : Value} (x : Ab B w0) (h : Calls P f args x.val fun e w' => e = .returned v ∧ x.val = w') :
    Calls P f args x.val fun e w'' => e = .returned v ∧ AbC B w0 w'' := h.mono fun _ _ ⟨he, hw⟩ => ⟨he, x, hw.symm⟩
theorem calls_quiet_same {P : Program} {f : FuncId} {args : Array Value} {w : World} {n : Nat} {v : Value} (h : Calls P f args (w.drewN n) fun e w' => e = .returned v ∧ w.drewN n = w') : Calls P f args (w.drewN n) fun e w'' => e = .returned v ∧ ∃ m, w'' = w.drewN m :=
  h.mono fun _ _ ⟨he, hm⟩ => ⟨he, n, hm.symm⟩

/-- A region whose order is open, in a round or not, that reads and calls what lays blocks. -/
theorem wpIn_region_ab {P : Program} {r : Option Nat} {n id : Nat} {Q : Exit → Act → World → Prop} {a : Act} {w : World} {l : List Oper} (B : Nat) (w0 : World) (hm : P.follows .mixedOrders = true) (hB : Region.lexB .any l.toArray = true) (hnd : noDefer l.toArray = true) (hL : LetsOut Q → False) (hb : Below B w0 w)
    (h : wpQuiet P l.toArray (AbC B w0) (fun a' => ∀ w', AbC B w0 w' → Q .normal a' w') l a) : (Code.region id l.toArray true).wpIn (fw r) n P Q a w := by
  simp only [Region.lexB, Bool.and_eq_true] at hB
  refine wpIn_region_any' hm hnd hL (wpAny_of_quiet (C := AbC B w0) (Q := fun a' => ∀ w', AbC B w0 w' → Q .normal a' w') (fun _ w' hw' h => h w' hw') _ _ _ _ ⟨⟨{ w with drawn := w.drawn + 1 }, hb.trans ⟨rfl, rfl, rfl, Nat.le_refl _, fun _ _ => rfl⟩⟩, rfl⟩ ?_)
  have := wpAnyQ_lex (C := AbC B w0) (md := .any) hB.1 l 0 (Array.replicate l.toArray.size false) a (by simp) (by simpa using hB.2) h
  simpa using this

/-- A region whose order is open, in a round or not: what reads comes first, then what writes, one after the other. -/
theorem wpIn_region_tail {P : Program} {r : Option Nat} {m id : Nat} {Q : Exit → Act → World → Prop} {a : Act} {w : World} {l : List Oper} (n : Nat) (hm : P.follows .mixedOrders = true) (hB : Region.lexTailB .any l.toArray n = true) (hnd : noDefer l.toArray = true) (hL : LetsOut Q → False)
    (h : wpStill P l.toArray (World.drew w) (fun a' => wpList P l.toArray Q (l.drop n) a' (World.drew w)) (l.take n) a) : (Code.region id l.toArray true).wpIn (fw r) m P Q a w := by
  simp only [Region.lexTailB, Bool.and_eq_true, decide_eq_true_eq] at hB
  obtain ⟨⟨⟨⟨h1, h2⟩, h3⟩, h4⟩, h5⟩ := hB
  have h2' : n < l.length := by simpa using h2
  have e1 : (l.take n).length = n := by rw [List.length_take]; omega
  have e2 : (l.drop n).length = l.toArray.size - n := by simp
  have first : ∀ i : Nat, l.toArray[i]? = l[i]? := fun i => List.getElem?_toArray
  refine wpIn_region_any' hm hnd hL ?_
  have H := wpAnyL_lex (md := .any) (g := l.toArray.size - n) h1 h3 h4 h2 (l.take n) 0 (Array.replicate l.toArray.size false) a
    (fun j hj => by rw [e1] at hj; rw [Nat.zero_add, first, List.getElem?_take, if_pos hj]) (by rw [e1, Nat.zero_add])
    ⟨by simp, fun j _ _ hl => (by rw [getD_replicate_false] at hl; cases hl), fun t _ ht => getD_in (by simpa using ht) (getD_replicate_false _ _)⟩ (by rw [e1]; exact h5) h
  have T := wpAny_of_head (Q' := Q) (g := l.toArray.size - n) (fun listed a' hT => by
    have := wpAny_of_seq (md := .any) (Q' := Q) (l.drop n) n listed a' (World.drew w) (fun j => by rw [first, List.getElem?_drop]) (by rw [e2]; exact hT.1) hT.2
    rwa [e2] at this) _ _ _ H
  rw [e1, show n + (l.toArray.size - n) = l.toArray.size by omega] at T
  exact T

/-! ### Marks: what loops over functions leave among the deferred calls of a frame -/
def mk (D : Nat) : Deferred := { target := .collected D, args := #[] }
structure Mk (B : Nat) (ds : List Nat) (w : World) : Prop where
  nd : ds.Nodup
  at_ : ∀ D ∈ ds, B ≤ D ∧ w.heap[D]? = some (.deferred (some []))
theorem Mk.nil (B : Nat) (w : World) : Mk B [] w := ⟨List.nodup_nil, fun _ h => by simp at h⟩
theorem Mk.keep {B : Nat} {ds : List Nat} {w w' : World} (h : Mk B ds w) (hk : ∀ (k : Nat) (o : Obj), w.heap[k]? = some o → o.isCells = false → w'.heap[k]? = some o) : Mk B ds w' :=
  ⟨h.nd, fun D hD => ⟨(h.at_ D hD).1, hk D _ (h.at_ D hD).2 rfl⟩⟩
theorem Mk.below {B : Nat} {ds : List Nat} {w w' : World} (h : Mk B ds w) (hb : Below w.heap.size w w') : Mk B ds w' := h.keep fun _ _ ho _ => blk_keep ho hb
theorem Mk.set {B b i : Nat} {ds : List Nat} {w : World} {v : Value} {c : Array Value} {t : TypeId} {fr : Nat × Nat} (h : Mk B ds w) (hb : w.heap[b]? = some (.cells c t fr)) : Mk B ds (w.setCell ⟨b, i, none⟩ v) :=
  h.keep fun k o ho hc => (heap_set_other (by rintro rfl; rw [hb] at ho; cases ho; cases hc)).trans ho
theorem Mk.put {B b : Nat} {ds : List Nat} {w : World} {o' : Obj} {c : Array Value} {t : TypeId} {fr : Nat × Nat} (h : Mk B ds w) (hb : w.heap[b]? = some (.cells c t fr)) : Mk B ds (w.putObj b o') :=
  h.keep fun k o ho hc => (World.putObj_heap_other (by rintro rfl; rw [hb] at ho; cases ho; cases hc)).trans ho
theorem Mk.cons {B D : Nat} {ds : List Nat} {w0 w : World} (h0 : Mk B ds w0) (h : Mk B ds w) (hD : D = w0.heap.size) (hB : B ≤ D) (hd : w.heap[D]? = some (.deferred (some []))) : Mk B (D :: ds) w :=
  ⟨List.nodup_cons.2 ⟨fun hm => by have := lt_blk (h0.at_ D hm).2; omega, h.nd⟩, fun E hE => by
    rcases List.mem_cons.1 hE with rfl | hE
    · exact ⟨hB, hd⟩
    · exact h.at_ E hE⟩
theorem Mk.stb {B n : Nat} {ds : List Nat} {w : World} (h : Mk B ds w) (hn : w.heap.size ≤ n) : Stb n (fun W => Mk B ds W) := fun _ _ g hW =>
  ⟨hW.nd, fun D hD => ⟨(hW.at_ D hD).1, (g.block D (lt_blk (hW.at_ D hD).2) (.inl (Nat.lt_of_lt_of_le (lt_blk (h.at_ D hD).2) hn))).trans (hW.at_ D hD).2⟩⟩
theorem leaves_marks {P : Program} {fn : Func} {tmps : Array Value} {R : Ending → World → Prop} {B : Nat} : ∀ (ds : List Nat) (w : World), Mk B ds w →
    (∀ w', Below B w w' → (∀ (k : Nat) (c : Array Value) t fr, w.heap[k]? = some (.cells c t fr) → w'.heap[k]? = some (.cells c t fr)) → ∃ v, (results fn tmps).run P w' = .ok v w' ∧ R (.returned v) w') →
    LeavesInM (fw none) 0 P fn tmps R (ds.map mk) .returning w
  | [], w, _, h => h w (Below.refl _ _) (fun _ _ _ _ h => h)
  | D :: ds, w, hm, h => by
    have hD := hm.at_ D (by simp)
    refine ⟨by simp, .inl ⟨D, _, rfl, run_takeDeferred hD.2, ?_⟩⟩
    have hb : Below B w (w.putObj D (.deferred none)) := ⟨rfl, rfl, rfl, by simp, fun k hk => World.putObj_heap_other (by omega)⟩
    have hc : ∀ (k : Nat) (c : Array Value) t fr, w.heap[k]? = some (.cells c t fr) → (w.putObj D (.deferred none)).heap[k]? = some (.cells c t fr) := fun k c t fr hk =>
      (World.putObj_heap_other (by rintro rfl; rw [hD.2] at hk; cases hk)).trans hk
    refine leaves_marks ds _ ⟨(List.nodup_cons.1 hm.nd).2, fun E hE => ⟨(hm.at_ E (by simp [hE])).1, (World.putObj_heap_other ?_).trans (hm.at_ E (by simp [hE])).2⟩⟩ (fun w' h1 h2 => h w' (hb.trans h1) (fun k c t fr hk => h2 k c t fr (hc k c t fr hk)))
    rintro rfl
    exact (List.nodup_cons.1 hm.nd).1 hE
/-- A struct or an array that lies in memory, as the result. -/
theorem results_blk {P : Program} {fn : Func} {p : Tmp} {ty : TypeId} (h : fn.results = #[.cell p ty]) (tmps : Array Value) (w : World) (g : Nat) {t : TypeId} {cs : Array Value} {fr : Nat × Nat} {d : TypeDesc}
    (hp : tmps.getD p undef = .pointer (some ⟨g, 0, none⟩)) (hg : w.heap[g]? = some (.cells cs t fr))
    (hu : P.underlying ty = some d) (hd : (match d with | .struct _ | .array _ _ => true | _ => false) = true) {k : Nat} (hi : (P.info? ty).map (·.size) = some k) (hk : cs.size = k) :
    (results fn tmps).run P w = .ok (.agg cs) w := by
  subst hk
  have hp' : tmps[p]?.getD undef = .pointer (some ⟨g, 0, none⟩) := by simpa using hp
  simp [results, h, hp', asAddr, run_loadVar_row w g t ty cs fr d hg hu hd hi]

/-! ### Lists of numbers -/
/-- An element of a list of numbers. -/
def at0 (xs : List Int) (i : Nat) : Int := xs.getD i 0
theorem at0_lt {xs : List Int} {i : Nat} (h : i < xs.length) : at0 xs i = xs[i] := by simp [at0, h]
theorem eq_of_at0 : ∀ {xs ys : List Int}, xs.length = ys.length → (∀ i, i < xs.length → at0 xs i = at0 ys i) → xs = ys := by
  intro xs ys hl h
  apply List.ext_getElem hl
  intro i h1 h2
  have := h i h1
  rwa [at0_lt h1, at0_lt h2] at this

/-- A slice value that reads as a list of numbers. -/
def SlI (w : World) (v : Value) (xs : List Int) : Prop :=
  ∃ ad cap, v = .slice ad xs.length cap ∧ xs.length ≤ 17592186044416 ∧ xs.length ≤ cap ∧
    (0 < xs.length → ∃ b off, ad = some ⟨b, off, none⟩ ∧ b < w.heap.size ∧ ∀ i, i < xs.length → w.cell? ⟨b, off + i, none⟩ = some (.int .i64 (at0 xs i)))
theorem SlI.below {w w' : World} {v : Value} {xs : List Int} {B : Nat} (h : SlI w v xs) (hb : Below B w w') (hB : w.heap.size ≤ B) : SlI w' v xs := by
  obtain ⟨ad, cap, hv, hm, hp, hc⟩ := h
  refine ⟨ad, cap, hv, hm, hp, fun h0 => ?_⟩
  obtain ⟨b, off, ha, hlt, hcell⟩ := hc h0
  exact ⟨b, off, ha, Nat.lt_of_lt_of_le hlt hb.size, fun i hi => (hb.cell (p := ⟨b, off + i, none⟩) (by simpa using by omega)).trans (hcell i hi)⟩
theorem slI_nil (w : World) : SlI w (.slice none 0 0) [] := ⟨none, 0, rfl, by simp, by simp, fun h => by simp at h⟩

/-- A slice value that reads as a list of values of one cell each. -/
def SlV (w : World) (v : Value) (vs : List Value) : Prop :=
  ∃ ad cap, v = .slice ad vs.length cap ∧ vs.length ≤ 17592186044416 ∧ vs.length ≤ cap ∧
    (0 < vs.length → ∃ b off, ad = some ⟨b, off, none⟩ ∧ b < w.heap.size ∧ ∀ i (h : i < vs.length), w.cell? ⟨b, off + i, none⟩ = some vs[i])
theorem SlV.below {w w' : World} {v : Value} {xs : List Value} {B : Nat} (h : SlV w v xs) (hb : Below B w w') (hB : w.heap.size ≤ B) : SlV w' v xs := by
  obtain ⟨ad, cap, hv, hm, hp, hc⟩ := h
  refine ⟨ad, cap, hv, hm, hp, fun h0 => ?_⟩
  obtain ⟨b, off, ha, hlt, hcell⟩ := hc h0
  exact ⟨b, off, ha, Nat.lt_of_lt_of_le hlt hb.size, fun i hi => (hb.cell (p := ⟨b, off + i, none⟩) (by simpa using by omega)).trans (hcell i hi)⟩

/-- A slice value that reads as a list of things of sz cells each. -/
def SlG {α : Type} (enc : α → List Value) (sz : Nat) (w : World) (v : Value) (xs : List α) : Prop :=
  ∃ ad cap, v = .slice ad xs.length cap ∧ xs.length ≤ 8796093022208 ∧ xs.length ≤ cap ∧
    (0 < xs.length → ∃ b off, ad = some ⟨b, off, none⟩ ∧ b < w.heap.size ∧ ∀ i (h : i < xs.length) f u, (enc xs[i])[f]? = some u → w.cell? ⟨b, off + i * sz + f, none⟩ = some u)
theorem SlG.below {α : Type} {enc : α → List Value} {sz : Nat} {w w' : World} {v : Value} {xs : List α} {B : Nat} (h : SlG enc sz w v xs) (hb : Below B w w') (hB : w.heap.size ≤ B) : SlG enc sz w' v xs := by
  obtain ⟨ad, cap, hv, hm, hp, hc⟩ := h
  refine ⟨ad, cap, hv, hm, hp, fun h0 => ?_⟩
  obtain ⟨b, off, ha, hlt, hcell⟩ := hc h0
  exact ⟨b, off, ha, Nat.lt_of_lt_of_le hlt hb.size, fun i hi f u hu => (hb.cell (p := ⟨b, _, none⟩) (by simpa using by omega)).trans (hcell i hi f u hu)⟩
theorem slG_nil {α : Type} (enc : α → List Value) (sz : Nat) (w : World) : SlG enc sz w (.slice none 0 0) [] := ⟨none, 0, rfl, by simp, by simp, fun h => by simp at h⟩

theorem flat_length {α β : Type} {enc : α → List β} {sz : Nat} (he : ∀ x, (enc x).length = sz) (xs : List α) : (xs.flatMap enc).length = xs.length * sz := by
  induction xs with
  | nil => simp
  | cons x xs ih => rw [List.flatMap_cons, List.length_append, he, ih, List.length_cons, Nat.add_mul]; omega
theorem flat_get {α β : Type} {enc : α → List β} {sz : Nat} (he : ∀ x, (enc x).length = sz) : ∀ {xs : List α} {k : Nat} (hk : k < xs.length) {f : Nat}, f < sz → (xs.flatMap enc)[k * sz + f]? = (enc xs[k])[f]?
  | [], _, hk, _, _ => by simp at hk
  | x :: xs, 0, _, f, hf => by
    rw [List.flatMap_cons, Nat.zero_mul, Nat.zero_add, List.getElem?_append_left (by rw [he]; exact hf)]; rfl
  | x :: xs, k + 1, hk, f, hf => by
    rw [List.flatMap_cons, List.getElem?_append_right (by rw [he, Nat.add_mul]; omega), he]
    have e : (k + 1) * sz + f - sz = k * sz + f := by rw [Nat.add_mul]; omega
    rw [e, flat_get he (xs := xs) (by simpa using hk) hf]; rfl
theorem flat_split {α β : Type} {enc : α → List β} {sz : Nat} (he : ∀ x, (enc x).length = sz) {xs : List α} {j : Nat} {u : β} (h : (xs.flatMap enc)[j]? = some u) (h0 : 0 < sz) : ∃ (hk : j / sz < xs.length), (enc xs[j / sz])[j % sz]? = some u := by
  have hl : j < (xs.flatMap enc).length := (List.getElem?_eq_some_iff.1 h).1
  rw [flat_length he] at hl
  have hk : j / sz < xs.length := (Nat.div_lt_iff_lt_mul h0).2 hl
  refine ⟨hk, ?_⟩
  rw [← flat_get he hk (Nat.mod_lt _ h0), Nat.div_add_mod' j sz]; exact h

theorem cap_of {W : World} {base : Nat} {e : TypeId} {sz : Nat} {v : Value} {n : Nat} {xs : List Value} (h : W.ownsRow base e sz v n xs) : ∀ ad m cap, v = .slice ad m cap → m ≤ cap := by
  intro ad m cap hv
  rcases h.2 with ⟨h1, _⟩ | ⟨g, c, cur, h1, _, _, hnc, _⟩
  · rw [h1] at hv; injection hv with _ e2 e3; omega
  · rw [h1] at hv; injection hv with _ e2 e3; omega
theorem slG_own {α : Type} {enc : α → List Value} {sz : Nat} (he : ∀ x, (enc x).length = sz) {W : World} {base : Nat} {e : TypeId} {v : Value} {xs : List α} {n : Nat} (h : W.ownsRow base e sz v n (xs.flatMap enc)) (hn : n = xs.length) (hm : xs.length ≤ 8796093022208) : SlG enc sz W v xs := by
  subst hn
  have hcap := cap_of h
  rcases Joins.ownsRow_forms h with ⟨rfl, h0⟩ | ⟨g, cap, rfl⟩
  · exact ⟨none, 0, by rw [h0], hm, by omega, fun h1 => by omega⟩
  · have hl := h.lt g rfl
    refine ⟨_, cap, rfl, hm, hcap _ _ _ rfl, fun _ => ⟨g, 0, rfl, hl.2, fun i hi f u hu => ?_⟩⟩
    have hf : f < sz := by rw [← he xs[i]]; exact (List.getElem?_eq_some_iff.1 hu).1
    have h1 : i * sz + f < xs.length * sz := by
      have : (i + 1) * sz ≤ xs.length * sz := Nat.mul_le_mul_right _ hi
      rw [Nat.add_mul] at this; omega
    have := h.cellAt (i * sz + f) (by first | exact h1 | (rw [flat_length he]; exact h1))
    rw [Nat.zero_add, this, flat_get he hi hf]; exact hu
theorem slI_own {W : World} {base : Nat} {e : TypeId} {v : Value} {xs : List Int} {n : Nat} (h : W.ownsRow base e 1 v n (xs.map (.int .i64))) (hn : n = xs.length) (hm : xs.length ≤ 17592186044416) : SlI W v xs := by
  subst hn
  have hcap := cap_of h
  rcases Joins.ownsRow_forms h with ⟨rfl, h0⟩ | ⟨g, cap, rfl⟩
  · exact ⟨none, 0, by rw [h0], hm, by omega, fun h1 => by omega⟩
  · have hl := h.lt g rfl
    refine ⟨_, cap, rfl, hm, hcap _ _ _ rfl, fun _ => ⟨g, 0, rfl, hl.2, fun i hi => ?_⟩⟩
    have := h.cellAt i (by omega)
    rw [Nat.zero_add, this]
    simp [at0_lt hi, hi]
theorem slV_own {W : World} {base : Nat} {e : TypeId} {v : Value} {xs : List Value} {n : Nat} (h : W.ownsRow base e 1 v n xs) (hn : n = xs.length) (hm : xs.length ≤ 17592186044416) : SlV W v xs := by
  subst hn
  have hcap := cap_of h
  rcases Joins.ownsRow_forms h with ⟨rfl, h0⟩ | ⟨g, cap, rfl⟩
  · exact ⟨none, 0, by rw [h0], hm, by omega, fun h1 => by omega⟩
  · have hl := h.lt g rfl
    refine ⟨_, cap, rfl, hm, hcap _ _ _ rfl, fun _ => ⟨g, 0, rfl, hl.2, fun i hi => ?_⟩⟩
    have := h.cellAt i (by omega)
    rw [Nat.zero_add, this]
    simp [hi]
/-- A new block, as a slice. -/
theorem slI_new {w : World} {xs : List Int} {t : TypeId} {cap : Nat} {fr : Nat × Nat} (hm : xs.length ≤ 17592186044416) (hc : xs.length ≤ cap) {k : Nat} (hk : w.heap[k]? = some (.cells (xs.map (Value.int .i64)).toArray t fr)) : SlI w (.slice (some ⟨k, 0, none⟩) xs.length cap) xs := by
  refine ⟨_, cap, rfl, hm, hc, fun _ => ⟨k, 0, rfl, lt_blk hk, fun i hi => ?_⟩⟩
  rw [Nat.zero_add, cell_blk hk]
  simp [hi, at0]
theorem slV_new {w : World} {xs : List Value} {t : TypeId} {cap : Nat} {fr : Nat × Nat} (hm : xs.length ≤ 17592186044416) (hc : xs.length ≤ cap) {k : Nat} (hk : w.heap[k]? = some (.cells xs.toArray t fr)) : SlV w (.slice (some ⟨k, 0, none⟩) xs.length cap) xs := by
  refine ⟨_, cap, rfl, hm, hc, fun _ => ⟨k, 0, rfl, lt_blk hk, fun i hi => ?_⟩⟩
  rw [Nat.zero_add, cell_blk hk]
  simp [hi]
theorem slG_new {α : Type} {enc : α → List Value} {sz : Nat} (he : ∀ x, (enc x).length = sz) {w : World} {xs : List α} {t : TypeId} {cap : Nat} {fr : Nat × Nat} (hm : xs.length ≤ 8796093022208) (hc : xs.length ≤ cap) {k : Nat} (hk : w.heap[k]? = some (.cells (xs.flatMap enc).toArray t fr)) : SlG enc sz w (.slice (some ⟨k, 0, none⟩) xs.length cap) xs := by
  refine ⟨_, cap, rfl, hm, hc, fun _ => ⟨k, 0, rfl, lt_blk hk, fun i hi f u hu => ?_⟩⟩
  have hf : f < sz := by rw [← he xs[i]]; exact (List.getElem?_eq_some_iff.1 hu).1
  rw [Nat.zero_add, cell_blk hk, List.getElem?_toArray, flat_get he hi hf]; exact hu
/-- Such a slice as a source of append. -/
theorem reads_of_slI {w : World} {ad : Option Addr} {n cap : Nat} {xs : List Int} (h : SlI w (.slice ad n cap) xs) : Reads w w.heap.size 1 ad n (xs.map (.int .i64)) := by
  obtain ⟨ad', cap', h1, _, _, h3⟩ := h
  injection h1 with e1 e2 _
  subst e1 e2
  refine ⟨by simp, fun h0 => ?_⟩
  obtain ⟨b, off, rfl, hlt, hc⟩ := h3 h0
  refine ⟨_, rfl, hlt, fun j u hu => ?_⟩
  have hj : j < xs.length := by simpa using (List.getElem?_eq_some_iff.1 hu).1
  rw [add_at, hc j hj]
  simp [hj] at hu
  rw [at0_lt hj, hu]
theorem reads_of_slV {w : World} {ad : Option Addr} {n cap : Nat} {xs : List Value} (h : SlV w (.slice ad n cap) xs) : Reads w w.heap.size 1 ad n xs := by
  obtain ⟨ad', cap', h1, _, _, h3⟩ := h
  injection h1 with e1 e2 _
  subst e1 e2
  refine ⟨by simp, fun h0 => ?_⟩
  obtain ⟨b, off, rfl, hlt, hc⟩ := h3 h0
  refine ⟨_, rfl, hlt, fun j u hu => ?_⟩
  obtain ⟨hj, rfl⟩ := List.getElem?_eq_some_iff.1 hu
  rw [add_at, hc j hj]
theorem reads_of_slG {α : Type} {enc : α → List Value} {sz : Nat} (he : ∀ x, (enc x).length = sz) (h0s : 0 < sz) {w : World} {ad : Option Addr} {n cap : Nat} {xs : List α} (h : SlG enc sz w (.slice ad n cap) xs) : Reads w w.heap.size sz ad n (xs.flatMap enc) := by
  obtain ⟨ad', cap', h1, _, _, h3⟩ := h
  injection h1 with e1 e2 _
  subst e1 e2
  refine ⟨flat_length he xs, fun h0 => ?_⟩
  obtain ⟨b, off, rfl, hlt, hc⟩ := h3 h0
  refine ⟨_, rfl, hlt, fun j u hu => ?_⟩
  obtain ⟨hk, hu2⟩ := flat_split he hu h0s
  have := hc _ hk _ _ hu2
  rw [add_at]
  rw [Nat.add_assoc, Nat.div_add_mod' j sz] at this
  exact this

/-! ### Slices of the call's own, grown by append -/
theorem Stb.row {B base : Nat} {e : TypeId} {sz : Nat} {v : Value} {n : Nat} {xs : List Value} : Stb B (fun W => W.ownsRow base e sz v n xs) := by
  rintro W W' g ⟨h1, h2⟩
  refine ⟨h1, ?_⟩
  rcases h2 with h | ⟨b, cap, cur, hv, hb, hh, r1, r2, r3, r4⟩
  · exact .inl h
  · exact .inr ⟨b, cap, cur, hv, hb, Stb.cells (B := B) W W' g hh, r1, r2, r3, r4⟩
theorem row_below {W W' : World} {base : Nat} {e : TypeId} {sz : Nat} {v : Value} {n : Nat} {xs : List Value} (h : W.ownsRow base e sz v n xs) (hb : Below W.heap.size W W') : W'.ownsRow base e sz v n xs := Stb.row (B := 0) W W' (Gr.below hb) h
theorem row_set_other {W : World} {base : Nat} {e : TypeId} {sz : Nat} {v : Value} {n : Nat} {xs : List Value} {b i : Nat} {x : Value} (h : W.ownsRow base e sz v n xs) (hne : v.ownBlock ≠ some b) : (W.setCell ⟨b, i, none⟩ x).ownsRow base e sz v n xs := by
  refine ⟨h.1, ?_⟩
  rcases h.2 with h | ⟨g, cap, cur, rfl, hb, hh, r1, r2, r3, r4⟩
  · exact .inl h
  · exact .inr ⟨g, cap, cur, rfl, hb, (heap_set_other (fun e => hne (by rw [e]; rfl))).trans hh, r1, r2, r3, r4⟩
theorem row_bm {W W' : World} {base m : Nat} {e : TypeId} {sz : Nat} {v : Value} {n : Nat} {xs : List Value} (h : W.ownsRow base e sz v n xs) (hb : Bm m W.heap.size W W') (hm : m < base) : W'.ownsRow base e sz v n xs := by
  obtain ⟨h1, h2⟩ := h
  refine ⟨h1, ?_⟩
  rcases h2 with h | ⟨b, cap, cur, hv, hbb, hh, r1, r2, r3, r4⟩
  · exact .inl h
  · exact .inr ⟨b, cap, cur, hv, hbb, (hb.block b (Array.getElem?_eq_some_iff.1 hh).1 (by omega)).trans hh, r1, r2, r3, r4⟩
/-- Behind an append onto a slice of the call's own, what lay below is as it was. -/
theorem grown_below {W W' X : World} {v : Value} {B n m : Nat} {xs : List Value} {e : TypeId} {sz : Nat} (h : W.grownBy W' v.ownBlock) (ho : W.ownsRow B e sz v n xs) (hb : m ≤ B) (hB : B ≤ W.heap.size) (hx : Below m X W) : Below m X W' := by
  refine ⟨h.os.trans hx.os, h.tape.trans hx.tape, h.output.trans hx.output, Nat.le_trans hx.size h.size, fun k hk => ?_⟩
  rw [h.block k (by omega) (fun h2 => by have := (ho.lt k h2.symm).1; omega)]
  exact hx.block k hk
theorem grown_below1 {W W' X : World} {o : Obj} {v : Value} {B n m : Nat} {xs : List Value} {e : TypeId} {sz : Nat} (h : (W.alloc o).grownBy W' v.ownBlock) (ho : W.ownsRow B e sz v n xs) (hb : m ≤ B) (hB : B ≤ W.heap.size) (hx : Below m X W) : Below m X W' := by
  have hsz : (W.alloc o).heap.size = W.heap.size + 1 := by rw [World.size_alloc]
  refine ⟨h.os.trans hx.os, h.tape.trans hx.tape, h.output.trans hx.output, Nat.le_trans hx.size (Nat.le_trans (by omega) h.size), fun k hk => ?_⟩
  rw [h.block k (by omega) (fun h2 => by have := (ho.lt k h2.symm).1; omega), heap_oldI (by omega)]
  exact hx.block k hk
theorem own_ne {W : World} {base k : Nat} {e : TypeId} {sz : Nat} {v : Value} {n : Nat} {xs : List Value} {c : Array Value} {t : TypeId} {fr : Nat × Nat} (ho : W.ownsRow base e sz v n xs) (h : W.heap[k]? = some (.cells c t fr)) (ht : t ≠ e) : v.ownBlock ≠ some k := by
  rcases ho.2 with ⟨rfl, _⟩ | ⟨g, cap, cur, rfl, hbg, hh, _⟩
  · simp [Value.ownBlock]
  · intro hk
    have hg : g = k := by simpa [Value.ownBlock] using hk
    subst hg
    rw [h] at hh
    cases hh
    exact ht rfl
theorem form_of {W : World} {base : Nat} {e : TypeId} {sz n : Nat} {v : Value} {xs : List Value} (h : W.ownsRow base e sz v n xs) : ∃ ad cap, v = .slice ad n cap := by
  rcases Joins.ownsRow_forms h with ⟨rfl, h0⟩ | ⟨g, cap, rfl⟩
  · exact ⟨none, 0, by rw [h0]⟩
  · exact ⟨_, cap, rfl⟩
theorem cell_new1 {W : World} {x : Value} {t : TypeId} {g : Nat} (hg : g = W.heap.size) : ∀ j u, [x][j]? = some u → (W.alloc (.cells #[x] t)).cell? ((⟨g, 0, none⟩ : Addr).add j) = some u := by
  subst hg
  intro j u h
  cases j with
  | zero => simp at h; subst h; simp [Addr.add]
  | succ j => simp at h
theorem cell_newL {W : World} {xs : List Value} {t : TypeId} {g : Nat} (hg : g = W.heap.size) : ∀ j u, xs[j]? = some u → (W.alloc (.cells xs.toArray t)).cell? ((⟨g, 0, none⟩ : Addr).add j) = some u := by
  subst hg
  intro j u h
  rw [add_at, cell_blk (heap_newI rfl), Nat.zero_add, List.getElem?_toArray]; exact h
/-- What holds behind the append and the store into the variable. -/
structure Appended (W : World) (b : Nat) (t : TypeId) (base : Nat) (e : TypeId) (sz : Nat) (v v' : Value) (m : Nat) (ys : List Value) (w1 : World) : Prop where
  cell : w1.cell? ⟨b, 0, none⟩ = some v
  free : w1.frozen? ⟨b, 0, none⟩ = false
  blk : (w1.setCell ⟨b, 0, none⟩ v').heap[b]? = some (.cells #[v'] t (0, 0))
  row : (w1.setCell ⟨b, 0, none⟩ v').ownsRow base e sz v' m ys
  others : ∀ k, k < base → k ≠ b → (w1.setCell ⟨b, 0, none⟩ v').heap[k]? = W.heap[k]?
  kx : ∀ (B : Nat) (TT : TypeId → Prop), ¬ TT t → ¬ TT e → Kx B TT W (w1.setCell ⟨b, 0, none⟩ v')
  below : ∀ n X, n ≤ b → Below n X W → Below n X (w1.setCell ⟨b, 0, none⟩ v')
  size : W.heap.size ≤ (w1.setCell ⟨b, 0, none⟩ v').heap.size
theorem appended {W w1 : World} {b : Nat} {t : TypeId} {base : Nat} {e : TypeId} {sz : Nat} {v v' : Value} {n m : Nat} {xs ys : List Value} {o : Obj}
    (hb : W.heap[b]? = some (.cells #[v] t (0, 0))) (ho : W.ownsRow base e sz v n xs) (hlt : b < base) (hB : base ≤ W.heap.size)
    (ho' : w1.ownsRow base e sz v' m ys) (hg : (W.alloc o).grownBy w1 v.ownBlock) : Appended W b t base e sz v v' m ys w1 := by
  have hsz : (W.alloc o).heap.size = W.heap.size + 1 := by rw [World.size_alloc]
  have hk : ∀ k, k < base → w1.heap[k]? = W.heap[k]? := fun k hk => by
    rw [hg.block k (by omega) (fun h2 => by have := (ho.lt k h2.symm).1; omega)]
    exact heap_oldI (by omega)
  have hb1 := (hk b hlt).trans hb
  have hs : W.heap.size ≤ w1.heap.size := by have := hg.size; omega
  refine ⟨by rw [cell_blk hb1]; rfl, free_blk hb1, by rw [heap_set_blk hb1]; rfl, ownsRow_setCell_below ho' (by simpa using hlt) _, fun k h1 h2 => (heap_set_other h2).trans (hk k h1), ?_, ?_, by rw [World.size_setCell]; exact hs⟩
  · intro B TT ht he
    refine Kx.trans (Y := w1) ?_ (Kx.setCell hb1 ht)
    refine Kx.trans (Kx.alloc B TT W o) ?_
    rcases ho.2 with ⟨rfl, _⟩ | ⟨g, cap, cur, rfl, hbg, hh, _⟩
    · exact ⟨hg.size, fun k _ _ h _ => (hg.block k (Array.getElem?_eq_some_iff.1 h).1 (by simp [Value.ownBlock])).trans h, fun k _ _ _ h _ => (hg.block k (Array.getElem?_eq_some_iff.1 h).1 (by simp [Value.ownBlock])).trans h⟩
    · exact Kx.one (b := g) ((heap_oldI (lt_blk hh)).trans hh) he hg.size (fun k hk hne => hg.block k hk (by simpa [Value.ownBlock] using hne))
  · intro k X hkb hX
    refine ⟨hg.os.trans hX.os, hg.tape.trans hX.tape, hg.output.trans hX.output, by rw [World.size_setCell]; exact Nat.le_trans hX.size hs, fun i hi => ?_⟩
    exact (heap_set_other (by omega)).trans ((hk i (by omega)).trans (hX.block i hi))
theorem append_same {W w1 : World} {base : Nat} {e : TypeId} {sz : Nat} {v : Value} {n : Nat} {xs : List Value} {o : Obj} (ho : W.ownsRow base e sz v n xs) (hg : (W.alloc o).drew.grownBy w1 v.ownBlock) :
    (∀ k, k < W.heap.size → v.ownBlock ≠ some k → w1.heap[k]? = W.heap[k]?) ∧ W.heap.size + 1 ≤ w1.heap.size ∧ (base ≤ W.heap.size → Below base W w1) := by
  have hsz : (W.alloc o).drew.heap.size = W.heap.size + 1 := by show (W.alloc o).heap.size = _; rw [World.size_alloc]
  have h1 : ∀ k, k < W.heap.size → v.ownBlock ≠ some k → w1.heap[k]? = W.heap[k]? := fun k hk hne => by
    rw [hg.block k (by omega) (fun h => hne h.symm)]
    exact heap_oldI hk
  refine ⟨h1, by have := hg.size; omega, fun hb => ⟨hg.os, hg.tape, hg.output, by have := hg.size; omega, fun k hk => h1 k (by omega) (fun h => by have := (ho.lt k h).1; omega)⟩⟩
theorem append_kx {W w1 : World} {base B : Nat} {TT : TypeId → Prop} {e : TypeId} {sz : Nat} {v : Value} {n : Nat} {xs : List Value} {o : Obj} (ho : W.ownsRow base e sz v n xs) (hg : (W.alloc o).drew.grownBy w1 v.ownBlock) (he : ¬ TT e) : Kx B TT W w1 := by
  obtain ⟨h1, h2, -⟩ := append_same ho hg
  rcases ho.2 with ⟨rfl, _⟩ | ⟨g, cap, cur, rfl, hbg, hh, _⟩
  · exact ⟨by omega, fun k _ _ h _ => (h1 k (Array.getElem?_eq_some_iff.1 h).1 (by simp [Value.ownBlock])).trans h, fun k _ _ _ h _ => (h1 k (Array.getElem?_eq_some_iff.1 h).1 (by simp [Value.ownBlock])).trans h⟩
  · exact Kx.one (b := g) hh he (by omega) (fun k hk hne => h1 k hk (by simpa [Value.ownBlock] using fun h => hne h.symm))
theorem Kx.mono {B B' : Nat} {TT : TypeId → Prop} {X Y : World} (h : Kx B TT X Y) (hB : B ≤ B') : Kx B' TT X Y := ⟨h.size, fun k o hk => h.same k o (Nat.le_trans hB hk), h.typed⟩
theorem Stb.kx {B n : Nat} {TT : TypeId → Prop} {X : World} (hX : X.heap.size ≤ B) : Stb B (fun W => Kx n TT X W) := fun _ _ g h =>
  ⟨Nat.le_trans h.size g.size,
   fun k o hk ho hc => (g.block k (Array.getElem?_eq_some_iff.1 (h.same k o hk ho hc)).1 (.inl (Nat.lt_of_lt_of_le (Array.getElem?_eq_some_iff.1 ho).1 hX))).trans (h.same k o hk ho hc),
   fun k c t fr hk ht => (g.block k (Array.getElem?_eq_some_iff.1 (h.typed k c t fr hk ht)).1 (.inl (Nat.lt_of_lt_of_le (Array.getElem?_eq_some_iff.1 hk).1 hX))).trans (h.typed k c t fr hk ht)⟩
/-! ### Maps of which each entry is right -/
theorem SlI.memo {w w' : World} {v : Value} {xs : List Int} {m : Nat} {G : Value → Value → Prop} (h : SlI w v xs) (hm : Memo w m G) (hb : Bm m w.heap.size w w') : SlI w' v xs := by
  obtain ⟨es, clock, hmb, _⟩ := hm
  obtain ⟨ad, cap, hv, hmx, hp, hc⟩ := h
  refine ⟨ad, cap, hv, hmx, hp, fun h0 => ?_⟩
  obtain ⟨b, off, ha, hlt, hcell⟩ := hc h0
  have hn : b ≠ m := by rintro rfl; have := hcell 0 h0; simp [World.cell?, hmb] at this
  exact ⟨b, off, ha, Nat.lt_of_lt_of_le hlt hb.size, fun i hi => (World.cell?_of_block (w := w) (hb.block b hlt hn)).trans (hcell i hi)⟩
theorem SlV.memo {w w' : World} {v : Value} {xs : List Value} {m : Nat} {G : Value → Value → Prop} (h : SlV w v xs) (hm : Memo w m G) (hb : Bm m w.heap.size w w') : SlV w' v xs := by
  obtain ⟨es, clock, hmb, _⟩ := hm
  obtain ⟨ad, cap, hv, hmx, hp, hc⟩ := h
  refine ⟨ad, cap, hv, hmx, hp, fun h0 => ?_⟩
  obtain ⟨b, off, ha, hlt, hcell⟩ := hc h0
  have hn : b ≠ m := by rintro rfl; have := hcell 0 h0; simp [World.cell?, hmb] at this
  exact ⟨b, off, ha, Nat.lt_of_lt_of_le hlt hb.size, fun i hi => (World.cell?_of_block (w := w) (hb.block b hlt hn)).trans (hcell i hi)⟩
theorem SlG.memo {α : Type} {enc : α → List Value} {sz : Nat} (he : ∀ x, (enc x).length = sz) (h0s : 0 < sz) {w w' : World} {v : Value} {xs : List α} {m : Nat} {G : Value → Value → Prop} (h : SlG enc sz w v xs) (hm : Memo w m G) (hb : Bm m w.heap.size w w') : SlG enc sz w' v xs := by
  obtain ⟨es, clock, hmb, _⟩ := hm
  obtain ⟨ad, cap, hv, hmx, hp, hc⟩ := h
  refine ⟨ad, cap, hv, hmx, hp, fun h0 => ?_⟩
  obtain ⟨b, off, ha, hlt, hcell⟩ := hc h0
  have hn : b ≠ m := by
    rintro rfl
    have hl : 0 < (enc xs[0]).length := by rw [he]; exact h0s
    have := hcell 0 h0 0 _ (List.getElem?_eq_getElem hl)
    simp [World.cell?, hmb] at this
  exact ⟨b, off, ha, Nat.lt_of_lt_of_le hlt hb.size, fun i hi f u hu => (World.cell?_of_block (w := w) (hb.block b hlt hn)).trans (hcell i hi f u hu)⟩
theorem memo_new (W : World) (n : Nat) (G : Value → Value → Prop) : Memo (W.alloc (.map #[] n)) W.heap.size G := ⟨#[], n, heap_newI rfl, fun e he => by simp at he⟩
theorem below_of_bm {W X W' : World} {B : Nat} (h : Bm W.heap.size B X W') (hB : W.heap.size ≤ B) (hX : Below W.heap.size W X) : Below W.heap.size W W' :=
  ⟨h.os.trans hX.os, h.tape.trans hX.tape, h.output.trans hX.output, Nat.le_trans hX.size h.size, fun k hk => (h.block k (by omega) (by omega)).trans (hX.block k hk)⟩
theorem bm_below {m B : Nat} {W W' X : World} (h : Bm m B W W') (hb : Below W'.heap.size W' X) (hB : B ≤ W'.heap.size) : Bm m B W X := h.trans (Bm.of (hb.mono hB))
end Ytgnjeefanbcbkaa
end Go.Proofs
