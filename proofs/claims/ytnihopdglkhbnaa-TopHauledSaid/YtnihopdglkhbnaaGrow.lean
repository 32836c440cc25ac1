/- A slice of the call's own in a variable, grown by append; over whatever program. -/
import Derived.Test.YtnihopdglkhbnaaLaws
import Derived.Test.YtnihopdglkhbnaaCount
import Derived.Lib.SmallJoins
open Go Go.RowKit
namespace Go
namespace YtnihopdglkhbnaaIt
open Go.Proofs.Ytnihopdglkhbnaa
theorem Stb.row {B base : Nat} {e : TypeId} {sz : Nat} {v : Value} {n : Nat} {xs : List Value} : Stb B (fun W => W.ownsRow base e sz v n xs) := by
  rintro W W' g ⟨h1, h2⟩
  refine ⟨h1, ?_⟩
  rcases h2 with h | ⟨b, cap, cur, hv, hb, hh, r1, r2, r3, r4⟩
  · exact .inl h
  · exact .inr ⟨b, cap, cur, hv, hb, Stb.cells (B := B) W W' g hh, r1, r2, r3, r4⟩
/-- What holds behind the append and the store into the variable. -/
structure Appended (W : World) (b : Nat) (t : TypeId) (base : Nat) (e : TypeId) (sz : Nat) (v v' : Value) (m : Nat) (ys : List Value) (w1 : World) : Prop where
  cell : w1.cell? ⟨b, 0, none⟩ = some v
  free : w1.frozen? ⟨b, 0, none⟩ = false
  blk : (w1.setCell ⟨b, 0, none⟩ v').heap[b]? = some (.cells #[v'] t (0, 0))
  row : (w1.setCell ⟨b, 0, none⟩ v').ownsRow base e sz v' m ys
  others : ∀ k, k < base → k ≠ b → (w1.setCell ⟨b, 0, none⟩ v').heap[k]? = W.heap[k]?
  kx : ∀ (B : Nat) (TT : TypeId → Prop), ¬ TT t → ¬ TT e → Kx B TT W (w1.setCell ⟨b, 0, none⟩ v')
  below : ∀ n X, n ≤ b → Below n X W → Below n X (w1.setCell ⟨b, 0, none⟩ v')
  size : W.heap.size ≤ (w1.setCell ⟨b, 0, none⟩ v').heap.size
theorem appended {W w1 : World} {b : Nat} {t : TypeId} {base : Nat} {e : TypeId} {sz : Nat} {v v' : Value} {n m : Nat} {xs ys : List Value} {o : Obj}
    (hb : W.heap[b]? = some (.cells #[v] t (0, 0))) (ho : W.ownsRow base e sz v n xs) (hlt : b < base) (hB : base ≤ W.heap.size)
    (ho' : w1.ownsRow base e sz v' m ys) (hg : (W.alloc o).grownBy w1 v.ownBlock) : Appended W b t base e sz v v' m ys w1 := by
  have hsz : (W.alloc o).heap.size = W.heap.size + 1 := by rw [World.size_alloc]
  have hk : ∀ k, k < base → w1.heap[k]? = W.heap[k]? := fun k hk => by
    rw [hg.block k (by omega) (fun h2 => by have := (ho.lt k h2.symm).1; omega)]
    exact heap_oldI (by omega)
  have hb1 := (hk b hlt).trans hb
  have hs : W.heap.size ≤ w1.heap.size := by have := hg.size; omega
  refine ⟨by rw [cell_blk hb1]; rfl, free_blk hb1, by rw [heap_set_blk hb1]; rfl, ownsRow_setCell_below ho' (by simpa using hlt) _, fun k h1 h2 => (heap_set_other h2).trans (hk k h1), ?_, ?_, by rw [World.size_setCell]; exact hs⟩
  · intro B TT ht he
    refine Kx.trans (Y := w1) ?_ (Kx.setCell hb1 ht)
    refine Kx.trans (Kx.alloc B TT W o) ?_
    rcases ho.2 with ⟨rfl, _⟩ | ⟨g, cap, cur, rfl, hbg, hh, _⟩
    · exact ⟨hg.size, fun k _ _ h _ => (hg.block k (Array.getElem?_eq_some_iff.1 h).1 (by simp [Value.ownBlock])).trans h, fun k _ _ _ h _ => (hg.block k (Array.getElem?_eq_some_iff.1 h).1 (by simp [Value.ownBlock])).trans h⟩
    · exact Kx.one (b := g) ((heap_oldI (lt_blk hh)).trans hh) he hg.size (fun k hk hne => hg.block k hk (by simpa [Value.ownBlock] using hne))
  · intro k X hkb hX
    refine ⟨hg.os.trans hX.os, hg.tape.trans hX.tape, hg.output.trans hX.output, by rw [World.size_setCell]; exact Nat.le_trans hX.size hs, fun i hi => ?_⟩
    exact (heap_set_other (by omega)).trans ((hk i (by omega)).trans (hX.block i hi))
theorem cell_new1 {W : World} {x : Value} {t : TypeId} {g : Nat} (hg : g = W.heap.size) : ∀ j u, [x][j]? = some u → (W.alloc (.cells #[x] t)).cell? ((⟨g, 0, none⟩ : Addr).add j) = some u := by
  subst hg
  intro j u h
  cases j with
  | zero => simp at h; subst h; simp [Addr.add]
  | succ j => simp at h
end YtnihopdglkhbnaaIt
end Go

