/- Laws of rotation: the table of a system. -/
import Derived.Test.YtnjgglnpmhjmiaaFi
import Derived.Test.YtnjgglnpmhjmiaaGenX
open Go Go.RowKit Go.YtnjgglnpmhjmiaaIt
open Rest
namespace Go.Proofs
namespace Ytnjgglnpmhjmiaa
theorem info40 : (Try.prog.info? 40).map (fun i => (i.zero, i.size, i.bytes)) = some (some (.slice none 0 0), 1, 24) := by kernel_rfl
theorem info4 : (Try.prog.info? 4).map (fun i => (i.zero, i.size, i.bytes)) = some (some (.bool false), 1, 1) := by kernel_rfl
theorem size25 : (Try.prog.info? 25).map (·.size) = some 2 := by kernel_rfl
theorem own_form {W : World} {base n : Nat} {e : TypeId} {v : Value} {xs : List Value} (h : W.ownsRow base e 1 v n xs) : ∃ ad c, v = .slice ad n c ∧ n ≤ c := by
 rcases h.2 with ⟨rfl, rfl⟩ | ⟨g, cap, cur, e1, _, _, h, _⟩
 ·exact ⟨_, _, rfl, Nat.le_refl _⟩
 ·exact ⟨_, _, e1, h⟩
theorem StbS.cells' {B : Nat} {b : Nat} {o : Obj} (hb : b < B) : StbS B (fun _ W => W.heap[b]? = some o) := StbS.old hb
theorem StbS.mapF {α : Type} {B : Nat} {enc : α → Value} {b m : Nat} {F : α → Option Value} (hb : b < B) : StbS B (fun _ W => MapF enc W b m F) := fun _ _ _ _ _ g h => h.keep (g.block b h.lt (.inl hb))
theorem three_tab (w : World) {α : Type} (enc : α → Value) (v : Value) : ∀ W, W = ((w.alloc (.map #[] 0)).alloc (.cells #[.map (some w.heap.size)] 125)).alloc (.cells #[v] 40) → MapF enc W w.heap.size 0 (fun _ => none) ∧ W.heap[w.heap.size + 1]? = some (.cells #[.map (some w.heap.size)] 125 (0, 0)) ∧ W.heap[w.heap.size + 2]? = some (.cells #[v] 40 (0, 0)) ∧ W.heap.size = w.heap.size + 3 ∧ Below w.heap.size w W := by
 rintro W rfl
 have z1 : (w.alloc (.map #[] 0)).heap.size = w.heap.size + 1 := World.size_alloc ..
 have z2 : ((w.alloc (.map #[] 0)).alloc (.cells #[.map (some w.heap.size)] 125)).heap.size = w.heap.size + 2 := by rw [World.size_alloc, z1]
 exact ⟨(mapF_new enc w 0).keep ((heap_oldI (by omega)).trans (heap_oldI (by omega))), (heap_oldI (by omega)).trans (heap_newI z1.symm), heap_newI z2.symm, by rw [World.size_alloc, z2], (((Below.refl _ _).alloc (Nat.le_refl _) _).alloc (by omega) _).alloc (by omega) _⟩
/-- The numbers of the first k places. -/
def Fn (L : List (Int × List Nat)) (k : Nat) (s : Int) : Option Value := if s ∈ (L.take k).map Prod.fst then some (.int .i64 (((L.take k).map Prod.fst).idxOf s : Nat)) else none
theorem fn_next {L : List (Int × List Nat)} (hnd : (L.map Prod.fst).Nodup) {k : Nat} (hk : k < L.length) (t : Int) : Fn L (k + 1) t = updF (Fn L k) L[k].1 (.int .i64 (k : Nat)) t := by
 have hno : L[k].1 ∉ (L.take k).map Prod.fst := fun h => by
  rw [List.map_take] at h
  obtain ⟨i, hi, e⟩ := List.getElem_of_mem h
  have hi2 : i < k := by
   rw [List.length_take] at hi; omega
  rw [List.getElem_take] at e
  have h1 := List.pairwise_iff_getElem.1 hnd i k (by simp; omega) (by simpa using hk) hi2
  rw [List.getElem_map] at h1 e
  rw [List.getElem_map] at h1
  exact h1 e
 have hs : (L.take (k + 1)).map Prod.fst = (L.take k).map Prod.fst ++ [L[k].1] := by rw [List.take_succ_eq_append_getElem hk, List.map_append]; rfl
 have hlen : ((L.take k).map Prod.fst).length = k := by rw [List.length_map, List.length_take]; omega
 unfold updF
 by_cases ht : t = L[k].1
 ·rw [if_pos ht]
  unfold Fn
  rw [hs, ht, if_pos (by simp), List.idxOf_append, if_neg hno, hlen]
  simp
 ·rw [if_neg ht]
  unfold Fn
  rw [hs]
  by_cases h : t ∈ (L.take k).map Prod.fst
  ·rw [if_pos h, if_pos (List.mem_append.2 (.inl h)), List.idxOf_append, if_pos h]
  ·rw [if_neg h, if_neg (fun h' => (List.mem_append.1 h').elim h (fun h' => ht (List.mem_singleton.1 h')))]
theorem fn_none {L : List (Int × List Nat)} (hnd : (L.map Prod.fst).Nodup) {k : Nat} (hk : k < L.length) : Fn L k L[k].1 = none := by
 unfold Fn
 rw [if_neg]
 intro h
 rw [List.map_take] at h
 obtain ⟨i, hi, e⟩ := List.getElem_of_mem h
 have hi2 : i < k := by
  rw [List.length_take] at hi; omega
 rw [List.getElem_take] at e
 have h1 := List.pairwise_iff_getElem.1 hnd i k (by simp; omega) (by simpa using hk) hi2
 rw [List.getElem_map] at h1 e
 rw [List.getElem_map] at h1
 exact h1 e
/-- Rows of words that are the rounds' own, and none of which lies in the block of v. -/
def RwS (S : Nat → Prop) (W : World) (v u : Value) (vs : List Value) (L : List (Int × List Nat)) : Prop := ∀ i (h : i < vs.length) (h' : i < L.length), SlI W vs[i] (nI L[i].2) ∧ ∀ g off n c, vs[i] = .slice (some ⟨g, off, none⟩) n c → S g ∧ v.ownBlock ≠ some g ∧ u.ownBlock ≠ some g
theorem RwS.stb {B : Nat} {v u : Value} {vs : List Value} {L : List (Int × List Nat)} : StbS B (fun S W => RwS S W v u vs L) := fun _ _ _ _ hS g h i hi hi' =>
 ⟨(h i hi hi').1.keepB g.size (fun b off n c e hl => g.block b hl (.inr ((h i hi hi').2 b off n c e).1)), fun b off n c e => ⟨hS _ ((h i hi hi').2 b off n c e).1, ((h i hi hi').2 b off n c e).2⟩⟩
/-- What has been done after k places. -/
def TabJ (w : World) (bs g1 g2 g3 g4 g5 gm : Nat) (sv : Array Value) (L : List (Int × List Nat)) (k : Nat) (S : Nat → Prop) (W : World) : Prop :=
 Below w.heap.size w W ∧ W.heap[g1]? = some (.cells sv 96 (0, 0)) ∧ W.heap[g2]? = some (.cells #[.slice none 0 0, .slice none 0 0] 25 (0, 0)) ∧ W.heap[g4]? = some (.cells #[.map (some gm)] 125 (0, 0)) ∧ MapF encZ W gm k (Fn L k) ∧
 ∃ v5 v3 vs, W.heap[g5]? = some (.cells #[v5] 40 (0, 0)) ∧ W.heap[g3]? = some (.cells #[v3] 22 (0, 0)) ∧ vs.length = k ∧ RowS S W bs 3 v5 (((L.take k).map Prod.fst).map (Value.int .i64)) ∧ RowS S W bs 40 v3 vs ∧ RwS S W v5 v3 vs L
theorem TabJ.stb {w : World} {bs g1 g2 g3 g4 g5 gm : Nat} {sv : Array Value} {L : List (Int × List Nat)} {k : Nat} (h0 : w.heap.size ≤ bs) (h1 : g1 < bs) (h2 : g2 < bs) (h3 : g3 < bs) (h4 : g4 < bs) (h5 : g5 < bs) (hm : gm < bs) : StbS bs (TabJ w bs g1 g2 g3 g4 g5 gm sv L k) :=
 (StbS.below (Nat.le_refl _) h0).and ((StbS.old h1).and ((StbS.old h2).and ((StbS.old h4).and ((StbS.mapF hm).and
  (StbS.ex fun _ => StbS.ex fun _ => StbS.ex fun _ => (StbS.old h5).and ((StbS.old h3).and (StbS.pure.and (RowS.stb.and (RowS.stb.and RwS.stb)))))))))
/-- Of what lay there, only the blocks p and q are turned. -/
structure Gr2 (X Y : World) (p q : Option Nat) : Prop where
 os : Y.os = X.os
 tape : Y.tape = X.tape
 output : Y.output = X.output
 size : X.heap.size ≤ Y.heap.size
 block : ∀ i, i < X.heap.size → some i ≠ p → some i ≠ q → Y.heap[i]? = X.heap[i]?
theorem Gr2.refl (X : World) (p q : Option Nat) : Gr2 X X p q := ⟨rfl, rfl, rfl, Nat.le_refl _, fun _ _ _ _ => rfl⟩
theorem Gr2.drew (X : World) (p q : Option Nat) : Gr2 X X.drew p q := ⟨rfl, rfl, rfl, Nat.le_refl _, fun _ _ _ _ => rfl⟩
theorem Gr2.alloc {X Y : World} {p q : Option Nat} (h : Gr2 X Y p q) (o : Obj) : Gr2 X (Y.alloc o) p q :=
 ⟨h.os, h.tape, h.output, by rw [World.size_alloc]; have := h.size; omega, fun i hi hp hq => (heap_oldI (by have := h.size; omega)).trans (h.block i hi hp hq)⟩
theorem Gr2.grown {X Y Z : World} {p q r : Option Nat} (h : Gr2 X Y p q) (g : Y.grownBy Z r) (hr : r = p ∨ r = q) : Gr2 X Z p q :=
 ⟨g.os.trans h.os, g.tape.trans h.tape, g.output.trans h.output, Nat.le_trans h.size g.size, fun i hi hp hq => (g.block i (Nat.lt_of_lt_of_le hi h.size) (by rcases hr with rfl | rfl; exact hp; exact hq)).trans (h.block i hi hp hq)⟩
theorem own_alloc {w : World} {base : Nat} {e : TypeId} {v : Value} {n : Nat} {xs : List Value} (h : w.ownsRow base e 1 v n xs) (o : Obj) : (w.alloc o).ownsRow base e 1 v n xs := own_same h fun _ hg => heap_oldI (own_lt h hg).2.1
theorem own_grown {w w' : World} {base base' : Nat} {e e' : TypeId} {v u : Value} {n m : Nat} {xs ys : List Value} (h : w.ownsRow base e 1 v n xs) (h' : w.ownsRow base' e' 1 u m ys) (hne : e ≠ e') (g : w.grownBy w' u.ownBlock) : w'.ownsRow base e 1 v n xs := own_same h fun i hi => by
 obtain ⟨_, h1, cur, h2⟩ := own_lt h hi
 refine g.block i h1 (fun e1 => ?_)
 obtain ⟨_, _, cur', h3⟩ := own_lt h' e1.symm
 rw [h2] at h3
 injection h3 with h3
 injection h3 with _ h3 _
 exact hne h3
theorem blk_grown {w w' : World} {base : Nat} {e : TypeId} {u : Value} {m : Nat} {ys : List Value} (h' : w.ownsRow base e 1 u m ys) (g : w.grownBy w' u.ownBlock) {i : Nat} {c : Array Value} {t : TypeId} {fr : Nat × Nat} (hi : w.heap[i]? = some (.cells c t fr)) (hne : t ≠ e) : w'.heap[i]? = some (.cells c t fr) :=
 (g.block i (lt_blk hi) (fun e1 => by
  obtain ⟨_, _, cur', h3⟩ := own_lt h' e1.symm
  rw [hi] at h3
  injection h3 with h3
  injection h3 with _ h3 _
  exact hne h3)).trans hi
/-- A round has been done. -/
theorem tab_step {w : World} {bs g1 g2 g3 g4 g5 gm : Nat} {sv : Array Value} {L : List (Int × List Nat)} {k : Nat} {S0 S : Nat → Prop} {W2 W3 WA : World} {o : Obj} {v5 v3 v5' v3' v : Value} {vs : List Value} (hk : k < L.length)
  (hS : ∀ i, S i → bs ≤ i ∧ i < W2.heap.size) (hSS : ∀ i, S0 i → S i) (_ : w.heap.size ≤ bs) (h1 : g1 < bs) (h2 : g2 < bs) (h3 : g3 < bs) (h4 : g4 < bs) (h5 : g5 < bs) (hm : gm < bs) (hbs : bs ≤ W2.heap.size)
  (d1 : g1 ≠ g3) (d2 : g1 ≠ g5) (d3 : g2 ≠ g3) (d4 : g2 ≠ g5) (d5 : g4 ≠ g3) (d6 : g4 ≠ g5) (d7 : g3 ≠ g5) (d8 : gm ≠ g3) (d9 : gm ≠ g5) (d10 : g1 ≠ gm) (d11 : g2 ≠ gm) (d12 : g4 ≠ gm) (w0 : w.heap.size ≤ g3 ∧ w.heap.size ≤ g5 ∧ w.heap.size ≤ gm)
  (hB : Below w.heap.size w W2) (c1 : W2.heap[g1]? = some (.cells sv 96 (0, 0))) (c2 : W2.heap[g2]? = some (.cells #[.slice none 0 0, .slice none 0 0] 25 (0, 0))) (c4 : W2.heap[g4]? = some (.cells #[.map (some gm)] 125 (0, 0))) (c5 : W2.heap[g5]? = some (.cells #[v5] 40 (0, 0))) (c3 : W2.heap[g3]? = some (.cells #[v3] 22 (0, 0)))
  (hvl : vs.length = k) (r5 : RowS S0 W2 bs 3 v5 (((L.take k).map Prod.fst).map (Value.int .i64))) (r3 : RowS S0 W2 bs 40 v3 vs) (rws : RwS S0 W2 v5 v3 vs L) (hsl : SlI W2 v (nI L[k].2)) (hown : ∀ g off n c, v = .slice (some ⟨g, off, none⟩) n c → S g ∧ ¬ S0 g)
  (hW3 : W3 = W2.putObj gm o) (hM : MapF encZ W3 gm (k + 1) (Fn L (k + 1))) (hG : Gr2 W3 WA v5.ownBlock v3.ownBlock)
  (q5 : WA.ownsRow bs 3 1 v5' (k + 1) (((L.take k).map Prod.fst).map (Value.int .i64) ++ [.int .i64 L[k].1])) (n5 : v5'.ownBlock = v5.ownBlock ∨ ∃ i, v5'.ownBlock = some i ∧ W3.heap.size ≤ i)
  (q3 : WA.ownsRow bs 40 1 v3' (k + 1) (vs ++ [v])) (n3 : v3'.ownBlock = v3.ownBlock ∨ ∃ i, v3'.ownBlock = some i ∧ W3.heap.size ≤ i) {WB : World} (hWB : WB = (WA.setCell ⟨g5, 0, none⟩ v5').setCell ⟨g3, 0, none⟩ v3') :
  KxS bs S W2 WB ∧ TabJ w bs g1 g2 g3 g4 g5 gm sv L (k + 1) (ext S W2.heap.size WB.heap.size) WB ∧ ∀ i, i < bs → i ≠ g3 → i ≠ g5 → i ≠ gm → WB.heap[i]? = W2.heap[i]? := by
 have z3 : W3.heap.size = W2.heap.size := by rw [hW3]; exact World.putObj_size
 have zA := hG.size
 have zB : WB.heap.size = WA.heap.size := by rw [hWB, World.size_setCell, World.size_setCell]
 have hoth : ∀ i, i ≠ gm → W3.heap[i]? = W2.heap[i]? := fun i h => by rw [hW3]; exact World.putObj_heap_other h
 have e5 : ∀ i, some i = v5.ownBlock → bs ≤ i ∧ i < W2.heap.size ∧ S0 i := fun i h => ⟨(own_lt r5.1 h.symm).1, (own_lt r5.1 h.symm).2.1, r5.2 i h.symm⟩
 have e3 : ∀ i, some i = v3.ownBlock → bs ≤ i ∧ i < W2.heap.size ∧ S0 i := fun i h => ⟨(own_lt r3.1 h.symm).1, (own_lt r3.1 h.symm).2.1, r3.2 i h.symm⟩
 have hold : ∀ i, i < bs → WA.heap[i]? = W3.heap[i]? := fun i hi => hG.block i (by omega) (fun h => by have := (e5 i h).1; omega) (fun h => by have := (e3 i h).1; omega)
 have hset : ∀ i, i ≠ g5 → i ≠ g3 → WB.heap[i]? = WA.heap[i]? := fun i h h' => by rw [hWB, heap_set_other h', heap_set_other h]
 have hlow : ∀ i, i < bs → i ≠ g3 → i ≠ g5 → i ≠ gm → WB.heap[i]? = W2.heap[i]? := fun i hi a b c => (hset i b a).trans ((hold i hi).trans (hoth i c))
 have hhi : ∀ i, bs ≤ i → i < W2.heap.size → some i ≠ v5.ownBlock → some i ≠ v3.ownBlock → WB.heap[i]? = W2.heap[i]? := fun i hi hl a b => (hset i (by omega) (by omega)).trans ((hG.block i (by omega) a b).trans (hoth i (by omega)))
 have own5 : WB.ownsRow bs 3 1 v5' (k + 1) (((L.take k).map Prod.fst).map (Value.int .i64) ++ [.int .i64 L[k].1]) := own_same q5 fun i hi => hset i (by have := (own_lt q5 hi).1; omega) (by have := (own_lt q5 hi).1; omega)
 have own3 : WB.ownsRow bs 40 1 v3' (k + 1) (vs ++ [v]) := own_same q3 fun i hi => hset i (by have := (own_lt q3 hi).1; omega) (by have := (own_lt q3 hi).1; omega)
 have in5 : ∀ i, v5'.ownBlock = some i → ext S W2.heap.size WB.heap.size i := fun i hi => by
  rcases n5 with h | ⟨j, h, hj⟩
  ·exact .inl (hSS i (r5.2 i (h ▸ hi)))
  ·rw [h] at hi
   injection hi with hi
   subst hi
   exact .inr ⟨by omega, by rw [zB]; exact (own_lt q5 h).2.1⟩
 have in3 : ∀ i, v3'.ownBlock = some i → ext S W2.heap.size WB.heap.size i := fun i hi => by
  rcases n3 with h | ⟨j, h, hj⟩
  ·exact .inl (hSS i (r3.2 i (h ▸ hi)))
  ·rw [h] at hi
   injection hi with hi
   subst hi
   exact .inr ⟨by omega, by rw [zB]; exact (own_lt q3 h).2.1⟩
 have htk : ((L.take (k + 1)).map Prod.fst).map (Value.int .i64) = ((L.take k).map Prod.fst).map (Value.int .i64) ++ [.int .i64 L[k].1] := by rw [List.take_succ_eq_append_getElem hk, List.map_append, List.map_append]; rfl
 have htl : (((L.take k).map Prod.fst).map (Value.int .i64) ++ [Value.int .i64 L[k].1]).length = k + 1 := by simp; omega
 have hrow : ∀ (u : Value) (ys : List Int), SlI W2 u ys → (∀ g off n c, u = .slice (some ⟨g, off, none⟩) n c → S g ∧ v5.ownBlock ≠ some g ∧ v3.ownBlock ≠ some g) → SlI WB u ys := fun u ys h hh => h.keepB (by omega) (fun g off n c e hl => hhi g (hS g (hh g off n c e).1).1 hl (fun e' => (hh g off n c e).2.1 e'.symm) (fun e' => (hh g off n c e).2.2 e'.symm))
 have hvn : ∀ g off n c, v = .slice (some ⟨g, off, none⟩) n c → S g ∧ v5.ownBlock ≠ some g ∧ v3.ownBlock ≠ some g := fun g off n c e => ⟨(hown g off n c e).1, fun h => (hown g off n c e).2 (r5.2 g h), fun h => (hown g off n c e).2 (r3.2 g h)⟩
 have hnew : ∀ (u u' : Value), (u'.ownBlock = u.ownBlock ∨ ∃ i, u'.ownBlock = some i ∧ W3.heap.size ≤ i) → ∀ g, S g → u.ownBlock ≠ some g → u'.ownBlock ≠ some g := fun u u' h g hg hu e => by
  rcases h with h | ⟨i, h, hi⟩
  ·exact hu (h ▸ e)
  ·rw [h] at e
   injection e with e
   have := (hS g hg).2
   omega
 have hrw : RwS (ext S W2.heap.size WB.heap.size) WB v5' v3' (vs ++ [v]) L := fun i hi hi' => by
  by_cases hik : i < vs.length
  ·rw [List.getElem_append_left hik]
   obtain ⟨r1, r2⟩ := rws i hik hi'
   exact ⟨hrow _ _ r1 (fun g off n c e => ⟨hSS g (r2 g off n c e).1, (r2 g off n c e).2⟩), fun g off n c e => ⟨.inl (hSS g (r2 g off n c e).1), hnew _ _ n5 g (hSS g (r2 g off n c e).1) (r2 g off n c e).2.1, hnew _ _ n3 g (hSS g (r2 g off n c e).1) (r2 g off n c e).2.2⟩⟩
  ·have hik2 : i = vs.length := by simp at hi; omega
   subst hik2
   have e1 : (vs ++ [v])[vs.length]'hi = v := by rw [List.getElem_append_right (Nat.le_refl _)]; simp
   rw [e1]
   have e2 : L[vs.length] = L[k] := by simp only [hvl]
   rw [e2]
   exact ⟨hrow _ _ hsl hvn, fun g off n c e => ⟨.inl (hvn g off n c e).1, hnew _ _ n5 g (hvn g off n c e).1 (hvn g off n c e).2.1, hnew _ _ n3 g (hvn g off n c e).1 (hvn g off n c e).2.2⟩⟩
 have a5 : WA.heap[g5]? = some (.cells #[v5] 40 (0, 0)) := (hold g5 h5).trans ((hoth g5 (Ne.symm d9)).trans c5)
 have a3 : WA.heap[g3]? = some (.cells #[v3] 22 (0, 0)) := (hold g3 h3).trans ((hoth g3 (Ne.symm d8)).trans c3)
 refine ⟨⟨by omega, fun i hi hl hn => hhi i hi hl (fun e => hn (hSS i (e5 i e).2.2)) (fun e => hn (hSS i (e3 i e).2.2))⟩, ⟨?_, (hlow g1 h1 d1 d2 d10).trans c1, (hlow g2 h2 d3 d4 d11).trans c2, (hlow g4 h4 d5 d6 d12).trans c4, ?_, v5', v3', vs ++ [v], ?_, ?_, by rw [List.length_append, hvl]; rfl, ?_, ?_, hrw⟩, hlow⟩
 ·have o1 : WB.os = W2.os ∧ WB.tape = W2.tape ∧ WB.output = W2.output := by
   rw [hWB]
   exact ⟨hG.os.trans (by rw [hW3]; rfl), hG.tape.trans (by rw [hW3]; rfl), hG.output.trans (by rw [hW3]; rfl)⟩
  exact ⟨o1.1.trans hB.os, o1.2.1.trans hB.tape, o1.2.2.trans hB.output, by have := hB.size; omega, fun i hi => (hlow i (by omega) (by omega) (by omega) (by omega)).trans (hB.block i hi)⟩
 ·exact hM.keep ((hset gm d9 d8).trans (hold gm hm))
 ·rw [hWB, heap_set_other (Ne.symm d7), heap_set_blk a5]; rfl
 ·rw [hWB, heap_set_blk ((heap_set_other d7).trans a3)]; rfl
 ·rw [htk]; exact ⟨by rw [htl]; exact own5, in5⟩
 ·exact ⟨by rw [List.length_append, hvl]; exact own3, in3⟩
/-- Nothing panics. -/
def noP (Q : Exit → Act → World → Prop) : Exit → Act → World → Prop
 | .panic _, _, _ => False
 | .normal, a, w => Q .normal a w
 | .ret, a, w => Q .ret a w
 | .exit i, a, w => Q (.exit i) a w
 | .goto t, a, w => Q (.goto t) a w
 | .outgrown, a, w => Q .outgrown a w
theorem wp_noP {P : Program} {c : Code} {Q : Exit → Act → World → Prop} {a : Act} {w : World} (h : c.wp P (noP Q) a w) : c.wp P Q a w :=
 wp_mono h fun e a w h => by cases e <;> first | exact h | exact h.elim
/-- The rows of the first j states. -/
def rowsX (x : RSys Int) (L : List (Int × List Nat)) (j : Nat) : List (List Nat) := (L.take j).map fun p => (List.range x.k).map fun c => idx L (x.nx p.1 c)
/-- Rows of numbers of the call's own. -/
def RwO (W : World) (bs : Nat) (vs : List Value) (rows : List (List Nat)) : Prop := vs.length = rows.length ∧ ∀ i (h : i < vs.length) (h' : i < rows.length), W.ownsRow bs 3 1 vs[i] rows[i].length ((nI rows[i]).map (Value.int .i64))
theorem RwO.same {W W' : World} {bs : Nat} {vs : List Value} {rows : List (List Nat)} (h : RwO W bs vs rows) (hk : ∀ i cs, bs ≤ i → W.heap[i]? = some (.cells cs 3 (0, 0)) → W'.heap[i]? = W.heap[i]?) : RwO W' bs vs rows :=
 ⟨h.1, fun i hi hi' => own_same (h.2 i hi hi') fun g hg => by
  obtain ⟨h1, -, cur, h2⟩ := own_lt (h.2 i hi hi') hg
  exact hk g cur h1 h2⟩
theorem own_base {W : World} {bs bs' : Nat} {e : TypeId} {v : Value} {n : Nat} {xs : List Value} (h : W.ownsRow bs e 1 v n xs) (hb : bs' ≤ bs) : W.ownsRow bs' e 1 v n xs := by
 refine ⟨h.1, ?_⟩
 rcases h.2 with h | ⟨g, cap, cur, rfl, hb', hh, r⟩
 ·exact .inl h
 ·exact .inr ⟨g, cap, cur, rfl, Nat.le_trans hb hb', hh, r⟩
theorem RwO.push {W : World} {bs : Nat} {vs : List Value} {rows : List (List Nat)} (h : RwO W bs vs rows) {v : Value} {r : List Nat} (hv : W.ownsRow bs 3 1 v r.length ((nI r).map (Value.int .i64))) : RwO W bs (vs ++ [v]) (rows ++ [r]) := by
 refine ⟨by simp [h.1], fun i hi hi' => ?_⟩
 by_cases hl : i < vs.length
 ·have hl2 : i < rows.length := by rw [← h.1]; exact hl
  rw [List.getElem_append_left hl, List.getElem_append_left hl2]
  exact h.2 i hl hl2
 ·have e : i = vs.length := by simp at hi; omega
  have e2 : i = rows.length := by rw [← h.1]; exact e
  have e1 : (vs ++ [v])[i] = v := by rw [List.getElem_append_right (by omega)]; simp [e]
  have e3 : (rows ++ [r])[i] = r := by rw [List.getElem_append_right (by omega)]; simp [e2]
  rw [e1, e3]; exact hv
theorem RwO.below {W W' : World} {bs : Nat} {vs : List Value} {rows : List (List Nat)} (h : RwO W bs vs rows) (hb : Below W.heap.size W W') : RwO W' bs vs rows := h.same fun i _ _ hi => hb.block i (lt_blk hi)
theorem RwO.grown {W W' : World} {bs base : Nat} {e : TypeId} {u : Value} {m : Nat} {ys : List Value} {vs : List Value} {rows : List (List Nat)} (h : RwO W bs vs rows) (h' : W.ownsRow base e 1 u m ys) (hne : 3 ≠ e) (g : W.grownBy W' u.ownBlock) : RwO W' bs vs rows :=
 h.same fun _ _ _ hi => (blk_grown h' g hi hne).trans hi.symm
theorem Gr2.below {X Y Z : World} {p q : Option Nat} (h : Gr2 X Y p q) (hb : Below Y.heap.size Y Z) : Gr2 X Z p q :=
 ⟨hb.os.trans h.os, hb.tape.trans h.tape, hb.output.trans h.output, Nat.le_trans h.size hb.size, fun i hi hp hq => (hb.block i (Nat.lt_of_lt_of_le hi h.size)).trans (h.block i hi hp hq)⟩
theorem slII_of {W : World} {bs : Nat} {v : Value} {vs : List Value} {rows : List (List Nat)} (h : W.ownsRow bs 40 1 v vs.length vs) (hr : RwO W bs vs rows) (h1 : vs.length ≤ 10000) (h2 : ∀ r ∈ rows, r.length ≤ 10000) : SlII W v (rows.map nI) := by
 refine ⟨vs, slV_own h rfl (by omega), by simp [hr.1], fun i hi hi' => ?_⟩
 rw [List.getElem_map]
 have hi2 : i < rows.length := by simpa using hi'
 have := hr.2 i hi hi2
 refine slI_own this (by simp) ?_
 have := h2 rows[i] (List.getElem_mem hi2)
 simp; omega
/-- A table in memory that is all new. -/
def TabN (w w' : World) (vn vg vst : Value) (T : Tab) : Prop := ∀ W', w'.heap.size ≤ W'.heap.size → (∀ i, w.heap.size ≤ i → i < w'.heap.size → W'.heap[i]? = w'.heap[i]?) → SlII W' vn (T.nx.map nI) ∧ SlV W' vg (T.gd.map Value.bool) ∧ SlII W' vst (T.st.map nI)
theorem TabN.now {w w' : World} {vn vg vst : Value} {T : Tab} (h : TabN w w' vn vg vst T) : SlII w' vn (T.nx.map nI) ∧ SlV w' vg (T.gd.map Value.bool) ∧ SlII w' vst (T.st.map nI) := h w' (Nat.le_refl _) fun _ _ _ => rfl
set_option maxRecDepth 100000 in
set_option maxHeartbeats 8000000 in
theorem table_any {x : RSys Int} {ok : Int → Prop} {fN fG : Nat} {lN lG : Array Value} {B : Nat} {W0 : World} {L : List (Int × List Nat)} (hM : SysM x ok fN fG lN lG B W0) (hB : B ≤ W0.heap.size)
  (eN : ∀ args w, (callFunc fN args).run Try.prog w = .ok (.enter fN args) w) (eG : ∀ args w, (callFunc fG args).run Try.prog w = .ok (.enter fG args) w) (hL : Walk x L) (hlen : L.length ≤ 5000) (w : World) (hb : Below B W0 w) :
  Calls Try.prog 100 #[.agg (sysV x fN fG lN lG)] w fun e w' => ∃ vn vg vst, e = .returned (.tuple #[.agg #[vn, vg], vst]) ∧ Below w.heap.size w w' ∧ TabN w w' vn vg vst (tabOf x L) := by
 refine calls_of_wpM Try.func100 rfl ?_
 simp only [Try.ntmps100, List.size_toArray, List.length_cons, List.length_nil, Nat.reduceAdd, Nat.reduceSub, Array.replicate_succ, Array.replicate_zero, List.push_toArray, List.append_toArray, List.nil_append, List.cons_append]
 have hmm := @run_makeMap Try.prog
 refine wpIn_seq_k (fun K hK => ?_)
 have HK := Lib.hid hK; clear hK
 gi_wp2
 refine HK.out _ _ ?_; clear HK K
 obtain ⟨b1, b2, b3, z1, hB1⟩ := three_cells (w := w) (a := sysV x fN fG lN lG) (b := #[.slice none 0 0, .slice none 0 0]) (c := #[.slice none 0 0]) (t := 96) (u := 25) (v := 22)
 rw [show w.heap.size + 1 + 1 = w.heap.size + 2 from rfl]
 generalize ((w.alloc (.cells (sysV x fN fG lN lG) 96)).alloc (.cells #[.slice none 0 0, .slice none 0 0] 25)).alloc (.cells #[.slice none 0 0] 22) = w1 at *
 obtain ⟨g1, hg1⟩ : ∃ g, g = w.heap.size := ⟨_, rfl⟩
 obtain ⟨g2, hg2⟩ : ∃ g, g = w.heap.size + 1 := ⟨_, rfl⟩
 obtain ⟨g3, hg3⟩ : ∃ g, g = w.heap.size + 2 := ⟨_, rfl⟩
 rw [← hg2] at b2
 rw [← hg3] at b3
 rw [← hg1] at b1
 rw [← hg2, ← hg3, ← hg1]
 have HG := Lib.hid (And.intro hg1 (And.intro hg2 (And.intro hg3 z1)))
 clear hg1 hg2 hg3 z1
 refine wpIn_seq_k (fun K hK => ?_)
 have HK := Lib.hid hK; clear hK
 gi_wp2
 refine HK.out _ _ ?_; clear HK K
 refine wpIn_seq_k (fun K hK => ?_)
 have HK := Lib.hid hK; clear hK
 gi_wp2
 refine HK.out _ _ ?_; clear HK K
 obtain ⟨w3, hw3⟩ : ∃ q, q = ((w1.alloc (.map #[] 0)).alloc (.cells #[.map (some w1.heap.size)] 125)).alloc (.cells #[.slice none 0 0] 40) := ⟨_, rfl⟩
 obtain ⟨m0, b4, b5, z3, hB3⟩ := three_tab w1 encZ _ w3 hw3
 rw [← hw3]
 rw [show w1.heap.size + 1 + 1 = w1.heap.size + 2 from rfl]
 obtain ⟨gm, hgm⟩ : ∃ g, g = w1.heap.size := ⟨_, rfl⟩
 obtain ⟨g4, hg4⟩ : ∃ g, g = w1.heap.size + 1 := ⟨_, rfl⟩
 obtain ⟨g5, hg5⟩ : ∃ g, g = w1.heap.size + 2 := ⟨_, rfl⟩
 rw [← hg4, ← hgm] at b4
 rw [← hg5] at b5
 rw [← hgm] at m0
 rw [← hg5, ← hg4]
 replace b1 := blk_keep b1 hB3
 replace b2 := blk_keep b2 hB3
 replace b3 := blk_keep b3 hB3
 replace hB1 := btr hB1 hB3 (by have := HG.out; omega)
 have HG2 := Lib.hid (And.intro hgm (And.intro hg4 (And.intro hg5 z3)))
 clear hw3 hgm hg4 hg5 z3 hB3
 have H93 := Lib.hid (fun W => walk_any x fN fG lN lG W)
 refine wpIn_seq_k (fun K1 hK1 => ?_)
 have HK1 := Lib.hid hK1; clear hK1
 refine wpIn_seq_k (fun K2 hK2 => ?_)
 have HK2 := Lib.hid hK2; clear hK2
 gi_wp2_with (first | (refine wpListIn_load_blk rfl 96 _ rfl _ rfl b1 Try.underlying96 rfl size96 rfl ?_) | (gi_at_call 93; refine callsTo (H93.out _) ?_; rintro e w2 ⟨rfl, hc2, hb2, hz2e⟩; have hz2 := Nat.le_of_eq hz2e.symm; clear hz2e))
 refine HK2.out _ _ ?_; clear HK2 K2
 obtain ⟨hg1, hg2, hg3, z1⟩ := HG.out
 obtain ⟨hgm, hg4, hg5, z3⟩ := HG2.out
 replace b1 := blk_keep b1 hb2
 replace b2 := blk_keep b2 hb2
 replace b3 := blk_keep b3 hb2
 replace b4 := blk_keep b4 hb2
 replace b5 := blk_keep b5 hb2
 replace m0 := m0.below hb2
 replace hB1 : Below w.heap.size w w2 := btr hB1 hb2 (Nat.le_refl _)
 have hit := walk_iter (b1 := w3.heap.size) (L := L) hM eN hL hlen
 have hnd := hL.nd
 have hbs : w.heap.size ≤ w2.heap.size := by omega
 have HIT := Lib.hid hit
 clear hit
 refine wpIn_block ?_
 refine wpIn_rangeS (gf := 105) (lb := #[.pointer (some ⟨w3.heap.size, 0, none⟩)]) ?hg ?eg HIT.out ?hps
  (fun k S W => (Below B W0 W ∧ W.heap[w3.heap.size]? = some (.cells (sysV x fN fG lN lG) 96 (0, 0))) ∧ TabJ w w2.heap.size g1 g2 g3 g4 g5 gm (sysV x fN fG lN lG) L k S W)
  (fun c S W => False) ?hK ?sI ?sIx ?h0 ?round ?done ?stop
 case hg => rfl
 case eg => exact (enters_of Try.func105 (by kernel_rfl) rfl)
 case hps => exact fun k S0 S W y h => h.size
 case hK => exact fun k S W h => h.1
 case sI => exact fun k => ((StbS.below (by have := hb.size; omega) (by have := hb.size; omega)).and (StbS.old (by omega))).and (TabJ.stb hbs (by omega) (by omega) (by omega) (by omega) (by omega) (by omega))
 case sIx => exact fun c => StbS.pure
 case h0 => exact ⟨⟨btr hb hB1 hB, hc2⟩, hB1, b1, b2, b4, m0.congr (fun s => by simp [Fn]), _, _, [], b5, b3, rfl, RowS.nil _ _ _ _, RowS.nil _ _ _ _, fun i hi => absurd hi (by simp)⟩
 case stop => rintro c S W hS h; exact h.elim
 case round =>
  rintro k hk l2 S0 S W y hS hzW hSS ⟨⟨hBW, hbx⟩, hJ⟩ hY
  obtain ⟨s, ys, v, hLk, rfl, hsl, hown⟩ := hY
  obtain ⟨ay, cy, rfl, -, -, -⟩ := id hsl
  obtain ⟨ny, hny⟩ : ∃ n, n = (nI ys).length := ⟨_, rfl⟩
  rw [← hny] at hsl hown ⊢
  simp only [List.zip_toArray, List.zip_cons_cons, List.zip_nil_right, List.foldl_toArray', List.size_toArray, List.length_cons, List.length_nil, List.foldl_cons, List.foldl_nil, List.setIfInBounds_toArray, List.set_cons_succ, List.set_cons_zero]
  have HR := Lib.hid (And.intro hsl (And.intro hown (And.intro hLk (And.intro hJ (And.intro hBW hbx)))))
  have HZ := Lib.hid (And.intro z1 (And.intro hgm (And.intro hg4 (And.intro hg5 z3))))
  clear hsl hown hLk hJ hBW hbx hny z1 hgm hg4 hg5 z3 hg1 hg2 hg3 b1 b2 b3 b4 b5 m0
  gi_wp2
  refine ⟨trivial, fun W2 hg hz hr => ?_⟩
  obtain ⟨hsl, hown, hLk, hJ, hBW, hbx⟩ := HR.out
  have hgW : GrS w2.heap.size S0 W W2 := hg.mono (Nat.le_refl _) hSS
  have hbx2 := (hg.block w3.heap.size (lt_blk hbx) (.inl (by omega))).trans hbx
  have hBW2 : Below B W0 W2 := ⟨hg.os.trans hBW.os, hg.tape.trans hBW.tape, hg.output.trans hBW.output, by have := hBW.size; omega, fun i hi => (hg.block i (by have := hBW.size; omega) (.inl (by have := hb.size; omega))).trans (hBW.block i hi)⟩
  obtain ⟨z1, hgm, hg4, hg5, z3⟩ := HZ.out
  obtain ⟨hg1, hg2, hg3, -⟩ := HG.out
  have hJ2 := TabJ.stb (k := k) (L := L) (sv := sysV x fN fG lN lG) hbs (g1 := g1) (g2 := g2) (g3 := g3) (g4 := g4) (g5 := g5) (gm := gm) (by omega) (by omega) (by omega) (by omega) (by omega) (by omega) _ _ _ _ (fun _ h => h) hgW hJ
  have hsl2 := hsl.keepB (w' := W2) (by omega) (fun b off n c e hl => hg.block b hl (.inr (hown b off n c e).1))
  obtain ⟨jB, j1, j2, j4, jm, v5, v3, vs, j5, j3, jl, r5, r3, jrw⟩ := hJ2
  obtain ⟨a5, c5, rfl, hc5⟩ := own_form r5.1
  obtain ⟨a3, c3, rfl, hc3⟩ := own_form r3.1
  have hlt : (((L.take k).map Prod.fst).map (Value.int .i64)).length = k := by simp; omega
  have hLk2 : L[k] = (s, ys) := by rw [List.getElem?_eq_getElem hk] at hLk; exact Option.some.inj hLk
  have hoks : ok s := by
   have := after_ind x (fun p => ok p.1) hM.st (fun q c h hc => hM.cl q.1 c h hc) L.length (s, ys) (by rw [hL.all]; exact List.mem_of_getElem? hLk)
   exact this
  have hFm : ∀ t u, Fn L k t = some u → ∃ l, keyOf Try.prog 3 (encZ t) = some l := fun t u h => by
   unfold Fn at h
   by_cases hh : t ∈ (L.take k).map Prod.fst
   ·obtain ⟨p, hp, rfl⟩ := List.mem_map.1 hh
    have := after_ind x (fun p => ok p.1) hM.st (fun q c h hc => hM.cl q.1 c h hc) L.length p (by rw [hL.all]; exact List.mem_of_mem_take hp)
    exact keyZ (hM.bd _ this)
   ·rw [if_neg hh] at h; cases h
  obtain ⟨o, hup, hM3⟩ := jm.update (P := Try.prog) (t := 125) (k := 3) (e := 3) keyed3 Try.underlying125 encZ_inj hFm (keyZ (hM.bd s hoks)) (.int .i64 (k : Nat))
  have hfn := fn_none hnd hk
  rw [hLk2] at hfn
  rw [hfn, if_neg (by simp)] at hM3
  replace hM3 := hM3.congr (G := Fn L (k + 1)) (fun t => by rw [fn_next hnd hk, hLk2])
  have q4 := cell_blk (i := 0) j4
  have q5 := cell_blk (i := 0) j5
  simp only [List.getElem?_toArray, List.getElem?_cons_zero] at q4 q5
  rw [hlt] at q5 r5 j5 jrw hc5
  have hstep := @tab_step w w2.heap.size g1 g2 g3 g4 g5 gm (sysV x fN fG lN lG) L k S0 S W2 (W2.putObj gm o)
  have HST := Lib.hid (And.intro jB (And.intro j1 (And.intro j2 (And.intro j4 (And.intro hM3 (And.intro r5 (And.intro r3 jrw)))))))
  have HSL := Lib.hid (And.intro hsl2 (And.intro hown (And.intro hLk2 (And.intro jl (And.intro hBW2 hbx2)))))
  have HJJ := Lib.hid (And.intro j3 j5)
  have hzw2 : w2.heap.size ≤ W2.heap.size := by omega
  have HZZ := Lib.hid hz
  clear jl hgW hbx hBW2 hbx2 hBW hsl hown hJ hsl2 jB j1 j2 j4 jm hM3 r5 r3 jrw j5 j3 hLk hLk2 hFm hfn hstep z1 hgm hg4 hg5 z3 hg1 hg2 hg3 hg hz hc5 hc3 hlt
  refine wpIn_block ?_
  refine wpIn_seq_k (fun K hK => ?_)
  have HK := Lib.hid hK; clear hK
  gi_wp2
  refine HK.out _ _ ?_; clear HK
  obtain ⟨W3, hW3⟩ : ∃ q, q = W2.putObj gm o := ⟨_, rfl⟩
  rw [← hW3]
  have e5 : W3.heap[g5]? = some (.cells #[.slice a5 k c5] 40 (0, 0)) := by rw [hW3, World.putObj_heap_other (by have := HZ.out; omega)]; exact HJJ.out.2
  have e3 : W3.heap[g3]? = some (.cells #[.slice a3 vs.length c3] 22 (0, 0)) := by rw [hW3, World.putObj_heap_other (by have := HZ.out; have := HG.out; omega)]; exact HJJ.out.1
  clear hup q4 q5
  refine wpIn_region_x (R := fun _ => True) (S := fun U => U.heap[g5]? = some (.cells #[.slice a5 k c5] 40 (0, 0)) ∧ U.heap[g3]? = some (.cells #[.slice a3 vs.length c3] 22 (0, 0))) (z := 8) rfl (by kernel_rfl) (fun h => ?_) ?_
  ·obtain ⟨_, _, h⟩ := h; exact h
  have hz3 : W3.heap.size = W2.heap.size := by rw [hW3]; exact World.putObj_size
  have hne : ∀ g o, W3 = W2.putObj g o → True := fun _ _ _ => trivial
  have G0 : Gr2 W3 W3.drew (Value.slice a5 k c5).ownBlock (Value.slice a3 vs.length c3).ownBlock := Gr2.drew _ _ _
  have r5a := HST.out.2.2.2.2.2.1.1
  have r3a := HST.out.2.2.2.2.2.2.1.1
  have l5 : ∀ i, i < w2.heap.size → some i ≠ (Value.slice a5 k c5).ownBlock := fun i hi e => by have := (own_lt r5a e.symm).1; omega
  have l3 : ∀ i, i < w2.heap.size → some i ≠ (Value.slice a3 vs.length c3).ownBlock := fun i hi e => by have := (own_lt r3a e.symm).1; omega
  have lg5 : g5 < w2.heap.size := by have := HZ.out; omega
  have lg3 : g3 < w2.heap.size := by have := HZ.out; have := HG.out; omega
  have lgm : gm < w2.heap.size := by have := HZ.out; omega
  have hxl : (((L.take k).map Prod.fst).map (Value.int .i64)).length ≤ 10000 := by simp; omega
  have hxk : (((L.take k).map Prod.fst).map (Value.int .i64)).length = k := by simp; omega
  have hvl : vs.length ≤ 10000 := by have := HSL.out.2.2.2.1; omega
  have r5 : W3.drew.ownsRow w2.heap.size 3 1 (.slice a5 k c5) (((L.take k).map Prod.fst).map (Value.int .i64)).length (((L.take k).map Prod.fst).map (Value.int .i64)) := own_same r5a fun i hi => by
   show W3.heap[i]? = _
   rw [hW3]; exact World.putObj_heap_other (by have := (own_lt r5a hi).1; omega)
  have r3 : W3.drew.ownsRow w2.heap.size 40 1 (.slice a3 vs.length c3) vs.length vs := own_same r3a fun i hi => by
   show W3.heap[i]? = _
   rw [hW3]; exact World.putObj_heap_other (by have := (own_lt r3a hi).1; omega)
  have fin : ∀ (WA : World) (v5' v3' : Value), Gr2 W3 WA (Value.slice a5 k c5).ownBlock (Value.slice a3 vs.length c3).ownBlock → WA.ownsRow w2.heap.size 3 1 v5' (k + 1) (((L.take k).map Prod.fst).map (Value.int .i64) ++ [.int .i64 s]) → (v5'.ownBlock = (Value.slice a5 k c5).ownBlock ∨ ∃ i, v5'.ownBlock = some i ∧ W3.heap.size ≤ i) →
    WA.ownsRow w2.heap.size 40 1 v3' (vs.length + 1) (vs ++ [.slice ay ny cy]) → (v3'.ownBlock = (Value.slice a3 vs.length c3).ownBlock ∨ ∃ i, v3'.ownBlock = some i ∧ W3.heap.size ≤ i) → ∀ WB, WB = (WA.setCell ⟨g5, 0, none⟩ v5').setCell ⟨g3, 0, none⟩ v3' →
    KxS w2.heap.size S W2 WB ∧ ((Below B W0 WB ∧ WB.heap[w3.heap.size]? = some (.cells (sysV x fN fG lN lG) 96 (0, 0))) ∧ TabJ w w2.heap.size g1 g2 g3 g4 g5 gm (sysV x fN fG lN lG) L (k + 1) (ext S W2.heap.size WB.heap.size) WB) := by
   intro WA v5' v3' hG q5 n5 q3 n3 WB hWB
   obtain ⟨z1, hgm, hg4, hg5, z3⟩ := HZ.out
   obtain ⟨hg1, hg2, hg3, -⟩ := HG.out
   obtain ⟨jB, j1, j2, j4, hM3, r5', r3', jrw⟩ := HST.out
   obtain ⟨hsl2, hown, hLk2, jl, hBW2, hbx2⟩ := HSL.out
   rw [jl] at q3
   obtain ⟨k1, k2, k3⟩ := tab_step (W2 := W2) (gm := gm) (g1 := g1) (g2 := g2) (g4 := g4) (o := o) (WA := WA) (v := .slice ay ny cy) hk (fun i h => ⟨(hS i h).1, by rw [HZZ.out]; exact (hS i h).2⟩) hSS hbs (by omega) (by omega) (by omega) (by omega) (by omega) (by omega) hzw2 (by omega) (by omega) (by omega) (by omega) (by omega) (by omega) (by omega) (by omega) (by omega) (by omega) (by omega) (by omega) (by omega) jB j1 j2 j4 HJJ.out.2 HJJ.out.1 jl (by rw [RowS, hxk] at r5'; rw [RowS, hxk]; exact r5') r3' jrw (by rw [hLk2]; exact hsl2) hown hW3 (by rw [hW3]; exact hM3) hG (by rw [hLk2]; exact q5) n5 q3 n3 hWB
   have hbw := hb.size
   have hbz := hB1.size
   have hBs := hBW2.size
   refine ⟨k1, ⟨⟨?_, ?_, ?_, ?_, ?_⟩, (k3 w3.heap.size (by omega) (by omega) (by omega) (by omega)).trans hbx2⟩, k2⟩
   ·rw [hWB]; exact hG.os.trans ((by rw [hW3]; rfl : W3.os = W2.os).trans hBW2.os)
   ·rw [hWB]; exact hG.tape.trans ((by rw [hW3]; rfl : W3.tape = W2.tape).trans hBW2.tape)
   ·rw [hWB]; exact hG.output.trans ((by rw [hW3]; rfl : W3.output = W2.output).trans hBW2.output)
   ·have := k1.size; omega
   ·intro i hi
    exact (k3 i (by omega) (by omega) (by omega) (by omega)).trans (hBW2.block i hi)
  have FIN := Lib.hid fin
  clear fin
  have HW3 := Lib.hid (And.intro hW3 hz3)
  have hzz : w2.heap.size ≤ W3.heap.size := by omega
  have hbb : ∀ (W : World), Gr2 W3 W (Value.slice a5 k c5).ownBlock (Value.slice a3 vs.length c3).ownBlock → W.heap[g5]? = some (.cells #[.slice a5 k c5] 40 (0, 0)) ∧ W.heap[g3]? = some (.cells #[.slice a3 vs.length c3] 22 (0, 0)) := fun _ h => ⟨(h.block g5 (by omega) (l5 g5 lg5) (l3 g5 lg5)).trans e5, (h.block g3 (by omega) (l5 g3 lg3) (l3 g3 lg3)).trans e3⟩
  have HBB := Lib.hid hbb
  clear hbb hne r5a r3a l5 l3 hW3 hz3
  change wpAnyX _ _ _ _ _ _ _ _ _ _ W3.drew
  have e5 := (HBB.out _ G0).1
  have e3 := (HBB.out _ G0).2
  generalize hWq : W3.drew = Wq at *
  have hzq : W3.heap.size ≤ Wq.heap.size := G0.size
  clear hWq
  refine wpAnyX_take (i := 0) (oi := ⟨some 21, _, _, _, _, none⟩) (v := ?_) rfl (by kernel_rfl) (by kernel_rfl) (by kernel_rfl) (fun _ _ _ h => h) (Or.inl ⟨by rfl, ?_⟩) ⟨trivial, fun _ => ⟨e5, e3⟩⟩ ?_
  rotate_left
  ·intro U hU
   have u0 := cell_blk (i := 0) hU.2.1
   simp only [List.getElem?_toArray, List.getElem?_cons_zero] at u0
   go_simp
   all_goals with_reducible rfl
  try simp only [putE]
  refine wpX_kp (i := 1) (oi := ⟨some 22, _, _, _, _, none⟩) (v := ?_) rfl (fun _ _ _ h => h) ?_ ⟨trivial, fun _ => ⟨e5, e3⟩⟩ ?_
  rotate_left
  ·intro U hU
   go_simp
   all_goals with_reducible rfl
  try simp only [putE]
  refine wpAnyX_take2 7 (i := 4) (oi := ⟨some 25, _, _, _, _, none⟩) (v := ?_) rfl (by kernel_rfl) (by kernel_rfl) (by kernel_rfl) (fun _ _ _ h => h) (Or.inl ⟨by rfl, ?_⟩) ⟨trivial, fun _ => ⟨e5, e3⟩⟩ ?_
  rotate_left
  ·intro U hU
   have u0 := cell_blk (i := 0) hU.2.2
   simp only [List.getElem?_toArray, List.getElem?_cons_zero] at u0
   go_simp
   all_goals with_reducible rfl
  try simp only [putE]
  refine wpX_kp (i := 5) (oi := ⟨some 26, _, _, _, _, none⟩) (v := ?_) rfl (fun _ _ _ h => h) ?_ ⟨trivial, fun _ => ⟨e5, e3⟩⟩ ?_
  rotate_left
  ·intro U hU
   go_simp
   all_goals with_reducible rfl
  try simp only [putE]
  refine wpAnyX_ready (rs := [2, 6]) (by kernel_rfl) (by simp) ?_
  refine AllReadyX.cons (o := ⟨some 23, _, _, _, _, none⟩) rfl (by rfl) (fun K1 hK1 => ?_) ?_
  ·have HK1 := Lib.hid hK1; clear hK1
   go_simp
   obtain ⟨Wa, hWa⟩ : ∃ q, q = Wq.alloc (.cells #[.int .i64 s] 3) := ⟨_, rfl⟩
   rw [← hWa]
   have WaG : Gr2 W3 Wa (Value.slice a5 k c5).ownBlock (Value.slice a3 vs.length c3).ownBlock := by rw [hWa]; exact G0.alloc _
   have b23 : Wa.heap[Wq.heap.size]? = some (.cells #[.int .i64 s] 3 (0, 0)) := by rw [hWa]; exact heap_newI rfl
   have War5 := own_alloc r5 (.cells #[.int .i64 s] 3)
   rw [← hWa] at War5
   have War3 := own_alloc r3 (.cells #[.int .i64 s] 3)
   rw [← hWa] at War3
   have WaZ : W3.heap.size ≤ Wa.heap.size := WaG.size
   refine HK1.out _ _ ⟨trivial, fun _ => HBB.out _ WaG⟩ ?_
   clear HK1 K1 hWa
   try simp only [putE]
   refine wpAnyX_ready (rs := [3, 6]) (by kernel_rfl) (by simp) ?_
   refine AllReadyX.cons (o := ⟨some 24, _, _, _, _, none⟩) rfl (by rfl) (fun K1 hK1 => ?_) ?_
   ·have HK1 := Lib.hid hK1; clear hK1
    refine oper_app (.tmp 21) (.tmp 23) 40 3 rfl Try.underlying40 info3 rfl (by decide) War5 (by assumption) rfl rfl b23 rfl (by omega) ?_
    intro v24 Wb Wbq Wbg Wbn
    have WbG : Gr2 W3 Wb (Value.slice a5 k c5).ownBlock (Value.slice a3 vs.length c3).ownBlock := WaG.grown Wbg (.inl rfl)
    have Wbr3 := own_grown War3 War5 (by decide) Wbg
    have n5 : v24.ownBlock = (Value.slice a5 k c5).ownBlock ∨ ∃ i, v24.ownBlock = some i ∧ W3.heap.size ≤ i := Wbn.imp_right fun h => ⟨_, h, by omega⟩
    have WbZ : W3.heap.size ≤ Wb.heap.size := WbG.size
    refine HK1.out _ _ ⟨trivial, fun _ => HBB.out _ WbG⟩ ?_
    clear HK1 K1
    try simp only [putE]
    refine wpAnyX_one (i := 6) (o := ⟨some 27, _, _, _, _, none⟩) (by kernel_rfl) rfl (by rfl) (fun K1 hK1 => ?_)
    have HK1 := Lib.hid hK1; clear hK1
    go_simp
    obtain ⟨Wc, hWc⟩ : ∃ q, q = Wb.alloc (.cells #[.slice ay ny cy] 40) := ⟨_, rfl⟩
    rw [← hWc]
    have WcG : Gr2 W3 Wc (Value.slice a5 k c5).ownBlock (Value.slice a3 vs.length c3).ownBlock := by rw [hWc]; exact WbG.alloc _
    have b27 : Wc.heap[Wb.heap.size]? = some (.cells #[.slice ay ny cy] 40 (0, 0)) := by rw [hWc]; exact heap_newI rfl
    have Wcr3 := own_alloc Wbr3 (.cells #[.slice ay ny cy] 40)
    rw [← hWc] at Wcr3
    have Wcq5 := own_alloc Wbq (.cells #[.slice ay ny cy] 40)
    rw [← hWc] at Wcq5
    have WcZ : W3.heap.size ≤ Wc.heap.size := WcG.size
    refine HK1.out _ _ ⟨trivial, fun _ => HBB.out _ WcG⟩ ?_
    clear HK1 K1 hWc
    try simp only [putE]
    refine wpAnyX_one (i := 7) (o := ⟨some 28, _, _, _, _, none⟩) (by kernel_rfl) rfl (by rfl) (fun K1 hK1 => ?_)
    have HK1 := Lib.hid hK1; clear hK1
    refine oper_app (.tmp 25) (.tmp 27) 22 40 rfl Try.underlying22 info40 rfl (by decide) Wcr3 (by assumption) rfl rfl b27 rfl (by omega) ?_
    intro v28 Wd Wdq Wdg Wdn
    have WdG : Gr2 W3 Wd (Value.slice a5 k c5).ownBlock (Value.slice a3 vs.length c3).ownBlock := WcG.grown Wdg (.inr rfl)
    have Wdq5 := own_grown Wcq5 Wcr3 (by decide) Wdg
    have n3 : v28.ownBlock = (Value.slice a3 vs.length c3).ownBlock ∨ ∃ i, v28.ownBlock = some i ∧ W3.heap.size ≤ i := Wdn.imp_right fun h => ⟨_, h, by omega⟩
    have WdZ : W3.heap.size ≤ Wd.heap.size := WdG.size
    refine HK1.out _ _ ⟨trivial, fun _ => HBB.out _ WdG⟩ ?_
    clear HK1 K1
    try simp only [putE]
    rw [hxk] at Wdq5
    obtain ⟨a5n, c5n, rfl, -⟩ := own_form Wdq5
    obtain ⟨a3n, c3n, rfl, -⟩ := own_form Wdq
    have x5 := (HBB.out _ WdG).1
    have x3 := (HBB.out _ WdG).2
    have x3' := (heap_set_other (i := 0) (v := .slice a5n (k + 1) c5n) (show g3 ≠ g5 by have := HZ.out; have := HG.out; omega)).trans x3
    have y5 := cell_blk (i := 0) x5
    have f5 := free_blk (i := 0) x5
    have y3 := cell_blk (i := 0) x3'
    have f3 := free_blk (i := 0) x3'
    simp only [List.getElem?_toArray, List.getElem?_cons_zero] at y5 y3
    refine wpAnyX_one (i := 8) (o := ⟨none, _, _, _, _, none⟩) (by kernel_rfl) rfl (by rfl) (fun K1 hK1 => ?_)
    have HK1 := Lib.hid hK1; clear hK1
    go_simp
    refine HK1.out _ _ ⟨trivial, fun h => by simp at h⟩ ?_
    clear HK1 K1
    try simp only [putE]
    refine wpAnyX_one (i := 9) (o := ⟨none, _, _, _, _, none⟩) (by kernel_rfl) rfl (by rfl) (fun K1 hK1 => ?_)
    have HK1 := Lib.hid hK1; clear hK1
    go_simp
    refine HK1.out _ _ ⟨trivial, fun h => by simp at h⟩ ?_
    clear HK1 K1
    try simp only [putE]
    refine wpAnyX_done (by kernel_rfl) ?_ _
    exact FIN.out Wd _ _ WdG Wdq5 n5 Wdq n3 _ rfl
   refine AllReadyX.cons (o := ⟨some 27, _, _, _, _, none⟩) rfl (by rfl) (fun K1 hK1 => ?_) ?_
   ·have HK1 := Lib.hid hK1; clear hK1
    go_simp
    obtain ⟨Wb, hWb⟩ : ∃ q, q = Wa.alloc (.cells #[.slice ay ny cy] 40) := ⟨_, rfl⟩
    rw [← hWb]
    have WbG : Gr2 W3 Wb (Value.slice a5 k c5).ownBlock (Value.slice a3 vs.length c3).ownBlock := by rw [hWb]; exact WaG.alloc _
    have b27 : Wb.heap[Wa.heap.size]? = some (.cells #[.slice ay ny cy] 40 (0, 0)) := by rw [hWb]; exact heap_newI rfl
    have Wbr5 := own_alloc War5 (.cells #[.slice ay ny cy] 40)
    rw [← hWb] at Wbr5
    have Wbr3 := own_alloc War3 (.cells #[.slice ay ny cy] 40)
    rw [← hWb] at Wbr3
    have Wbb23 := (heap_oldI (o := .cells #[.slice ay ny cy] 40) (lt_blk b23)).trans b23
    rw [← hWb] at Wbb23
    have WbZ : W3.heap.size ≤ Wb.heap.size := WbG.size
    refine HK1.out _ _ ⟨trivial, fun _ => HBB.out _ WbG⟩ ?_
    clear HK1 K1 hWb
    try simp only [putE]
    refine wpAnyX_one (i := 3) (o := ⟨some 24, _, _, _, _, none⟩) (by kernel_rfl) rfl (by rfl) (fun K1 hK1 => ?_)
    have HK1 := Lib.hid hK1; clear hK1
    refine oper_app (.tmp 21) (.tmp 23) 40 3 rfl Try.underlying40 info3 rfl (by decide) Wbr5 (by assumption) rfl rfl Wbb23 rfl (by omega) ?_
    intro v24 Wc Wcq Wcg Wcn
    have WcG : Gr2 W3 Wc (Value.slice a5 k c5).ownBlock (Value.slice a3 vs.length c3).ownBlock := WbG.grown Wcg (.inl rfl)
    have Wcr3 := own_grown Wbr3 Wbr5 (by decide) Wcg
    have Wcb27 := blk_grown Wbr5 Wcg b27 (by decide)
    have n5 : v24.ownBlock = (Value.slice a5 k c5).ownBlock ∨ ∃ i, v24.ownBlock = some i ∧ W3.heap.size ≤ i := Wcn.imp_right fun h => ⟨_, h, by omega⟩
    have WcZ : W3.heap.size ≤ Wc.heap.size := WcG.size
    refine HK1.out _ _ ⟨trivial, fun _ => HBB.out _ WcG⟩ ?_
    clear HK1 K1
    try simp only [putE]
    refine wpAnyX_one (i := 7) (o := ⟨some 28, _, _, _, _, none⟩) (by kernel_rfl) rfl (by rfl) (fun K1 hK1 => ?_)
    have HK1 := Lib.hid hK1; clear hK1
    refine oper_app (.tmp 25) (.tmp 27) 22 40 rfl Try.underlying22 info40 rfl (by decide) Wcr3 (by assumption) rfl rfl Wcb27 rfl (by omega) ?_
    intro v28 Wd Wdq Wdg Wdn
    have WdG : Gr2 W3 Wd (Value.slice a5 k c5).ownBlock (Value.slice a3 vs.length c3).ownBlock := WcG.grown Wdg (.inr rfl)
    have Wdq5 := own_grown Wcq Wcr3 (by decide) Wdg
    have n3 : v28.ownBlock = (Value.slice a3 vs.length c3).ownBlock ∨ ∃ i, v28.ownBlock = some i ∧ W3.heap.size ≤ i := Wdn.imp_right fun h => ⟨_, h, by omega⟩
    have WdZ : W3.heap.size ≤ Wd.heap.size := WdG.size
    refine HK1.out _ _ ⟨trivial, fun _ => HBB.out _ WdG⟩ ?_
    clear HK1 K1
    try simp only [putE]
    rw [hxk] at Wdq5
    obtain ⟨a5n, c5n, rfl, -⟩ := own_form Wdq5
    obtain ⟨a3n, c3n, rfl, -⟩ := own_form Wdq
    have x5 := (HBB.out _ WdG).1
    have x3 := (HBB.out _ WdG).2
    have x3' := (heap_set_other (i := 0) (v := .slice a5n (k + 1) c5n) (show g3 ≠ g5 by have := HZ.out; have := HG.out; omega)).trans x3
    have y5 := cell_blk (i := 0) x5
    have f5 := free_blk (i := 0) x5
    have y3 := cell_blk (i := 0) x3'
    have f3 := free_blk (i := 0) x3'
    simp only [List.getElem?_toArray, List.getElem?_cons_zero] at y5 y3
    refine wpAnyX_one (i := 8) (o := ⟨none, _, _, _, _, none⟩) (by kernel_rfl) rfl (by rfl) (fun K1 hK1 => ?_)
    have HK1 := Lib.hid hK1; clear hK1
    go_simp
    refine HK1.out _ _ ⟨trivial, fun h => by simp at h⟩ ?_
    clear HK1 K1
    try simp only [putE]
    refine wpAnyX_one (i := 9) (o := ⟨none, _, _, _, _, none⟩) (by kernel_rfl) rfl (by rfl) (fun K1 hK1 => ?_)
    have HK1 := Lib.hid hK1; clear hK1
    go_simp
    refine HK1.out _ _ ⟨trivial, fun h => by simp at h⟩ ?_
    clear HK1 K1
    try simp only [putE]
    refine wpAnyX_done (by kernel_rfl) ?_ _
    exact FIN.out Wd _ _ WdG Wdq5 n5 Wdq n3 _ rfl
   exact AllReadyX.nil
  refine AllReadyX.cons (o := ⟨some 27, _, _, _, _, none⟩) rfl (by rfl) (fun K1 hK1 => ?_) ?_
  ·have HK1 := Lib.hid hK1; clear hK1
   go_simp
   obtain ⟨Wa, hWa⟩ : ∃ q, q = Wq.alloc (.cells #[.slice ay ny cy] 40) := ⟨_, rfl⟩
   rw [← hWa]
   have WaG : Gr2 W3 Wa (Value.slice a5 k c5).ownBlock (Value.slice a3 vs.length c3).ownBlock := by rw [hWa]; exact G0.alloc _
   have b27 : Wa.heap[Wq.heap.size]? = some (.cells #[.slice ay ny cy] 40 (0, 0)) := by rw [hWa]; exact heap_newI rfl
   have War5 := own_alloc r5 (.cells #[.slice ay ny cy] 40)
   rw [← hWa] at War5
   have War3 := own_alloc r3 (.cells #[.slice ay ny cy] 40)
   rw [← hWa] at War3
   have WaZ : W3.heap.size ≤ Wa.heap.size := WaG.size
   refine HK1.out _ _ ⟨trivial, fun _ => HBB.out _ WaG⟩ ?_
   clear HK1 K1 hWa
   try simp only [putE]
   refine wpAnyX_one (i := 2) (o := ⟨some 23, _, _, _, _, none⟩) (by kernel_rfl) rfl (by rfl) (fun K1 hK1 => ?_)
   have HK1 := Lib.hid hK1; clear hK1
   go_simp
   obtain ⟨Wb, hWb⟩ : ∃ q, q = Wa.alloc (.cells #[.int .i64 s] 3) := ⟨_, rfl⟩
   rw [← hWb]
   have WbG : Gr2 W3 Wb (Value.slice a5 k c5).ownBlock (Value.slice a3 vs.length c3).ownBlock := by rw [hWb]; exact WaG.alloc _
   have b23 : Wb.heap[Wa.heap.size]? = some (.cells #[.int .i64 s] 3 (0, 0)) := by rw [hWb]; exact heap_newI rfl
   have Wbr5 := own_alloc War5 (.cells #[.int .i64 s] 3)
   rw [← hWb] at Wbr5
   have Wbr3 := own_alloc War3 (.cells #[.int .i64 s] 3)
   rw [← hWb] at Wbr3
   have Wbb27 := (heap_oldI (o := .cells #[.int .i64 s] 3) (lt_blk b27)).trans b27
   rw [← hWb] at Wbb27
   have WbZ : W3.heap.size ≤ Wb.heap.size := WbG.size
   refine HK1.out _ _ ⟨trivial, fun _ => HBB.out _ WbG⟩ ?_
   clear HK1 K1 hWb
   try simp only [putE]
   refine wpAnyX_one (i := 3) (o := ⟨some 24, _, _, _, _, none⟩) (by kernel_rfl) rfl (by rfl) (fun K1 hK1 => ?_)
   have HK1 := Lib.hid hK1; clear hK1
   refine oper_app (.tmp 21) (.tmp 23) 40 3 rfl Try.underlying40 info3 rfl (by decide) Wbr5 (by assumption) rfl rfl b23 rfl (by omega) ?_
   intro v24 Wc Wcq Wcg Wcn
   have WcG : Gr2 W3 Wc (Value.slice a5 k c5).ownBlock (Value.slice a3 vs.length c3).ownBlock := WbG.grown Wcg (.inl rfl)
   have Wcr3 := own_grown Wbr3 Wbr5 (by decide) Wcg
   have Wcb27 := blk_grown Wbr5 Wcg Wbb27 (by decide)
   have n5 : v24.ownBlock = (Value.slice a5 k c5).ownBlock ∨ ∃ i, v24.ownBlock = some i ∧ W3.heap.size ≤ i := Wcn.imp_right fun h => ⟨_, h, by omega⟩
   have WcZ : W3.heap.size ≤ Wc.heap.size := WcG.size
   refine HK1.out _ _ ⟨trivial, fun _ => HBB.out _ WcG⟩ ?_
   clear HK1 K1
   try simp only [putE]
   refine wpAnyX_one (i := 7) (o := ⟨some 28, _, _, _, _, none⟩) (by kernel_rfl) rfl (by rfl) (fun K1 hK1 => ?_)
   have HK1 := Lib.hid hK1; clear hK1
   refine oper_app (.tmp 25) (.tmp 27) 22 40 rfl Try.underlying22 info40 rfl (by decide) Wcr3 (by assumption) rfl rfl Wcb27 rfl (by omega) ?_
   intro v28 Wd Wdq Wdg Wdn
   have WdG : Gr2 W3 Wd (Value.slice a5 k c5).ownBlock (Value.slice a3 vs.length c3).ownBlock := WcG.grown Wdg (.inr rfl)
   have Wdq5 := own_grown Wcq Wcr3 (by decide) Wdg
   have n3 : v28.ownBlock = (Value.slice a3 vs.length c3).ownBlock ∨ ∃ i, v28.ownBlock = some i ∧ W3.heap.size ≤ i := Wdn.imp_right fun h => ⟨_, h, by omega⟩
   have WdZ : W3.heap.size ≤ Wd.heap.size := WdG.size
   refine HK1.out _ _ ⟨trivial, fun _ => HBB.out _ WdG⟩ ?_
   clear HK1 K1
   try simp only [putE]
   rw [hxk] at Wdq5
   obtain ⟨a5n, c5n, rfl, -⟩ := own_form Wdq5
   obtain ⟨a3n, c3n, rfl, -⟩ := own_form Wdq
   have x5 := (HBB.out _ WdG).1
   have x3 := (HBB.out _ WdG).2
   have x3' := (heap_set_other (i := 0) (v := .slice a5n (k + 1) c5n) (show g3 ≠ g5 by have := HZ.out; have := HG.out; omega)).trans x3
   have y5 := cell_blk (i := 0) x5
   have f5 := free_blk (i := 0) x5
   have y3 := cell_blk (i := 0) x3'
   have f3 := free_blk (i := 0) x3'
   simp only [List.getElem?_toArray, List.getElem?_cons_zero] at y5 y3
   refine wpAnyX_one (i := 8) (o := ⟨none, _, _, _, _, none⟩) (by kernel_rfl) rfl (by rfl) (fun K1 hK1 => ?_)
   have HK1 := Lib.hid hK1; clear hK1
   go_simp
   refine HK1.out _ _ ⟨trivial, fun h => by simp at h⟩ ?_
   clear HK1 K1
   try simp only [putE]
   refine wpAnyX_one (i := 9) (o := ⟨none, _, _, _, _, none⟩) (by kernel_rfl) rfl (by rfl) (fun K1 hK1 => ?_)
   have HK1 := Lib.hid hK1; clear hK1
   go_simp
   refine HK1.out _ _ ⟨trivial, fun h => by simp at h⟩ ?_
   clear HK1 K1
   try simp only [putE]
   refine wpAnyX_done (by kernel_rfl) ?_ _
   exact FIN.out Wd _ _ WdG Wdq5 n5 Wdq n3 _ rfl
  exact AllReadyX.nil
 case done =>
  rintro S W hS ⟨⟨hBW, hbx⟩, jB, j1, j2, j4, jm, v5, v3, vs, j5, j3, jl, r5, r3, jrw⟩ hD
  rw [List.take_length] at r5
  obtain ⟨a5, c5, rfl, hc5⟩ := own_form r5.1
  obtain ⟨a3, c3, rfl, hc3⟩ := own_form r3.1
  have hx5 : ((L.map Prod.fst).map (Value.int .i64)).length = L.length := by simp
  rw [hx5] at j5 hc5 jrw r5
  have r5' := r5.1
  rw [hx5] at r5'
  have s5 : SlI W (.slice a5 L.length c5) (L.map Prod.fst) := slI_own r5' (by simp) (by simp; omega)
  have q5 := cell_blk (i := 0) j5
  simp only [List.getElem?_toArray, List.getElem?_cons_zero] at q5
  have hfar : ∀ g off, a5 = some ⟨g, off, none⟩ → w2.heap.size ≤ g := fun g off e => (own_lt r5' (g := g) (by rw [e]; rfl)).1
  obtain ⟨ad5, cap5, e5, -, -, hcc⟩ := s5
  injection e5 with e5 e6 e7
  subst e5
  clear e6 e7
  have HCC := Lib.hid (And.intro hcc hfar)
  have HW := Lib.hid (And.intro hBW (And.intro jB (And.intro j1 (And.intro j2 (And.intro j4 (And.intro jm (And.intro j3 (And.intro jl (And.intro r3 (And.intro jrw (And.intro hD hS)))))))))))
  have HZ := Lib.hid (And.intro z1 (And.intro hgm (And.intro hg4 (And.intro hg5 z3))))
  clear hBW hbx jB j1 j2 j4 jm r5 r5' r3 jrw j5 j3 jl hD hS z1 hgm hg4 hg5 z3 hg1 hg2 hg3 b1 b2 b3 b4 b5 m0 hcc hfar hx5 hc5 hc3
  refine HK1.out _ _ ?_
  clear HK1 K1 HIT
  refine wpIn_of_wp ?_
  refine wp_noP ?_
  go_wp2
  go_loopw [31] (fun i wr => ∃ (j : Nat) (vn vg : Value) (vsn : List Value), j ≤ L.length ∧ i = .int .i64 j ∧ Hid (wr.heap[g2]? = some (.cells #[vn, vg] 25 (0, 0)) ∧ vsn.length = j ∧ wr.ownsRow W.heap.size 40 1 vn j vsn ∧ wr.ownsRow W.heap.size 4 1 vg j (((L.take j).map fun p => x.gd p.1).map Value.bool) ∧ RwO wr W.heap.size vsn (rowsX x L j)) ∧ Gr2 W wr (some g2) none) (fun i _ => L.length - (intOf i).toNat)
  case atStart => exact ⟨0, _, _, [], Nat.zero_le _, rfl, Lib.hid ⟨HW.out.2.2.2.1, rfl, ⟨rfl, .inl ⟨rfl, rfl⟩⟩, ⟨rfl, .inl ⟨rfl, rfl⟩⟩, by simp [rowsX], fun i hi => by simp at hi⟩, Gr2.refl _ _ _⟩
  case round =>
   obtain ⟨j, vn, vg, vsn, hj, rfl, HI, hG⟩ := hrel
   obtain ⟨wo, rfl⟩ : ∃ q, q = wr := ⟨_, rfl⟩
   obtain ⟨z1, hgm, hg4, hg5, z3⟩ := HZ.out
   obtain ⟨hg1, hg2, hg3, -⟩ := HG.out
   by_cases hjn : j < L.length
   ·have hji : (j : Int) < (L.length : Int) := by omega
    obtain ⟨b, off, rfl, hbl, hcell⟩ := HCC.out.1 (by simpa using (by omega : 0 < L.length))
    have hbf := HCC.out.2 b off rfl
    obtain ⟨s, hs⟩ : ∃ s, s = L[j].1 := ⟨_, rfl⟩
    have hzW : w2.heap.size ≤ W.heap.size := by have := lt_blk HW.out.2.2.2.2.2.2.2.2.2.2.1; omega
    have c0 : wo.cell? ⟨b, off + j, none⟩ = some (.int .i64 s) := by
     rw [World.cell?_of_block (w := W) (w' := wo) (a := ⟨b, off + j, none⟩) (hG.block b hbl (by simp; omega) (by simp)), hcell j (by simpa using hjn), hs]
     simp [at0, hjn]
    have hoks : ok s := by
     have := after_ind x (fun p => ok p.1) hM.st (fun q c h hc => hM.cl q.1 c h hc) L.length L[j] (by rw [hL.all]; exact List.getElem_mem hjn)
     rw [hs]; exact this
    have d1 : wo.heap[g1]? = some (.cells (sysV x fN fG lN lG) 96 (0, 0)) := (hG.block g1 (by omega) (by simp; omega) (by simp)).trans HW.out.2.2.1
    have d4 : wo.heap[g4]? = some (.cells #[.map (some gm)] 125 (0, 0)) := (hG.block g4 (by omega) (by simp; omega) (by simp)).trans HW.out.2.2.2.2.1
    have dm : wo.heap[gm]? = W.heap[gm]? := hG.block gm (by omega) (by simp; omega) (by simp)
    have q1 := cell_blk (i := 0) d1
    simp only [List.getElem?_toArray, List.getElem?_cons_zero] at q1
    have HD := Lib.hid (And.intro d1 (And.intro d4 (And.intro dm (And.intro hs (And.intro hoks hzW)))))
    have hg12 : g1 ≠ g2 := by omega
    have hgz : g2 < W.heap.size ∧ g1 < W.heap.size ∧ g4 < W.heap.size ∧ gm < W.heap.size ∧ w.heap.size ≤ W.heap.size := by omega
    clear hcell hs hoks d1 d4 dm z1 hgm hg4 hg5 z3 hg1 hg2 hg3 hbf
    go_wp2
    rename_i K18 hK18 K17 hK17
    have HK18 := Lib.hid hK18; clear hK18
    go_loopw [10, 37] (fun v i wq => ∃ c : Nat, c ≤ x.k ∧ i = .int .i64 c ∧ wq.ownsRow wo.heap.size 3 1 v c ((nI ((List.range c).map fun c => idx L (x.nx s c))).map (Value.int .i64)) ∧ Below wo.heap.size wo wq) (fun _ i _ => x.k - (intOf i).toNat)
    case atStart => exact ⟨0, Nat.zero_le _, rfl, ⟨rfl, .inl ⟨rfl, rfl⟩⟩, Below.refl _ _⟩
    case round =>
     obtain ⟨c, hc, rfl, hrow, hbq⟩ := hrel
     have hk4 := hM.k4
     by_cases hck : c < x.k
     ·have hci : (c : Int) < (x.k : Int) := by omega
      obtain ⟨d1, d4, dm, hs, hoks, hzW⟩ := HD.out
      obtain ⟨av, cv, rfl, hcv⟩ := own_form hrow
      have HKEEP := Lib.hid (And.intro d1 (And.intro d4 dm))
      have hsm : s ∈ L.map Prod.fst := by rw [hs]; exact List.mem_map.2 ⟨_, List.getElem_mem hjn, rfl⟩
      have hnm : x.nx s c ∈ L.map Prod.fst := hL.closed hsm hck
      have hokn : ok (x.nx s c) := hM.cl s c hoks hck
      have hbB : ∀ U, Below wo.heap.size wo U → Below B W0 U := fun U hU => by
       have hB' := HW.out.1
       have hz := hB'.size
       have hbw := hb.size
       refine ⟨hU.os.trans (hG.os.trans hB'.os), hU.tape.trans (hG.tape.trans hB'.tape), hU.output.trans (hG.output.trans hB'.output), by have := hU.size; have := hG.size; omega, fun i hi => ?_⟩
       have hgg := HG.out
       exact (hU.block i (by have := hG.size; omega)).trans ((hG.block i (by omega) (by simp; omega) (by simp)).trans (hB'.block i hi))
      have HBU := Lib.hid hbB
      have hFm : ∀ t u, Fn L L.length t = some u → ∃ l, keyOf Try.prog 3 (encZ t) = some l := fun t u h => by
       unfold Fn at h
       by_cases hh : t ∈ (L.take L.length).map Prod.fst
       ·obtain ⟨p, hp, rfl⟩ := List.mem_map.1 hh
        have := after_ind x (fun p => ok p.1) hM.st (fun q c h hc => hM.cl q.1 c h hc) L.length p (by rw [hL.all]; exact List.mem_of_mem_take hp)
        exact keyZ (hM.bd _ this)
       ·rw [if_neg hh] at h; cases h
      have hlk : ∀ U, U.heap[gm]? = W.heap[gm]? → (Instr.lookup 125 (.map (some gm)) (.int .i64 (x.nx s c)) false).run Try.prog U = .ok (.int .i64 (idx L (x.nx s c) : Nat)) U := fun U hU => by
       have := (HW.out.2.2.2.2.2.1.look (P := Try.prog) (t := 125) (k := 3) (e := 3) keyed3 Try.underlying125 zero3 encZ_inj hFm (keyZ (hM.bd _ hokn)) U hU).2
       rw [show Fn L L.length (x.nx s c) = some (.int .i64 (idx L (x.nx s c) : Nat)) by unfold Fn; rw [List.take_length, if_pos hnm]; rfl] at this
       exact this
      have HLK := Lib.hid hlk
      have hnx := hM.nx
      have HNX := Lib.hid (fun U hU => hM.nx U (HBU.out U hU) s c hoks hck)
      have HRW := Lib.hid hrow
      clear d1 d4 dm hs hoks hzW hsm hnm hokn hbB hFm hlk hnx hrow
      go_wp2
      rename_i K2 hK2
      have HK2 := Lib.hid hK2; clear hK2
      refine wp_region_x (R := fun U => Below wo.heap.size wo U) (S := fun _ => True) (z := 999) rfl ?_
      change wpAnyX _ _ _ _ _ _ _ _ _ _ wr.drew
      obtain ⟨wq, hwq⟩ : ∃ q, q = wr.drew := ⟨_, rfl⟩
      have hbqd : Below wo.heap.size wo wq := by rw [hwq]; exact hbq.drew
      have HRW0 := Lib.hid (own_same HRW.out (w' := wq) (fun g hg => by rw [hwq]; rfl))
      rw [← hwq]
      replace hbq := hbqd
      clear hwq hbqd
      refine wpX_kp (i := 0) (oi := ⟨some 40, _, _, _, _, none⟩) (v := ?_) rfl (fun _ _ _ h => h) ?_ ⟨(by assumption), fun _ => trivial⟩ ?_
      rotate_left
      ·intro U hU
       go_simp
       all_goals with_reducible rfl
      simp only [putE]
      refine wpX_kp (i := 1) (oi := ⟨some 41, _, _, _, _, none⟩) (v := ?_) rfl (fun _ _ _ h => h) ?_ ⟨(by assumption), fun _ => trivial⟩ ?_
      rotate_left
      ·intro U hU
       have u0 := cell_blk (i := 0) (blk_keep HKEEP.out.2.1 hU)
       simp only [List.getElem?_toArray, List.getElem?_cons_zero] at u0
       go_simp
       all_goals with_reducible rfl
      simp only [putE]
      refine wpX_kp (i := 2) (oi := ⟨some 42, _, _, _, _, none⟩) (v := ?_) rfl (fun _ _ _ h => h) ?_ ⟨(by assumption), fun _ => trivial⟩ ?_
      rotate_left
      ·intro U hU
       go_simp
       all_goals with_reducible rfl
      simp only [putE]
      refine wpX_kp (i := 3) (oi := ⟨some 43, _, _, _, _, none⟩) (v := ?_) rfl (fun _ _ _ h => h) ?_ ⟨(by assumption), fun _ => trivial⟩ ?_
      rotate_left
      ·intro U hU
       have u0 := cell_blk (i := 2) (blk_keep HKEEP.out.1 hU)
       simp only [List.getElem?_toArray, List.getElem?_cons_zero, List.getElem?_cons_succ] at u0
       go_simp
       all_goals with_reducible rfl
      simp only [putE]
      refine wpX_kp (i := 4) (oi := ⟨some 44, _, _, _, _, none⟩) (v := ?_) rfl (fun _ _ _ h => h) ?_ ⟨(by assumption), fun _ => trivial⟩ ?_
      rotate_left
      ·intro U hU
       go_simp
       all_goals with_reducible rfl
      simp only [putE]
      refine wpX_kp (i := 5) (oi := ⟨some 45, _, _, _, _, none⟩) (v := ?_) rfl (fun _ _ _ h => h) ?_ ⟨(by assumption), fun _ => trivial⟩ ?_
      rotate_left
      ·intro U hU
       go_simp
       all_goals with_reducible rfl
      simp only [putE]
      refine wpAnyX_one (i := 6) (o := ⟨some 46, _, _, _, _, none⟩) (by kernel_rfl) rfl (by rfl) (fun K1 hK1 => ?_)
      have HK1' := Lib.hid hK1; clear hK1
      refine oper_callg (c := .tmp 43) (xs := #[.tmp 44, .tmp 45]) (ts := _) rfl rfl eN rfl (R := fun v w' => v = .int .i64 (x.nx s c) ∧ Below wq.heap.size wq w') ((HNX.out wq hbq).mono (by rintro e w' ⟨rfl, h⟩; exact ⟨_, rfl, rfl, h⟩)) ?_
      rintro vn' wr1 ⟨rfl, hr1⟩
      have hB1' : Below wo.heap.size wo wr1 := btr hbq hr1 (Nat.le_refl _)
      have hrow1 := own_same HRW0.out (w' := wr1) fun g hg => hr1.block g (own_lt HRW0.out hg).2.1
      refine HK1'.out _ _ ⟨hB1', fun _ => trivial⟩ ?_
      clear HK1'
      try simp only [putE]
      refine wpX_kp (i := 7) (oi := ⟨some 47, _, _, _, _, none⟩) (v := ?_) rfl (fun _ _ _ h => h) ?_ ⟨(by assumption), fun _ => trivial⟩ ?_
      rotate_left
      ·refine yields_lookup (mv := .map (some gm)) (kv := .int .i64 (x.nx s c)) (v := .int .i64 (idx L (x.nx s c) : Nat)) 125 (.tmp 41) (.tmp 46) false ?_ ?_ ?_ (fun U hU => HLK.out U ?_)
       ·rfl
       ·rfl
       ·rfl
       exact (hU.block gm (by have := hG.size; omega)).trans HKEEP.out.2.2
      simp only [putE]
      refine wpAnyX_one (i := 8) (o := ⟨some 48, _, _, _, _, none⟩) (by kernel_rfl) rfl (by rfl) (fun K1 hK1 => ?_)
      have HK1' := Lib.hid hK1; clear hK1
      go_simp
      obtain ⟨wr2, hwr2⟩ : ∃ q, q = wr1.alloc (.cells #[.int .i64 (idx L (x.nx s c) : Nat)] 3) := ⟨_, rfl⟩
      rw [← hwr2]
      have hB2' : Below wo.heap.size wo wr2 := by rw [hwr2]; exact hB1'.alloc hB1'.size _
      have hb48 : wr2.heap[wr1.heap.size]? = some (.cells #[.int .i64 (idx L (x.nx s c) : Nat)] 3 (0, 0)) := by rw [hwr2]; exact heap_newI rfl
      have hrow2 := own_alloc hrow1 (.cells #[.int .i64 (idx L (x.nx s c) : Nat)] 3)
      rw [← hwr2] at hrow2
      refine HK1'.out _ _ ⟨hB2', fun _ => trivial⟩ ?_
      clear HK1' hwr2
      try simp only [putE]
      refine wpAnyX_one (i := 9) (o := ⟨some 49, _, _, _, _, none⟩) (by kernel_rfl) rfl (by rfl) (fun K1 hK1 => ?_)
      have HK1' := Lib.hid hK1; clear hK1
      refine oper_app (.tmp 40) (.tmp 48) 40 3 rfl Try.underlying40 info3 rfl (by decide) (xs := (nI ((List.range c).map fun c => idx L (x.nx s c))).map (Value.int .i64)) (by rw [show ((nI ((List.range c).map fun c => idx L (x.nx s c))).map (Value.int .i64)).length = c by simp]; exact hrow2) (by simp; omega) rfl rfl hb48 rfl hB2'.size ?_
      intro v49 wr3 q49 g49 n49
      have hB3' : Below wo.heap.size wo wr3 := grown_below g49 hrow2 (Nat.le_refl _) hB2'.size hB2'
      refine HK1'.out _ _ ⟨hB3', fun _ => trivial⟩ ?_
      clear HK1'
      try simp only [putE]
      refine wpX_kp (i := 10) (oi := ⟨some 10, _, _, _, _, none⟩) (v := ?_) rfl (fun _ _ _ h => h) ?_ ⟨(by assumption), fun _ => trivial⟩ ?_
      rotate_left
      ·intro U hU
       go_simp
       all_goals with_reducible rfl
      simp only [putE]
      refine wpAnyX_done (by kernel_rfl) ?_ _
      refine HK2.out _ _ ?_; clear HK2
      go_wp2
      refine ⟨⟨c + 1, by omega, by go_num, ?_, by assumption⟩, ?_⟩
      ·have e1 : ((nI ((List.range c).map fun c => idx L (x.nx s c))).map (Value.int .i64)).length = c := by simp
       rw [e1] at q49
       rw [List.range_succ, List.map_append]
       unfold nI
       rw [List.map_append, List.map_append]
       exact q49
      ·simp only [intOf]; omega
     ·have hci : ¬ (c : Int) < (x.k : Int) := by omega
      have hce : c = x.k := by omega
      subst hce
      obtain ⟨av, cv, rfl, hcv⟩ := own_form hrow
      obtain ⟨d1, d4, dm, hs, hoks, hzW⟩ := HD.out
      obtain ⟨i2, ivl, irn, irg, irw⟩ := HI.out
      have hzo := hG.size
      have hzr := hbq.size
      have e1 := blk_keep d1 hbq
      have e2 := blk_keep i2 hbq
      have hx1 : (((List.range x.k).map fun c => idx L (x.nx s c))).length = x.k := by simp
      have rn0 : wr.ownsRow W.heap.size 40 1 vn vsn.length vsn := by rw [ivl]; exact own_same irn fun g hg => hbq.block g (own_lt irn hg).2.1
      have hxg : (((L.take j).map fun p => x.gd p.1).map Value.bool).length = j := by simp; omega
      have rg0 : wr.ownsRow W.heap.size 4 1 vg (((L.take j).map fun p => x.gd p.1).map Value.bool).length (((L.take j).map fun p => x.gd p.1).map Value.bool) := by rw [hxg]; exact own_same irg fun g hg => hbq.block g (own_lt irg hg).2.1
      have rw0 : RwO wr W.heap.size (vsn ++ [.slice av x.k cv]) (rowsX x L j ++ [(List.range x.k).map fun c => idx L (x.nx s c)]) := (irw.below hbq).push (by rw [hx1]; exact own_base hrow hzo)
      have hGr : Gr2 W wr (some g2) none := hG.below hbq
      have hbB : Below B W0 wr := by
       have hB' := HW.out.1
       have hz := hB'.size
       have hbw := hb.size
       have hgg := HG.out
       refine ⟨hGr.os.trans hB'.os, hGr.tape.trans hB'.tape, hGr.output.trans hB'.output, by have := hGr.size; omega, fun i hi => ?_⟩
       exact (hGr.block i (by omega) (by simp; omega) (by simp)).trans (hB'.block i hi)
      have HF := Lib.hid (And.intro e1 (And.intro e2 (And.intro rn0 (And.intro rg0 (And.intro rw0 (And.intro hGr (And.intro hs (And.intro hoks (And.intro ivl (And.intro hxg hbB))))))))))
      clear d1 d4 dm hs hoks hzW i2 ivl irn irg irw e1 e2 hx1 rn0 hxg rg0 rw0 hGr hbB hrow hbq HI HD
      go_wp2
      obtain ⟨e1, e2, rn0, rg0, rw0, hGr, hs, hoks, ivl, hxg, hbB⟩ := HF.out
      obtain ⟨an, cn, rfl, hcn⟩ := own_form rn0
      obtain ⟨ag, cg, rfl, hcg⟩ := own_form rg0
      have hvl5 : vsn.length ≤ 10000 := by omega
      have hgl5 : (((L.take j).map fun p => x.gd p.1).map Value.bool).length ≤ 10000 := by omega
      have hzr : W.heap.size ≤ wr.heap.size := hGr.size
      have hsx : sysV x fN fG lN lG = sysV x fN fG lN lG := rfl
      obtain ⟨ng, hng⟩ : ∃ n, n = (((L.take j).map fun p => x.gd p.1).map Value.bool).length := ⟨_, rfl⟩
      rw [← hng] at rg0
      obtain ⟨nn, hnn⟩ : ∃ n, n = vsn.length := ⟨_, rfl⟩
      rw [← hnn] at rn0
      have KEEP : ∀ (Z : World), Gr2 wr Z (Value.slice an nn cn).ownBlock (Value.slice ag ng cg).ownBlock → Z.heap[g1]? = some (.cells (sysV x fN fG lN lG) 96 (0, 0)) ∧ Z.heap[g2]? = some (.cells #[.slice an nn cn, .slice ag ng cg] 25 (0, 0)) := fun Z h => by
       rw [hnn, hng]
       rw [hnn, hng] at h
       have n1 : ∀ i, i < W.heap.size → some i ≠ (Value.slice an vsn.length cn).ownBlock := fun i hi e => by have := (own_lt rn0 (by rw [hnn]; exact e.symm)).1; omega
       have n2 : ∀ i, i < W.heap.size → some i ≠ (Value.slice ag (((L.take j).map fun p => x.gd p.1).map Value.bool).length cg).ownBlock := fun i hi e => by have := (own_lt rg0 (by rw [hng]; exact e.symm)).1; omega
       exact ⟨(h.block g1 (by omega) (n1 g1 hgz.2.1) (n2 g1 hgz.2.1)).trans e1, (h.block g2 (by omega) (n1 g2 hgz.1) (n2 g2 hgz.1)).trans e2⟩
      have HKP := Lib.hid KEEP
      have HNN := Lib.hid (And.intro hnn hng)
      have rn1 : wr.drew.ownsRow W.heap.size 40 1 (.slice an nn cn) vsn.length vsn := by rw [hnn] at rn0 ⊢; exact rn0
      have rg1 : wr.drew.ownsRow W.heap.size 4 1 (.slice ag ng cg) (((L.take j).map fun p => x.gd p.1).map Value.bool).length (((L.take j).map fun p => x.gd p.1).map Value.bool) := by rw [hng] at rg0 ⊢; exact rg0
      have rw1 : RwO wr.drew W.heap.size (vsn ++ [.slice av x.k cv]) (rowsX x L j ++ [(List.range x.k).map fun c => idx L (x.nx s c)]) := rw0
      have G0 : Gr2 wr wr.drew (Value.slice an nn cn).ownBlock (Value.slice ag ng cg).ownBlock := Gr2.drew _ _ _
      have HGD := Lib.hid (fun U hU => hM.gd U hU s hoks)
      have hbw2 : ∀ Z, Gr2 wr Z (Value.slice an nn cn).ownBlock (Value.slice ag ng cg).ownBlock → Below B W0 Z := fun Z h => by
       have hB' := HW.out.1
       have hgg := HG.out
       have hBw := hb.size
       have n1 : ∀ i, i < W.heap.size → some i ≠ (Value.slice an nn cn).ownBlock := fun i hi e => by have := (own_lt rn1 e.symm).1; omega
       have n2 : ∀ i, i < W.heap.size → some i ≠ (Value.slice ag ng cg).ownBlock := fun i hi e => by have := (own_lt rg1 e.symm).1; omega
       exact ⟨h.os.trans hbB.os, h.tape.trans hbB.tape, h.output.trans hbB.output, by have := h.size; have := hbB.size; omega, fun i hi => (h.block i (by omega) (n1 i (by omega)) (n2 i (by omega))).trans (hbB.block i hi)⟩
      have HBW := Lib.hid hbw2
      have hbase : W.heap.size ≤ wr.drew.heap.size := hzr
      clear KEEP e1 e2 hsx hcn hcg ivl hxg hnn hng rn0 rg0 rw0 hs hoks hGr hbB hbw2
      refine wp_region_x (R := fun U => U.heap[g1]? = some (.cells (sysV x fN fG lN lG) 96 (0, 0))) (S := fun U => U.heap[g2]? = some (.cells #[.slice an nn cn, .slice ag ng cg] 25 (0, 0))) (z := 14) rfl ?_
      change wpAnyX _ _ _ _ _ _ _ _ _ _ wr.drew
      generalize wr.drew = wq at *
      refine wpX_kp (i := 0) (oi := ⟨some 51, _, _, _, _, none⟩) (v := ?_) rfl (fun _ _ _ h => h) ?_ ⟨(HKP.out _ (by assumption)).1, fun _ => (HKP.out _ (by assumption)).2⟩ ?_
      rotate_left
      ·intro U hU
       go_simp
       all_goals with_reducible rfl
      simp only [putE]
      refine wpAnyX_take (i := 1) (oi := ⟨some 52, _, _, _, _, none⟩) (v := ?_) rfl (by kernel_rfl) (by kernel_rfl) (by kernel_rfl) (fun _ _ _ h => h) (Or.inl ⟨by rfl, ?_⟩) ⟨(HKP.out _ (by assumption)).1, fun _ => (HKP.out _ (by assumption)).2⟩ ?_
      rotate_left
      ·intro U hU
       have u0 := cell_blk (i := 0) hU.2
       simp only [List.getElem?_toArray, List.getElem?_cons_zero] at u0
       go_simp
       all_goals with_reducible rfl
      simp only [putE]
      refine wpX_kp (i := 2) (oi := ⟨some 53, _, _, _, _, none⟩) (v := ?_) rfl (fun _ _ _ h => h) ?_ ⟨(HKP.out _ (by assumption)).1, fun _ => (HKP.out _ (by assumption)).2⟩ ?_
      rotate_left
      ·intro U hU
       go_simp
       all_goals with_reducible rfl
      simp only [putE]
      refine wpX_kp (i := 5) (oi := ⟨some 56, _, _, _, _, none⟩) (v := ?_) rfl (fun _ _ _ h => h) ?_ ⟨(HKP.out _ (by assumption)).1, fun _ => (HKP.out _ (by assumption)).2⟩ ?_
      rotate_left
      ·intro U hU
       go_simp
       all_goals with_reducible rfl
      simp only [putE]
      refine wpAnyX_take (i := 6) (oi := ⟨some 57, _, _, _, _, none⟩) (v := ?_) rfl (by kernel_rfl) (by kernel_rfl) (by kernel_rfl) (fun _ _ _ h => h) (Or.inl ⟨by rfl, ?_⟩) ⟨(HKP.out _ (by assumption)).1, fun _ => (HKP.out _ (by assumption)).2⟩ ?_
      rotate_left
      ·intro U hU
       have u0 := cell_blk (i := 1) hU.2
       simp only [List.getElem?_toArray, List.getElem?_cons_zero, List.getElem?_cons_succ] at u0
       go_simp
       all_goals with_reducible rfl
      simp only [putE]
      refine wpX_kp (i := 7) (oi := ⟨some 58, _, _, _, _, none⟩) (v := ?_) rfl (fun _ _ _ h => h) ?_ ⟨(HKP.out _ (by assumption)).1, fun _ => (HKP.out _ (by assumption)).2⟩ ?_
      rotate_left
      ·intro U hU
       go_simp
       all_goals with_reducible rfl
      simp only [putE]
      refine wpX_kp (i := 8) (oi := ⟨some 59, _, _, _, _, none⟩) (v := ?_) rfl (fun _ _ _ h => h) ?_ ⟨(HKP.out _ (by assumption)).1, fun _ => (HKP.out _ (by assumption)).2⟩ ?_
      rotate_left
      ·intro U hU
       have u0 := cell_blk (i := 3) hU
       simp only [List.getElem?_toArray, List.getElem?_cons_zero, List.getElem?_cons_succ] at u0
       go_simp
       all_goals with_reducible rfl
      simp only [putE]
      refine wpX_kp (i := 9) (oi := ⟨some 60, _, _, _, _, none⟩) (v := ?_) rfl (fun _ _ _ h => h) ?_ ⟨(HKP.out _ (by assumption)).1, fun _ => (HKP.out _ (by assumption)).2⟩ ?_
      rotate_left
      ·intro U hU
       go_simp
       all_goals with_reducible rfl
      simp only [putE]
      refine wpAnyX_one (i := 3) (o := ⟨some 54, _, _, _, _, none⟩) (by kernel_rfl) rfl (by rfl) (fun K1 hK1 => ?_)
      have HK1' := Lib.hid hK1; clear hK1
      go_simp
      obtain ⟨wa, hwa⟩ : ∃ q, q = wq.alloc (.cells #[.slice av x.k cv] 40) := ⟨_, rfl⟩
      rw [← hwa]
      have Ga : Gr2 wr wa (Value.slice an nn cn).ownBlock (Value.slice ag ng cg).ownBlock := by rw [hwa]; exact G0.alloc _
      have ba : wa.heap[wq.heap.size]? = some (.cells #[.slice av x.k cv] 40 (0, 0)) := by rw [hwa]; exact heap_newI rfl
      have haB : Below wq.heap.size wq wa := by rw [hwa]; exact (Below.refl _ _).alloc (Nat.le_refl _) _
      have rn2 := own_alloc rn1 (.cells #[.slice av x.k cv] 40)
      have rg2 := own_alloc rg1 (.cells #[.slice av x.k cv] 40)
      have rw2 := rw1.below haB
      rw [← hwa] at rn2 rg2
      have hbase2 : W.heap.size ≤ wa.heap.size := Nat.le_trans hbase haB.size
      refine HK1'.out _ _ ⟨(HKP.out _ (by assumption)).1, fun _ => (HKP.out _ (by assumption)).2⟩ ?_
      clear HK1'
      try simp only [putE]
      clear hwa
      refine wpAnyX_one (i := 4) (o := ⟨some 55, _, _, _, _, none⟩) (by kernel_rfl) rfl (by rfl) (fun K1 hK1 => ?_)
      have HK1' := Lib.hid hK1; clear hK1
      refine oper_app (.tmp 52) (.tmp 54) 22 40 rfl Try.underlying22 info40 rfl (by decide) rn2 hvl5 rfl rfl ba rfl hbase2 ?_
      intro vn' wb qn gn nnew
      have Gb : Gr2 wr wb (Value.slice an nn cn).ownBlock (Value.slice ag ng cg).ownBlock := Ga.grown gn (.inl rfl)
      have rg3 := own_grown rg2 rn2 (by decide) gn
      have rw3 := rw2.grown rn2 (by decide) gn
      have hbase3 : W.heap.size ≤ wb.heap.size := Nat.le_trans hbase2 gn.size
      have hbelow : Below W0.heap.size wr wr := Below.refl _ _
      refine HK1'.out _ _ ⟨(HKP.out _ (by assumption)).1, fun _ => (HKP.out _ (by assumption)).2⟩ ?_
      clear HK1'
      try simp only [putE]
      refine wpX_kp (i := 13) (oi := ⟨some 64, _, _, _, _, none⟩) (v := ?_) rfl (fun _ _ _ h => h) ?_ ⟨(HKP.out _ (by assumption)).1, fun _ => (HKP.out _ (by assumption)).2⟩ ?_
      rotate_left
      ·intro U hU
       go_simp
       all_goals with_reducible rfl
      simp only [putE]
      refine wpAnyX_one (i := 10) (o := ⟨some 61, _, _, _, _, none⟩) (by kernel_rfl) rfl (by rfl) (fun K1 hK1 => ?_)
      have HK1' := Lib.hid hK1; clear hK1
      have hBwb : Below B W0 wb := HBW.out wb Gb
      refine oper_callg (c := .tmp 59) (xs := #[.tmp 60]) (ts := _) rfl rfl eG rfl (R := fun v w' => v = .bool (x.gd s) ∧ Below wb.heap.size wb w') ((HGD.out wb hBwb).mono (by rintro e w' ⟨rfl, h⟩; exact ⟨_, rfl, rfl, h⟩)) ?_
      rintro vb wc ⟨rfl, hbc⟩
      have Gc : Gr2 wr wc (Value.slice an nn cn).ownBlock (Value.slice ag ng cg).ownBlock := Gb.below hbc
      have rg4 := own_same rg3 (w' := wc) fun g hg => hbc.block g (own_lt rg3 hg).2.1
      have qn4 := own_same qn (w' := wc) fun g hg => hbc.block g (own_lt qn hg).2.1
      have rw4 := rw3.below hbc
      have hbase4 : W.heap.size ≤ wc.heap.size := Nat.le_trans hbase3 hbc.size
      refine HK1'.out _ _ ⟨(HKP.out _ (by assumption)).1, fun _ => (HKP.out _ (by assumption)).2⟩ ?_
      clear HK1'
      try simp only [putE]
      refine wpAnyX_one (i := 11) (o := ⟨some 62, _, _, _, _, none⟩) (by kernel_rfl) rfl (by rfl) (fun K1 hK1 => ?_)
      have HK1' := Lib.hid hK1; clear hK1
      go_simp
      obtain ⟨wd, hwd⟩ : ∃ q, q = wc.alloc (.cells #[.bool (x.gd s)] 4) := ⟨_, rfl⟩
      rw [← hwd]
      have Gd : Gr2 wr wd (Value.slice an nn cn).ownBlock (Value.slice ag ng cg).ownBlock := by rw [hwd]; exact Gc.alloc _
      have bd : wd.heap[wc.heap.size]? = some (.cells #[.bool (x.gd s)] 4 (0, 0)) := by rw [hwd]; exact heap_newI rfl
      have hdB : Below wc.heap.size wc wd := by rw [hwd]; exact (Below.refl _ _).alloc (Nat.le_refl _) _
      have rg5 := own_alloc rg4 (.cells #[.bool (x.gd s)] 4)
      have qn5 := own_alloc qn4 (.cells #[.bool (x.gd s)] 4)
      have rw5 := rw4.below hdB
      rw [← hwd] at rg5 qn5
      have hbase5 : W.heap.size ≤ wd.heap.size := Nat.le_trans hbase4 hdB.size
      refine HK1'.out _ _ ⟨(HKP.out _ (by assumption)).1, fun _ => (HKP.out _ (by assumption)).2⟩ ?_
      clear HK1'
      try simp only [putE]
      clear hwd
      refine wpAnyX_one (i := 12) (o := ⟨some 63, _, _, _, _, none⟩) (by kernel_rfl) rfl (by rfl) (fun K1 hK1 => ?_)
      have HK1' := Lib.hid hK1; clear hK1
      refine oper_app (.tmp 57) (.tmp 62) 23 4 rfl Try.underlying23 info4 rfl (by decide) rg5 hgl5 rfl rfl bd rfl hbase5 ?_
      intro vg' we qg gg gnew
      have Ge : Gr2 wr we (Value.slice an nn cn).ownBlock (Value.slice ag ng cg).ownBlock := Gd.grown gg (.inr rfl)
      have qn6 := own_grown qn5 rg5 (by decide) gg
      have rw6 := rw5.grown rg5 (by decide) gg
      have hbase6 : W.heap.size ≤ we.heap.size := Nat.le_trans hbase5 gg.size
      refine HK1'.out _ _ ⟨(HKP.out _ (by assumption)).1, fun _ => (HKP.out _ (by assumption)).2⟩ ?_
      clear HK1'
      try simp only [putE]
      obtain ⟨a1, k1, rfl, hk1⟩ := own_form qn6
      obtain ⟨a2, k2, rfl, hk2⟩ := own_form qg
      obtain ⟨x1, x2⟩ := HKP.out _ Ge
      obtain ⟨m1, hm1⟩ : ∃ n, n = vsn.length + 1 := ⟨_, rfl⟩
      obtain ⟨m2, hm2⟩ : ∃ n, n = (((L.take j).map fun p => x.gd p.1).map Value.bool).length + 1 := ⟨_, rfl⟩
      rw [← hm1] at qn6 ⊢
      rw [← hm2] at qg ⊢
      have HMM := Lib.hid (And.intro hm1 hm2)
      have x2' := heap_set_blk (i := 0) (v := .slice a1 m1 k1) x2
      have y0 := cell_blk (i := 0) x2
      have f0 := free_blk (i := 0) x2
      have y1 := cell_blk (i := 1) x2'
      have f1 := free_blk (i := 1) x2'
      simp only [List.getElem?_toArray, List.getElem?_cons_zero, List.getElem?_cons_succ, List.setIfInBounds_toArray, List.set_cons_zero] at y0 y1
      clear hm1 hm2 hk1 hk2
      refine wpAnyX_one (i := 14) (o := ⟨none, _, _, _, _, none⟩) (by kernel_rfl) rfl (by rfl) (fun K1 hK1 => ?_)
      have HK1 := Lib.hid hK1; clear hK1
      go_simp
      refine HK1.out _ _ ⟨(heap_set_other (by omega)).trans x1, fun h => by simp at h⟩ ?_
      clear HK1 K1
      try simp only [putE]
      refine wpX_kp (i := 15) (oi := ⟨some 65, _, _, _, _, none⟩) (v := ?_) rfl (fun _ _ _ h => h) ?_ ⟨(heap_set_other (by omega)).trans x1, fun h => by simp at h⟩ ?_
      rotate_left
      ·intro U hU
       go_simp
       all_goals with_reducible rfl
      simp only [putE]
      refine wpAnyX_one (i := 16) (o := ⟨none, _, _, _, _, none⟩) (by kernel_rfl) rfl (by rfl) (fun K1 hK1 => ?_)
      have HK1 := Lib.hid hK1; clear hK1
      go_simp
      refine HK1.out _ _ ⟨(heap_set_other (by omega)).trans ((heap_set_other (by omega)).trans x1), fun h => by simp at h⟩ ?_
      clear HK1 K1
      try simp only [putE]
      refine wpAnyX_done (by kernel_rfl) ?_ _
      have hGr := HF.out.2.2.2.2.2.1
      have n1 : ∀ i, i < W.heap.size → some i ≠ (Value.slice an nn cn).ownBlock := fun i hi e => by have := (own_lt rn1 e.symm).1; omega
      have n2 : ∀ i, i < W.heap.size → some i ≠ (Value.slice ag ng cg).ownBlock := fun i hi e => by have := (own_lt rg1 e.symm).1; omega
      obtain ⟨WB, hWB⟩ : ∃ q, q = (we.setCell ⟨g2, 0, none⟩ (.slice a1 m1 k1)).setCell ⟨g2, 1, none⟩ (.slice a2 m2 k2) := ⟨_, rfl⟩
      have z2 : WB.heap[g2]? = some (.cells #[.slice a1 m1 k1, .slice a2 m2 k2] 25 (0, 0)) := by rw [hWB, heap_set_blk x2']; rfl
      have hset : ∀ i, i ≠ g2 → WB.heap[i]? = we.heap[i]? := fun i hi => by rw [hWB, heap_set_other hi, heap_set_other hi]
      have hGB : Gr2 W WB (some g2) none := ⟨by rw [hWB]; exact Ge.os.trans hGr.os, by rw [hWB]; exact Ge.tape.trans hGr.tape, by rw [hWB]; exact Ge.output.trans hGr.output, by rw [hWB, World.size_setCell, World.size_setCell]; exact hbase6, fun i hi hp hq => (hset i (fun e => hp (by rw [e]))).trans ((Ge.block i (by omega) (n1 i hi) (n2 i hi)).trans (hGr.block i hi hp hq))⟩
      have on : WB.ownsRow W.heap.size 40 1 (.slice a1 m1 k1) m1 (vsn ++ [.slice av x.k cv]) := own_same qn6 fun g hg => hset g (by have := (own_lt qn6 hg).1; omega)
      have og : WB.ownsRow W.heap.size 4 1 (.slice a2 m2 k2) m2 (((L.take j).map fun p => x.gd p.1).map Value.bool ++ [.bool (x.gd s)]) := own_same qg fun g hg => hset g (by have := (own_lt qg hg).1; omega)
      have ow : RwO WB W.heap.size (vsn ++ [.slice av x.k cv]) (rowsX x L j ++ [(List.range x.k).map fun c => idx L (x.nx s c)]) := rw6.same fun i _ hb' _ => hset i (by omega)
      have hs := HF.out.2.2.2.2.2.2.1
      have hrx : rowsX x L (j + 1) = rowsX x L j ++ [(List.range x.k).map fun c => idx L (x.nx s c)] := by
       unfold rowsX
       rw [List.take_succ_eq_append_getElem hjn, List.map_append, hs]; rfl
      have hgx : ((L.take (j + 1)).map fun p => x.gd p.1).map Value.bool = ((L.take j).map fun p => x.gd p.1).map Value.bool ++ [.bool (x.gd s)] := by
       rw [List.take_succ_eq_append_getElem hjn, List.map_append, List.map_append, hs]; rfl
      have hm1 : m1 = j + 1 := by rw [HMM.out.1, HF.out.2.2.2.2.2.2.2.2.1]
      have hm2 : m2 = j + 1 := by rw [HMM.out.2, HF.out.2.2.2.2.2.2.2.2.2.1]
      rw [← hWB]
      have HEND := Lib.hid (And.intro z2 (And.intro on (And.intro og (And.intro ow (And.intro hrx (And.intro hgx (And.intro hm1 (And.intro hm2 hGB))))))))
      clear z2 on og ow hrx hgx hm1 hm2 hGB hs hset n1 n2 hGr x1 x2 x2' y0 y1 f0 f1 hWB
      refine HK18.out _ _ ?_
      go_wp2
      obtain ⟨z2, on, og, ow, hrx, hgx, hm1, hm2, hGB⟩ := HEND.out
      subst hm1
      refine ⟨⟨j + 1, _, _, _, by omega, by go_num, Lib.hid ⟨z2, ?_, on, ?_, ?_⟩, hGB⟩, ?_⟩
      ·rw [List.length_append, HF.out.2.2.2.2.2.2.2.2.1]; rfl
      ·rw [hgx]; rw [hm2] at og ⊢; exact og
      ·rw [hrx]; exact ow
      ·simp only [intOf]; omega
   ·have hji : ¬ (j : Int) < (L.length : Int) := by omega
    have hje : j = L.length := by omega
    subst hje
    obtain ⟨i2, ivl, irn, irg, irw⟩ := HI.out
    have hzW : w2.heap.size < W.heap.size := lt_blk HW.out.2.2.2.2.2.2.2.2.2.2.1
    have i3 : wo.heap[g3]? = some (.cells #[.slice a3 vs.length c3] 22 (0, 0)) := (hG.block g3 (by omega) (by simp; omega) (by simp)).trans HW.out.2.2.2.2.2.2.1
    have hg23 : g3 ≠ g2 := by omega
    have hgl : g2 < w2.heap.size ∧ g3 < w2.heap.size ∧ w.heap.size ≤ g2 ∧ w.heap.size ≤ g3 := by omega
    obtain ⟨an, cn, rfl, hcn⟩ := own_form irn
    obtain ⟨ag, cg, rfl, hcg⟩ := own_form irg
    have HF := Lib.hid (And.intro ivl (And.intro irn (And.intro irg (And.intro irw hzW))))
    clear ivl irn irg irw z1 hgm hg4 hg5 z3 hg1 hg2 hg3 HI hcn hcg
    go_wp2
    rename_i K2 hK2
    have HK2 := Lib.hid hK2; clear hK2
    refine wp_region_x (R := fun U => U.heap[g2]? = some (.cells #[.slice an L.length cn, .slice ag L.length cg] 25 (0, 0)) ∧ U.heap[g3]? = some (.cells #[.slice a3 vs.length c3] 22 (0, 0))) (S := fun _ => True) (z := 999) rfl ?_
    change wpAnyX _ _ _ _ _ _ _ _ _ _ wo.drew
    have hRq : wo.drew.heap[g2]? = some (.cells #[.slice an L.length cn, .slice ag L.length cg] 25 (0, 0)) ∧ wo.drew.heap[g3]? = some (.cells #[.slice a3 vs.length c3] 22 (0, 0)) := ⟨i2, i3⟩
    obtain ⟨wq, hwq⟩ : ∃ q, q = wo.drew := ⟨_, rfl⟩
    rw [← hwq] at hRq ⊢
    have HWQ := Lib.hid hwq
    clear hwq
    refine wpX_kp (i := 0) (oi := ⟨some 67, _, _, _, _, none⟩) (v := ?_) rfl (fun _ _ _ h => h) ?_ ⟨(by assumption), fun _ => trivial⟩ ?_
    rotate_left
    ·refine yields_load_blk (S := fun U => U.heap[g2]? = some (.cells #[.slice an L.length cn, .slice ag L.length cg] 25 (0, 0)) ∧ U.heap[g3]? = some (.cells #[.slice a3 vs.length c3] 22 (0, 0))) (cs := #[.slice an L.length cn, .slice ag L.length cg]) 25 (.tmp 2) ?_ g2 ?_ (fun U hU => hU.1) Try.underlying25 rfl size25 rfl
     ·rfl
     ·rfl
    simp only [putE]
    refine wpX_kp (i := 1) (oi := ⟨some 68, _, _, _, _, none⟩) (v := ?_) rfl (fun _ _ _ h => h) ?_ ⟨(by assumption), fun _ => trivial⟩ ?_
    rotate_left
    ·intro U hU
     have u0 := cell_blk (i := 0) hU.2
     simp only [List.getElem?_toArray, List.getElem?_cons_zero] at u0
     go_simp
     all_goals with_reducible rfl
    simp only [putE]
    refine wpAnyX_one (i := 2) (o := ⟨none, _, _, _, _, none⟩) (by kernel_rfl) rfl (by rfl) (fun K1 hK1 => ?_)
    have HK1 := Lib.hid hK1; clear hK1
    refine oper_store_blk (cells := #[.slice an L.length cn, .slice ag L.length cg]) 25 (.tmp 2) (.tmp 67) rfl g2 rfl rfl hRq.1 size25 rfl rfl (by simp [Value.oneCell']) ?_
    refine HK1.out _ _ ⟨⟨World.putObj_heap_same (lt_blk hRq.1), (World.putObj_heap_other hg23).trans hRq.2⟩, fun _ => trivial⟩ ?_
    clear HK1 K1
    try simp only [Act.put]
    have hR2 : (wq.putObj g2 (.cells #[.slice an L.length cn, .slice ag L.length cg] 25)).heap[g2]? = some (.cells #[.slice an L.length cn, .slice ag L.length cg] 25 (0, 0)) ∧ (wq.putObj g2 (.cells #[.slice an L.length cn, .slice ag L.length cg] 25)).heap[g3]? = some (.cells #[.slice a3 vs.length c3] 22 (0, 0)) := ⟨World.putObj_heap_same (lt_blk hRq.1), (World.putObj_heap_other hg23).trans hRq.2⟩
    have y3 := cell_blk (i := 0) hR2.2
    have f3 := free_blk (i := 0) hR2.2
    simp only [List.getElem?_toArray, List.getElem?_cons_zero] at y3
    refine wpAnyX_one (i := 3) (o := ⟨none, _, _, _, _, none⟩) (by kernel_rfl) rfl (by rfl) (fun K1 hK1 => ?_)
    have HK1 := Lib.hid hK1; clear hK1
    go_simp
    refine HK1.out _ _ ⟨⟨(heap_set_other (Ne.symm hg23)).trans hR2.1, heap_set_blk hR2.2⟩, fun _ => trivial⟩ ?_
    clear HK1 K1
    try simp only [putE]
    refine wpAnyX_done (by kernel_rfl) ?_ _
    refine HK2.out _ _ ?_; clear HK2
    go_wp2
    obtain ⟨ivl, irn, irg, irw, hzW⟩ := HF.out
    obtain ⟨hBW, jB, -, -, -, -, -, jl, r3, jrw, hD, hS⟩ := HW.out
    have hg1 := HG.out.1
    obtain ⟨WE, hWE⟩ : ∃ q, q = (wq.putObj g2 (.cells #[.slice an L.length cn, .slice ag L.length cg] 25)).setCell ⟨g3, 0, none⟩ (.slice a3 vs.length c3) := ⟨_, rfl⟩
    have k2 : WE.heap[g2]? = some (.cells #[.slice an L.length cn, .slice ag L.length cg] 25 (0, 0)) := by rw [hWE]; exact (heap_set_other (Ne.symm hg23)).trans hR2.1
    have k3 : WE.heap[g3]? = some (.cells #[.slice a3 vs.length c3] 22 (0, 0)) := by rw [hWE]; exact heap_set_blk hR2.2
    have ho : ∀ i, i ≠ g2 → i ≠ g3 → WE.heap[i]? = wo.heap[i]? := fun i h h' => by
     rw [hWE, heap_set_other h', World.putObj_heap_other h, HWQ.out]; rfl
    have hzE : WE.heap.size = wo.heap.size := by rw [hWE, World.size_setCell, World.putObj_size, HWQ.out]; rfl
    have hoE : WE.os = wo.os ∧ WE.tape = wo.tape ∧ WE.output = wo.output := by rw [hWE, HWQ.out]; exact ⟨rfl, rfl, rfl⟩
    rw [← hWE]
    clear hWE hR2 y3 f3 hRq
    have hGz := hG.size
    have hD2 : w2.heap.size ≠ g2 := by omega
    have hD3 : w2.heap.size ≠ g3 := by omega
    have hDE : WE.heap[w2.heap.size]? = some (.deferred (some [])) := (ho _ hD2 hD3).trans ((hG.block _ hzW (by simp; omega) (by simp)).trans hD)
    obtain ⟨WF, hWF⟩ : ∃ q, q = WE.putObj w2.heap.size (.deferred none) := ⟨_, rfl⟩
    have hF : ∀ i, i ≠ w2.heap.size → WF.heap[i]? = WE.heap[i]? := fun i h => by rw [hWF]; exact World.putObj_heap_other h
    have hzF : WF.heap.size = WE.heap.size := by rw [hWF]; exact World.putObj_size
    have hFW : ∀ i, i < W.heap.size → i ≠ w2.heap.size → i ≠ g2 → i ≠ g3 → WF.heap[i]? = W.heap[i]? := fun i hi a b c => (hF i a).trans ((ho i b c).trans (hG.block i hi (by simp; omega) (by simp)))
    have m2 := (hF g2 (Ne.symm hD2)).trans k2
    have m3 := (hF g3 (Ne.symm hD3)).trans k3
    refine leave_mark rfl (D := w2.heap.size) hDE (results_two rfl _ _ g2 g3 rfl (by rw [← hWF]; exact run_loadVar_row WF g2 _ 25 _ _ _ m2 Try.underlying25 rfl (by rw [size25]; rfl)) rfl (by rw [← hWF]; exact run_loadVar_one (by rw [cell_blk m3]; rfl) Try.underlying22 rfl)) ?_
    rw [← hWF]
    have hlow : ∀ {i : Nat} {cs : Array Value} {t : TypeId} {fr : Nat × Nat}, w2.heap.size ≤ i → W.heap[i]? = some (.cells cs t fr) → WF.heap[i]? = W.heap[i]? := fun {i} {cs} {t} {fr} h1 h2 => hFW i (lt_blk h2) (fun e => by rw [e, hD] at h2; cases h2) (by omega) (by omega)
    have hhi : ∀ i, W.heap.size ≤ i → WF.heap[i]? = wo.heap[i]? := fun i h => (hF i (by omega)).trans (ho i (by omega) (by omega))
    refine ⟨_, _, _, rfl, ?_, fun WN hNz hN => ⟨?_, ?_, ?_⟩⟩
    ·rw [hg1]
     refine ⟨?_, ?_, ?_, by have := jB.size; omega, fun i hi => ?_⟩
     ·rw [hWF]; exact hoE.1.trans (hG.os.trans jB.os)
     ·rw [hWF]; exact hoE.2.1.trans (hG.tape.trans jB.tape)
     ·rw [hWF]; exact hoE.2.2.trans (hG.output.trans jB.output)
     ·exact (hFW i (by have := jB.size; omega) (by omega) (by omega) (by omega)).trans (jB.block i hi)
    ·have e1 : (tabOf x L).nx = rowsX x L L.length := by unfold rowsX tabOf; rw [List.take_length]
     rw [e1]
     refine slII_of (bs := W.heap.size) (vs := vsn) (by rw [ivl]; exact own_same irn fun g hg => (hN g (by have := (own_lt irn hg).1; omega) (by have := (own_lt irn hg).2.1; omega)).trans (hhi g (own_lt irn hg).1)) (irw.same fun i _ hi hi2 => (hN i (by omega) (by have := lt_blk hi2; omega)).trans (hhi i hi)) (by omega) ?_
     intro r hr
     obtain ⟨p, hp, rfl⟩ := List.mem_map.1 hr
     have := hM.k4
     simp; omega
    ·have e1 : ((L.take L.length).map fun p => x.gd p.1) = (tabOf x L).gd := by unfold tabOf; rw [List.take_length]
     rw [e1] at irg
     exact slV_own (own_same irg fun g hg => (hN g (by have := (own_lt irg hg).1; omega) (by have := (own_lt irg hg).2.1; omega)).trans (hhi g (own_lt irg hg).1)) (by unfold tabOf; simp) (by unfold tabOf; simp; omega)
    ·have r3' := own_same r3.1 (w' := WN) fun g hg => by
      obtain ⟨h1, h2, cur, h3⟩ := own_lt r3.1 hg
      exact (hN g (by omega) (by omega)).trans (hlow h1 h3)
     refine ⟨vs, slV_own r3' rfl (by omega), by unfold tabOf; simp [jl], fun i hi hi' => ?_⟩
     have hiL : i < L.length := by omega
     obtain ⟨q1, q2⟩ := jrw i hi hiL
     have e1 : ((tabOf x L).st.map nI)[i] = nI L[i].2 := by unfold tabOf; simp
     rw [e1]
     exact q1.keepC (by omega) fun g cs t fr hg ⟨off, n, c, e⟩ => (hN g (by have := (hS g (q2 g off n c e).1).1; omega) (by have := lt_blk hg; omega)).trans (hlow (hS g (q2 g off n c e).1).1 hg)
end Ytnjgglnpmhjmiaa
end Go.Proofs

