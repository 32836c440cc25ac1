/- Maps of which only this is known: each entry is right. Over whatever program. -/
import Derived.Test.YtnihopdglkhbnaaLaws
import Derived.WideKeyArr
namespace Go
namespace YtnihopdglkhbnaaIt
open Go.RowKit
open Go.Maps (Keyed)

/-- Block b is a map each of whose entries satisfies G. -/
def Memo (w : World) (b : Nat) (G : Value → Value → Prop) : Prop := ∃ es clock, w.heap[b]? = some (.map es clock) ∧ ∀ e ∈ es.toList, G e.key e.val

section
variable {P : Program}
theorem run_getObj_map {w : World} {b : Nat} {es : Array MapEntry} {clock : Nat} (h : w.heap[b]? = some (.map es clock)) : (getObj b).run P w = .ok (.map es clock) w := by simp [getObj, Sem.run, h]
theorem run_setObj_map {w : World} {b : Nat} {es : Array MapEntry} {clock : Nat} (o : Obj) (h : w.heap[b]? = some (.map es clock)) : (setObj b o).run P w = .ok () (w.putObj b o) := by simp [setObj, Sem.run, h, World.putObj]

theorem Memo.look {w : World} {b : Nat} {G : Value → Value → Prop} {t k e : TypeId} (h : Memo w b G) (K : Keyed P k) (ht : P.underlying t = some (.map k e)) {z : Value} (hz : ∀ w, (zeroValue e).run P w = .ok z w)
    (hG : ∀ x v, G x v → ∃ l, keyOf P k x = some l) {key : Value} {kl : Lit} (hkey : keyOf P k key = some kl) :
    (∀ W, W.heap[b]? = w.heap[b]? → (Instr.lookup t (.map (some b)) key true).run P W = .ok (.tuple #[z, .bool false]) W) ∨
    (∀ W, W.heap[b]? = w.heap[b]? → ∃ v, G key v ∧ (Instr.lookup t (.map (some b)) key true).run P W = .ok (.tuple #[v, .bool true]) W) := by
  obtain ⟨es, clock, hb0, hes⟩ := h
  have hk : ∀ x ∈ es.toList, ∃ l, keyOf P k x.key = some l := fun x hx => hG _ _ (hes x hx)
  by_cases hin : ∃ x ∈ es.toList, x.key = key
  · refine .inr fun W hW => ?_
    have hb := hW.trans hb0
    have hu := run_underlying (P := P) ht W
    have hck := K.check W es.isEmpty hkey
    rcases K.find W hkey es.toList hk with ⟨hf, hno⟩ | ⟨j, x, hf, hj, hx⟩
    · obtain ⟨x, hx, he⟩ := hin
      exact absurd he (hno x hx)
    · refine ⟨x.val, by rw [← hx]; exact hes x (List.mem_of_getElem? hj), ?_⟩
      unfold Instr.lookup
      simp [Sem.run_bind, hu, run_getObj_map hb, hck, hf, Result.andThen]
  · refine .inl fun W hW => ?_
    have hb := hW.trans hb0
    have hu := run_underlying (P := P) ht W
    have hck := K.check W es.isEmpty hkey
    rcases K.find W hkey es.toList hk with ⟨hf, _⟩ | ⟨j, x, hf, hj, hx⟩
    · unfold Instr.lookup
      simp [Sem.run_bind, hu, run_getObj_map hb, hck, hf, hz, Result.andThen]
    · exact absurd ⟨x, List.mem_of_getElem? hj, hx⟩ hin

theorem Memo.update {w : World} {b : Nat} {G : Value → Value → Prop} {t k e : TypeId} (h : Memo w b G) (K : Keyed P k) (ht : P.underlying t = some (.map k e))
    (hG : ∀ x v, G x v → ∃ l, keyOf P k x = some l) {key : Value} {kl : Lit} (hkey : keyOf P k key = some kl) {v : Value} (hv : G key v) :
    ∃ es' clock', (Instr.mapUpdate t (.map (some b)) key v).run P w = .ok () (w.putObj b (.map es' clock')) ∧ ∀ e ∈ es'.toList, G e.key e.val := by
  obtain ⟨es, clock, hb, hes⟩ := h
  have hk : ∀ x ∈ es.toList, ∃ l, keyOf P k x.key = some l := fun x hx => hG _ _ (hes x hx)
  have hu := run_underlying (P := P) ht w
  have hck := K.check w false hkey
  rcases K.find w hkey es.toList hk with ⟨hf, _⟩ | ⟨j, x, hf, hj, hx⟩
  · refine ⟨es.push { key := key, val := v, born := clock }, clock + 1, ?_, ?_⟩
    · unfold Instr.mapUpdate
      simp [Sem.run_bind, hu, run_getObj_map hb, hck, hf, run_setObj_map _ hb, Result.andThen]
    · intro x hx
      simp at hx
      rcases hx with hx | rfl
      · exact hes x (by simpa using hx)
      · exact hv
  · have hj' : es[j]? = some x := by simpa using hj
    refine ⟨es.modify j fun e => { e with key := key, val := v }, clock, ?_, ?_⟩
    · unfold Instr.mapUpdate
      have hst := K.stays w hkey
      subst hx
      simp [Sem.run_bind, hu, run_getObj_map hb, hck, hf, hj', hst, run_setObj_map _ hb, Result.andThen]
    · intro y hy
      obtain ⟨i, hi⟩ := List.getElem?_of_mem hy
      simp only [Array.getElem?_toList, Array.getElem?_modify] at hi
      by_cases hij : j = i
      · subst hij
        rw [if_pos rfl, hj'] at hi
        simp at hi
        subst hi
        exact hv
      · rw [if_neg hij] at hi
        exact hes y (List.mem_of_getElem? (by simpa using hi))

/-- A look-up, its run being known, in a region whose order is open. -/
theorem wpQuiet_lookup_run {ops : Array Oper} {C : World → Prop} {Q : Act → Prop} {a : Act} {o : Oper} {rest : List Oper} (hw : Region.wanted o (yielded ops a.tmps) = true) (t : TypeId) (m k : Operand) (ok : Bool) (ho : o.op = .lookup t m k ok)
    {mv kv v : Value} (hm : a.eval m = mv) (hk : a.eval k = kv) (hrun : ∀ W, C W → (Instr.lookup t mv kv ok).run P W = .ok v W) (h : wpQuiet P ops C Q rest (a.put o.dst v)) : wpQuiet P ops C Q (o :: rest) a := by
  refine wpQuiet_step fun K hK => ?_
  rw [if_pos hw]
  refine ⟨_, fun W hW => ?_, hK _ h⟩
  unfold Oper.quietAt execOp
  simp only [ho, hm, hk, Sem.run_bind, hrun W hW, Result.andThen_ok, Sem.run_pure]
  exact ⟨rfl, rfl⟩
/-- A store into a map, its run being known. -/
theorem wpList_mapUpdate_run {ops : Array Oper} {rest : List Oper} {o : Oper} {a : Act} {w w' : World} {Q : Exit → Act → World → Prop} (hw : Region.wanted o (yielded ops a.tmps) = true) (t : TypeId) (m k v : Operand) (ho : o.op = .mapUpdate t m k v)
    {mv kv vv : Value} (hm : a.eval m = mv) (hk : a.eval k = kv) (hv : a.eval v = vv) (hrun : (Instr.mapUpdate t mv kv vv).run P w = .ok () w') (h : wpList P ops Q rest (a.put o.dst undef) w') : wpList P ops Q (o :: rest) a w := by
  refine wpList_step fun K hK => ?_
  rw [if_pos hw]
  unfold Oper.wp execOp
  simp only [ho, hm, hk, hv, Sem.run_bind, hrun, Result.andThen_ok, Sem.run_pure]
  exact hK _ _ h
theorem wpIn_of_wp {c : Code} {n : Nat} {Q : Exit → Act → World → Prop} {a : Act} {w : World} (h : c.wp P Q a w) : c.wpIn (fw none) n P Q a w := (wpIn_wide (n := n)).2 h

/-- All that lay below B but block m is as it was. -/
structure Bm (m B : Nat) (w w' : World) : Prop where
  os : w'.os = w.os
  tape : w'.tape = w.tape
  output : w'.output = w.output
  size : w.heap.size ≤ w'.heap.size
  block : ∀ k, k < B → k ≠ m → w'.heap[k]? = w.heap[k]?
theorem Bm.refl (m B : Nat) (w : World) : Bm m B w w := ⟨rfl, rfl, rfl, Nat.le_refl _, fun _ _ _ => rfl⟩
theorem Bm.trans {m B : Nat} {x y z : World} (h : Bm m B x y) (k : Bm m B y z) : Bm m B x z :=
  ⟨k.os.trans h.os, k.tape.trans h.tape, k.output.trans h.output, Nat.le_trans h.size k.size, fun i hi hne => (k.block i hi hne).trans (h.block i hi hne)⟩
theorem Bm.mono {m B B' : Nat} {x y : World} (h : Bm m B x y) (hB : B' ≤ B) : Bm m B' x y := ⟨h.os, h.tape, h.output, h.size, fun i hi hne => h.block i (Nat.lt_of_lt_of_le hi hB) hne⟩
theorem Bm.of {m B : Nat} {x y : World} (h : Below B x y) : Bm m B x y := ⟨h.os, h.tape, h.output, h.size, fun i hi _ => h.block i hi⟩
theorem Bm.put {m B : Nat} (x : World) (o : Obj) : Bm m B x (x.putObj m o) := ⟨rfl, rfl, rfl, by simp, fun _ _ hne => World.putObj_heap_other hne⟩
theorem Kx.bm {m B : Nat} {TT : TypeId → Prop} {x y : World} (h : Bm m x.heap.size x y) {o : Obj} (hm : x.heap[m]? = some o) (ho : o.isCells = false) (hB : m < B) : Kx B TT x y :=
  ⟨h.size, fun k _ hk hx _ => (h.block k (Array.getElem?_eq_some_iff.1 hx).1 (by omega)).trans hx, fun k _ _ _ hx _ => (h.block k (Array.getElem?_eq_some_iff.1 hx).1 (by rintro rfl; rw [hm] at hx; cases hx; cases ho)).trans hx⟩
theorem Memo.below {w w' : World} {b B : Nat} {G : Value → Value → Prop} (h : Memo w b G) (hb : Below B w w') (hB : b < B) : Memo w' b G := by
  obtain ⟨es, clock, h1, h2⟩ := h
  exact ⟨es, clock, (hb.block b hB).trans h1, h2⟩
theorem Memo.lt {w : World} {b : Nat} {G : Value → Value → Prop} (h : Memo w b G) : b < w.heap.size := by
  obtain ⟨es, clock, h1, _⟩ := h
  exact (Array.getElem?_eq_some_iff.1 h1).1
theorem Memo.stb {B b : Nat} {G : Value → Value → Prop} (hb : b < B) : Stb B (fun w => Memo w b G) := fun _ _ g ⟨es, clock, h1, h2⟩ => ⟨es, clock, Stb.old hb _ _ g h1, h2⟩
theorem Stb.bm {B n m : Nat} {X : World} (hn : n ≤ B) (hX : n ≤ X.heap.size) : Stb B (fun W => Bm m n X W) := fun _ _ g h =>
  ⟨g.os.trans h.os, g.tape.trans h.tape, g.output.trans h.output, Nat.le_trans h.size g.size, fun k hk hne => (g.block k (Nat.lt_of_lt_of_le hk (Nat.le_trans hX h.size)) (.inl (Nat.lt_of_lt_of_le hk hn))).trans (h.block k hk hne)⟩

theorem mapM_some {α β : Type} {f : α → Option β} : ∀ {l : List α}, (∀ x ∈ l, (f x).isSome = true) → (l.mapM f).isSome = true
  | [], _ => rfl
  | x :: l, h => by
    obtain ⟨y, hy⟩ := Option.isSome_iff_exists.1 (h x (by simp))
    obtain ⟨ys, hys⟩ := Option.isSome_iff_exists.1 (mapM_some (l := l) (fun z hz => h z (by simp [hz])))
    simp [List.mapM_cons, hy, hys]
/-- An array of numbers is a key. -/
theorem keyOf_ints {k e n : Nat} (A : WideMaps.ArrKey P k e n) (he : P.underlying e = some (.int .i64)) (hsz : ∃ m, P.types.size = m + 1) {xs : List Int} (hl : xs.length = n) (hb : ∀ x ∈ xs, (Lit.int .i64 x).wf = true) :
    ∃ l, keyOf P k (.agg (xs.map (Value.int .i64)).toArray) = some l := by
  obtain ⟨m, hm⟩ := hsz
  have hkt := A.keyType ⟨m, hm⟩
  have hsome : (P.keyLits (P.types.size + 1) k (xs.map (Value.int .i64))).isSome = true := by
    rw [hm]
    unfold Program.keyLits
    rw [A.hu]
    simp only [List.length_map, A.size, hl, if_pos, Option.isSome_map]
    refine mapM_some (fun i hi => ?_)
    have hi' : i < xs.length := by simp at hi; omega
    unfold Program.keyLits
    rw [he, A.one]
    have hd : ((xs.map (Value.int .i64)).drop (i * 1)).take 1 = [.int .i64 xs[i]] := by
      rw [Nat.mul_one, List.drop_eq_getElem_cons (by simpa using hi')]
      simp
    rw [hd]
    simp [hb _ (List.getElem_mem hi')]
  obtain ⟨ls, hls⟩ := Option.isSome_iff_exists.1 hsome
  have hc : (Value.agg (xs.map (Value.int .i64)).toArray).cells.toList = xs.map (Value.int .i64) := by simp [Value.cells]
  have hf : (Value.agg (xs.map (Value.int .i64)).toArray).formed P k = true := by simp [Value.formed, A.hu, A.size, hl]
  refine ⟨.string (keyBytes ls), ?_⟩
  unfold keyOf
  rw [A.hu]
  simp only [hkt, hf, hc, hls, Bool.and_self, if_true, Option.map_some]
end
end YtnihopdglkhbnaaIt
end Go

