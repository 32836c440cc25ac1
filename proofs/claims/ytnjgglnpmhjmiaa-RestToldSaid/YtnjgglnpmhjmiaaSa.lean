/- Laws of rotation: what Apart's call owns while it looks at pairs. -/
import Derived.Test.YtnjgglnpmhjmiaaRp
import Derived.Test.YtnjgglnpmhjmiaaB5
import Derived.Test.YtnjgglnpmhjmiaaRa
import Derived.DeepKeys4
import Derived.Maps.Keyed
open Go Go.RowKit Go.YtnjgglnpmhjmiaaIt
open Rest
namespace Go.Proofs
namespace Ytnjgglnpmhjmiaa
theorem keyed101 : Maps.Keyed Try.prog 101 := Maps.Keyed.of_law (deep_law_laid (m := 5) (by kernel_rfl) (by decide) (by decide +kernel) (by kernel_rfl) (by kernel_rfl))
theorem keyType101 : Try.prog.keyType 101 = true := by kernel_rfl
theorem keyOf101 {a b : Int} (wa : (Lit.int .i64 a).wf = true) (wb : (Lit.int .i64 b).wf = true) : ∃ q, keyOf Try.prog 101 (.agg #[.int .i64 a, .int .i64 b]) = some q := by
 have hc : Try.prog.cellsOf 101 = 2 := by kernel_rfl
 have h3 : Try.prog.cellsOf 3 = 1 := by kernel_rfl
 have hf : (Value.agg #[.int .i64 a, .int .i64 b]).formed Try.prog 101 = true := by
  simp [Value.formed, Try.underlying101, hc]
 obtain ⟨m, hm⟩ : ∃ m, Try.prog.types.size = m + 1 := ⟨_, rfl⟩
 unfold keyOf
 simp only [Try.underlying101]
 rw [if_pos (by rw [keyType101, hf]; rfl), hm]
 unfold Program.keyLits
 simp only [Try.underlying101, Value.cells]
 rw [if_pos ⟨by rw [hc]; rfl, by simp⟩]
 simp [Program.keyLits, Try.underlying3, wa, wb, h3]
theorem keyP1 {s : P2} (h : (-1000000 ≤ s.1 ∧ s.1 ≤ 1000000) ∧ -1000000 ≤ s.2 ∧ s.2 ≤ 1000000) : ∃ l, keyOf Try.prog 101 (encP s) = some l := keyOf101 (wfZ h.1) (wfZ h.2)
theorem reads_two {w : World} {g : Nat} {u1 u2 : Value} {e : TypeId} {fr : Nat × Nat} (hg : w.heap[g]? = some (.cells #[u1, u2] e fr)) : Reads w w.heap.size 2 (some ⟨g, 0, none⟩) 1 [u1, u2] := by
 refine ⟨by simp, fun _ => ⟨_, rfl, lt_blk hg, fun j v hv => ?_⟩⟩
 have hj : j < 2 := by simpa using (List.getElem?_eq_some_iff.1 hv).1
 rw [show (Addr.add ⟨g, 0, none⟩ j) = (⟨g, j, none⟩ : Addr) from by rw [Addr.add_lit, Nat.zero_add], cell_blk hg]
 simpa using hv
/-- append(v, pair), v a list of the call's own. -/
theorem wpList_app2 {ops : Array Oper} {rest : List Oper} {o : Oper} {a : Act} {Q : Exit → Act → World → Prop} (hgd : o.guard = none) (s x : Operand) (t e : TypeId) (ho : o.op = .call { callee := .builtin .append, args := #[s, x], argTypes := #[t, t] })
  {z : Value} {bytes : Nat} (hu : Try.prog.underlying t = some (.slice e)) (hinf : (Try.prog.info? e).map (fun i => (i.zero, i.size, i.bytes)) = some (some z, 2, bytes)) (hzs : z.cells.size = 2) (hby : bytes ≤ 1000)
  {w : World} {base g n : Nat} {v u1 u2 : Value} {xs : List Value} (hr : w.ownsRow base e 2 v n xs) (hl : n ≤ 10000) (hs : a.eval s = v) (hx : a.eval x = .slice (some ⟨g, 0, none⟩) 1 1)
  (hg : w.heap[g]? = some (.cells #[u1, u2] e (0, 0))) (h1 : u1.oneCell' = true) (h2 : u2.oneCell' = true) (hbase : base ≤ w.heap.size)
  (h : ∀ v' w', w'.ownsRow base e 2 v' (n + 1) (xs ++ [u1, u2]) → w.grownBy w' v.ownBlock → (v'.ownBlock = v.ownBlock ∨ v'.ownBlock = some w.heap.size) → wpList Try.prog ops Q rest (a.put o.dst v') w') : wpList Try.prog ops Q (o :: rest) a w := by
 obtain ⟨i3, hi3, hy1, hy2, hy3⟩ := info_parts hinf
 refine wpList_plain hgd fun _ hK => wp_append_any _ s x t ho base e i3 z 2 bytes hu hi3 hy1 hy2 hy3 hzs (by decide) v n xs hs hr _ (some ⟨g, 0, none⟩) 1 1 _ hx (reads_two hg) (by intro q hq; rcases List.mem_cons.1 hq with rfl | hq; (exact h1); (rw [List.mem_singleton.1 hq]; exact h2)) (Nat.le_trans (by omega : n + 1 ≤ 10001) (by decide)) ?_ hbase fun v' w' h2 h3 h4 => hK _ _ (h v' w' h2 h3 h4)
 have := Nat.mul_le_mul (show n + 1 ≤ 10001 by omega) hby
 omega
/-- What the call owns: the pairs, the lists, what has been met. Z: blocks that do not change any more. -/
structure AJ (base gm : Nat) (Z : Nat → Prop) (W : World) (v8 v9 : Value) (xs : List P2) (vs : List Value) (ws : List (List Int)) (n : Nat) (F : P2 → Option Value) : Prop where
 o8 : W.ownsRow base 101 2 v8 xs.length (xs.flatMap e2)
 o9 : W.ownsRow base 40 1 v9 vs.length vs
 r9 : Rws Z W vs ws
 map : MapF encP W gm n F
 zt : ∀ i, Z i → base ≤ i ∧ ∃ cs, W.heap[i]? = some (.cells cs 3 (0, 0))
section
variable {base gm : Nat} {Z : Nat → Prop} {W W' : World} {v8 v9 : Value} {xs : List P2} {vs : List Value} {ws : List (List Int)} {n : Nat} {F : P2 → Option Value}
theorem own_ty2 {W : World} {base : Nat} {e : TypeId} {v : Value} {n : Nat} {xs : List Value} (h : W.ownsRow base e 2 v n xs) {g : Nat} (hg : v.ownBlock = some g) {cs : Array Value} {t : TypeId} {fr : Nat × Nat} (hc : W.heap[g]? = some (.cells cs t fr)) : t = e := by
 obtain ⟨-, -, cur, h3⟩ := own_lt2 h hg
 rw [hc] at h3
 injection h3 with h3
 injection h3 with _ h3 _
theorem AJ.mapNo (h : AJ base gm Z W v8 v9 xs vs ws n F) {cs : Array Value} {t : TypeId} {fr : Nat × Nat} : W.heap[gm]? ≠ some (.cells cs t fr) := by
 obtain ⟨es, c, hm, -⟩ := h.map
 rw [hm]; intro e; cases e
/-- Nothing that it owns is changed. -/
theorem AJ.same (h : AJ base gm Z W v8 v9 xs vs ws n F) {B : Nat} (hB : B ≤ base ∧ B ≤ gm) (hs : W.heap.size ≤ W'.heap.size) (hk : ∀ i, B ≤ i → i < W.heap.size → W'.heap[i]? = W.heap[i]?) : AJ base gm Z W' v8 v9 xs vs ws n F where
 o8 := row_same h.o8 fun g hg => hk g (by have := (own_lt2 h.o8 hg).1; omega) (own_lt2 h.o8 hg).2.1
 o9 := own_same h.o9 fun g hg => hk g (by have := (own_lt h.o9 hg).1; omega) (own_lt h.o9 hg).2.1
 r9 := h.r9.keep (fun _ h => h) hs fun i hi hl => hk i (by have := (h.zt i hi).1; omega) hl
 map := h.map.keep (hk gm hB.2 h.map.lt)
 zt := fun i hi => ⟨(h.zt i hi).1, by obtain ⟨cs, hc⟩ := (h.zt i hi).2; exact ⟨cs, (hk i (by have := (h.zt i hi).1; omega) (lt_blk hc)).trans hc⟩⟩
theorem AJ.quiet (h : AJ base gm Z W v8 v9 xs vs ws n F) (hb : Below W.heap.size W W') : AJ base gm Z W' v8 v9 xs vs ws n F :=
 h.same (B := 0) ⟨Nat.zero_le _, Nat.zero_le _⟩ hb.size fun i _ hi => hb.block i hi
/-- One pair more. -/
theorem AJ.app8 (h : AJ base gm Z W v8 v9 xs vs ws n F) {v' : Value} {p : P2} (q : W'.ownsRow base 101 2 v' (xs.length + 1) (xs.flatMap e2 ++ e2 p)) (g : W.grownBy W' v8.ownBlock) : AJ base gm Z W' v' v9 (xs ++ [p]) vs ws n F := by
 have hty : ∀ (i : Nat) {cs : Array Value} {t : TypeId} {fr : Nat × Nat}, W.heap[i]? = some (.cells cs t fr) → t ≠ 101 → W'.heap[i]? = W.heap[i]? := fun i {cs} {t} {fr} hc ht => g.block i (lt_blk hc) fun e => ht (own_ty2 h.o8 e.symm hc)
 have hz : ∀ i, Z i → i < W.heap.size → W'.heap[i]? = W.heap[i]? := fun i hi _ => by obtain ⟨cs, hc⟩ := (h.zt i hi).2; exact hty i hc (by decide)
 exact {
  o8 := by rw [List.length_append, List.flatMap_append]; simpa using q
  o9 := own_same h.o9 fun i hi => by obtain ⟨_, _, cur, hc⟩ := own_lt h.o9 hi; exact hty i hc (by decide)
  r9 := h.r9.keep (fun _ h => h) g.size hz
  map := h.map.keep (g.block gm h.map.lt fun e => by obtain ⟨_, _, cur, hc⟩ := own_lt2 h.o8 e.symm; exact h.mapNo hc)
  zt := fun i hi => ⟨(h.zt i hi).1, by obtain ⟨cs, hc⟩ := (h.zt i hi).2; exact ⟨cs, (hz i hi (lt_blk hc)).trans hc⟩⟩ }
/-- A block of numbers more that will not change. -/
theorem AJ.addZ (h : AJ base gm Z W v8 v9 xs vs ws n F) {p : Nat} (hp : base ≤ p) {cs : Array Value} (hc : W.heap[p]? = some (.cells cs 3 (0, 0))) : AJ base gm (fun i => Z i ∨ i = p) W v8 v9 xs vs ws n F :=
 { h with
  r9 := h.r9.keep (fun _ h => .inl h) (Nat.le_refl _) fun _ _ _ => rfl
  zt := fun i hi => by
   rcases hi with hi | rfl
   ·exact h.zt i hi
   ·exact ⟨hp, cs, hc⟩ }
/-- One list more. -/
theorem AJ.app9 (h : AJ base gm Z W v8 v9 xs vs ws n F) {v' u : Value} {l : List Int} (q : W'.ownsRow base 40 1 v' (vs.length + 1) (vs ++ [u])) (g : W.grownBy W' v9.ownBlock) (hv : SlI W u l) (hz : ∀ g off n c, u = .slice (some ⟨g, off, none⟩) n c → Z g) : AJ base gm Z W' v8 v' xs (vs ++ [u]) (ws ++ [l]) n F := by
 have hty : ∀ (i : Nat) {cs : Array Value} {t : TypeId} {fr : Nat × Nat}, W.heap[i]? = some (.cells cs t fr) → t ≠ 40 → W'.heap[i]? = W.heap[i]? := fun i {cs} {t} {fr} hc ht => g.block i (lt_blk hc) fun e => ht (own_ty h.o9 e.symm hc)
 have hz' : ∀ i, Z i → i < W.heap.size → W'.heap[i]? = W.heap[i]? := fun i hi _ => by obtain ⟨cs, hc⟩ := (h.zt i hi).2; exact hty i hc (by decide)
 exact {
  o8 := row_same h.o8 fun i hi => by obtain ⟨_, _, cur, hc⟩ := own_lt2 h.o8 hi; exact hty i hc (by decide)
  o9 := by rw [List.length_append]; exact q
  r9 := (h.r9.push hv hz).keep (fun _ h => h) g.size hz'
  map := h.map.keep (g.block gm h.map.lt fun e => by obtain ⟨_, _, cur, hc⟩ := own_lt h.o9 e.symm; exact h.mapNo hc)
  zt := fun i hi => ⟨(h.zt i hi).1, by obtain ⟨cs, hc⟩ := (h.zt i hi).2; exact ⟨cs, (hz' i hi (lt_blk hc)).trans hc⟩⟩ }
/-- The map is changed. -/
theorem AJ.mapU (h : AJ base gm Z W v8 v9 xs vs ws n F) {o : Obj} {m : Nat} {G : P2 → Option Value} (hM : MapF encP (W.putObj gm o) gm m G) : AJ base gm Z (W.putObj gm o) v8 v9 xs vs ws m G := by
 have hty : ∀ (i : Nat) {cs : Array Value} {t : TypeId} {fr : Nat × Nat}, W.heap[i]? = some (.cells cs t fr) → (W.putObj gm o).heap[i]? = W.heap[i]? := fun i {cs} {t} {fr} hc => World.putObj_heap_other (fun e => h.mapNo (e ▸ hc))
 have hz' : ∀ i, Z i → i < W.heap.size → (W.putObj gm o).heap[i]? = W.heap[i]? := fun i hi _ => by obtain ⟨cs, hc⟩ := (h.zt i hi).2; exact hty i hc
 have hs : W.heap.size ≤ (W.putObj gm o).heap.size := Nat.le_of_eq World.putObj_size.symm
 exact {
  o8 := row_same h.o8 fun i hi => by obtain ⟨_, _, cur, hc⟩ := own_lt2 h.o8 hi; exact hty i hc
  o9 := own_same h.o9 fun i hi => by obtain ⟨_, _, cur, hc⟩ := own_lt h.o9 hi; exact hty i hc
  r9 := h.r9.keep (fun _ h => h) hs hz'
  map := hM
  zt := fun i hi => ⟨(h.zt i hi).1, by obtain ⟨cs, hc⟩ := (h.zt i hi).2; exact ⟨cs, (hty i hc).trans hc⟩⟩ }
end
/-- What has been met. -/
def Mq (cur : List (P2 × List Nat)) (s : P2) : Option Value := if s ∈ cur.map Prod.fst then some (.bool true) else none
theorem Mq_in {cur : List (P2 × List Nat)} {s : P2} (h : s ∈ cur.map Prod.fst) : Mq cur s = some (.bool true) := by unfold Mq; rw [if_pos h]
theorem Mq_no {cur : List (P2 × List Nat)} {s : P2} (h : s ∉ cur.map Prod.fst) : Mq cur s = none := by unfold Mq; rw [if_neg h]
theorem Mq_push (cur : List (P2 × List Nat)) (s : P2) (w : List Nat) (t : P2) : Mq (cur ++ [(s, w)]) t = updF (Mq cur) s (.bool true) t := by
 unfold updF Mq
 rw [List.map_append]
 by_cases ht : t = s
 ·subst ht; simp
 ·rw [if_neg ht]
  by_cases hm : t ∈ cur.map Prod.fst
  ·rw [if_pos hm, if_pos (List.mem_append.2 (.inl hm))]
  ·rw [if_neg hm, if_neg (fun h' => (List.mem_append.1 h').elim hm (fun h' => ht (by simpa using h')))]
def wordsP (cur : List (P2 × List Nat)) : List (List Int) := cur.map fun p => nI p.2
theorem wordsP_push (cur : List (P2 × List Nat)) (s : P2) (w : List Nat) : wordsP (cur ++ [(s, w)]) = wordsP cur ++ [nI w] := by simp [wordsP]
theorem pairs_get : ∀ (xs : List P2) (k : Nat) (_ : k < xs.length) , (xs.flatMap e2)[2 * k]? = some (.int .i64 xs[k].1) ∧ (xs.flatMap e2)[2 * k + 1]? = some (.int .i64 xs[k].2)
 | x :: xs, 0, _ => by simp [e2]
 | x :: xs, k + 1, h => by
  have := pairs_get xs k (by simpa using h)
  rw [List.flatMap_cons, show 2 * (k + 1) = (2 * k) + 2 from by omega, show 2 * k + 2 + 1 = (2 * k + 1) + 2 by omega]
  simpa [e2] using this
/-- The cells of a pair. -/
theorem AJ.pair {base gm : Nat} {Z : Nat → Prop} {W : World} {v8 v9 : Value} {xs : List P2} {vs : List Value} {ws : List (List Int)} {n : Nat} {F : P2 → Option Value} (h : AJ base gm Z W v8 v9 xs vs ws n F) {k : Nat} (hk : k < xs.length) : ∃ g c, v8 = .slice (some ⟨g, 0, none⟩) xs.length c ∧ base ≤ g ∧ g < W.heap.size ∧ W.cell? ⟨g, k * 2, none⟩ = some (.int .i64 xs[k].1) ∧ W.cell? ⟨g, k * 2 + 1, none⟩ = some (.int .i64 xs[k].2) := by
 rw [Nat.mul_comm]
 obtain ⟨h1, h2⟩ := pairs_get xs k hk
 have hO := h.o8
 rcases h.o8.2 with ⟨-, h0⟩ | ⟨g, cap, cur, rfl, hb, hg, -⟩
 ·omega
 ·refine ⟨g, cap, rfl, hb, lt_blk hg, ?_, ?_⟩
  ·have := hO.cells (g := g) rfl (2 * k) _ h1
   rwa [Addr.add_lit, Nat.zero_add] at this
  ·have := hO.cells (g := g) rfl (2 * k + 1) _ h2
   rwa [Addr.add_lit, Nat.zero_add] at this
end Ytnjgglnpmhjmiaa
end Go.Proofs
