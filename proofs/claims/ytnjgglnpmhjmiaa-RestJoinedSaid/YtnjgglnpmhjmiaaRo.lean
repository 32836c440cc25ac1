/- Laws of rotation: what a table's call owns while it lays the table. -/
import Derived.Test.YtnjgglnpmhjmiaaRd
open Go Go.RowKit Go.YtnjgglnpmhjmiaaIt
open Rest
namespace Go.Proofs
namespace Ytnjgglnpmhjmiaa
/-- append(v, u), v a list of the call's own. -/
theorem wpList_app {ops : Array Oper} {rest : List Oper} {o : Oper} {a : Act} {Q : Exit → Act → World → Prop} (hgd : o.guard = none) (s x : Operand) (t e : TypeId) (ho : o.op = .call { callee := .builtin .append, args := #[s, x], argTypes := #[t, t] })
  {z : Value} {bytes : Nat} (hu : Try.prog.underlying t = some (.slice e)) (hinf : (Try.prog.info? e).map (fun i => (i.zero, i.size, i.bytes)) = some (some z, 1, bytes)) (hzs : z.cells.size = 1) (hby : bytes ≤ 1000)
  {w : World} {base g : Nat} {v u : Value} {xs : List Value} (hr : w.ownsRow base e 1 v xs.length xs) (hl : xs.length ≤ 10000) (hs : a.eval s = v) (hx : a.eval x = .slice (some ⟨g, 0, none⟩) 1 1)
  (hg : w.heap[g]? = some (.cells #[u] e (0, 0))) (h1 : u.oneCell' = true) (hbase : base ≤ w.heap.size)
  (h : ∀ v' w', w'.ownsRow base e 1 v' (xs.length + 1) (xs ++ [u]) → w.grownBy w' v.ownBlock → (v'.ownBlock = v.ownBlock ∨ v'.ownBlock = some w.heap.size) → wpList Try.prog ops Q rest (a.put o.dst v') w') : wpList Try.prog ops Q (o :: rest) a w :=
 wpList_plain hgd fun _ hK => oper_app s x t e ho hu hinf hzs hby hr hl hs hx hg h1 hbase fun v' w' h2 h3 h4 => hK _ _ (h v' w' h2 h3 h4)
/-- Rows of numbers that lie in blocks of Z. -/
def Rws (Z : Nat → Prop) (W : World) (vs : List Value) (ls : List (List Int)) : Prop :=
 vs.length = ls.length ∧ (∀ u ∈ vs, u.oneCell' = true) ∧ ∀ i (h : i < vs.length) (h' : i < ls.length), SlI W vs[i] ls[i] ∧ ∀ g off n c, vs[i] = .slice (some ⟨g, off, none⟩) n c → Z g
theorem Rws.nil (Z : Nat → Prop) (W : World) : Rws Z W [] [] := ⟨rfl, by simp, fun i h => by simp at h⟩
theorem Rws.keep {Z Z' : Nat → Prop} {W W' : World} {vs : List Value} {ls : List (List Int)} (h : Rws Z W vs ls) (hZ : ∀ i, Z i → Z' i) (hs : W.heap.size ≤ W'.heap.size) (hk : ∀ i, Z i → i < W.heap.size → W'.heap[i]? = W.heap[i]?) : Rws Z' W' vs ls :=
 ⟨h.1, h.2.1, fun i hi hi' => ⟨(h.2.2 i hi hi').1.keepB hs (fun g off n c e hl => hk g ((h.2.2 i hi hi').2 g off n c e) hl), fun g off n c e => hZ g ((h.2.2 i hi hi').2 g off n c e)⟩⟩
theorem Rws.push {Z : Nat → Prop} {W : World} {vs : List Value} {ls : List (List Int)} {v : Value} {l : List Int} (h : Rws Z W vs ls) (hv : SlI W v l) (hz : ∀ g off n c, v = .slice (some ⟨g, off, none⟩) n c → Z g) : Rws Z W (vs ++ [v]) (ls ++ [l]) := by
 refine ⟨by simp [h.1], fun u hu => ?_, fun i hi hi' => ?_⟩
 ·rcases List.mem_append.1 hu with hu | hu
  ·exact h.2.1 u hu
  ·rw [List.mem_singleton.1 hu]; obtain ⟨ad, c, e⟩ := slI_form hv; rw [e]; rfl
 ·by_cases hik : i < vs.length
  ·have h2 : i < ls.length := by rw [← h.1]; exact hik
   rw [List.getElem_append_left hik, List.getElem_append_left h2]
   exact h.2.2 i hik h2
  ·have hie : i = vs.length := by simp at hi; omega
   subst hie
   rw [List.getElem_append_right (Nat.le_refl _), List.getElem_append_right (by rw [h.1]; exact Nat.le_refl _)]
   simp only [Nat.sub_self, List.getElem_singleton]
   exact ⟨hv, hz⟩
theorem Rws.slII {Z : Nat → Prop} {W : World} {base : Nat} {v : Value} {vs : List Value} {ls : List (List Int)} (h : Rws Z W vs ls) (ho : W.ownsRow base 40 1 v vs.length vs) (hl : vs.length ≤ 10000) : SlII W v ls :=
 ⟨vs, slV_own ho rfl (by omega), h.1, fun i hi hi' => (h.2.2 i hi hi').1⟩
/-- What the call owns: states, starts, the row that is laid, rows, good states, the numbers of states. Z: blocks that do not change any more. -/
structure TJ (base g8 gm : Nat) (Z : Nat → Prop) (W : World) (v5 v6 v10 vn vg : Value) (xs ro : List Int) (vs us : List Value) (ws rows : List (List Int)) (gs : List Bool) (n : Nat) (F : Int → Option Value) : Prop where
 o5 : W.ownsRow base 3 1 v5 xs.length (xs.map (Value.int .i64))
 o6 : W.ownsRow base 40 1 v6 vs.length vs
 o10 : W.ownsRow base 3 1 v10 ro.length (ro.map (Value.int .i64))
 on : W.ownsRow base 40 1 vn us.length us
 og : W.ownsRow base 4 1 vg gs.length (gs.map Value.bool)
 r6 : Rws Z W vs ws
 rn : Rws Z W us rows
 box : W.heap[g8]? = some (.cells #[vn, vg] 29 (0, 0))
 map : MapF encZ W gm n F
 zt : ∀ i, Z i → base ≤ i ∧ ∃ cs, W.heap[i]? = some (.cells cs 3 (0, 0))
 z5 : ∀ i, Z i → v5.ownBlock ≠ some i
 z10 : ∀ i, Z i → v10.ownBlock ≠ some i
 d5 : ∀ i, v5.ownBlock = some i → v10.ownBlock ≠ some i
 d6 : ∀ i, v6.ownBlock = some i → vn.ownBlock ≠ some i
section
variable {base g8 gm : Nat} {Z : Nat → Prop} {W W' : World} {v5 v6 v10 vn vg : Value} {xs ro : List Int} {vs us : List Value} {ws rows : List (List Int)} {gs : List Bool} {n : Nat} {F : Int → Option Value}
theorem own_ty {W : World} {base : Nat} {e : TypeId} {v : Value} {n : Nat} {xs : List Value} (h : W.ownsRow base e 1 v n xs) {g : Nat} (hg : v.ownBlock = some g) {cs : Array Value} {t : TypeId} {fr : Nat × Nat} (hc : W.heap[g]? = some (.cells cs t fr)) : t = e := by
 obtain ⟨-, -, cur, h3⟩ := own_lt h hg
 rw [hc] at h3
 injection h3 with h3
 injection h3 with _ h3 _
theorem TJ.mapNo (h : TJ base g8 gm Z W v5 v6 v10 vn vg xs ro vs us ws rows gs n F) {cs : Array Value} {t : TypeId} {fr : Nat × Nat} : W.heap[gm]? ≠ some (.cells cs t fr) := by
 obtain ⟨es, c, hm, -⟩ := h.map
 rw [hm]; intro e; cases e
theorem own_or {v v' : Value} {s : Nat} (h : v'.ownBlock = v.ownBlock ∨ v'.ownBlock = some s) {i : Nat} (hi : v'.ownBlock = some i) : v.ownBlock = some i ∨ i = s := by
 rcases h with h | h
 ·exact .inl (h ▸ hi)
 ·rw [h] at hi; injection hi with hi; exact .inr hi.symm
/-- Nothing that it owns is changed. -/
theorem TJ.same (h : TJ base g8 gm Z W v5 v6 v10 vn vg xs ro vs us ws rows gs n F) {B : Nat} (hB : B ≤ base ∧ B ≤ g8 ∧ B ≤ gm) (hs : W.heap.size ≤ W'.heap.size) (hk : ∀ i, B ≤ i → i < W.heap.size → W'.heap[i]? = W.heap[i]?) : TJ base g8 gm Z W' v5 v6 v10 vn vg xs ro vs us ws rows gs n F where
 o5 := own_same h.o5 fun g hg => hk g (by have := (own_lt h.o5 hg).1; omega) (own_lt h.o5 hg).2.1
 o6 := own_same h.o6 fun g hg => hk g (by have := (own_lt h.o6 hg).1; omega) (own_lt h.o6 hg).2.1
 o10 := own_same h.o10 fun g hg => hk g (by have := (own_lt h.o10 hg).1; omega) (own_lt h.o10 hg).2.1
 on := own_same h.on fun g hg => hk g (by have := (own_lt h.on hg).1; omega) (own_lt h.on hg).2.1
 og := own_same h.og fun g hg => hk g (by have := (own_lt h.og hg).1; omega) (own_lt h.og hg).2.1
 r6 := h.r6.keep (fun _ h => h) hs fun i hi hl => hk i (by have := (h.zt i hi).1; omega) hl
 rn := h.rn.keep (fun _ h => h) hs fun i hi hl => hk i (by have := (h.zt i hi).1; omega) hl
 box := (hk g8 hB.2.1 (lt_blk h.box)).trans h.box
 map := h.map.keep (hk gm hB.2.2 h.map.lt)
 zt := fun i hi => ⟨(h.zt i hi).1, by obtain ⟨cs, hc⟩ := (h.zt i hi).2; exact ⟨cs, (hk i (by have := (h.zt i hi).1; omega) (lt_blk hc)).trans hc⟩⟩
 z5 := h.z5
 z10 := h.z10
 d5 := h.d5
 d6 := h.d6
theorem TJ.quiet (h : TJ base g8 gm Z W v5 v6 v10 vn vg xs ro vs us ws rows gs n F) (hb : Below W.heap.size W W') : TJ base g8 gm Z W' v5 v6 v10 vn vg xs ro vs us ws rows gs n F :=
 h.same (B := 0) ⟨Nat.zero_le _, Nat.zero_le _, Nat.zero_le _⟩ hb.size fun i _ hi => hb.block i hi
/-- One state more. -/
theorem TJ.app5 (h : TJ base g8 gm Z W v5 v6 v10 vn vg xs ro vs us ws rows gs n F) {v' : Value} {x : Int} (q : W'.ownsRow base 3 1 v' (xs.length + 1) (xs.map (Value.int .i64) ++ [.int .i64 x])) (g : W.grownBy W' v5.ownBlock) (e : v'.ownBlock = v5.ownBlock ∨ v'.ownBlock = some W.heap.size) : TJ base g8 gm Z W' v' v6 v10 vn vg (xs ++ [x]) ro vs us ws rows gs n F := by
 have hz : ∀ i, Z i → i < W.heap.size → W'.heap[i]? = W.heap[i]? := fun i hi hl => g.block i hl fun e => h.z5 i hi e.symm
 have hty : ∀ (i : Nat) {cs : Array Value} {t : TypeId} {fr : Nat × Nat}, W.heap[i]? = some (.cells cs t fr) → t ≠ 3 → W'.heap[i]? = W.heap[i]? := fun i {cs} {t} {fr} hc ht => g.block i (lt_blk hc) fun e => ht (own_ty h.o5 e.symm hc)
 exact {
  o5 := by rw [List.length_append, List.map_append]; exact q
  o6 := own_same h.o6 fun i hi => by obtain ⟨_, _, cur, hc⟩ := own_lt h.o6 hi; exact hty i hc (by decide)
  o10 := own_same h.o10 fun i hi => g.block i (own_lt h.o10 hi).2.1 fun e => h.d5 i e.symm hi
  on := own_same h.on fun i hi => by obtain ⟨_, _, cur, hc⟩ := own_lt h.on hi; exact hty i hc (by decide)
  og := own_same h.og fun i hi => by obtain ⟨_, _, cur, hc⟩ := own_lt h.og hi; exact hty i hc (by decide)
  r6 := h.r6.keep (fun _ h => h) g.size hz
  rn := h.rn.keep (fun _ h => h) g.size hz
  box := (hty g8 h.box (by decide)).trans h.box
  map := h.map.keep (g.block gm h.map.lt fun e => by obtain ⟨_, _, cur, hc⟩ := own_lt h.o5 e.symm; exact h.mapNo hc)
  zt := fun i hi => ⟨(h.zt i hi).1, by obtain ⟨cs, hc⟩ := (h.zt i hi).2; exact ⟨cs, (hz i hi (lt_blk hc)).trans hc⟩⟩
  z5 := fun i hi e' => by
   rcases own_or e e' with e' | e'
   ·exact h.z5 i hi e'
   ·obtain ⟨cs, hc⟩ := (h.zt i hi).2; have := lt_blk hc; omega
  z10 := h.z10
  d5 := fun i hi e' => by
   rcases own_or e hi with hi | hi
   ·exact h.d5 i hi e'
   ·have := (own_lt h.o10 e').2.1; omega
  d6 := h.d6 }
/-- One entry more. -/
theorem TJ.app10 (h : TJ base g8 gm Z W v5 v6 v10 vn vg xs ro vs us ws rows gs n F) {v' : Value} {x : Int} (q : W'.ownsRow base 3 1 v' (ro.length + 1) (ro.map (Value.int .i64) ++ [.int .i64 x])) (g : W.grownBy W' v10.ownBlock) (e : v'.ownBlock = v10.ownBlock ∨ v'.ownBlock = some W.heap.size) : TJ base g8 gm Z W' v5 v6 v' vn vg xs (ro ++ [x]) vs us ws rows gs n F := by
 have hz : ∀ i, Z i → i < W.heap.size → W'.heap[i]? = W.heap[i]? := fun i hi hl => g.block i hl fun e => h.z10 i hi e.symm
 have hty : ∀ (i : Nat) {cs : Array Value} {t : TypeId} {fr : Nat × Nat}, W.heap[i]? = some (.cells cs t fr) → t ≠ 3 → W'.heap[i]? = W.heap[i]? := fun i {cs} {t} {fr} hc ht => g.block i (lt_blk hc) fun e => ht (own_ty h.o10 e.symm hc)
 exact {
  o5 := own_same h.o5 fun i hi => g.block i (own_lt h.o5 hi).2.1 fun e => h.d5 i hi e.symm
  o6 := own_same h.o6 fun i hi => by obtain ⟨_, _, cur, hc⟩ := own_lt h.o6 hi; exact hty i hc (by decide)
  o10 := by rw [List.length_append, List.map_append]; exact q
  on := own_same h.on fun i hi => by obtain ⟨_, _, cur, hc⟩ := own_lt h.on hi; exact hty i hc (by decide)
  og := own_same h.og fun i hi => by obtain ⟨_, _, cur, hc⟩ := own_lt h.og hi; exact hty i hc (by decide)
  r6 := h.r6.keep (fun _ h => h) g.size hz
  rn := h.rn.keep (fun _ h => h) g.size hz
  box := (hty g8 h.box (by decide)).trans h.box
  map := h.map.keep (g.block gm h.map.lt fun e => by obtain ⟨_, _, cur, hc⟩ := own_lt h.o10 e.symm; exact h.mapNo hc)
  zt := fun i hi => ⟨(h.zt i hi).1, by obtain ⟨cs, hc⟩ := (h.zt i hi).2; exact ⟨cs, (hz i hi (lt_blk hc)).trans hc⟩⟩
  z5 := h.z5
  z10 := fun i hi e' => by
   rcases own_or e e' with e' | e'
   ·exact h.z10 i hi e'
   ·obtain ⟨cs, hc⟩ := (h.zt i hi).2; have := lt_blk hc; omega
  d5 := fun i hi e' => by
   rcases own_or e e' with e' | e'
   ·exact h.d5 i hi e'
   ·have := (own_lt h.o5 hi).2.1; omega
  d6 := h.d6 }
/-- A block of numbers more that will not change. -/
theorem TJ.addZ (h : TJ base g8 gm Z W v5 v6 v10 vn vg xs ro vs us ws rows gs n F) {p : Nat} (hp : base ≤ p) {cs : Array Value} (hc : W.heap[p]? = some (.cells cs 3 (0, 0))) (h5 : v5.ownBlock ≠ some p) (h10 : v10.ownBlock ≠ some p) : TJ base g8 gm (fun i => Z i ∨ i = p) W v5 v6 v10 vn vg xs ro vs us ws rows gs n F :=
 { h with
  r6 := h.r6.keep (fun _ h => .inl h) (Nat.le_refl _) fun _ _ _ => rfl
  rn := h.rn.keep (fun _ h => .inl h) (Nat.le_refl _) fun _ _ _ => rfl
  zt := fun i hi => by
   rcases hi with hi | rfl
   ·exact h.zt i hi
   ·exact ⟨hp, cs, hc⟩
  z5 := fun i hi => by
   rcases hi with hi | rfl
   ·exact h.z5 i hi
   ·exact h5
  z10 := fun i hi => by
   rcases hi with hi | rfl
   ·exact h.z10 i hi
   ·exact h10 }
/-- One start more. -/
theorem TJ.app6 (h : TJ base g8 gm Z W v5 v6 v10 vn vg xs ro vs us ws rows gs n F) {v' u : Value} {l : List Int} (q : W'.ownsRow base 40 1 v' (vs.length + 1) (vs ++ [u])) (g : W.grownBy W' v6.ownBlock) (e : v'.ownBlock = v6.ownBlock ∨ v'.ownBlock = some W.heap.size) (hv : SlI W u l) (hz : ∀ g off n c, u = .slice (some ⟨g, off, none⟩) n c → Z g) : TJ base g8 gm Z W' v5 v' v10 vn vg xs ro (vs ++ [u]) us (ws ++ [l]) rows gs n F := by
 have hty : ∀ (i : Nat) {cs : Array Value} {t : TypeId} {fr : Nat × Nat}, W.heap[i]? = some (.cells cs t fr) → t ≠ 40 → W'.heap[i]? = W.heap[i]? := fun i {cs} {t} {fr} hc ht => g.block i (lt_blk hc) fun e => ht (own_ty h.o6 e.symm hc)
 have hz' : ∀ i, Z i → i < W.heap.size → W'.heap[i]? = W.heap[i]? := fun i hi _ => by obtain ⟨cs, hc⟩ := (h.zt i hi).2; exact hty i hc (by decide)
 exact {
  o5 := own_same h.o5 fun i hi => by obtain ⟨_, _, cur, hc⟩ := own_lt h.o5 hi; exact hty i hc (by decide)
  o6 := by rw [List.length_append]; exact q
  o10 := own_same h.o10 fun i hi => by obtain ⟨_, _, cur, hc⟩ := own_lt h.o10 hi; exact hty i hc (by decide)
  on := own_same h.on fun i hi => g.block i (own_lt h.on hi).2.1 fun e => h.d6 i e.symm hi
  og := own_same h.og fun i hi => by obtain ⟨_, _, cur, hc⟩ := own_lt h.og hi; exact hty i hc (by decide)
  r6 := (h.r6.push hv hz).keep (fun _ h => h) g.size hz'
  rn := h.rn.keep (fun _ h => h) g.size hz'
  box := (hty g8 h.box (by decide)).trans h.box
  map := h.map.keep (g.block gm h.map.lt fun e => by obtain ⟨_, _, cur, hc⟩ := own_lt h.o6 e.symm; exact h.mapNo hc)
  zt := fun i hi => ⟨(h.zt i hi).1, by obtain ⟨cs, hc⟩ := (h.zt i hi).2; exact ⟨cs, (hz' i hi (lt_blk hc)).trans hc⟩⟩
  z5 := h.z5
  z10 := h.z10
  d5 := h.d5
  d6 := fun i hi e' => by
   rcases own_or e hi with hi | hi
   ·exact h.d6 i hi e'
   ·have := (own_lt h.on e').2.1; omega }
/-- The numbers are changed. -/
theorem TJ.mapU (h : TJ base g8 gm Z W v5 v6 v10 vn vg xs ro vs us ws rows gs n F) {o : Obj} {m : Nat} {G : Int → Option Value} (hM : MapF encZ (W.putObj gm o) gm m G) : TJ base g8 gm Z (W.putObj gm o) v5 v6 v10 vn vg xs ro vs us ws rows gs m G := by
 have hty : ∀ (i : Nat) {cs : Array Value} {t : TypeId} {fr : Nat × Nat}, W.heap[i]? = some (.cells cs t fr) → (W.putObj gm o).heap[i]? = W.heap[i]? := fun i {cs} {t} {fr} hc => World.putObj_heap_other (fun e => h.mapNo (e ▸ hc))
 have hz' : ∀ i, Z i → i < W.heap.size → (W.putObj gm o).heap[i]? = W.heap[i]? := fun i hi _ => by obtain ⟨cs, hc⟩ := (h.zt i hi).2; exact hty i hc
 have hs : W.heap.size ≤ (W.putObj gm o).heap.size := Nat.le_of_eq World.putObj_size.symm
 exact {
  o5 := own_same h.o5 fun i hi => by obtain ⟨_, _, cur, hc⟩ := own_lt h.o5 hi; exact hty i hc
  o6 := own_same h.o6 fun i hi => by obtain ⟨_, _, cur, hc⟩ := own_lt h.o6 hi; exact hty i hc
  o10 := own_same h.o10 fun i hi => by obtain ⟨_, _, cur, hc⟩ := own_lt h.o10 hi; exact hty i hc
  on := own_same h.on fun i hi => by obtain ⟨_, _, cur, hc⟩ := own_lt h.on hi; exact hty i hc
  og := own_same h.og fun i hi => by obtain ⟨_, _, cur, hc⟩ := own_lt h.og hi; exact hty i hc
  r6 := h.r6.keep (fun _ h => h) hs hz'
  rn := h.rn.keep (fun _ h => h) hs hz'
  box := (hty g8 h.box).trans h.box
  map := hM
  zt := fun i hi => ⟨(h.zt i hi).1, by obtain ⟨cs, hc⟩ := (h.zt i hi).2; exact ⟨cs, (hty i hc).trans hc⟩⟩
  z5 := h.z5
  z10 := h.z10
  d5 := h.d5
  d6 := h.d6 }
/-- The row is laid among the rows. -/
theorem TJ.row (h : TJ base g8 gm Z W v5 v6 v10 vn vg xs ro vs us ws rows gs n F) (hl : ro.length ≤ 10000) {v' : Value} (q : W'.ownsRow base 40 1 v' (us.length + 1) (us ++ [v10])) (g : W.grownBy W' vn.ownBlock) (e : v'.ownBlock = vn.ownBlock ∨ v'.ownBlock = some W.heap.size) : TJ base g8 gm (fun i => Z i ∨ v10.ownBlock = some i) (W'.setCell ⟨g8, 0, none⟩ v') v5 v6 (.slice none 0 0) v' vg xs [] vs (us ++ [v10]) ws (rows ++ [ro]) gs n F := by
 have hty : ∀ (i : Nat) {cs : Array Value} {t : TypeId} {fr : Nat × Nat}, W.heap[i]? = some (.cells cs t fr) → t ≠ 40 → W'.heap[i]? = W.heap[i]? := fun i {cs} {t} {fr} hc ht => g.block i (lt_blk hc) fun e => ht (own_ty h.on e.symm hc)
 have hz' : ∀ i, Z i ∨ v10.ownBlock = some i → i < W.heap.size → W'.heap[i]? = W.heap[i]? := fun i hi _ => by
  rcases hi with hi | hi
  ·obtain ⟨cs, hc⟩ := (h.zt i hi).2; exact hty i hc (by decide)
  ·obtain ⟨_, _, cur, hc⟩ := own_lt h.o10 hi; exact hty i hc (by decide)
 have hb8 : W'.heap[g8]? = some (.cells #[vn, vg] 29 (0, 0)) := (hty g8 h.box (by decide)).trans h.box
 have hset : ∀ (i : Nat) {cs : Array Value} {t : TypeId} {fr : Nat × Nat}, W'.heap[i]? = some (.cells cs t fr) → t ≠ 29 → (W'.setCell ⟨g8, 0, none⟩ v').heap[i]? = W'.heap[i]? := fun i {cs} {t} {fr} hc ht => heap_set_other (fun e => ht (by rw [e, hb8] at hc; injection hc with hc; injection hc with _ hc _; exact hc.symm))
 have h10 := slI_own h.o10 rfl (by omega)
 have hrn := (h.rn.keep (Z' := fun i => Z i ∨ v10.ownBlock = some i) (fun _ h => .inl h) (Nat.le_refl _) (fun _ _ _ => rfl)).push (v := v10) (l := ro) h10 (fun g off n c e => .inr (by
  rcases h.o10.2 with ⟨e2, _⟩ | ⟨g', cap, cur, e2, _⟩
  ·rw [e] at e2; cases e2
  ·rw [e] at e2; injection e2 with e2 _ _; injection e2 with e2; injection e2 with e2 _ _
   rw [e, e2]
   subst e2
   rfl))
 have ht : ∀ i, (Z i ∨ v10.ownBlock = some i) → base ≤ i ∧ ∃ cs, W.heap[i]? = some (.cells cs 3 (0, 0)) := fun i hi => by
  rcases hi with hi | hi
  ·exact h.zt i hi
  ·obtain ⟨h1, _, cur, hc⟩ := own_lt h.o10 hi; exact ⟨h1, cur, hc⟩
 have hall : ∀ (i : Nat) {cs : Array Value} {t : TypeId} {fr : Nat × Nat}, W.heap[i]? = some (.cells cs t fr) → t ≠ 40 → t ≠ 29 → (W'.setCell ⟨g8, 0, none⟩ v').heap[i]? = W.heap[i]? := fun i {cs} {t} {fr} hc h1 h2 => (hset i ((hty i hc h1).trans hc) h2).trans (hty i hc h1)
 have hsz : W.heap.size ≤ (W'.setCell ⟨g8, 0, none⟩ v').heap.size := by rw [World.size_setCell]; exact g.size
 have hz2 : ∀ i, Z i ∨ v10.ownBlock = some i → i < W.heap.size → (W'.setCell ⟨g8, 0, none⟩ v').heap[i]? = W.heap[i]? := fun i hi _ => by obtain ⟨cs, hc⟩ := (ht i hi).2; exact hall i hc (by decide) (by decide)
 exact {
  o5 := own_same h.o5 fun i hi => by obtain ⟨_, _, cur, hc⟩ := own_lt h.o5 hi; exact hall i hc (by decide) (by decide)
  o6 := own_same h.o6 fun i hi => by
   obtain ⟨_, hl, cur, hc⟩ := own_lt h.o6 hi
   have e1 := g.block i hl fun e => h.d6 i hi e.symm
   exact (hset i (e1.trans hc) (by decide)).trans e1
  o10 := ⟨rfl, .inl ⟨rfl, rfl⟩⟩
  on := by
   rw [List.length_append]
   exact own_same q fun i hi => by obtain ⟨_, _, cur, hc⟩ := own_lt q hi; exact hset i hc (by decide)
  og := own_same h.og fun i hi => by obtain ⟨_, _, cur, hc⟩ := own_lt h.og hi; exact hall i hc (by decide) (by decide)
  r6 := h.r6.keep (fun _ h => .inl h) hsz fun i hi => hz2 i (.inl hi)
  rn := hrn.keep (fun _ h => h) hsz hz2
  box := by rw [heap_set_blk hb8]; rfl
  map := h.map.keep ((heap_set_other (fun e => h.mapNo (e ▸ h.box))).trans (g.block gm h.map.lt fun e => by obtain ⟨_, _, cur, hc⟩ := own_lt h.on e.symm; exact h.mapNo hc))
  zt := fun i hi => ⟨(ht i hi).1, by obtain ⟨cs, hc⟩ := (ht i hi).2; exact ⟨cs, (hall i hc (by decide) (by decide)).trans hc⟩⟩
  z5 := fun i hi e' => by
   rcases hi with hi | hi
   ·exact h.z5 i hi e'
   ·exact h.d5 i e' hi
  z10 := fun i _ e' => by cases e'
  d5 := fun i _ e' => by cases e'
  d6 := fun i hi e' => by
   rcases own_or e e' with e' | e'
   ·exact h.d6 i hi e'
   ·have := (own_lt h.o6 hi).2.1; omega }
/-- Whether the state is good is laid. -/
theorem TJ.good (h : TJ base g8 gm Z W v5 v6 v10 vn vg xs ro vs us ws rows gs n F) {v' : Value} {b : Bool} (q : W'.ownsRow base 4 1 v' (gs.length + 1) (gs.map Value.bool ++ [.bool b])) (g : W.grownBy W' vg.ownBlock) : TJ base g8 gm Z (W'.setCell ⟨g8, 1, none⟩ v') v5 v6 v10 vn v' xs ro vs us ws rows (gs ++ [b]) n F := by
 have hty : ∀ (i : Nat) {cs : Array Value} {t : TypeId} {fr : Nat × Nat}, W.heap[i]? = some (.cells cs t fr) → t ≠ 4 → W'.heap[i]? = W.heap[i]? := fun i {cs} {t} {fr} hc ht => g.block i (lt_blk hc) fun e => ht (own_ty h.og e.symm hc)
 have hb8 : W'.heap[g8]? = some (.cells #[vn, vg] 29 (0, 0)) := (hty g8 h.box (by decide)).trans h.box
 have hset : ∀ (i : Nat) {cs : Array Value} {t : TypeId} {fr : Nat × Nat}, W'.heap[i]? = some (.cells cs t fr) → t ≠ 29 → (W'.setCell ⟨g8, 1, none⟩ v').heap[i]? = W'.heap[i]? := fun i {cs} {t} {fr} hc ht => heap_set_other (fun e => ht (by rw [e, hb8] at hc; injection hc with hc; injection hc with _ hc _; exact hc.symm))
 have hall : ∀ (i : Nat) {cs : Array Value} {t : TypeId} {fr : Nat × Nat}, W.heap[i]? = some (.cells cs t fr) → t ≠ 4 → t ≠ 29 → (W'.setCell ⟨g8, 1, none⟩ v').heap[i]? = W.heap[i]? := fun i {cs} {t} {fr} hc h1 h2 => (hset i ((hty i hc h1).trans hc) h2).trans (hty i hc h1)
 have hsz : W.heap.size ≤ (W'.setCell ⟨g8, 1, none⟩ v').heap.size := by rw [World.size_setCell]; exact g.size
 have hz2 : ∀ i, Z i → i < W.heap.size → (W'.setCell ⟨g8, 1, none⟩ v').heap[i]? = W.heap[i]? := fun i hi _ => by obtain ⟨cs, hc⟩ := (h.zt i hi).2; exact hall i hc (by decide) (by decide)
 exact {
  o5 := own_same h.o5 fun i hi => by obtain ⟨_, _, cur, hc⟩ := own_lt h.o5 hi; exact hall i hc (by decide) (by decide)
  o6 := own_same h.o6 fun i hi => by obtain ⟨_, _, cur, hc⟩ := own_lt h.o6 hi; exact hall i hc (by decide) (by decide)
  o10 := own_same h.o10 fun i hi => by obtain ⟨_, _, cur, hc⟩ := own_lt h.o10 hi; exact hall i hc (by decide) (by decide)
  on := own_same h.on fun i hi => by obtain ⟨_, _, cur, hc⟩ := own_lt h.on hi; exact hall i hc (by decide) (by decide)
  og := by
   rw [List.length_append, List.map_append]
   exact own_same q fun i hi => by obtain ⟨_, _, cur, hc⟩ := own_lt q hi; exact hset i hc (by decide)
  r6 := h.r6.keep (fun _ h => h) hsz hz2
  rn := h.rn.keep (fun _ h => h) hsz hz2
  box := by rw [heap_set_blk hb8]; rfl
  map := h.map.keep ((heap_set_other (fun e => h.mapNo (e ▸ h.box))).trans (g.block gm h.map.lt fun e => by obtain ⟨_, _, cur, hc⟩ := own_lt h.og e.symm; exact h.mapNo hc))
  zt := fun i hi => ⟨(h.zt i hi).1, by obtain ⟨cs, hc⟩ := (h.zt i hi).2; exact ⟨cs, (hall i hc (by decide) (by decide)).trans hc⟩⟩
  z5 := h.z5
  z10 := h.z10
  d5 := h.d5
  d6 := h.d6 }
end
end Ytnjgglnpmhjmiaa
end Go.Proofs

