/- Laws of rotation: what a call owns that lays a law row by row. -/
import Derived.Test.YtnjgglnpmhjmiaaRo
open Go Go.RowKit Go.YtnjgglnpmhjmiaaIt
open Rest
namespace Go.Proofs
namespace Ytnjgglnpmhjmiaa
/-- The row that is laid, the rows, and whether states are good. -/
structure RJ (base g8 : Nat) (Z : Nat → Prop) (W : World) (v10 vn vg : Value) (ro : List Int) (us : List Value) (rows : List (List Int)) (gs : List Bool) : Prop where
  o10 : W.ownsRow base 3 1 v10 ro.length (ro.map (Value.int .i64))
  on : W.ownsRow base 40 1 vn us.length us
  og : W.ownsRow base 4 1 vg gs.length (gs.map Value.bool)
  rn : Rws Z W us rows
  box : W.heap[g8]? = some (.cells #[vn, vg] 29 (0, 0))
  zt : ∀ i, Z i → base ≤ i ∧ ∃ cs, W.heap[i]? = some (.cells cs 3 (0, 0))
  z10 : ∀ i, Z i → v10.ownBlock ≠ some i
section
variable {base g8 : Nat} {Z : Nat → Prop} {W W' : World} {v10 vn vg : Value} {ro : List Int} {us : List Value} {rows : List (List Int)} {gs : List Bool}
theorem RJ.start {W : World} {base g8 : Nat} (h : W.heap[g8]? = some (.cells #[.slice none 0 0, .slice none 0 0] 29 (0, 0))) : RJ base g8 (fun _ => False) W (.slice none 0 0) (.slice none 0 0) (.slice none 0 0) [] [] [] [] :=
  ⟨⟨rfl, .inl ⟨rfl, rfl⟩⟩, ⟨rfl, .inl ⟨rfl, rfl⟩⟩, ⟨rfl, .inl ⟨rfl, rfl⟩⟩, Rws.nil _ _, h, fun _ h => h.elim, fun _ h => h.elim⟩
theorem RJ.same (h : RJ base g8 Z W v10 vn vg ro us rows gs) {B : Nat} (hB : B ≤ base ∧ B ≤ g8) (hs : W.heap.size ≤ W'.heap.size) (hk : ∀ i, B ≤ i → i < W.heap.size → W'.heap[i]? = W.heap[i]?) : RJ base g8 Z W' v10 vn vg ro us rows gs where
  o10 := own_same h.o10 fun g hg => hk g (by have := (own_lt h.o10 hg).1; omega) (own_lt h.o10 hg).2.1
  on := own_same h.on fun g hg => hk g (by have := (own_lt h.on hg).1; omega) (own_lt h.on hg).2.1
  og := own_same h.og fun g hg => hk g (by have := (own_lt h.og hg).1; omega) (own_lt h.og hg).2.1
  rn := h.rn.keep (fun _ h => h) hs fun i hi hl => hk i (by have := (h.zt i hi).1; omega) hl
  box := (hk g8 hB.2 (lt_blk h.box)).trans h.box
  zt := fun i hi => ⟨(h.zt i hi).1, by obtain ⟨cs, hc⟩ := (h.zt i hi).2; exact ⟨cs, (hk i (by have := (h.zt i hi).1; omega) (lt_blk hc)).trans hc⟩⟩
  z10 := h.z10
theorem RJ.quiet (h : RJ base g8 Z W v10 vn vg ro us rows gs) (hb : Below W.heap.size W W') : RJ base g8 Z W' v10 vn vg ro us rows gs :=
  h.same (B := 0) ⟨Nat.zero_le _, Nat.zero_le _⟩ hb.size fun i _ hi => hb.block i hi
/-- One entry more. -/
theorem RJ.app10 (h : RJ base g8 Z W v10 vn vg ro us rows gs) {v' : Value} {x : Int} (q : W'.ownsRow base 3 1 v' (ro.length + 1) (ro.map (Value.int .i64) ++ [.int .i64 x])) (g : W.grownBy W' v10.ownBlock) (e : v'.ownBlock = v10.ownBlock ∨ v'.ownBlock = some W.heap.size) : RJ base g8 Z W' v' vn vg (ro ++ [x]) us rows gs := by
  have hz : ∀ i, Z i → i < W.heap.size → W'.heap[i]? = W.heap[i]? := fun i hi hl => g.block i hl fun e => h.z10 i hi e.symm
  have hty : ∀ (i : Nat) {cs : Array Value} {t : TypeId} {fr : Nat × Nat}, W.heap[i]? = some (.cells cs t fr) → t ≠ 3 → W'.heap[i]? = W.heap[i]? := fun i {cs} {t} {fr} hc ht => g.block i (lt_blk hc) fun e => ht (own_ty h.o10 e.symm hc)
  exact {
    o10 := by rw [List.length_append, List.map_append]; exact q
    on := own_same h.on fun i hi => by obtain ⟨_, _, cur, hc⟩ := own_lt h.on hi; exact hty i hc (by decide)
    og := own_same h.og fun i hi => by obtain ⟨_, _, cur, hc⟩ := own_lt h.og hi; exact hty i hc (by decide)
    rn := h.rn.keep (fun _ h => h) g.size hz
    box := (hty g8 h.box (by decide)).trans h.box
    zt := fun i hi => ⟨(h.zt i hi).1, by obtain ⟨cs, hc⟩ := (h.zt i hi).2; exact ⟨cs, (hz i hi (lt_blk hc)).trans hc⟩⟩
    z10 := fun i hi e' => by
      rcases own_or e e' with e' | e'
      · exact h.z10 i hi e'
      · obtain ⟨cs, hc⟩ := (h.zt i hi).2; have := lt_blk hc; omega }
/-- A row and whether its state is good are laid: the lists. -/
theorem RJ.rowG (h : RJ base g8 Z W v10 vn vg ro us rows gs) (hl : ro.length ≤ 10000) {W1 W2 W3 : World} {vn' vg' : Value} {b : Bool} (hb1 : Below W.heap.size W W1) (q : W2.ownsRow base 40 1 vn' (us.length + 1) (us ++ [v10])) (g : W1.grownBy W2 vn.ownBlock) (_ : vn'.ownBlock = vn.ownBlock ∨ vn'.ownBlock = some W1.heap.size)
    (hb3 : Below W2.heap.size W2 W3) (q' : W'.ownsRow base 4 1 vg' (gs.length + 1) (gs.map Value.bool ++ [.bool b])) (g' : W3.grownBy W' vg.ownBlock) :
    RJ base g8 (fun i => Z i ∨ v10.ownBlock = some i) ((W'.setCell ⟨g8, 0, none⟩ vn').setCell ⟨g8, 1, none⟩ vg') (.slice none 0 0) vn' vg' [] (us ++ [v10]) (rows ++ [ro]) (gs ++ [b]) ∧ W'.heap[g8]? = some (.cells #[vn, vg] 29 (0, 0)) := by
  have hW1 := hb1.size
  have hW3 := hb3.size
  have hty1 : ∀ (i : Nat) {cs : Array Value} {t : TypeId} {fr : Nat × Nat}, W.heap[i]? = some (.cells cs t fr) → t ≠ 40 → W3.heap[i]? = W.heap[i]? := fun i {cs} {t} {fr} hc ht =>
    (hb3.block i (Nat.lt_of_lt_of_le (Nat.lt_of_lt_of_le (lt_blk hc) hW1) g.size)).trans ((g.block i (Nat.lt_of_lt_of_le (lt_blk hc) hW1) fun e => ht (own_ty (h.quiet hb1).on e.symm (blk_keep hc hb1))).trans (hb1.block i (lt_blk hc)))
  have ho3 : W3.ownsRow base 4 1 vg gs.length (gs.map Value.bool) := own_same h.og fun i hi => by obtain ⟨_, _, cur, hc⟩ := own_lt h.og hi; exact hty1 i hc (by decide)
  have hty : ∀ (i : Nat) {cs : Array Value} {t : TypeId} {fr : Nat × Nat}, W.heap[i]? = some (.cells cs t fr) → t ≠ 40 → t ≠ 4 → W'.heap[i]? = W.heap[i]? := fun i {cs} {t} {fr} hc ht ht' =>
    (g'.block i (lt_blk ((hty1 i hc ht).trans hc)) fun e => ht' (own_ty ho3 e.symm ((hty1 i hc ht).trans hc))).trans (hty1 i hc ht)
  have hb8 : W'.heap[g8]? = some (.cells #[vn, vg] 29 (0, 0)) := (hty g8 h.box (by decide) (by decide)).trans h.box
  refine ⟨?_, hb8⟩
  have hset : ∀ (i : Nat), i ≠ g8 → ((W'.setCell ⟨g8, 0, none⟩ vn').setCell ⟨g8, 1, none⟩ vg').heap[i]? = W'.heap[i]? := fun i hi => (heap_set_other hi).trans (heap_set_other hi)
  have hall : ∀ (i : Nat) {cs : Array Value} {t : TypeId} {fr : Nat × Nat}, W.heap[i]? = some (.cells cs t fr) → t ≠ 40 → t ≠ 4 → t ≠ 29 → ((W'.setCell ⟨g8, 0, none⟩ vn').setCell ⟨g8, 1, none⟩ vg').heap[i]? = W.heap[i]? := fun i {cs} {t} {fr} hc h1 h2 h3 =>
    (hset i (fun e => h3 (by rw [e, h.box] at hc; injection hc with hc; injection hc with _ hc _; exact hc.symm))).trans (hty i hc h1 h2)
  have hsz : W.heap.size ≤ ((W'.setCell ⟨g8, 0, none⟩ vn').setCell ⟨g8, 1, none⟩ vg').heap.size := by
    rw [World.size_setCell, World.size_setCell]
    have := g.size
    have := g'.size
    omega
  have ht : ∀ i, (Z i ∨ v10.ownBlock = some i) → base ≤ i ∧ ∃ cs, W.heap[i]? = some (.cells cs 3 (0, 0)) := fun i hi => by
    rcases hi with hi | hi
    · exact h.zt i hi
    · obtain ⟨h1, _, cur, hc⟩ := own_lt h.o10 hi; exact ⟨h1, cur, hc⟩
  have hz2 : ∀ i, Z i ∨ v10.ownBlock = some i → i < W.heap.size → ((W'.setCell ⟨g8, 0, none⟩ vn').setCell ⟨g8, 1, none⟩ vg').heap[i]? = W.heap[i]? := fun i hi _ => by obtain ⟨cs, hc⟩ := (ht i hi).2; exact hall i hc (by decide) (by decide) (by decide)
  have h10 := slI_own h.o10 rfl (by omega)
  have hrn := (h.rn.keep (Z' := fun i => Z i ∨ v10.ownBlock = some i) (fun _ h => .inl h) (Nat.le_refl _) (fun _ _ _ => rfl)).push (v := v10) (l := ro) h10 (fun g off n c e => .inr (by
    rcases h.o10.2 with ⟨e2, _⟩ | ⟨g', cap, cur, e2, _⟩
    · rw [e] at e2; cases e2
    · rw [e] at e2; injection e2 with e2 _ _; injection e2 with e2; injection e2 with e2 _ _
      rw [e, e2]
      subst e2
      rfl))
  exact {
    o10 := ⟨rfl, .inl ⟨rfl, rfl⟩⟩
    on := by
      rw [List.length_append]
      refine own_same q fun i hi => ?_
      obtain ⟨_, hl2, cur, hc⟩ := own_lt q hi
      have e1 := hb3.block i hl2
      have e2 := g'.block i (by omega) fun e => by
        obtain ⟨_, _, c4, hc4⟩ := own_lt ho3 e.symm
        rw [e1, hc] at hc4
        injection hc4 with hc4
        injection hc4 with _ hc4 _
        cases hc4
      refine (hset i (fun e3 => ?_)).trans (e2.trans e1)
      have h8 := e2.trans (e1.trans hc)
      rw [e3, hb8] at h8
      injection h8 with h8
      injection h8 with _ h8 _
      cases h8
    og := by
      rw [List.length_append, List.map_append]
      refine own_same q' fun i hi => hset i (fun e3 => ?_)
      obtain ⟨_, _, cur, hc⟩ := own_lt q' hi
      rw [e3, hb8] at hc
      injection hc with hc
      injection hc with _ hc _
      cases hc
    rn := hrn.keep (fun _ h => h) hsz hz2
    box := by
      rw [heap_set_blk (heap_set_blk hb8)]; rfl
    zt := fun i hi => ⟨(ht i hi).1, by obtain ⟨cs, hc⟩ := (ht i hi).2; exact ⟨cs, (hall i hc (by decide) (by decide) (by decide)).trans hc⟩⟩
    z10 := fun i _ e' => by cases e' }
/-- A law that has been laid. -/
theorem RJ.law (h : RJ base g8 Z W v10 vn vg ro us rows gs) (h1 : us.length ≤ 10000) (h2 : gs.length ≤ 10000) : LawX W g8 29 ⟨rows, gs⟩ vn vg :=
  ⟨h.box, h.rn.slII h.on h1, slV_own h.og (by simp) (by simp; omega)⟩
end
end Ytnjgglnpmhjmiaa
end Go.Proofs

