/- Pans: waits in a block of their own: a field is changed, a wait is put behind. -/
import Derived.Test.YteileadcmekkoaaMo
import Derived.Test.YteileadcmekkoaaMd
import Derived.Test.YteileadcmekkoaaGenH
open Go Go.RowKit Go.YteileadcmekkoaaIt
namespace Go.Proofs
namespace Yteileadcmekkoaa
theorem flat_set {α β : Type} {enc : α → List β} {sz : Nat} (he : ∀ x, (enc x).length = sz) : ∀ {xs : List α} {k : Nat} (hk : k < xs.length) {f : Nat} (_ : f < sz) {v : β} {x : α} (_ : enc x = (enc xs[k]).set f v), (xs.flatMap enc).set (k * sz + f) v = (xs.set k x).flatMap enc
  | [], _, hk, _, _, _, _, _ => by simp at hk
  | y :: ys, 0, _, f, hf, v, x, h => by
    simp only [List.getElem_cons_zero] at h
    rw [List.set_cons_zero, List.flatMap_cons, List.flatMap_cons, Nat.zero_mul, Nat.zero_add, List.set_append_left _ _ (by rw [he]; exact hf), h]
  | y :: ys, k + 1, hk, f, hf, v, x, h => by
    simp only [List.getElem_cons_succ] at h
    rw [List.set_cons_succ, List.flatMap_cons, List.flatMap_cons, List.set_append_right _ _ (by rw [he, Nat.add_mul]; omega), he, show (k + 1) * sz + f - sz = k * sz + f by rw [Nat.add_mul]; omega,
      flat_set he (by simpa using hk) hf h]
/-- Waits in a block of their own, of which the slice shows the first n. -/
def OwnA (W : World) (g : Nat) (ws : List Wa) : Prop := ∃ rest, W.heap[g]? = some (.cells (ws.flatMap encA ++ rest).toArray 82 (0, 0))
theorem ownA_row {W : World} {base n : Nat} {v : Value} {ws : List Wa} (h : W.ownsRow base 82 5 v n (ws.flatMap encA)) (h0 : 0 < n) : ∃ g c, v = .slice (some ⟨g, 0, none⟩) n c ∧ n ≤ c ∧ base ≤ g ∧ OwnA W g ws := by
  rcases h.2 with ⟨_, h1⟩ | ⟨g, c, cur, e, h1, h2, h3, h4, h5, h6⟩
  · omega
  · refine ⟨g, c, e, h3, h1, cur.toList.drop (n * 5), ?_⟩
    rw [h2, ← h6, List.take_append_drop]
theorem OwnA.below {W W' : World} {g : Nat} {ws : List Wa} {B : Nat} (h : OwnA W g ws) (hb : Below B W W') (hB : W.heap.size ≤ B) : OwnA W' g ws := by
  obtain ⟨r, h⟩ := h
  exact ⟨r, (hb.block g (Nat.lt_of_lt_of_le (lt_blk h) hB)).trans h⟩
theorem OwnA.lt {W : World} {g : Nat} {ws : List Wa} (h : OwnA W g ws) : g < W.heap.size := by
  obtain ⟨r, h⟩ := h; exact lt_blk h
theorem OwnA.free {W : World} {g i : Nat} {ws : List Wa} (h : OwnA W g ws) : W.frozen? ⟨g, i, none⟩ = false := by
  obtain ⟨r, h⟩ := h; exact free_blk h
theorem OwnA.cells {W : World} {g : Nat} {ws : List Wa} (h : OwnA W g ws) {k : Nat} (hk : k < ws.length) :
    W.cell? ⟨g, k * 5, none⟩ = some (.int .i64 (at_ ws k).f) ∧ W.cell? ⟨g, k * 5 + 1, none⟩ = some (.int .i64 (at_ ws k).t) ∧ W.cell? ⟨g, k * 5 + 2, none⟩ = some (.int .i64 (at_ ws k).lo) ∧ W.cell? ⟨g, k * 5 + 3, none⟩ = some (.int .i64 (at_ ws k).hi) ∧ W.cell? ⟨g, k * 5 + 4, none⟩ = some (.int .i64 (at_ ws k).b) := by
  obtain ⟨r, h⟩ := h
  have key : ∀ f u, f < 5 → (encA ws[k])[f]? = some u → W.cell? ⟨g, k * 5 + f, none⟩ = some u := fun f u hf hu => by
    have hlen := flat_length encA_len ws
    rw [cell_blk h, List.getElem?_toArray, List.getElem?_append_left (by rw [hlen]; omega), flat_get encA_len hk hf]
    exact hu
  rw [at_lt hk]
  exact ⟨key 0 _ (by omega) rfl, key 1 _ (by omega) rfl, key 2 _ (by omega) rfl, key 3 _ (by omega) rfl, key 4 _ (by omega) rfl⟩
theorem OwnA.slA {W : World} {g c : Nat} {ws : List Wa} (h : OwnA W g ws) (hm : ws.length ≤ 1000) (hc : ws.length ≤ c) : SlA W (.slice (some ⟨g, 0, none⟩) ws.length c) ws := by
  refine ⟨_, c, rfl, by omega, hc, fun _ => ⟨g, 0, rfl, h.lt, fun i hi f u hu => ?_⟩⟩
  obtain ⟨r, h⟩ := h
  have hf : f < 5 := by rw [← encA_len ws[i]]; exact (List.getElem?_eq_some_iff.1 hu).1
  have hlen := flat_length encA_len ws
  rw [Nat.zero_add, cell_blk h, List.getElem?_toArray, List.getElem?_append_left (by rw [hlen]; omega), flat_get encA_len hi hf]
  exact hu
theorem OwnA.other {W : World} {g b i : Nat} {v : Value} {ws : List Wa} (h : OwnA W g ws) (hne : g ≠ b) : OwnA (W.setCell ⟨b, i, none⟩ v) g ws := by
  obtain ⟨r, h⟩ := h
  exact ⟨r, (heap_set_other hne).trans h⟩
theorem OwnA.set {W : World} {g k f : Nat} {v : Value} {x : Wa} {ws : List Wa} (h : OwnA W g ws) (hk : k < ws.length) (hf : f < 5) (hx : encA x = (encA (at_ ws k)).set f v) : OwnA (W.setCell ⟨g, k * 5 + f, none⟩ v) g (ws.set k x) := by
  obtain ⟨r, h⟩ := h
  rw [at_lt hk] at hx
  refine ⟨r, (heap_set_blk h).trans ?_⟩
  have hlen := flat_length encA_len ws
  rw [List.setIfInBounds_toArray, List.set_append_left _ _ (by rw [hlen]; omega), flat_set encA_len hk hf hx]
/-- append(v, wait) -/
theorem oper_pushA {o : Oper} {a : Act} {K : Act → World → Prop} {Q : Exit → Act → World → Prop} (s x : Operand) (ho : o.op = .call { callee := .builtin .append, args := #[s, x], argTypes := #[22, 22] })
    {base : Nat} {w : World} {g : Nat} {v : Value} {ws : List Wa} (y : Wa) (hr : w.ownsRow base 82 5 v ws.length (ws.flatMap encA)) (hl : ws.length ≤ 10000) (hs : a.eval s = v) (hx : a.eval x = .slice (some ⟨g, 0, none⟩) 1 1)
    (hg : w.heap[g]? = some (Obj.cells (encA y).toArray 82 (0, 0))) (hb : base ≤ w.heap.size)
    (h : ∀ v' w', w'.ownsRow base 82 5 v' (ws.length + 1) ((ws ++ [y]).flatMap encA) → Below base w w' → (∀ (b : Nat) (c : Array Value) (t : TypeId) (fr : Nat × Nat), w.heap[b]? = some (.cells c t fr) → t ≠ 82 → w'.heap[b]? = some (.cells c t fr)) → K (a.put o.dst v') w') : o.wp Try.prog a w K Q := by
  obtain ⟨i82, hi82, hy1, hy2, hy3⟩ := info_parts info82
  have hrd : Reads w w.heap.size 5 (some ⟨g, 0, none⟩) 1 (encA y) := ⟨rfl, fun _ => ⟨⟨g, 0, none⟩, rfl, lt_blk hg, fun j u hu => by
    rw [add_at, cell_blk hg, List.getElem?_toArray, Nat.zero_add]; exact hu⟩⟩
  have hone : ∀ u ∈ encA y, u.oneCell' = true := by
    intro u hu
    simp only [encA, List.mem_cons, List.not_mem_nil, or_false] at hu
    rcases hu with rfl | rfl | rfl | rfl | rfl <;> rfl
  refine wp_append_any w s x 22 ho base 82 i82 (.agg #[.int .i64 0, .int .i64 0, .int .i64 0, .int .i64 0, .int .i64 0]) 5 40 Try.underlying22 hi82 hy1 hy2 hy3 rfl (by decide) _ ws.length _ hs hr _ (some ⟨g, 0, none⟩) 1 1 _ hx hrd hone (Nat.le_trans (by omega : ws.length + 1 ≤ 10001) (by decide)) (by omega) hb ?_
  intro v' w' r1 r2 r3
  have e : (ws ++ [y]).flatMap encA = ws.flatMap encA ++ encA y := by simp
  rw [← e] at r1
  refine h v' w' r1 ⟨r2.os, r2.tape, r2.output, r2.size, fun b hbb => r2.block b (by omega) (fun e => by have := (hr.lt b e.symm).1; omega)⟩ (fun b c t fr hc ht => ?_)
  exact (r2.block b (lt_blk hc) (fun e => own_ne hr hc ht e.symm)).trans hc
end Yteileadcmekkoaa
end Go.Proofs
