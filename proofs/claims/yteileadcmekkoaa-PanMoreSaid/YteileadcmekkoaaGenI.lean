/- Generic: a list of numbers that is copied by append to an empty list, and a number put behind it. -/
import Derived.Test.YteileadcmekkoaaQ7
open Go Go.RowKit Go.YteileadcmekkoaaIt
namespace Go.Proofs
namespace Yteileadcmekkoaa
theorem one_ints (xs : List Int) : ∀ u ∈ xs.map (Value.int .i64), u.oneCell' = true := by
  intro u hu
  obtain ⟨x, -, rfl⟩ := List.mem_map.1 hu
  rfl
theorem own_formI {W : World} {base n : Nat} {e : TypeId} {v : Value} {xs : List Value} (h : W.ownsRow base e 1 v n xs) (h0 : 0 < n) : ∃ g c, v = .slice (some ⟨g, 0, none⟩) n c := by
  rcases h.2 with ⟨_, h1⟩ | ⟨g, cap, cur, e1, _⟩
  · omega
  · exact ⟨g, cap, e1⟩
/-- append([]int{}, xs...) -/
theorem oper_copy {o : Oper} {a : Act} {K : Act → World → Prop} {Q : Exit → Act → World → Prop} (s x : Operand) (ho : o.op = .call { callee := .builtin .append, args := #[s, x], argTypes := #[45, 45] })
    {W w : World} {g : Nat} {vb : Value} {xs : List Int} (hv : SlI w vb xs) (hl : xs.length ≤ 10000) (hs : a.eval s = .slice (some ⟨g, 0, none⟩) 0 0) (hx : a.eval x = vb)
    (hg : w.heap[g]? = some (Obj.cells #[] 3 (0, 0))) (hB : Below W.heap.size W w) (hBg : W.heap.size ≤ g)
    (h : ∀ v' w', w'.ownsRow W.heap.size 3 1 v' xs.length (xs.map (.int .i64)) → Below W.heap.size W w' → (∀ b, b < w.heap.size → b ≠ g → w'.heap[b]? = w.heap[b]?) → (v'.ownBlock = some g ∨ v'.ownBlock = some w.heap.size) → K (a.put o.dst v') w') : o.wp Try.prog a w K Q := by
  obtain ⟨ad, cap, rfl, hm, hc, hcc⟩ := hv
  obtain ⟨i3, hi3, hy1, hy2, hy3⟩ := info_parts info3
  have hown : w.ownsRow W.heap.size 3 1 (.slice (some ⟨g, 0, none⟩) 0 0) 0 [] := ⟨rfl, .inr ⟨g, 0, #[], rfl, hBg, hg, by decide, by decide, rfl, rfl⟩⟩
  have hrd := reads_of_slI (⟨ad, cap, rfl, hm, hc, hcc⟩ : SlI w (.slice ad xs.length cap) xs)
  have hb := lt_blk hg
  refine wp_append_any w s x 45 ho W.heap.size 3 i3 (.int .i64 0) 1 8 Try.underlying45 hi3 hy1 hy2 hy3 rfl (by decide) _ 0 [] hs hown _ ad xs.length cap _ hx hrd (one_ints xs) (Nat.le_trans (by omega : 0 + xs.length ≤ 10000) (by decide)) (by omega) (by omega) ?_
  intro v' w' r1 r2 r3
  rw [Nat.zero_add, List.nil_append] at r1
  have hk : ∀ b, b < w.heap.size → b ≠ g → w'.heap[b]? = w.heap[b]? := fun b hb hne => r2.block b hb (fun e => hne (Option.some.inj e))
  refine h v' w' r1 ⟨r2.os.trans hB.os, r2.tape.trans hB.tape, r2.output.trans hB.output, Nat.le_trans hB.size r2.size, fun b hb => (hk b (Nat.lt_of_lt_of_le hb hB.size) (by omega)).trans (hB.block b hb)⟩ hk (r3.imp_left fun e => e)
/-- append(v, i) -/
theorem oper_push {o : Oper} {a : Act} {K : Act → World → Prop} {Q : Exit → Act → World → Prop} (s x : Operand) (ho : o.op = .call { callee := .builtin .append, args := #[s, x], argTypes := #[45, 45] })
    {W w : World} {g : Nat} {v : Value} {xs : List Int} {i : Int} (hr : w.ownsRow W.heap.size 3 1 v xs.length (xs.map (.int .i64))) (hl : xs.length ≤ 10000) (hs : a.eval s = v) (hx : a.eval x = .slice (some ⟨g, 0, none⟩) 1 1)
    (hg : w.heap[g]? = some (Obj.cells #[.int .i64 i] 3 (0, 0))) (hB : Below W.heap.size W w)
    (h : ∀ v' w', w'.ownsRow W.heap.size 3 1 v' (xs.length + 1) ((xs ++ [i]).map (.int .i64)) → Below W.heap.size W w' → K (a.put o.dst v') w') : o.wp Try.prog a w K Q := by
  obtain ⟨i3, hi3, hy1, hy2, hy3⟩ := info_parts info3
  have hrd := reads_of_slI (slI_new (xs := [i]) (cap := 1) (by simp) (by simp) hg : SlI w (.slice (some ⟨g, 0, none⟩) 1 1) [i])
  have hws := hB.size
  refine wp_append_any w s x 45 ho W.heap.size 3 i3 (.int .i64 0) 1 8 Try.underlying45 hi3 hy1 hy2 hy3 rfl (by decide) _ xs.length _ hs hr _ (some ⟨g, 0, none⟩) 1 1 _ hx hrd (one_ints [i]) (Nat.le_trans (by omega : xs.length + 1 ≤ 10001) (by decide)) (by omega) hws ?_
  intro v' w' r1 r2 r3
  rw [← List.map_append] at r1
  refine h v' w' r1 ⟨r2.os.trans hB.os, r2.tape.trans hB.tape, r2.output.trans hB.output, Nat.le_trans hB.size r2.size, fun b hb => (r2.block b (Nat.lt_of_lt_of_le hb hB.size) (fun e => by have := (hr.lt b e.symm).1; omega)).trans (hB.block b hb)⟩
theorem wpList_copy {ops : Array Oper} {rest : List Oper} {o : Oper} {a : Act} {Q : Exit → Act → World → Prop} (hgd : o.guard = none) (s x : Operand) (ho : o.op = .call { callee := .builtin .append, args := #[s, x], argTypes := #[45, 45] })
    {W w : World} {g : Nat} {vb : Value} {xs : List Int} (hv : SlI w vb xs) (hl : xs.length ≤ 10000) (hs : a.eval s = .slice (some ⟨g, 0, none⟩) 0 0) (hx : a.eval x = vb)
    (hg : w.heap[g]? = some (Obj.cells #[] 3 (0, 0))) (hB : Below W.heap.size W w) (hBg : W.heap.size ≤ g)
    (h : ∀ v' w', w'.ownsRow W.heap.size 3 1 v' xs.length (xs.map (.int .i64)) → Below W.heap.size W w' → wpList Try.prog ops Q rest (a.put o.dst v') w') : wpList Try.prog ops Q (o :: rest) a w :=
  wpList_plain hgd fun _ hK => oper_copy s x ho hv hl hs hx hg hB hBg fun v' w' r1 r2 _ _ => hK _ _ (h v' w' r1 r2)
theorem wpList_push {ops : Array Oper} {rest : List Oper} {o : Oper} {a : Act} {Q : Exit → Act → World → Prop} (hgd : o.guard = none) (s x : Operand) (ho : o.op = .call { callee := .builtin .append, args := #[s, x], argTypes := #[45, 45] })
    {W w : World} {g : Nat} {v : Value} {xs : List Int} {i : Int} (hr : w.ownsRow W.heap.size 3 1 v xs.length (xs.map (.int .i64))) (hl : xs.length ≤ 10000) (hs : a.eval s = v) (hx : a.eval x = .slice (some ⟨g, 0, none⟩) 1 1)
    (hg : w.heap[g]? = some (Obj.cells #[.int .i64 i] 3 (0, 0))) (hB : Below W.heap.size W w)
    (h : ∀ v' w', w'.ownsRow W.heap.size 3 1 v' (xs.length + 1) ((xs ++ [i]).map (.int .i64)) → Below W.heap.size W w' → wpList Try.prog ops Q rest (a.put o.dst v') w') : wpList Try.prog ops Q (o :: rest) a w :=
  wpList_plain hgd fun _ hK => oper_push s x ho hr hl hs hx hg hB fun v' w' r1 r2 => hK _ _ (h v' w' r1 r2)
end Yteileadcmekkoaa
end Go.Proofs
