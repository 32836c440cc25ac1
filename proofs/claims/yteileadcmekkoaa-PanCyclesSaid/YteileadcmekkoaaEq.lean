/- Pans: equal; periods compared; what an operation yields whatever the world. -/
import Derived.Test.YteileadcmekkoaaQ3
open Go Go.RowKit Go.YteileadcmekkoaaIt
namespace Go.Proofs
namespace Yteileadcmekkoaa
theorem equal_any (a b num den : Int) (w : World) (h1 : IntKind.i64.wrap (a * den) = a * den) (h2 : IntKind.i64.wrap (num * b) = num * b) : Calls Try.prog 39 #[.agg #[.int .i64 a, .int .i64 b], .int .i64 num, .int .i64 den] w fun e w' => e = .returned (.bool (a * den == num * b)) ∧ Below w.heap.size w w' := by
  go_enter Try.func39, Try.ntmps39
  go_wp2
  go_ret
  exact ⟨rfl, (Below.refl _ _).alloc (Nat.le_refl _) _⟩
theorem eqi26 (a1 a2 b1 b2 : Int) (W : World) : (Op.equalIn 10000 26 (.agg #[.int .i64 a1, .int .i64 a2]) (.agg #[.int .i64 b1, .int .i64 b2])).run Try.prog W = .ok (decide (a1 = b1 ∧ a2 = b2)) W := by
  rw [run_equalIn_agg W 9999 26 _ _ (by kernel_rfl) (by kernel_rfl)]
  simp [Program.fieldsOf, Try.underlying26, Op.eqFields, go_sem]
  by_cases h1 : a1 = b1 <;> by_cases h2 : a2 = b2 <;> simp [h1, h2]
theorem exec_eql26 {o : Oper} {a : Act} {x y : Operand} {A D : Int} (ho : o.op = .binOp .eql 26 x y 26) (hx : a.eval x = .agg #[.int .i64 A, .int .i64 D]) (hy : a.eval y = .agg #[.int .i64 A, .int .i64 D]) (W : World) :
    (execOp a.eval o).run Try.prog W = .ok (.value (.bool true)) W := by
  have h1 := eqi26 A D A D W
  have h2 : Try.prog.eqGuardType Try.prog.depth 26 = false := by kernel_rfl
  unfold execOp
  simp only [ho, hx, hy, Sem.run_bind, run_eqGuard_agg W .eql 26 x y _ _ h2, Result.andThen_ok, run_eql_struct, h1, Sem.run_pure, decide_true, and_self]
theorem wpList_val2 {P : Program} {ops : Array Oper} {rest : List Oper} {o : Oper} {a : Act} {w : World} {Q : Exit → Act → World → Prop} (v : Value) (hw : Region.wanted o (yielded ops a.tmps) = true)
    (hr : ∀ W, (execOp a.eval o).run P W = .ok (.value v) W) (h : wpList P ops Q rest (a.put o.dst v) w) : wpList P ops Q (o :: rest) a w := by
  refine wpList_step fun K hK => ?_
  rw [if_pos hw]
  unfold Oper.wp
  rw [hr]
  exact hK _ _ h
end Yteileadcmekkoaa
end Go.Proofs
