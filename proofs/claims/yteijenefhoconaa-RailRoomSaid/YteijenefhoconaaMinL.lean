/- min of two numbers, not parted; over whatever program. -/
import Derived.Test.YteijenefhoconaaLaws
namespace Go
namespace YteijenefhoconaaIt
open Go.RowKit
theorem wpList_min {P : Program} {ops : Array Oper} {rest : List Oper} {o : Oper} {a : Act} {w : World} {Q : Exit → Act → World → Prop} (hgd : o.guard = none) (x y : Operand) (ats : Array TypeId)
    (ho : o.op = .call { callee := .builtin .min, args := #[x, y], argTypes := ats }) {k : IntKind} {m n : Int} (hx : a.eval x = .int k m) (hy : a.eval y = .int k n)
    (h : wpList P ops Q rest (a.put o.dst (.int k (min m n))) w) : wpList P ops Q (o :: rest) a w :=
  wpList_plain hgd fun K hK => by
    have hr : (execOp a.eval o).run P w = .ok (.value (.int k (min m n))) w := by
      unfold execOp
      simp only [ho, resolve, invoke, builtin, Sem.run_bind, Sem.run_pure, Result.andThen_ok, List.map_toArray, List.map_cons, List.map_nil, hx, hy]
      have e : (if n < m then n else m) = min m n := by rw [Int.min_def]; split <;> split <;> omega
      simp [Builtin.min_, Builtin.min2, go_sem, e]
    unfold Oper.wp
    rw [hr]
    exact hK _ _ h
end YteijenefhoconaaIt
end Go
