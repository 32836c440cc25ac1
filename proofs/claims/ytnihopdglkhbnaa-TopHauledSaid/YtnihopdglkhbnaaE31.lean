/- The laws without a reference: all plans are tried. -/
import Derived.Test.YtnihopdglkhbnaaS33
open Go Go.RowKit Go.YtnihopdglkhbnaaIt
namespace Go.Proofs
namespace Ytnihopdglkhbnaa
theorem leftN_all {ts : List Tn} : ∀ k, decide (leftN ts k = 0) = allT ts k
  | 0 => rfl
  | k + 1 => by
    have ih := leftN_all (ts := ts) k
    rw [leftN_succ, allT_succ, ← ih]
    have h0 : ∀ k, 0 ≤ leftN ts k := fun k => by
      induction k with
      | zero => simp [leftN]
      | succ k ih => rw [leftN_succ]; omega
    have h3 := h0 k
    rw [Bool.eq_iff_iff]
    simp only [decide_eq_true_eq, Bool.and_eq_true, beq_iff_eq]
    omega
end Ytnihopdglkhbnaa
end Go.Proofs

