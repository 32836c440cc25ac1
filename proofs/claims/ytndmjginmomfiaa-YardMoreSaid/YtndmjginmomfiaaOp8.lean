/- Opening an argument of four small numbers. -/
import Derived.Test.YtndmjginmomfiaaOp6
open Go Go.RowKit Go.YtndmjginmomfiaaIt
namespace Go.Proofs
namespace Ytndmjginmomfiaa
open Go.ChangeShapes Go.WideShapes Go.ChangeAt
variable {H : Type} {enc : TypeId × Value → H}
theorem okWide_arr {P : Program} {w : World} {r : Reach} {base : Nat} {t e : TypeId} {n : Nat} {v : Value} (ht : P.underlying t = some (.array n e)) (h : Value.okWide P w r base t v) : ∃ cs, v = .agg cs ∧ cs.size = P.cellsOf t := by
  simp only [Value.okWide, ht] at h
  obtain ⟨cs, h1, h2, _⟩ := h
  exact ⟨cs, h1, h2⟩
set_option maxRecDepth 100000 in
theorem opened_four {W : World} {base : Nat} {v : Value} {d : DataW H} {ps : List MemPlace} (hval : Value.okWide Try.prog W .any base 79 v) (hd : DataW.Trod enc Try.prog W 0 (fun _ => true) true 79 v d ps) :
    ∃ q : Q4, v = .agg #[.int .u8 q.a, .int .u8 q.b, .int .u8 q.c, .int .u8 q.d] ∧ q.ok := by
  obtain ⟨cs, rfl, hcs⟩ := okWide_arr Try.underlying79 hval
  rw [four79] at hcs
  obtain ⟨fuel, hf⟩ := hd
  obtain ⟨q, he, hq⟩ := trod_q4 (by simpa [Value.cells] using hcs) hf
  refine ⟨q, ?_, hq⟩
  obtain ⟨l⟩ := cs
  simp [Value.cells] at he
  subst he
  rfl
end Ytndmjginmomfiaa
end Go.Proofs
