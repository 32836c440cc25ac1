/- Opening an argument of four small numbers. -/
import Derived.Test.YteileadcmekkoaaOpf
open Go Go.RowKit Go.YteileadcmekkoaaIt
namespace Go.Proofs
namespace Yteileadcmekkoaa
open Go.ChangeShapes Go.WideShapes Go.ChangeAt
section
variable {H : Type} {enc : TypeId × Value → H}
set_option maxRecDepth 100000 in
theorem opened_four8 {W : World} {base : Nat} {v : Value} {d : DataW H} {ps : List MemPlace} (hval : Value.okWide Try.prog W .any base 87 v) (hd : DataW.Trod enc Try.prog W 0 (fun _ => true) true 87 v d ps) :
    ∃ e0 e1 e2 e3 : Int, v = .agg #[.int .u8 e0, .int .u8 e1, .int .u8 e2, .int .u8 e3] ∧ ((0 ≤ e0 ∧ e0 < 256) ∧ (0 ≤ e1 ∧ e1 < 256) ∧ (0 ≤ e2 ∧ e2 < 256) ∧ (0 ≤ e3 ∧ e3 < 256)) := by
  obtain ⟨cs, rfl, hcs⟩ := okWide_arr Try.underlying87 hval
  rw [four87] at hcs
  obtain ⟨fuel, hf⟩ := hd
  obtain ⟨xs, k, _, _, _, hlen, hz⟩ := DataW.trod_array Try.underlying87 hf
  obtain ⟨l⟩ := cs
  simp only [List.size_toArray] at hcs
  match l, hcs, xs, hlen with
  | [a, b, c, d], _, [z0, z1, z2, z3], _ =>
    have g0 := hz 0 (by omega)
    have g1 := hz 1 (by omega)
    have g2 := hz 2 (by omega)
    have g3 := hz 3 (by omega)
    simp [one5, Value.cells] at g0 g1 g2 g3
    obtain ⟨p0, e0, _, w0⟩ := DataW.trod_int Try.underlying5 g0
    obtain ⟨p1, e1, _, w1⟩ := DataW.trod_int Try.underlying5 g1
    obtain ⟨p2, e2, _, w2⟩ := DataW.trod_int Try.underlying5 g2
    obtain ⟨p3, e3, _, w3⟩ := DataW.trod_int Try.underlying5 g3
    simp at e0 e1 e2 e3
    subst e0 e1 e2 e3
    exact ⟨p0, p1, p2, p3, rfl, wf_u8 w0, wf_u8 w1, wf_u8 w2, wf_u8 w3⟩
end
end Yteileadcmekkoaa
end Go.Proofs
