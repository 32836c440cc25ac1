/- Opening an argument of five small numbers. -/
import Derived.Test.YteileadcmekkoaaOp
open Go Go.RowKit Go.YteileadcmekkoaaIt
namespace Go.Proofs
namespace Yteileadcmekkoaa
open Go.ChangeShapes Go.WideShapes Go.ChangeAt
section
variable {H : Type} {enc : TypeId × Value → H}
theorem five76 : Try.prog.cellsOf 76 = 5 := by kernel_rfl
theorem okWide_arr {P : Program} {w : World} {r : Reach} {base : Nat} {t e : TypeId} {n : Nat} {v : Value} (ht : P.underlying t = some (.array n e)) (h : Value.okWide P w r base t v) : ∃ cs, v = .agg cs ∧ cs.size = P.cellsOf t := by
  simp only [Value.okWide, ht] at h
  obtain ⟨cs, h1, h2, _⟩ := h
  exact ⟨cs, h1, h2⟩
set_option maxRecDepth 100000 in
theorem opened_five {W : World} {base : Nat} {v : Value} {d : DataW H} {ps : List MemPlace} (hval : Value.okWide Try.prog W .any base 76 v) (hd : DataW.Trod enc Try.prog W 0 (fun _ => true) true 76 v d ps) :
    ∃ e0 e1 e2 e3 e4 : Int, v = .agg #[.int .u8 e0, .int .u8 e1, .int .u8 e2, .int .u8 e3, .int .u8 e4] ∧ ((0 ≤ e0 ∧ e0 < 256) ∧ (0 ≤ e1 ∧ e1 < 256) ∧ (0 ≤ e2 ∧ e2 < 256) ∧ (0 ≤ e3 ∧ e3 < 256) ∧ (0 ≤ e4 ∧ e4 < 256)) := by
  obtain ⟨cs, rfl, hcs⟩ := okWide_arr Try.underlying76 hval
  rw [five76] at hcs
  obtain ⟨fuel, hf⟩ := hd
  obtain ⟨xs, k, _, _, _, hlen, hz⟩ := DataW.trod_array Try.underlying76 hf
  obtain ⟨l⟩ := cs
  simp only [List.size_toArray] at hcs
  match l, hcs, xs, hlen with
  | [a, b, c, d, e], _, [z0, z1, z2, z3, z4], _ =>
    have g0 := hz 0 (by omega)
    have g1 := hz 1 (by omega)
    have g2 := hz 2 (by omega)
    have g3 := hz 3 (by omega)
    have g4 := hz 4 (by omega)
    simp [one5, Value.cells] at g0 g1 g2 g3 g4
    obtain ⟨p0, e0, _, w0⟩ := DataW.trod_int Try.underlying5 g0
    obtain ⟨p1, e1, _, w1⟩ := DataW.trod_int Try.underlying5 g1
    obtain ⟨p2, e2, _, w2⟩ := DataW.trod_int Try.underlying5 g2
    obtain ⟨p3, e3, _, w3⟩ := DataW.trod_int Try.underlying5 g3
    obtain ⟨p4, e4, _, w4⟩ := DataW.trod_int Try.underlying5 g4
    simp at e0 e1 e2 e3 e4
    subst e0 e1 e2 e3 e4
    exact ⟨p0, p1, p2, p3, p4, rfl, wf_u8 w0, wf_u8 w1, wf_u8 w2, wf_u8 w3, wf_u8 w4⟩
end
end Yteileadcmekkoaa
end Go.Proofs
