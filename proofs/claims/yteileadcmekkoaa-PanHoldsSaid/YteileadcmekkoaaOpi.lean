/- Opening arguments: a period, a list of numbers. -/
import Derived.Test.YteileadcmekkoaaOpw
open Go Go.RowKit Go.YteileadcmekkoaaIt
namespace Go.Proofs
namespace Yteileadcmekkoaa
open Go.ChangeShapes Go.WideShapes Go.ChangeAt
section
variable {H : Type} {enc : TypeId × Value → H}
theorem two26 : Try.prog.cellsOf 26 = 2 := by kernel_rfl
theorem by3 : Try.prog.bytesOf 3 = 8 := by kernel_rfl
set_option maxRecDepth 100000 in
theorem opened_period {W : World} {base : Nat} {v : Value} {d : DataW H} {ps : List MemPlace} (hval : Value.okWide Try.prog W .any base 26 v) (hd : DataW.Trod enc Try.prog W 0 (fun _ => true) true 26 v d ps) :
    ∃ a b : Int, v = .agg #[.int .i64 a, .int .i64 b] := by
  obtain ⟨cs, rfl, hcs⟩ := okWide_struct Try.underlying26 hval
  rw [two26] at hcs
  obtain ⟨fuel, hf⟩ := hd
  obtain ⟨xs, k, _, _, _, hlen, hz⟩ := DataW.trod_struct Try.underlying26 hf
  obtain ⟨l⟩ := cs
  simp only [List.size_toArray] at hcs
  match l, hcs, xs, hlen with
  | [a, b], _, [z0, z1], _ =>
    have g0 := hz 0 _ rfl
    have g1 := hz 1 _ rfl
    simp [one3, Value.cells] at g0 g1
    obtain ⟨p0, e0, _, _⟩ := DataW.trod_int Try.underlying3 g0
    obtain ⟨p1, e1, _, _⟩ := DataW.trod_int Try.underlying3 g1
    simp at e0 e1
    subst e0 e1
    exact ⟨p0, p1, rfl⟩
set_option maxRecDepth 100000 in
theorem opened_nums {W : World} {base : Nat} {v : Value} {d : DataW H} {ps : List MemPlace} (hval : Value.okWide Try.prog W .any base 45 v) (hd : DataW.Trod enc Try.prog W 0 (fun _ => true) true 45 v d ps) (hblk : ∀ x ∈ ps, x.block < W.heap.size) (hsz : Sz Try.prog 45 d) :
    ∃ xs : List Int, SlI W v xs := by
  obtain ⟨a0, len, cap, rfl⟩ := okWide_slice Try.underlying45 hval
  obtain ⟨fuel, hf⟩ := hd
  obtain ⟨v, os, hv, h⟩ := trod_ints Try.underlying45 Try.underlying3 one3 by3 hf hblk hsz
  simp [Value.cells] at hv
  subst hv
  exact ⟨os, h⟩
end
end Yteileadcmekkoaa
end Go.Proofs
