/- A slice of bytes, opened. -/
import Derived.Test.YteijenefhoconaaDisp2
import Derived.Test.YteijenefhoconaaOT2
open Go Go.RowKit Go.YteijenefhoconaaIt
namespace Go.Proofs
namespace Yteijenefhoconaa
open Go.ChangeShapes Go.WideShapes Go.ChangeAt
section
variable {H : Type} {enc : TypeId × Value → H}
theorem one5 : Try.prog.cellsOf 5 = 1 := by kernel_rfl
set_option maxRecDepth 100000 in
theorem opened_u8s {W : World} {base : Nat} {v : Value} {d : DataW H} {ps : List MemPlace} (hval : Value.okWide Try.prog W .any base 62 v) (hd : DataW.Trod enc Try.prog W 0 (fun _ => true) true 62 v d ps) (hblk : ∀ x ∈ ps, x.block < W.heap.size) :
    ∃ os : List Int, SlY W v os := by
  obtain ⟨a0, len, cap, rfl⟩ := okWide_slice Try.underlying62 hval
  obtain ⟨fuel, hf⟩ := hd
  rcases open_ints Try.underlying62 Try.underlying5 one5 hf with ⟨hcs, hx⟩ | ⟨a, len', cap', zs, hcs, _, hl, hm, hz, hx, hcell, hwz⟩
  · simp [Value.cells] at hcs
    obtain ⟨rfl, rfl, rfl⟩ := hcs
    exact ⟨[], ⟨none, 0, rfl, by simp, fun h => by simp at h⟩, fun i hi => by simp at hi⟩
  · simp [Value.cells] at hcs
    obtain ⟨rfl, rfl, rfl⟩ := hcs
    simp only [Prod.mk.injEq] at hx
    obtain ⟨rfl, rfl⟩ := hx
    simp only [if_true] at hz
    have hlen : (zs.take len).length = len := by simp; omega
    have hat : ∀ i, i < len → at0 (zs.take len) i = zs.getD i 0 := fun i hi => by
      unfold at0
      simp [List.getD_eq_getElem?_getD, hi]
    refine ⟨zs.take len, ⟨some a, cap, by rw [hlen], ?_, fun h0 => ?_⟩, fun i hi => ?_⟩
    · rw [hlen]
      have : maxLen = 9223372036854775807 := by decide
      omega
    · rw [hlen] at h0
      have hz0 : 0 < zs.length := by omega
      have hsp := spot_none (hcell 0 hz0)
      refine ⟨a.block, a.off, by rw [← hsp], ?_, fun i hi => ?_⟩
      · exact hblk (.cell a.block a.off) (MemPlace.mem_row.2 ⟨0, by omega, by simp⟩)
      · rw [hlen] at hi
        have h := hcell i (by omega)
        rw [hsp, add_at] at h
        rw [h, hat i hi]
    · rw [hlen] at hi
      rw [hat i hi]
      have h := hwz (zs.getD i 0) (by rw [List.getD_eq_getElem?_getD, List.getElem?_eq_getElem (by omega)]; exact List.getElem_mem _)
      exact wf_u8 h
end
end Yteijenefhoconaa
end Go.Proofs
