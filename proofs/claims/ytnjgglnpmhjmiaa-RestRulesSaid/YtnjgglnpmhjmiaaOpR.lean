/- Laws by numbers, opened: slices of triples of bytes. -/
import Derived.Test.YtnjgglnpmhjmiaaOp
import Derived.Test.YtnjgglnpmhjmiaaD4
import Derived.Laws.IdiomArrays
open Go Go.RowKit Go.YtnjgglnpmhjmiaaIt
namespace Go.Proofs
namespace Ytnjgglnpmhjmiaa
open Go.ChangeShapes Go.WideShapes Go.ChangeAt
section
variable {H : Type} {enc : TypeId × Value → H}
theorem one5 : Try.prog.cellsOf 5 = 1 := by kernel_rfl
theorem wf_u8 {n : Int} (h : (Lit.int .u8 n).wf = true) : 0 ≤ n ∧ n < 256 := by
 simp [Lit.wf, IntKind.min, IntKind.max, IntKind.signed, IntKind.bits] at h
 omega
theorem three121 : Try.prog.cellsOf 121 = 3 := by kernel_rfl
theorem trod_t3 {W : World} {fuel : Nat} {cs : List Value} {x : DataW H × List MemPlace} (hc : cs.length = 3) (h : DataW.trod enc Try.prog W 0 (fun _ => true) true fuel 121 cs = some x) : ∃ q : T3, cs = encT q ∧ q.ok := by
 match cs, hc with
 | [a, b, c], _ =>
  obtain ⟨y0, y1, y2, n, _, h0, h1, h2⟩ := trod_array3 Try.underlying121 one5 h
  obtain ⟨p0, e0, _, w0⟩ := DataW.trod_int Try.underlying5 h0
  obtain ⟨p1, e1, _, w1⟩ := DataW.trod_int Try.underlying5 h1
  obtain ⟨p2, e2, _, w2⟩ := DataW.trod_int Try.underlying5 h2
  simp at e0 e1 e2
  subst e0 e1 e2
  exact ⟨⟨p0, p1, p2⟩, rfl, wf_u8 w0, wf_u8 w1, wf_u8 w2⟩
instance : Inhabited T3 := ⟨⟨0, 0, 0⟩⟩
set_option maxRecDepth 100000 in
theorem trod_ts {W : World} {fuel : Nat} {cs : List Value} {x : DataW H × List MemPlace} (h : DataW.trod enc Try.prog W 0 (fun _ => true) true fuel 68 cs = some x) (hblk : ∀ y ∈ x.2, y.block < W.heap.size) : ∃ v qs, cs = [v] ∧ (∀ q ∈ qs, q.ok) ∧ SlT3 W v qs := by
 rcases Deep.open_slice Try.underlying68 h with ⟨rfl, rfl⟩ | ⟨a, len, cap, m, n, D, Pl, rfl, _, hl, hm, hmm, rfl, hx⟩
 ·exact ⟨_, [], rfl, by simp, none, 0, rfl, by simp, fun h => by simp at h⟩
 ·simp only [if_true] at hmm
  have each : ∀ i, i < m → ∃ q : T3, q.ok ∧ W.cell? (a.add (i * 3)) = some (.int .u8 q.a) ∧ W.cell? (a.add (i * 3 + 1)) = some (.int .u8 q.b) ∧ W.cell? (a.add (i * 3 + 2)) = some (.int .u8 q.c) := by
   intro i hi
   obtain ⟨cs', h1, h2⟩ := hx i hi
   rw [three121] at h1
   obtain ⟨_, hcl, hcell⟩ := World.cells?_some h1
   obtain ⟨q, rfl, hq⟩ := trod_t3 hcl h2
   have k0 := hcell 0 (by omega)
   have k1 := hcell 1 (by omega)
   have k2 := hcell 2 (by omega)
   rw [Deep.add_add] at k0 k1 k2
   exact ⟨q, hq, by simpa [encT] using k0, by simpa [encT] using k1, by simpa [encT] using k2⟩
  obtain ⟨q, hq⟩ := Deep.choose_lt each
  have hmx : maxLen = 9223372036854775807 := by decide
  refine ⟨_, (List.range len).map q, rfl, ?_, some a, cap, by simp, by simp only [List.length_map, List.length_range]; omega, fun h0 => ?_⟩
  ·intro z hz
   obtain ⟨i, hi, rfl⟩ := List.mem_map.1 hz
   exact (hq i (by have := List.mem_range.1 hi; omega)).1
  ·simp only [List.length_map, List.length_range] at h0 ⊢
   have hsp := spot_none (a := a) (by simpa using (hq 0 (by omega)).2.1)
   refine ⟨a.block, a.off, by rw [← hsp], ?_, fun i hi f u hu => ?_⟩
   ·refine hblk (.cell a.block a.off) (List.mem_append_left _ ?_)
    rw [three121]
    exact MemPlace.mem_row.2 ⟨0, by omega, by simp⟩
   ·have h := (hq i (by omega)).2
    rw [hsp, add_at, add_at, add_at] at h
    rw [List.getElem_map, List.getElem_range] at hu
    obtain ⟨g0, g1, g2⟩ := h
    match f, hu with
    | 0, hu => simp [encT] at hu; subst hu; exact g0
    | 1, hu => simp [encT] at hu; subst hu; rw [Nat.add_assoc]; exact g1
    | 2, hu => simp [encT] at hu; subst hu; rw [Nat.add_assoc]; exact g2
    | f + 3, hu => simp [encT] at hu
set_option maxRecDepth 100000 in
theorem opened_rule {W : World} {base : Nat} {v : Value} {d : DataW H} {ps : List MemPlace} (hval : Value.okWide Try.prog W .any base 68 v) (hd : DataW.Trod enc Try.prog W 0 (fun _ => true) true 68 v d ps) (hblk : ∀ x ∈ ps, x.block < W.heap.size) :
  ∃ os : List T3, (∀ q ∈ os, q.ok) ∧ SlT3 W v os := by
 obtain ⟨a0, len, cap, rfl⟩ := okWide_slice Try.underlying68 hval
 obtain ⟨fuel, hf⟩ := hd
 obtain ⟨v, os, hv, h⟩ := trod_ts hf hblk
 simp [Value.cells] at hv
 subst hv
 exact ⟨os, h⟩
end
end Ytnjgglnpmhjmiaa
end Go.Proofs
