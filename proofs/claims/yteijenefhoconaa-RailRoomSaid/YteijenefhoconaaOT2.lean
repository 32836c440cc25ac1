/- A track by numbers, as an argument. -/
import Derived.Test.YteijenefhoconaaML
import Derived.Test.YteijenefhoconaaOpen
import Derived.Deep.Strs
open Go Go.RowKit Go.YteijenefhoconaaIt
namespace Go.Proofs
namespace Yteijenefhoconaa
open Go.ChangeShapes Go.WideShapes Go.ChangeAt
/-- A slice of pairs of bytes. -/
def SlP (w : World) (v : Value) (xs : List Tn) : Prop := (∃ ad cap, v = .slice ad xs.length cap ∧ xs.length ≤ 9223372036854775807 ∧ (0 < xs.length → ∃ b off, ad = some ⟨b, off, none⟩ ∧ b < w.heap.size ∧
  ∀ i, i < xs.length → w.cell? ⟨b, off + i * 2, none⟩ = some (.int .u8 (tAt xs i)) ∧ w.cell? ⟨b, off + i * 2 + 1, none⟩ = some (.int .u8 (tTo xs i)))) ∧
  ∀ i, i < xs.length → (0 ≤ tAt xs i ∧ tAt xs i < 256) ∧ (0 ≤ tTo xs i ∧ tTo xs i < 256)
theorem SlP.below {w w' : World} {v : Value} {xs : List Tn} {B : Nat} (h : SlP w v xs) (hb : Below B w w') (hB : w.heap.size ≤ B) : SlP w' v xs := by
  obtain ⟨⟨ad, cap, hv, hm, hc⟩, hx⟩ := h
  refine ⟨⟨ad, cap, hv, hm, fun h0 => ?_⟩, hx⟩
  obtain ⟨b, off, ha, hlt, hcell⟩ := hc h0
  exact ⟨b, off, ha, Nat.lt_of_lt_of_le hlt hb.size, fun i hi => ⟨(hb.cell (by simp; omega)).trans (hcell i hi).1, (hb.cell (by simp; omega)).trans (hcell i hi).2⟩⟩
/-- The cells of a track. -/
def encM (R : List Int) (m : Int) (v : Value) : Value := .agg ((R.map (Value.int .u8)) ++ [.int .u8 m, v]).toArray
theorem wf_u8 {n : Int} (h : (Lit.int .u8 n).wf = true) : 0 ≤ n ∧ n < 256 := by
  simp [Lit.wf, IntKind.min, IntKind.max, IntKind.signed, IntKind.bits] at h
  omega
section
variable {H : Type} {enc : TypeId × Value → H} {P : Program}
theorem opened_bytes {W : World} {t e u : TypeId} {fuel : Nat} {cs : List Value} {x : DataW H × List MemPlace} (ht : P.underlying t = some (.slice e)) (he : P.underlying e = some (.array 2 u)) (hu : P.underlying u = some (.int .u8)) (ce : P.cellsOf e = 2) (cu : P.cellsOf u = 1)
    (h : DataW.trod enc P W 0 (fun _ => true) true fuel t cs = some x) (hblk : ∀ y ∈ x.2, y.block < W.heap.size) : ∃ v xs, cs = [v] ∧ SlP W v xs := by
  rcases Deep.open_slice ht h with ⟨rfl, rfl⟩ | ⟨a, len, cap, m, n, D, Pl, rfl, _, hl, hm, hmm, rfl, hx⟩
  · exact ⟨_, [], rfl, ⟨none, 0, rfl, by simp, fun h => by simp at h⟩, by simp⟩
  · simp only [if_true] at hmm
    have each : ∀ i, i < m → ∃ q : Tn, W.cell? (a.add (i * 2)) = some (.int .u8 q.1) ∧ W.cell? (a.add (i * 2 + 1)) = some (.int .u8 q.2) ∧ (0 ≤ q.1 ∧ q.1 < 256) ∧ (0 ≤ q.2 ∧ q.2 < 256) := by
      intro i hi
      obtain ⟨cs', h1, h2⟩ := hx i hi
      rw [ce] at h1
      obtain ⟨_, hlen, hcell⟩ := World.cells?_some h1
      obtain ⟨xs, k, _, _, _, hxl, hf⟩ := DataW.trod_array he h2
      match xs, hxl, cs', hlen with
      | [y0, y1], _, [v0, v1], _ =>
        have g0 := hf 0 (by omega)
        have g1 := hf 1 (by omega)
        simp [cu] at g0 g1
        obtain ⟨x0, e0, _, w0⟩ := DataW.trod_int hu g0
        obtain ⟨x1, e1, _, w1⟩ := DataW.trod_int hu g1
        have k0 := hcell 0 (by omega)
        have k1 := hcell 1 (by omega)
        simp at e0 e1
        subst e0 e1
        rw [Deep.add_add] at k0 k1
        exact ⟨(x0, x1), by simpa using k0, by simpa using k1, wf_u8 w0, wf_u8 w1⟩
    obtain ⟨q, hq⟩ := Deep.choose_lt each
    have hat : ∀ i, i < len → tAt ((List.range len).map q) i = (q i).1 ∧ tTo ((List.range len).map q) i = (q i).2 := fun i hi => by simp [tAt, tTo, hi]
    refine ⟨_, (List.range len).map q, rfl, ⟨some a, cap, by simp, ?_, fun h0 => ?_⟩, fun i hi => ?_⟩
    · simp only [List.length_map, List.length_range]
      have : maxLen = 9223372036854775807 := by decide
      omega
    · simp only [List.length_map, List.length_range] at h0 ⊢
      have hsp := spot_none (a := a) (by simpa using (hq 0 (by omega)).1)
      refine ⟨a.block, a.off, by rw [← hsp], ?_, fun i hi => ?_⟩
      · refine hblk (.cell a.block a.off) (List.mem_append_left _ ?_)
        rw [ce]
        exact MemPlace.mem_row.2 ⟨0, by omega, by simp⟩
      · have h := hq i (by omega)
        rw [hsp, add_at, add_at, ← Nat.add_assoc] at h
        rw [(hat i hi).1, (hat i hi).2]
        exact ⟨h.1, h.2.1⟩
    · simp only [List.length_map, List.length_range] at hi
      rw [(hat i hi).1, (hat i hi).2]
      exact ⟨(hq i (by omega)).2.2.1, (hq i (by omega)).2.2.2⟩
end
end Yteijenefhoconaa
end Go.Proofs
/- A track by numbers, opened. -/
open Go Go.RowKit Go.YteijenefhoconaaIt
namespace Go.Proofs
namespace Yteijenefhoconaa
open Go.ChangeShapes Go.WideShapes Go.ChangeAt
section
variable {H : Type} {enc : TypeId × Value → H}
set_option maxRecDepth 100000 in
theorem opened_track {W : World} {base : Nat} {v : Value} {d : DataW H} {ps : List MemPlace} (hval : Value.okWide Try.prog W .any base 52 v) (hd : DataW.Trod enc Try.prog W 0 (fun _ => true) true 52 v d ps) (hblk : ∀ x ∈ ps, x.block < W.heap.size) :
    ∃ (r0 r1 r2 r3 r4 r5 m : Int) (u : Value) (xs : List Tn), v = encM [r0, r1, r2, r3, r4, r5] m u ∧ (∀ x ∈ [r0, r1, r2, r3, r4, r5], 0 ≤ x ∧ x < 256) ∧ (0 ≤ m ∧ m < 256) ∧ SlP W u xs := by
  obtain ⟨cs, rfl, hsz⟩ := okWide_struct Try.underlying52 hval
  have hc52 : Try.prog.cellsOf 52 = 8 := by kernel_rfl
  have hc49 : Try.prog.cellsOf 49 = 6 := by kernel_rfl
  have hc5 : Try.prog.cellsOf 5 = 1 := by kernel_rfl
  have hc50 : Try.prog.cellsOf 50 = 1 := by kernel_rfl
  have hc103 : Try.prog.cellsOf 103 = 2 := by kernel_rfl
  rw [hc52] at hsz
  obtain ⟨fuel, hf⟩ := hd
  obtain ⟨y0, y1, y2, n, hxe, hl, h0, h1, h2⟩ := Deep.trod_struct3 Try.underlying52 hf
  obtain ⟨l⟩ := cs
  simp only [Value.cells, List.size_toArray] at hsz h0 h1 h2
  have hps : ps = y0.2 ++ (y1.2 ++ y2.2) := by simp only [Prod.mk.injEq] at hxe; exact hxe.2
  match l, hsz with
  | [c0, c1, c2, c3, c4, c5, c6, c7], _ =>
    simp only [hc49, hc5, hc50, List.drop_zero, List.take_succ_cons, List.take_zero, List.drop_succ_cons] at h0 h1 h2
    obtain ⟨m, e6, _, w6⟩ := DataW.trod_int Try.underlying5 h1
    obtain ⟨u, xs, e7, hx⟩ := opened_bytes Try.underlying50 Try.underlying103 Try.underlying5 hc103 hc5 h2 (fun y hy => hblk y (by rw [hps]; simp [hy]))
    obtain ⟨zs, k, _, _, _, hzl, hz⟩ := DataW.trod_array Try.underlying49 h0
    have each : ∀ i, i < 6 → ∃ (r : Int), ([c0, c1, c2, c3, c4, c5].drop i).take 1 = [.int .u8 r] ∧ (0 ≤ r ∧ r < 256) := fun i hi => by
      have g := hz i hi
      rw [hc5, Nat.mul_one, List.getElem?_eq_getElem (by omega)] at g
      obtain ⟨r, e, _, w⟩ := DataW.trod_int Try.underlying5 g
      exact ⟨r, e, wf_u8 w⟩
    obtain ⟨r0, e0, b0⟩ := each 0 (by omega)
    obtain ⟨r1, e1, b1⟩ := each 1 (by omega)
    obtain ⟨r2, e2, b2⟩ := each 2 (by omega)
    obtain ⟨r3, e3, b3⟩ := each 3 (by omega)
    obtain ⟨r4, e4, b4⟩ := each 4 (by omega)
    obtain ⟨r5, e5, b5⟩ := each 5 (by omega)
    simp at e0 e1 e2 e3 e4 e5 e6 e7
    subst e0 e1 e2 e3 e4 e5 e6 e7
    refine ⟨r0, r1, r2, r3, r4, r5, m, c7, xs, by simp [encM], ?_, wf_u8 w6, hx⟩
    intro x hx
    simp at hx
    rcases hx with rfl | rfl | rfl | rfl | rfl | rfl <;> assumption
end
end Yteijenefhoconaa
end Go.Proofs
