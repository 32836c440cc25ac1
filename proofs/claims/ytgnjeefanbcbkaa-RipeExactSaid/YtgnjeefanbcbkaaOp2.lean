/- A crop and a plot by numbers, bytes and triples of bytes, opened. -/
import Derived.Test.YtgnjeefanbcbkaaOp
import Derived.Test.YtgnjeefanbcbkaaD5
import Derived.Laws.IdiomArrays
open Go Go.RowKit Go.YtgnjeefanbcbkaaIt
namespace Go.Proofs
namespace Ytgnjeefanbcbkaa
open Go.ChangeShapes Go.WideShapes Go.ChangeAt
section
variable {H : Type} {enc : TypeId × Value → H}
theorem one5 : Try.prog.cellsOf 5 = 1 := by kernel_rfl
theorem one59 : Try.prog.cellsOf 59 = 1 := by kernel_rfl
theorem one61 : Try.prog.cellsOf 61 = 1 := by kernel_rfl
theorem two60 : Try.prog.cellsOf 60 = 2 := by kernel_rfl
theorem seven63 : Try.prog.cellsOf 63 = 7 := by kernel_rfl
theorem two70 : Try.prog.cellsOf 70 = 2 := by kernel_rfl
theorem wf_u8 {n : Int} (h : (Lit.int .u8 n).wf = true) : 0 ≤ n ∧ n < 256 := by
  simp [Lit.wf, IntKind.min, IntKind.max, IntKind.signed, IntKind.bits] at h
  omega
theorem wf_u16 {n : Int} (h : (Lit.int .u16 n).wf = true) : 0 ≤ n ∧ n < 65536 := by
  simp [Lit.wf] at h
  have h1 : IntKind.u16.min = 0 := rfl
  have h2 : IntKind.u16.max = 65535 := rfl
  omega
theorem okWide_arr {P : Program} {w : World} {r : Reach} {base : Nat} {t e : TypeId} {n : Nat} {v : Value} (ht : P.underlying t = some (.array n e)) (h : Value.okWide P w r base t v) : ∃ cs, v = .agg cs ∧ cs.size = P.cellsOf t := by
  simp only [Value.okWide, ht] at h
  obtain ⟨cs, h1, h2, _⟩ := h
  exact ⟨cs, h1, h2⟩
set_option maxRecDepth 100000 in
theorem trod_bytes {W : World} {t e : TypeId} {fuel : Nat} {cs : List Value} {x : DataW H × List MemPlace} (ht : Try.prog.underlying t = some (.slice e)) (he : Try.prog.underlying e = some (.int .u8)) (hc : Try.prog.cellsOf e = 1)
    (h : DataW.trod enc Try.prog W 0 (fun _ => true) true fuel t cs = some x) (hblk : ∀ y ∈ x.2, y.block < W.heap.size) : ∃ v os, cs = [v] ∧ SlB W v os := by
  rcases Deep.open_slice ht h with ⟨rfl, rfl⟩ | ⟨a, len, cap, m, n, D, Pl, rfl, _, hl, hm, hmm, rfl, hx⟩
  · exact ⟨_, [], rfl, ⟨none, 0, rfl, by simp, fun h => by simp at h⟩, fun i hi => by simp at hi⟩
  · simp only [if_true] at hmm
    have each : ∀ i, i < m → ∃ q : Int, W.cell? (a.add i) = some (.int .u8 q) ∧ 0 ≤ q ∧ q < 256 := by
      intro i hi
      obtain ⟨cs', h1, h2⟩ := hx i hi
      rw [hc] at h1
      obtain ⟨_, hcl, hcell⟩ := World.cells?_some h1
      obtain ⟨q, hq, _, wq⟩ := DataW.trod_int he h2
      subst hq
      have k0 := hcell 0 (by omega)
      rw [Deep.add_add] at k0
      exact ⟨q, by simpa using k0, wf_u8 wq⟩
    obtain ⟨q, hq⟩ := Deep.choose_lt each
    have hmx : maxLen = 9223372036854775807 := by decide
    have hat : ∀ i, i < len → at0 ((List.range len).map q) i = q i := fun i hi => by
      unfold at0
      simp [List.getD_eq_getElem?_getD, hi]
    refine ⟨_, (List.range len).map q, rfl, ⟨some a, cap, by simp, by simp only [List.length_map, List.length_range]; omega, fun h0 => ?_⟩, fun i hi => ?_⟩
    · simp only [List.length_map, List.length_range] at h0 ⊢
      have hsp := spot_none (a := a) (hq 0 (by omega)).1
      refine ⟨a.block, a.off, by rw [← hsp], ?_, fun i hi => ?_⟩
      · refine hblk (.cell a.block a.off) (List.mem_append_left _ ?_)
        rw [hc]
        exact MemPlace.mem_row.2 ⟨0, by omega, by simp⟩
      · have h := (hq i (by omega)).1
        rw [hsp, add_at] at h
        rw [h, hat i hi]
    · simp only [List.length_map, List.length_range] at hi
      rw [hat i hi]
      exact (hq i (by omega)).2
theorem three80 : Try.prog.cellsOf 80 = 3 := by kernel_rfl
theorem trod_t3 {W : World} {fuel : Nat} {cs : List Value} {x : DataW H × List MemPlace} (hc : cs.length = 3) (h : DataW.trod enc Try.prog W 0 (fun _ => true) true fuel 80 cs = some x) : ∃ q : B3, cs = encB q ∧ q.ok := by
  match cs, hc with
  | [a, b, c], _ =>
    obtain ⟨y0, y1, y2, n, _, h0, h1, h2⟩ := trod_array3 Try.underlying80 one5 h
    obtain ⟨p0, e0, _, w0⟩ := DataW.trod_int Try.underlying5 h0
    obtain ⟨p1, e1, _, w1⟩ := DataW.trod_int Try.underlying5 h1
    obtain ⟨p2, e2, _, w2⟩ := DataW.trod_int Try.underlying5 h2
    simp at e0 e1 e2
    subst e0 e1 e2
    exact ⟨⟨p0, p1, p2⟩, rfl, wf_u8 w0, wf_u8 w1, wf_u8 w2⟩
instance : Inhabited B3 := ⟨⟨0, 0, 0⟩⟩
set_option maxRecDepth 100000 in
theorem trod_ts {W : World} {fuel : Nat} {cs : List Value} {x : DataW H × List MemPlace} (h : DataW.trod enc Try.prog W 0 (fun _ => true) true fuel 61 cs = some x) (hblk : ∀ y ∈ x.2, y.block < W.heap.size) : ∃ v qs, cs = [v] ∧ SlT W v qs := by
  rcases Deep.open_slice Try.underlying61 h with ⟨rfl, rfl⟩ | ⟨a, len, cap, m, n, D, Pl, rfl, _, hl, hm, hmm, rfl, hx⟩
  · exact ⟨_, [], rfl, ⟨none, 0, rfl, by simp, fun h => by simp at h⟩, by simp⟩
  · simp only [if_true] at hmm
    have each : ∀ i, i < m → ∃ q : B3, q.ok ∧ W.cell? (a.add (i * 3)) = some (.int .u8 q.a) ∧ W.cell? (a.add (i * 3 + 1)) = some (.int .u8 q.b) ∧ W.cell? (a.add (i * 3 + 2)) = some (.int .u8 q.c) := by
      intro i hi
      obtain ⟨cs', h1, h2⟩ := hx i hi
      rw [three80] at h1
      obtain ⟨_, hcl, hcell⟩ := World.cells?_some h1
      obtain ⟨q, rfl, hq⟩ := trod_t3 hcl h2
      have k0 := hcell 0 (by omega)
      have k1 := hcell 1 (by omega)
      have k2 := hcell 2 (by omega)
      rw [Deep.add_add] at k0 k1 k2
      exact ⟨q, hq, by simpa [encB] using k0, by simpa [encB] using k1, by simpa [encB] using k2⟩
    obtain ⟨q, hq⟩ := Deep.choose_lt each
    have hmx : maxLen = 9223372036854775807 := by decide
    refine ⟨_, (List.range len).map q, rfl, ⟨some a, cap, by simp, by simp only [List.length_map, List.length_range]; omega, fun h0 => ?_⟩, fun z hz => ?_⟩
    rotate_left
    · obtain ⟨i, hi, rfl⟩ := List.mem_map.1 hz
      exact (hq i (by have := List.mem_range.1 hi; omega)).1
    · simp only [List.length_map, List.length_range] at h0 ⊢
      have hsp := spot_none (a := a) (by simpa using (hq 0 (by omega)).2.1)
      refine ⟨a.block, a.off, by rw [← hsp], ?_, fun i hi f u hu => ?_⟩
      · refine hblk (.cell a.block a.off) (List.mem_append_left _ ?_)
        rw [three80]
        exact MemPlace.mem_row.2 ⟨0, by omega, by simp⟩
      · have h := (hq i (by omega)).2
        rw [hsp, add_at, add_at, add_at] at h
        rw [List.getElem_map, List.getElem_range] at hu
        obtain ⟨g0, g1, g2⟩ := h
        match f, hu with
        | 0, hu => simp [encB] at hu; subst hu; exact g0
        | 1, hu => simp [encB] at hu; subst hu; rw [Nat.add_assoc]; exact g1
        | 2, hu => simp [encB] at hu; subst hu; rw [Nat.add_assoc]; exact g2
        | f + 3, hu => simp [encB] at hu
set_option maxRecDepth 100000 in
theorem opened_triples {W : World} {base : Nat} {v : Value} {d : DataW H} {ps : List MemPlace} (hval : Value.okWide Try.prog W .any base 61 v) (hd : DataW.Trod enc Try.prog W 0 (fun _ => true) true 61 v d ps) (hblk : ∀ x ∈ ps, x.block < W.heap.size) :
    ∃ os : List B3, SlT W v os := by
  obtain ⟨a0, len, cap, rfl⟩ := okWide_slice Try.underlying61 hval
  obtain ⟨fuel, hf⟩ := hd
  obtain ⟨v, os, hv, h⟩ := trod_ts hf hblk
  simp [Value.cells] at hv
  subst hv
  exact ⟨os, h⟩
set_option maxRecDepth 100000 in
theorem opened_crop {W : World} {base : Nat} {v : Value} {d : DataW H} {ps : List MemPlace} (hval : Value.okWide Try.prog W .any base 63 v) (hd : DataW.Trod enc Try.prog W 0 (fun _ => true) true 63 v d ps) (hblk : ∀ x ∈ ps, x.block < W.heap.size) :
    ∃ (wk fs st ra rb : Int) (vf vs : Value) (falls : List Int) (sm : List B3), v = .agg #[.int .u8 wk, .int .u8 fs, .int .u8 st, vf, .int .u8 ra, .int .u8 rb, vs] ∧ (0 ≤ wk ∧ wk < 256) ∧ (0 ≤ fs ∧ fs < 256) ∧ (0 ≤ st ∧ st < 256) ∧ (0 ≤ ra ∧ ra < 256) ∧ (0 ≤ rb ∧ rb < 256) ∧ SlB W vf falls ∧ SlT W vs sm := by
  obtain ⟨cs, rfl, hcs⟩ := okWide_struct Try.underlying63 hval
  rw [seven63] at hcs
  obtain ⟨fuel, hf⟩ := hd
  obtain ⟨xs, k, _, hxe, _, hlen, hz⟩ := DataW.trod_struct Try.underlying63 hf
  obtain ⟨l⟩ := cs
  simp only [List.size_toArray] at hcs
  match l, hcs, xs, hlen with
  | [a, b, c, e, f, g, h], _, [z0, z1, z2, z3, z4, z5], _ =>
    simp only [Prod.mk.injEq] at hxe
    obtain ⟨rfl, rfl⟩ := hxe
    have g0 := hz 0 _ rfl
    have g1 := hz 1 _ rfl
    have g2 := hz 2 _ rfl
    have g3 := hz 3 _ rfl
    have g4 := hz 4 _ rfl
    have g5 := hz 5 _ rfl
    simp [one5, one59, one61, two60, Value.cells] at g0 g1 g2 g3 g4 g5
    obtain ⟨p0, e0, _, w0⟩ := DataW.trod_int Try.underlying5 g0
    obtain ⟨p1, e1, _, w1⟩ := DataW.trod_int Try.underlying5 g1
    obtain ⟨p2, e2, _, w2⟩ := DataW.trod_int Try.underlying5 g2
    obtain ⟨u3, q3, e3, h3⟩ := trod_bytes Try.underlying59 Try.underlying5 one5 g3 (fun y hy => hblk y (by simp [hy]))
    obtain ⟨u5, q5, e5, h5⟩ := trod_ts g5 (fun y hy => hblk y (by simp [hy]))
    obtain ⟨ys, k', _, _, _, hlen', hf'⟩ := DataW.trod_array Try.underlying60 g4
    match ys, hlen' with
    | [y0, y1], _ =>
      have r0 := hf' 0 (by omega)
      have r1 := hf' 1 (by omega)
      simp [one5] at r0 r1
      obtain ⟨p6, e6, _, w6⟩ := DataW.trod_int Try.underlying5 r0
      obtain ⟨p7, e7, _, w7⟩ := DataW.trod_int Try.underlying5 r1
      simp at e0 e1 e2 e3 e5 e6 e7
      subst e0 e1 e2 e3 e5 e6 e7
      exact ⟨p0, p1, p2, p6, p7, _, _, q3, q5, rfl, wf_u8 w0, wf_u8 w1, wf_u8 w2, wf_u8 w6, wf_u8 w7, h3, h5⟩
set_option maxRecDepth 100000 in
theorem opened_plot {W : World} {base : Nat} {v : Value} {d : DataW H} {ps : List MemPlace} (hval : Value.okWide Try.prog W .any base 70 v) (hd : DataW.Trod enc Try.prog W 0 (fun _ => true) true 70 v d ps) (hblk : ∀ x ∈ ps, x.block < W.heap.size) :
    ∃ (wk : Int) (vs : Value) (sm : List B3), v = .agg #[.int .u8 wk, vs] ∧ (0 ≤ wk ∧ wk < 256) ∧ SlT W vs sm := by
  obtain ⟨cs, rfl, hcs⟩ := okWide_struct Try.underlying70 hval
  rw [two70] at hcs
  obtain ⟨fuel, hf⟩ := hd
  obtain ⟨xs, k, _, hxe, _, hlen, hz⟩ := DataW.trod_struct Try.underlying70 hf
  obtain ⟨l⟩ := cs
  simp only [List.size_toArray] at hcs
  match l, hcs, xs, hlen with
  | [a, b], _, [z0, z1], _ =>
    simp only [Prod.mk.injEq] at hxe
    obtain ⟨rfl, rfl⟩ := hxe
    have g0 := hz 0 _ rfl
    have g1 := hz 1 _ rfl
    simp [one5, one61, Value.cells] at g0 g1
    obtain ⟨p0, e0, _, w0⟩ := DataW.trod_int Try.underlying5 g0
    obtain ⟨u5, q5, e5, h5⟩ := trod_ts g1 (fun y hy => hblk y (by simp [hy]))
    simp at e0 e5
    subst e0 e5
    exact ⟨p0, _, q5, rfl, wf_u8 w0, h5⟩
set_option maxRecDepth 100000 in
theorem opened_three8 {W : World} {base : Nat} {v : Value} {d : DataW H} {ps : List MemPlace} (hval : Value.okWide Try.prog W .any base 80 v) (hd : DataW.Trod enc Try.prog W 0 (fun _ => true) true 80 v d ps) :
    ∃ e0 e1 e2 : Int, v = .agg #[.int .u8 e0, .int .u8 e1, .int .u8 e2] ∧ ((0 ≤ e0 ∧ e0 < 256) ∧ (0 ≤ e1 ∧ e1 < 256) ∧ (0 ≤ e2 ∧ e2 < 256)) := by
  obtain ⟨cs, rfl, hcs⟩ := okWide_arr Try.underlying80 hval
  rw [three80] at hcs
  obtain ⟨fuel, hf⟩ := hd
  obtain ⟨xs, k, _, _, _, hlen, hz⟩ := DataW.trod_array Try.underlying80 hf
  obtain ⟨l⟩ := cs
  simp only [List.size_toArray] at hcs
  match l, hcs, xs, hlen with
  | [a, b, c], _, [z0, z1, z2], _ =>
    have g0 := hz 0 (by omega)
    have g1 := hz 1 (by omega)
    have g2 := hz 2 (by omega)
    simp [one5, Value.cells] at g0 g1 g2
    obtain ⟨p0, e0, _, w0⟩ := DataW.trod_int Try.underlying5 g0
    obtain ⟨p1, e1, _, w1⟩ := DataW.trod_int Try.underlying5 g1
    obtain ⟨p2, e2, _, w2⟩ := DataW.trod_int Try.underlying5 g2
    simp at e0 e1 e2
    subst e0 e1 e2
    exact ⟨p0, p1, p2, rfl, wf_u8 w0, wf_u8 w1, wf_u8 w2⟩
end
end Ytgnjeefanbcbkaa
end Go.Proofs
