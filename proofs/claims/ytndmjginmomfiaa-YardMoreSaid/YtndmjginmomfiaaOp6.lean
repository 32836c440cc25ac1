/- A yard by numbers, and slices of bytes, opened. -/
import Derived.Test.YtndmjginmomfiaaOp5
import Derived.Test.YtndmjginmomfiaaM32
import Derived.Laws.IdiomArrays
open Go Go.RowKit Go.YtndmjginmomfiaaIt
namespace Go.Proofs
namespace Ytndmjginmomfiaa
open Go.ChangeShapes Go.WideShapes Go.ChangeAt
/-- A slice of bytes. -/
def SlB (w : World) (v : Value) (os : List Int) : Prop :=
  (∃ ad cap, v = .slice ad os.length cap ∧ os.length ≤ 9223372036854775807 ∧ (0 < os.length → ∃ b off, ad = some ⟨b, off, none⟩ ∧ b < w.heap.size ∧ ∀ i, i < os.length → w.cell? ⟨b, off + i, none⟩ = some (.int .u8 (at0 os i)))) ∧
  ∀ i, i < os.length → 0 ≤ at0 os i ∧ at0 os i < 256
theorem SlB.below {w w' : World} {v : Value} {xs : List Int} {B : Nat} (h : SlB w v xs) (hb : Below B w w') (hB : w.heap.size ≤ B) : SlB w' v xs := by
  obtain ⟨⟨ad, cap, hv, hm, hc⟩, hx⟩ := h
  refine ⟨⟨ad, cap, hv, hm, fun h0 => ?_⟩, hx⟩
  obtain ⟨b, off, ha, hlt, hcell⟩ := hc h0
  exact ⟨b, off, ha, Nat.lt_of_lt_of_le hlt hb.size, fun i hi => (hb.cell (p := ⟨b, off + i, none⟩) (by simpa using by omega)).trans (hcell i hi)⟩
/-- A slice of triples of bytes. -/
structure T3 where
  a : Int
  b : Int
  c : Int
def T3.ok (q : T3) : Prop := (0 ≤ q.a ∧ q.a < 256) ∧ (0 ≤ q.b ∧ q.b < 256) ∧ (0 ≤ q.c ∧ q.c < 256)
def encT (q : T3) : List Value := [.int .u8 q.a, .int .u8 q.b, .int .u8 q.c]
def SlT3 (w : World) (v : Value) (qs : List T3) : Prop :=
  ∃ ad cap, v = .slice ad qs.length cap ∧ qs.length ≤ 9223372036854775807 ∧
    (0 < qs.length → ∃ b off, ad = some ⟨b, off, none⟩ ∧ b < w.heap.size ∧ ∀ i (h : i < qs.length) f u, (encT qs[i])[f]? = some u → w.cell? ⟨b, off + i * 3 + f, none⟩ = some u)
theorem SlT3.below {w w' : World} {v : Value} {xs : List T3} {B : Nat} (h : SlT3 w v xs) (hb : Below B w w') (hB : w.heap.size ≤ B) : SlT3 w' v xs := by
  obtain ⟨ad, cap, hv, hm, hc⟩ := h
  refine ⟨ad, cap, hv, hm, fun h0 => ?_⟩
  obtain ⟨b, off, ha, hlt, hcell⟩ := hc h0
  exact ⟨b, off, ha, Nat.lt_of_lt_of_le hlt hb.size, fun i hi f u hu => (hb.cell (p := ⟨b, _, none⟩) (by simpa using by omega)).trans (hcell i hi f u hu)⟩
section
variable {H : Type} {enc : TypeId × Value → H}
theorem one5 : Try.prog.cellsOf 5 = 1 := by kernel_rfl
theorem four79 : Try.prog.cellsOf 79 = 4 := by kernel_rfl
theorem one60 : Try.prog.cellsOf 60 = 1 := by kernel_rfl
theorem four62 : Try.prog.cellsOf 62 = 4 := by kernel_rfl
theorem wf_u8 {n : Int} (h : (Lit.int .u8 n).wf = true) : 0 ≤ n ∧ n < 256 := by
  simp [Lit.wf, IntKind.min, IntKind.max, IntKind.signed, IntKind.bits] at h
  omega
theorem trod_q4 {W : World} {fuel : Nat} {cs : List Value} {x : DataW H × List MemPlace} (hc : cs.length = 4) (h : DataW.trod enc Try.prog W 0 (fun _ => true) true fuel 79 cs = some x) : ∃ q : Q4, cs = encQ q ∧ q.ok := by
  match cs, hc with
  | [a, b, c, d], _ =>
    obtain ⟨y0, y1, y2, y3, n, _, h0, h1, h2, h3⟩ := trod_array4 Try.underlying79 one5 h
    obtain ⟨p0, e0, _, w0⟩ := DataW.trod_int Try.underlying5 h0
    obtain ⟨p1, e1, _, w1⟩ := DataW.trod_int Try.underlying5 h1
    obtain ⟨p2, e2, _, w2⟩ := DataW.trod_int Try.underlying5 h2
    obtain ⟨p3, e3, _, w3⟩ := DataW.trod_int Try.underlying5 h3
    simp at e0 e1 e2 e3
    subst e0 e1 e2 e3
    exact ⟨⟨p0, p1, p2, p3⟩, rfl, wf_u8 w0, wf_u8 w1, wf_u8 w2, wf_u8 w3⟩
instance : Inhabited Q4 := ⟨⟨0, 0, 0, 0⟩⟩
set_option maxRecDepth 100000 in
theorem trod_qs {W : World} {fuel : Nat} {cs : List Value} {x : DataW H × List MemPlace} (h : DataW.trod enc Try.prog W 0 (fun _ => true) true fuel 60 cs = some x) (hblk : ∀ y ∈ x.2, y.block < W.heap.size) : ∃ v qs, cs = [v] ∧ (∀ q ∈ qs, q.ok) ∧ SlQ W v qs := by
  rcases Deep.open_slice Try.underlying60 h with ⟨rfl, rfl⟩ | ⟨a, len, cap, m, n, D, Pl, rfl, _, hl, hm, hmm, rfl, hx⟩
  · exact ⟨_, [], rfl, by simp, none, 0, rfl, by simp, by simp, fun h => by simp at h⟩
  · simp only [if_true] at hmm
    have each : ∀ i, i < m → ∃ q : Q4, q.ok ∧ W.cell? (a.add (i * 4)) = some (.int .u8 q.a) ∧ W.cell? (a.add (i * 4 + 1)) = some (.int .u8 q.b) ∧ W.cell? (a.add (i * 4 + 2)) = some (.int .u8 q.c) ∧ W.cell? (a.add (i * 4 + 3)) = some (.int .u8 q.d) := by
      intro i hi
      obtain ⟨cs', h1, h2⟩ := hx i hi
      rw [four79] at h1
      obtain ⟨_, hcl, hcell⟩ := World.cells?_some h1
      obtain ⟨q, rfl, hq⟩ := trod_q4 hcl h2
      have k0 := hcell 0 (by omega)
      have k1 := hcell 1 (by omega)
      have k2 := hcell 2 (by omega)
      have k3 := hcell 3 (by omega)
      rw [Deep.add_add] at k0 k1 k2 k3
      exact ⟨q, hq, by simpa [encQ] using k0, by simpa [encQ] using k1, by simpa [encQ] using k2, by simpa [encQ] using k3⟩
    obtain ⟨q, hq⟩ := Deep.choose_lt each
    have hmx : maxLen = 9223372036854775807 := by decide
    refine ⟨_, (List.range len).map q, rfl, ?_, some a, cap, by simp, by simp only [List.length_map, List.length_range]; omega, by simpa using hl, fun h0 => ?_⟩
    · intro z hz
      obtain ⟨i, hi, rfl⟩ := List.mem_map.1 hz
      exact (hq i (by have := List.mem_range.1 hi; omega)).1
    · simp only [List.length_map, List.length_range] at h0 ⊢
      have hsp := spot_none (a := a) (by simpa using (hq 0 (by omega)).2.1)
      refine ⟨a.block, a.off, by rw [← hsp], ?_, fun i hi f u hu => ?_⟩
      · refine hblk (.cell a.block a.off) (List.mem_append_left _ ?_)
        rw [four79]
        exact MemPlace.mem_row.2 ⟨0, by omega, by simp⟩
      · have h := (hq i (by omega)).2
        rw [hsp, add_at, add_at, add_at, add_at] at h
        rw [List.getElem_map, List.getElem_range] at hu
        obtain ⟨g0, g1, g2, g3⟩ := h
        match f, hu with
        | 0, hu => simp [encQ] at hu; subst hu; exact g0
        | 1, hu => simp [encQ] at hu; subst hu; rw [Nat.add_assoc]; exact g1
        | 2, hu => simp [encQ] at hu; subst hu; rw [Nat.add_assoc]; exact g2
        | 3, hu => simp [encQ] at hu; subst hu; rw [Nat.add_assoc]; exact g3
        | f + 4, hu => simp [encQ] at hu
set_option maxRecDepth 100000 in
theorem opened_place {W : World} {base : Nat} {v : Value} {d : DataW H} {ps : List MemPlace} (hval : Value.okWide Try.prog W .any base 62 v) (hd : DataW.Trod enc Try.prog W 0 (fun _ => true) true 62 v d ps) (hblk : ∀ x ∈ ps, x.block < W.heap.size) :
    ∃ (r m l : Int) (u : Value) (qs : List Q4), v = encP r m l u ∧ ((0 ≤ r ∧ r < 256) ∧ (0 ≤ m ∧ m < 256) ∧ (0 ≤ l ∧ l < 256)) ∧ (∀ q ∈ qs, q.ok) ∧ SlQ W u qs := by
  obtain ⟨cs, rfl, hcs⟩ := okWide_struct Try.underlying62 hval
  rw [four62] at hcs
  obtain ⟨fuel, hf⟩ := hd
  obtain ⟨xs, k, _, hxe, _, hlen, hz⟩ := DataW.trod_struct Try.underlying62 hf
  obtain ⟨l⟩ := cs
  simp only [List.size_toArray] at hcs
  match l, hcs, xs, hlen with
  | [a, b, c, e], _, [z0, z1, z2, z3], _ =>
    simp only [Prod.mk.injEq] at hxe
    obtain ⟨rfl, rfl⟩ := hxe
    have g0 := hz 0 _ rfl
    have g1 := hz 1 _ rfl
    have g2 := hz 2 _ rfl
    have g3 := hz 3 _ rfl
    simp [one5, one60, Value.cells] at g0 g1 g2 g3
    obtain ⟨p0, e0, _, w0⟩ := DataW.trod_int Try.underlying5 g0
    obtain ⟨p1, e1, _, w1⟩ := DataW.trod_int Try.underlying5 g1
    obtain ⟨p2, e2, _, w2⟩ := DataW.trod_int Try.underlying5 g2
    obtain ⟨u, qs, e3, hq, hw⟩ := trod_qs g3 (fun y hy => hblk y (by simp [hy]))
    simp at e0 e1 e2 e3
    subst e0 e1 e2 e3
    exact ⟨p0, p1, p2, e, qs, rfl, ⟨wf_u8 w0, wf_u8 w1, wf_u8 w2⟩, hq, hw⟩
set_option maxRecDepth 100000 in
theorem trod_bytes {W : World} {t e : TypeId} {fuel : Nat} {cs : List Value} {x : DataW H × List MemPlace} (ht : Try.prog.underlying t = some (.slice e)) (he : Try.prog.underlying e = some (.int .u8)) (hc : Try.prog.cellsOf e = 1)
    (h : DataW.trod enc Try.prog W 0 (fun _ => true) true fuel t cs = some x) (hblk : ∀ y ∈ x.2, y.block < W.heap.size) : ∃ v os, cs = [v] ∧ SlB W v os := by
  rcases Deep.open_slice ht h with ⟨rfl, rfl⟩ | ⟨a, len, cap, m, n, D, Pl, rfl, _, hl, hm, hmm, rfl, hx⟩
  · exact ⟨_, [], rfl, ⟨none, 0, rfl, by simp, fun h => by simp at h⟩, fun i hi => by simp at hi⟩
  · simp only [if_true] at hmm
    have each : ∀ i, i < m → ∃ q : Int, W.cell? (a.add i) = some (.int .u8 q) ∧ 0 ≤ q ∧ q < 256 := by
      intro i hi
      obtain ⟨cs', h1, h2⟩ := hx i hi
      rw [hc] at h1
      obtain ⟨_, hcl, hcell⟩ := World.cells?_some h1
      obtain ⟨q, hq, _, wq⟩ := DataW.trod_int he h2
      subst hq
      have k0 := hcell 0 (by omega)
      rw [Deep.add_add] at k0
      exact ⟨q, by simpa using k0, wf_u8 wq⟩
    obtain ⟨q, hq⟩ := Deep.choose_lt each
    have hmx : maxLen = 9223372036854775807 := by decide
    have hat : ∀ i, i < len → at0 ((List.range len).map q) i = q i := fun i hi => by
      unfold at0
      simp [List.getD_eq_getElem?_getD, hi]
    refine ⟨_, (List.range len).map q, rfl, ⟨some a, cap, by simp, by simp only [List.length_map, List.length_range]; omega, fun h0 => ?_⟩, fun i hi => ?_⟩
    · simp only [List.length_map, List.length_range] at h0 ⊢
      have hsp := spot_none (a := a) (hq 0 (by omega)).1
      refine ⟨a.block, a.off, by rw [← hsp], ?_, fun i hi => ?_⟩
      · refine hblk (.cell a.block a.off) (List.mem_append_left _ ?_)
        rw [hc]
        exact MemPlace.mem_row.2 ⟨0, by omega, by simp⟩
      · have h := (hq i (by omega)).1
        rw [hsp, add_at] at h
        rw [h, hat i hi]
    · simp only [List.length_map, List.length_range] at hi
      rw [hat i hi]
      exact (hq i (by omega)).2
set_option maxRecDepth 100000 in
theorem opened_bytes {W : World} {base : Nat} {v : Value} {d : DataW H} {ps : List MemPlace} (hval : Value.okWide Try.prog W .any base 73 v) (hd : DataW.Trod enc Try.prog W 0 (fun _ => true) true 73 v d ps) (hblk : ∀ x ∈ ps, x.block < W.heap.size) :
    ∃ os : List Int, SlB W v os := by
  obtain ⟨a0, len, cap, rfl⟩ := okWide_slice Try.underlying73 hval
  obtain ⟨fuel, hf⟩ := hd
  obtain ⟨v, os, hv, h⟩ := trod_bytes Try.underlying73 Try.underlying5 one5 hf hblk
  simp [Value.cells] at hv
  subst hv
  exact ⟨os, h⟩
end
end Ytndmjginmomfiaa
end Go.Proofs
