/- What the arguments of the laws of layer 06 read as: a house, bytes, four and five bytes. -/
import Derived.Test.YteileadcmekkoaaMd
import Derived.Deep.SlicePairs
import Derived.Deep.Strs
import Derived.SizedLaws
import Derived.Carry
import Derived.ChangeSlices
import Derived.Laws.IdiomArrays
open Go Go.RowKit Go.YteileadcmekkoaaIt
namespace Go.Proofs
namespace Yteileadcmekkoaa
open Go.ChangeShapes Go.WideShapes Go.ChangeAt
section
variable {H : Type} {enc : TypeId × Value → H} {P : Program}
theorem spot_none {W : World} {a : Addr} {u : Value} (h : W.cell? (a.add 0) = some u) : a = ⟨a.block, a.off, none⟩ := by
  obtain ⟨b, o, s⟩ := a
  simp only [Addr.add, if_true] at h
  unfold World.cell? at h
  split at h
  · simp only at h
    cases s with
    | none => rfl
    | some x => simp at h
  · cases h
/-- Nothing that a value holds takes more than the reach. -/
def Sz (P : Program) (t : TypeId) (d : DataW H) : Prop := ∀ n ∈ d.weights P t, n ≤ reachBytes
theorem sz_top {ts : List TypeId} {ds : List (DataW H)} (h : (DataW.weightsEach P ts ds).all (· ≤ reachBytes) = true) {j : Nat} {t : TypeId} {d : DataW H} (ht : ts[j]? = some t) (hd : ds[j]? = some d) : Sz P t d := fun n hn => by
  have := List.all_eq_true.1 h _ (DataW.weights_mem_each ht hd n hn)
  simpa using this
theorem sz_struct {t : TypeId} {fs : Array Field} {parts : List (DataW H)} (h : Sz P t (.agg parts)) (hu : P.underlying t = some (.struct fs)) {i : Nat} {f : Field} {p : DataW H} (hf : fs[i]? = some f) (hp : parts[i]? = some p) : Sz P f.type p := fun n hn => by
  refine h n ?_
  simp only [DataW.weights, hu]
  refine DataW.weights_mem_each (j := i) ?_ hp n hn
  rw [List.getElem?_map, Array.getElem?_toList, hf]; rfl
theorem sz_slice {t e : TypeId} {el sp : List (DataW H)} (h : Sz P t (.slice el sp)) (hu : P.underlying t = some (.slice e)) : (el.length + sp.length) * P.bytesOf e ≤ reachBytes := h _ (by simp [DataW.weights, hu])
theorem weightsAll_mem {e : TypeId} : ∀ {l : List (DataW H)} {i : Nat} {p : DataW H}, l[i]? = some p → ∀ n ∈ p.weights P e, n ∈ DataW.weightsAll P e l
  | x :: l, 0, p, hp, n, hn => by simp at hp; subst hp; simp only [DataW.weightsAll, List.mem_append]; exact .inl hn
  | x :: l, i + 1, p, hp, n, hn => by simp at hp; simp only [DataW.weightsAll, List.mem_append]; exact .inr (weightsAll_mem hp n hn)
  | [], _, _, hp, _, _ => by simp at hp
theorem sz_elem {t e : TypeId} {el sp : List (DataW H)} (h : Sz P t (.slice el sp)) (hu : P.underlying t = some (.slice e)) {i : Nat} {p : DataW H} (hp : el[i]? = some p) : Sz P e p := fun n hn => by
  refine h n ?_
  simp only [DataW.weights, hu, List.mem_cons, List.mem_append]
  exact .inr (.inl (weightsAll_mem hp n hn))
/-- A slice of ints, opened. -/
theorem trod_ints {W : World} {t e : TypeId} {fuel : Nat} {cs : List Value} {x : DataW H × List MemPlace} (ht : P.underlying t = some (.slice e)) (he : P.underlying e = some (.int .i64)) (hc : P.cellsOf e = 1) (hby : P.bytesOf e = 8)
    (hf : DataW.trod enc P W 0 (fun _ => true) true fuel t cs = some x) (hblk : ∀ y ∈ x.2, y.block < W.heap.size) (hsz : Sz P t x.1) : ∃ v xs, cs = [v] ∧ SlI W v xs := by
  rcases open_ints ht he hc hf with ⟨rfl, rfl⟩ | ⟨a, len, cap, zs, rfl, _, hl, hm, hz, rfl, hcell, hwz⟩
  · exact ⟨_, [], rfl, slI_nil _⟩
  · simp only [if_true] at hz
    have hr := sz_slice hsz ht
    have hlen : (zs.take len).length = len := by simp; omega
    refine ⟨_, zs.take len, rfl, some a, cap, by rw [hlen], ?_, by rw [hlen]; exact hl, fun h0 => ?_⟩
    · rw [hby] at hr
      simp only [lits, List.length_map, reachBytes] at hr
      rw [hlen] at hr ⊢
      omega
    · rw [hlen] at h0
      have hz0 : 0 < zs.length := by omega
      have hsp := spot_none (hcell 0 hz0)
      refine ⟨a.block, a.off, by rw [← hsp], ?_, fun i hi => ?_⟩
      · exact hblk (.cell a.block a.off) (MemPlace.mem_row.2 ⟨0, by omega, by simp⟩)
      · rw [hlen] at hi
        have h := hcell i (by omega)
        rw [hsp, add_at] at h
        rw [h]
        unfold at0
        simp [List.getD_eq_getElem?_getD, hi]
end
section
variable {H : Type} {enc : TypeId × Value → H} {P : Program}
/-- All arguments read behind the call as they did before. -/
theorem trodAll_stays (hl : laidOutB P = true) {W W' : World} (hb : Below W.heap.size W W') {sp : Nat → Bool} : ∀ {ts : List TypeId} {vs : List Value} {ds : List (DataW H)} {ps : List MemPlace},
    (∀ t ∈ ts, P.readableRec t = true ∧ t < P.types.size) → DataW.TrodAll enc P W 0 (fun _ => true) true ts vs ds ps → (∀ x ∈ ps, x.block < W.heap.size) → (∀ x ∈ ps, sp x.block = true) → DataW.TrodAll enc P W' 0 sp true ts vs ds ps
  | [], vs, ds, ps, _, h, _, _ => by
    obtain ⟨rfl, rfl, rfl⟩ := trodAll_nil h
    rfl
  | t :: ts, vs, ds, ps, hr, h, hlt, hs => by
    obtain ⟨v, vs', d, ds', p, q, rfl, rfl, rfl, h1, h2⟩ := trodAll_cons h
    have ht := hr t (by simp)
    refine trodAll_cons_mk (WideElems.Trod_stays hl ht.1 ht.2 h1 (fun x hx => hb.same (hlt x (by simp [hx]))) (fun x hx => hs x (by simp [hx]))) ?_
    exact trodAll_stays hl hb (fun t' h' => hr t' (by simp [h'])) h2 (fun x hx => hlt x (by simp [hx])) (fun x hx => hs x (by simp [hx]))
end
section
variable {H : Type} {enc : TypeId × Value → H} {P : Program} {w : World} {base : Nat} {spare : Nat → Bool} {held : Bool}
theorem trodAll_five {t0 t1 t2 t3 t4 : TypeId} {args : Array Value} {ds : List (DataW H)} {ps : List MemPlace} (h : DataW.TrodAll enc P w base spare held [t0, t1, t2, t3, t4] args.toList ds ps) :
    ∃ v0 v1 v2 v3 v4 d0 d1 d2 d3 d4 p0 p1 p2 p3 p4, args = #[v0, v1, v2, v3, v4] ∧ ds = [d0, d1, d2, d3, d4] ∧ ps = p0 ++ p1 ++ p2 ++ p3 ++ p4 ∧ DataW.Trod enc P w base spare held t0 v0 d0 p0 ∧ DataW.Trod enc P w base spare held t1 v1 d1 p1 ∧ DataW.Trod enc P w base spare held t2 v2 d2 p2 ∧ DataW.Trod enc P w base spare held t3 v3 d3 p3 ∧ DataW.Trod enc P w base spare held t4 v4 d4 p4 := by
  obtain ⟨v0, vs0, d0, ds0, p0, q0, hargs, rfl, rfl, h0, r0⟩ := trodAll_cons h
  obtain ⟨v1, vs1, d1, ds1, p1, q1, rfl, rfl, rfl, h1, r1⟩ := trodAll_cons r0
  obtain ⟨v2, vs2, d2, ds2, p2, q2, rfl, rfl, rfl, h2, r2⟩ := trodAll_cons r1
  obtain ⟨v3, vs3, d3, ds3, p3, q3, rfl, rfl, rfl, h3, r3⟩ := trodAll_cons r2
  obtain ⟨v4, vs4, d4, ds4, p4, q4, rfl, rfl, rfl, h4, r4⟩ := trodAll_cons r3
  obtain ⟨rfl, rfl, rfl⟩ := trodAll_nil r4
  exact ⟨v0, v1, v2, v3, v4, d0, d1, d2, d3, d4, p0, p1, p2, p3, p4, by cases args; simp_all, rfl, by simp, h0, h1, h2, h3, h4⟩
end
/-- A slice of bytes. -/
def SlB (w : World) (v : Value) (os : List Int) : Prop :=
  (∃ ad cap, v = .slice ad os.length cap ∧ os.length ≤ 9223372036854775807 ∧ (0 < os.length → ∃ b off, ad = some ⟨b, off, none⟩ ∧ b < w.heap.size ∧ ∀ i, i < os.length → w.cell? ⟨b, off + i, none⟩ = some (.int .u8 (at0 os i)))) ∧
  ∀ i, i < os.length → 0 ≤ at0 os i ∧ at0 os i < 256
theorem SlB.below {w w' : World} {v : Value} {xs : List Int} {B : Nat} (h : SlB w v xs) (hb : Below B w w') (hB : w.heap.size ≤ B) : SlB w' v xs := by
  obtain ⟨⟨ad, cap, hv, hm, hc⟩, hx⟩ := h
  refine ⟨⟨ad, cap, hv, hm, fun h0 => ?_⟩, hx⟩
  obtain ⟨b, off, ha, hlt, hcell⟩ := hc h0
  exact ⟨b, off, ha, Nat.lt_of_lt_of_le hlt hb.size, fun i hi => (hb.cell (p := ⟨b, off + i, none⟩) (by simpa using by omega)).trans (hcell i hi)⟩
section
variable {H : Type} {enc : TypeId × Value → H}
theorem one5 : Try.prog.cellsOf 5 = 1 := by kernel_rfl
theorem four87 : Try.prog.cellsOf 87 = 4 := by kernel_rfl
theorem one63 : Try.prog.cellsOf 63 = 1 := by kernel_rfl
theorem two65 : Try.prog.cellsOf 65 = 2 := by kernel_rfl
theorem wf_u8 {n : Int} (h : (Lit.int .u8 n).wf = true) : 0 ≤ n ∧ n < 256 := by
  simp [Lit.wf, IntKind.min, IntKind.max, IntKind.signed, IntKind.bits] at h
  omega
theorem trod_q4 {W : World} {fuel : Nat} {cs : List Value} {x : DataW H × List MemPlace} (hc : cs.length = 4) (h : DataW.trod enc Try.prog W 0 (fun _ => true) true fuel 87 cs = some x) : ∃ q : Q4, cs = encQ q ∧ q.ok := by
  match cs, hc with
  | [a, b, c, d], _ =>
    obtain ⟨y0, y1, y2, y3, n, _, h0, h1, h2, h3⟩ := trod_array4 Try.underlying87 one5 h
    obtain ⟨p0, e0, _, w0⟩ := DataW.trod_int Try.underlying5 h0
    obtain ⟨p1, e1, _, w1⟩ := DataW.trod_int Try.underlying5 h1
    obtain ⟨p2, e2, _, w2⟩ := DataW.trod_int Try.underlying5 h2
    obtain ⟨p3, e3, _, w3⟩ := DataW.trod_int Try.underlying5 h3
    simp at e0 e1 e2 e3
    subst e0 e1 e2 e3
    exact ⟨⟨p0, p1, p2, p3⟩, rfl, wf_u8 w0, wf_u8 w1, wf_u8 w2, wf_u8 w3⟩
instance : Inhabited Q4 := ⟨⟨0, 0, 0, 0⟩⟩
set_option maxRecDepth 100000 in
theorem trod_qs {W : World} {fuel : Nat} {cs : List Value} {x : DataW H × List MemPlace} (h : DataW.trod enc Try.prog W 0 (fun _ => true) true fuel 63 cs = some x) (hblk : ∀ y ∈ x.2, y.block < W.heap.size) : ∃ v qs, cs = [v] ∧ (∀ q ∈ qs, q.ok) ∧ SlQ W v qs := by
  rcases Deep.open_slice Try.underlying63 h with ⟨rfl, rfl⟩ | ⟨a, len, cap, m, n, D, Pl, rfl, _, hl, hm, hmm, rfl, hx⟩
  · exact ⟨_, [], rfl, by simp, none, 0, rfl, by simp, by simp, fun h => by simp at h⟩
  · simp only [if_true] at hmm
    have each : ∀ i, i < m → ∃ q : Q4, q.ok ∧ W.cell? (a.add (i * 4)) = some (.int .u8 q.a) ∧ W.cell? (a.add (i * 4 + 1)) = some (.int .u8 q.b) ∧ W.cell? (a.add (i * 4 + 2)) = some (.int .u8 q.c) ∧ W.cell? (a.add (i * 4 + 3)) = some (.int .u8 q.d) := by
      intro i hi
      obtain ⟨cs', h1, h2⟩ := hx i hi
      rw [four87] at h1
      obtain ⟨_, hcl, hcell⟩ := World.cells?_some h1
      obtain ⟨q, rfl, hq⟩ := trod_q4 hcl h2
      have k0 := hcell 0 (by omega)
      have k1 := hcell 1 (by omega)
      have k2 := hcell 2 (by omega)
      have k3 := hcell 3 (by omega)
      rw [Deep.add_add] at k0 k1 k2 k3
      exact ⟨q, hq, by simpa [encQ] using k0, by simpa [encQ] using k1, by simpa [encQ] using k2, by simpa [encQ] using k3⟩
    obtain ⟨q, hq⟩ := Deep.choose_lt each
    have hmx : maxLen = 9223372036854775807 := by decide
    refine ⟨_, (List.range len).map q, rfl, ?_, some a, cap, by simp, by simp only [List.length_map, List.length_range]; omega, by simpa using hl, fun h0 => ?_⟩
    · intro z hz
      obtain ⟨i, hi, rfl⟩ := List.mem_map.1 hz
      exact (hq i (by have := List.mem_range.1 hi; omega)).1
    · simp only [List.length_map, List.length_range] at h0 ⊢
      have hsp := spot_none (a := a) (by simpa using (hq 0 (by omega)).2.1)
      refine ⟨a.block, a.off, by rw [← hsp], ?_, fun i hi f u hu => ?_⟩
      · refine hblk (.cell a.block a.off) (List.mem_append_left _ ?_)
        rw [four87]
        exact MemPlace.mem_row.2 ⟨0, by omega, by simp⟩
      · have h := (hq i (by omega)).2
        rw [hsp, add_at, add_at, add_at, add_at] at h
        rw [List.getElem_map, List.getElem_range] at hu
        obtain ⟨g0, g1, g2, g3⟩ := h
        match f, hu with
        | 0, hu => simp [encQ] at hu; subst hu; exact g0
        | 1, hu => simp [encQ] at hu; subst hu; rw [Nat.add_assoc]; exact g1
        | 2, hu => simp [encQ] at hu; subst hu; rw [Nat.add_assoc]; exact g2
        | 3, hu => simp [encQ] at hu; subst hu; rw [Nat.add_assoc]; exact g3
        | f + 4, hu => simp [encQ] at hu
set_option maxRecDepth 100000 in
theorem opened_house {W : World} {base : Nat} {v : Value} {d : DataW H} {ps : List MemPlace} (hval : Value.okWide Try.prog W .any base 65 v) (hd : DataW.Trod enc Try.prog W 0 (fun _ => true) true 65 v d ps) (hblk : ∀ x ∈ ps, x.block < W.heap.size) :
    ∃ (s : Int) (u : Value) (qs : List Q4), v = .agg #[.int .u8 s, u] ∧ (0 ≤ s ∧ s < 256) ∧ (∀ q ∈ qs, q.ok) ∧ SlQ W u qs := by
  obtain ⟨cs, rfl, hcs⟩ := okWide_struct Try.underlying65 hval
  rw [two65] at hcs
  obtain ⟨fuel, hf⟩ := hd
  obtain ⟨xs, k, _, hxe, _, hlen, hz⟩ := DataW.trod_struct Try.underlying65 hf
  obtain ⟨l⟩ := cs
  simp only [List.size_toArray] at hcs
  match l, hcs, xs, hlen with
  | [a, e], _, [z0, z1], _ =>
    simp only [Prod.mk.injEq] at hxe
    obtain ⟨rfl, rfl⟩ := hxe
    have g0 := hz 0 _ rfl
    have g1 := hz 1 _ rfl
    simp [one5, one63, Value.cells] at g0 g1
    obtain ⟨p0, e0, _, w0⟩ := DataW.trod_int Try.underlying5 g0
    obtain ⟨u, qs, e3, hq, hw⟩ := trod_qs g1 (fun y hy => hblk y (by simp [hy]))
    simp at e0 e3
    subst e0 e3
    exact ⟨p0, e, qs, rfl, wf_u8 w0, hq, hw⟩
set_option maxRecDepth 100000 in
theorem trod_bytes {W : World} {t e : TypeId} {fuel : Nat} {cs : List Value} {x : DataW H × List MemPlace} (ht : Try.prog.underlying t = some (.slice e)) (he : Try.prog.underlying e = some (.int .u8)) (hc : Try.prog.cellsOf e = 1)
    (h : DataW.trod enc Try.prog W 0 (fun _ => true) true fuel t cs = some x) (hblk : ∀ y ∈ x.2, y.block < W.heap.size) : ∃ v os, cs = [v] ∧ SlB W v os := by
  rcases Deep.open_slice ht h with ⟨rfl, rfl⟩ | ⟨a, len, cap, m, n, D, Pl, rfl, _, hl, hm, hmm, rfl, hx⟩
  · exact ⟨_, [], rfl, ⟨none, 0, rfl, by simp, fun h => by simp at h⟩, fun i hi => by simp at hi⟩
  · simp only [if_true] at hmm
    have each : ∀ i, i < m → ∃ q : Int, W.cell? (a.add i) = some (.int .u8 q) ∧ 0 ≤ q ∧ q < 256 := by
      intro i hi
      obtain ⟨cs', h1, h2⟩ := hx i hi
      rw [hc] at h1
      obtain ⟨_, hcl, hcell⟩ := World.cells?_some h1
      obtain ⟨q, hq, _, wq⟩ := DataW.trod_int he h2
      subst hq
      have k0 := hcell 0 (by omega)
      rw [Deep.add_add] at k0
      exact ⟨q, by simpa using k0, wf_u8 wq⟩
    obtain ⟨q, hq⟩ := Deep.choose_lt each
    have hmx : maxLen = 9223372036854775807 := by decide
    have hat : ∀ i, i < len → at0 ((List.range len).map q) i = q i := fun i hi => by
      unfold at0
      simp [List.getD_eq_getElem?_getD, hi]
    refine ⟨_, (List.range len).map q, rfl, ⟨some a, cap, by simp, by simp only [List.length_map, List.length_range]; omega, fun h0 => ?_⟩, fun i hi => ?_⟩
    · simp only [List.length_map, List.length_range] at h0 ⊢
      have hsp := spot_none (a := a) (hq 0 (by omega)).1
      refine ⟨a.block, a.off, by rw [← hsp], ?_, fun i hi => ?_⟩
      · refine hblk (.cell a.block a.off) (List.mem_append_left _ ?_)
        rw [hc]
        exact MemPlace.mem_row.2 ⟨0, by omega, by simp⟩
      · have h := (hq i (by omega)).1
        rw [hsp, add_at] at h
        rw [h, hat i hi]
    · simp only [List.length_map, List.length_range] at hi
      rw [hat i hi]
      exact (hq i (by omega)).2
set_option maxRecDepth 100000 in
theorem opened_bytes {W : World} {base : Nat} {v : Value} {d : DataW H} {ps : List MemPlace} (hval : Value.okWide Try.prog W .any base 74 v) (hd : DataW.Trod enc Try.prog W 0 (fun _ => true) true 74 v d ps) (hblk : ∀ x ∈ ps, x.block < W.heap.size) :
    ∃ os : List Int, SlB W v os := by
  obtain ⟨a0, len, cap, rfl⟩ := okWide_slice Try.underlying74 hval
  obtain ⟨fuel, hf⟩ := hd
  obtain ⟨v, os, hv, h⟩ := trod_bytes Try.underlying74 Try.underlying5 one5 hf hblk
  simp [Value.cells] at hv
  subst hv
  exact ⟨os, h⟩
end
end Yteileadcmekkoaa
end Go.Proofs
