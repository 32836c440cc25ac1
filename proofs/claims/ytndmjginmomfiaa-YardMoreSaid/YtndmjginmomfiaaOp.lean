/- What arguments read as: a yard, a table, a place; the last step of a law that returns true. -/
import Derived.Test.YtndmjginmomfiaaW9
import Derived.Test.YtndmjginmomfiaaGenC
import Derived.Deep.SlicePairs
import Derived.Deep.Strs
import Derived.SizedLaws
import Derived.Carry
import Derived.ChangeSlices
open Go Go.RowKit Go.YtndmjginmomfiaaIt
namespace Go.Proofs
namespace Ytndmjginmomfiaa
open Go.ChangeShapes Go.WideShapes Go.ChangeAt
section
variable {H : Type} {enc : TypeId × Value → H} {P : Program}
theorem spot_none {W : World} {a : Addr} {u : Value} (h : W.cell? (a.add 0) = some u) : a = ⟨a.block, a.off, none⟩ := by
  obtain ⟨b, o, s⟩ := a
  simp only [Addr.add, if_true] at h
  unfold World.cell? at h
  split at h
  · simp only at h
    cases s with
    | none => rfl
    | some x => simp at h
  · cases h
/-- Nothing that a value holds takes more than the reach. -/
def Sz (P : Program) (t : TypeId) (d : DataW H) : Prop := ∀ n ∈ d.weights P t, n ≤ reachBytes
theorem sz_top {ts : List TypeId} {ds : List (DataW H)} (h : (DataW.weightsEach P ts ds).all (· ≤ reachBytes) = true) {j : Nat} {t : TypeId} {d : DataW H} (ht : ts[j]? = some t) (hd : ds[j]? = some d) : Sz P t d := fun n hn => by
  have := List.all_eq_true.1 h _ (DataW.weights_mem_each ht hd n hn)
  simpa using this
theorem sz_struct {t : TypeId} {fs : Array Field} {parts : List (DataW H)} (h : Sz P t (.agg parts)) (hu : P.underlying t = some (.struct fs)) {i : Nat} {f : Field} {p : DataW H} (hf : fs[i]? = some f) (hp : parts[i]? = some p) : Sz P f.type p := fun n hn => by
  refine h n ?_
  simp only [DataW.weights, hu]
  refine DataW.weights_mem_each (j := i) ?_ hp n hn
  rw [List.getElem?_map, Array.getElem?_toList, hf]; rfl
theorem sz_slice {t e : TypeId} {el sp : List (DataW H)} (h : Sz P t (.slice el sp)) (hu : P.underlying t = some (.slice e)) : (el.length + sp.length) * P.bytesOf e ≤ reachBytes := h _ (by simp [DataW.weights, hu])
theorem weightsAll_mem {e : TypeId} : ∀ {l : List (DataW H)} {i : Nat} {p : DataW H}, l[i]? = some p → ∀ n ∈ p.weights P e, n ∈ DataW.weightsAll P e l
  | x :: l, 0, p, hp, n, hn => by simp at hp; subst hp; simp only [DataW.weightsAll, List.mem_append]; exact .inl hn
  | x :: l, i + 1, p, hp, n, hn => by simp at hp; simp only [DataW.weightsAll, List.mem_append]; exact .inr (weightsAll_mem hp n hn)
  | [], _, _, hp, _, _ => by simp at hp
theorem sz_elem {t e : TypeId} {el sp : List (DataW H)} (h : Sz P t (.slice el sp)) (hu : P.underlying t = some (.slice e)) {i : Nat} {p : DataW H} (hp : el[i]? = some p) : Sz P e p := fun n hn => by
  refine h n ?_
  simp only [DataW.weights, hu, List.mem_cons, List.mem_append]
  exact .inr (.inl (weightsAll_mem hp n hn))
/-- A slice of ints, opened. -/
theorem trod_ints {W : World} {t e : TypeId} {fuel : Nat} {cs : List Value} {x : DataW H × List MemPlace} (ht : P.underlying t = some (.slice e)) (he : P.underlying e = some (.int .i64)) (hc : P.cellsOf e = 1) (hby : P.bytesOf e = 8)
    (hf : DataW.trod enc P W 0 (fun _ => true) true fuel t cs = some x) (hblk : ∀ y ∈ x.2, y.block < W.heap.size) (hsz : Sz P t x.1) : ∃ v xs, cs = [v] ∧ SlI W v xs := by
  rcases open_ints ht he hc hf with ⟨rfl, rfl⟩ | ⟨a, len, cap, zs, rfl, _, hl, hm, hz, rfl, hcell, hwz⟩
  · exact ⟨_, [], rfl, slI_nil _⟩
  · simp only [if_true] at hz
    have hr := sz_slice hsz ht
    have hlen : (zs.take len).length = len := by simp; omega
    refine ⟨_, zs.take len, rfl, some a, cap, by rw [hlen], ?_, by rw [hlen]; exact hl, fun h0 => ?_⟩
    · rw [hby] at hr
      simp only [lits, List.length_map, reachBytes] at hr
      rw [hlen] at hr ⊢
      omega
    · rw [hlen] at h0
      have hz0 : 0 < zs.length := by omega
      have hsp := spot_none (hcell 0 hz0)
      refine ⟨a.block, a.off, by rw [← hsp], ?_, fun i hi => ?_⟩
      · exact hblk (.cell a.block a.off) (MemPlace.mem_row.2 ⟨0, by omega, by simp⟩)
      · rw [hlen] at hi
        have h := hcell i (by omega)
        rw [hsp, add_at] at h
        rw [h]
        unfold at0
        simp [List.getD_eq_getElem?_getD, hi]
end
section
variable {H : Type} {enc : TypeId × Value → H}
theorem one3 : Try.prog.cellsOf 3 = 1 := by kernel_rfl
theorem two56 : Try.prog.cellsOf 56 = 2 := by kernel_rfl
theorem four58 : Try.prog.cellsOf 58 = 4 := by kernel_rfl
theorem one22 : Try.prog.cellsOf 22 = 1 := by kernel_rfl
theorem four24 : Try.prog.cellsOf 24 = 4 := by kernel_rfl
theorem by58 : Try.prog.bytesOf 58 = 32 := by kernel_rfl
theorem by3 : Try.prog.bytesOf 3 = 8 := by kernel_rfl
theorem by28 : Try.prog.bytesOf 28 = 24 := by kernel_rfl
theorem one28 : Try.prog.cellsOf 28 = 1 := by kernel_rfl
set_option maxRecDepth 100000 in
/-- A weather's cells. -/
theorem trod_wt {W : World} {fuel : Nat} {cs : List Value} {x : DataW H × List MemPlace} (h : DataW.trod enc Try.prog W 0 (fun _ => true) true fuel 58 cs = some x) : ∃ q : Wt, cs = encW q := by
  obtain ⟨y0, y1, y2, n, hx, hl, h0, h1, h2⟩ := Deep.trod_struct3 Try.underlying58 h
  rw [four58] at hl
  match cs, hl with
  | [a, b, c, d], _ =>
    simp only [one3, two56, List.drop_zero, List.take_succ_cons, List.take_zero, List.drop_succ_cons] at h0 h1 h2
    obtain ⟨p0, e0, _, _⟩ := DataW.trod_int Try.underlying3 h0
    obtain ⟨p3, e3, _, _⟩ := DataW.trod_int Try.underlying3 h2
    obtain ⟨xs, k, _, _, _, hlen, hf⟩ := DataW.trod_struct Try.underlying56 h1
    match xs, hlen with
    | [z0, z1], _ =>
      have g0 := hf 0 _ rfl
      have g1 := hf 1 _ rfl
      simp [one3] at g0 g1
      obtain ⟨p1, e1, _, _⟩ := DataW.trod_int Try.underlying3 g0
      obtain ⟨p2, e2, _, _⟩ := DataW.trod_int Try.underlying3 g1
      simp at e0 e1 e2 e3
      subst e0 e1 e2 e3
      exact ⟨⟨p0, p1, p2, p3⟩, rfl⟩
instance : Inhabited Wt := ⟨⟨0, 0, 0, 0⟩⟩
set_option maxRecDepth 100000 in
theorem trod_ws {W : World} {fuel : Nat} {cs : List Value} {x : DataW H × List MemPlace} (h : DataW.trod enc Try.prog W 0 (fun _ => true) true fuel 22 cs = some x) (hblk : ∀ y ∈ x.2, y.block < W.heap.size) (hsz : Sz Try.prog 22 x.1) : ∃ v ws, cs = [v] ∧ SlW W v ws := by
  rcases Deep.open_slice Try.underlying22 h with ⟨rfl, rfl⟩ | ⟨a, len, cap, m, n, D, Pl, rfl, _, hl, hm, hmm, rfl, hx⟩
  · exact ⟨_, [], rfl, slG_nil _ _ _⟩
  · simp only [if_true] at hmm
    have each : ∀ i, i < m → ∃ q : Wt, W.cell? (a.add (i * 4)) = some (.int .i64 q.comes) ∧ W.cell? (a.add (i * 4 + 1)) = some (.int .i64 q.lo) ∧ W.cell? (a.add (i * 4 + 2)) = some (.int .i64 q.hi) ∧ W.cell? (a.add (i * 4 + 3)) = some (.int .i64 q.next) := by
      intro i hi
      obtain ⟨cs', h1, h2⟩ := hx i hi
      rw [four58] at h1
      obtain ⟨_, _, hcell⟩ := World.cells?_some h1
      obtain ⟨q, rfl⟩ := trod_wt h2
      have k0 := hcell 0 (by omega)
      have k1 := hcell 1 (by omega)
      have k2 := hcell 2 (by omega)
      have k3 := hcell 3 (by omega)
      rw [Deep.add_add] at k0 k1 k2 k3
      exact ⟨q, by simpa [encW] using k0, by simpa [encW] using k1, by simpa [encW] using k2, by simpa [encW] using k3⟩
    obtain ⟨q, hq⟩ := Deep.choose_lt each
    refine ⟨_, (List.range len).map q, rfl, some a, cap, by simp, ?_, by simpa using hl, fun h0 => ?_⟩
    · have hr := sz_slice hsz Try.underlying22
      rw [by58] at hr
      simp only [List.length_map, List.length_range, reachBytes] at hr ⊢
      omega
    · simp only [List.length_map, List.length_range] at h0 ⊢
      have hsp := spot_none (a := a) (by simpa using (hq 0 (by omega)).1)
      refine ⟨a.block, a.off, by rw [← hsp], ?_, fun i hi f u hu => ?_⟩
      · refine hblk (.cell a.block a.off) (List.mem_append_left _ ?_)
        rw [four58]
        exact MemPlace.mem_row.2 ⟨0, by omega, by simp⟩
      · have h := hq i (by omega)
        rw [hsp, add_at, add_at, add_at, add_at] at h
        rw [List.getElem_map, List.getElem_range] at hu
        obtain ⟨g0, g1, g2, g3⟩ := h
        match f, hu with
        | 0, hu => simp [encW] at hu; subst hu; exact g0
        | 1, hu => simp [encW] at hu; subst hu; rw [Nat.add_assoc]; exact g1
        | 2, hu => simp [encW] at hu; subst hu; rw [Nat.add_assoc]; exact g2
        | 3, hu => simp [encW] at hu; subst hu; rw [Nat.add_assoc]; exact g3
        | f + 4, hu => simp [encW] at hu
set_option maxRecDepth 100000 in
theorem opened_yard {W : World} {base : Nat} {v : Value} {d : DataW H} {ps : List MemPlace} (hval : Value.okWide Try.prog W .any base 24 v) (hd : DataW.Trod enc Try.prog W 0 (fun _ => true) true 24 v d ps) (hblk : ∀ x ∈ ps, x.block < W.heap.size) (hsz : Sz Try.prog 24 d) :
    ∃ (y : Yd) (u : Value), v = .agg (encY y u) ∧ SlW W u y.ws := by
  obtain ⟨cs, rfl, hcs⟩ := okWide_struct Try.underlying24 hval
  rw [four24] at hcs
  obtain ⟨fuel, hf⟩ := hd
  obtain ⟨xs, k, _, hxe, _, hlen, hz⟩ := DataW.trod_struct Try.underlying24 hf
  obtain ⟨l⟩ := cs
  simp only [List.size_toArray] at hcs
  match l, hcs, xs, hlen with
  | [a, b, c, e], _, [z0, z1, z2, z3], _ =>
    simp only [Prod.mk.injEq] at hxe
    obtain ⟨rfl, rfl⟩ := hxe
    have g0 := hz 0 _ rfl
    have g1 := hz 1 _ rfl
    have g2 := hz 2 _ rfl
    have g3 := hz 3 _ rfl
    simp [one3, one22, Value.cells] at g0 g1 g2 g3
    obtain ⟨p0, e0, _, _⟩ := DataW.trod_int Try.underlying3 g0
    obtain ⟨p1, e1, _, _⟩ := DataW.trod_int Try.underlying3 g1
    obtain ⟨p2, e2, _, _⟩ := DataW.trod_int Try.underlying3 g2
    obtain ⟨u, ws, e3, hw⟩ := trod_ws g3 (fun y hy => hblk y (by simp [hy])) (sz_struct (i := 3) hsz Try.underlying24 rfl rfl)
    simp at e0 e1 e2 e3
    subst e0 e1 e2 e3
    exact ⟨⟨p0, p1, p2, ws⟩, e, rfl, hw⟩
set_option maxRecDepth 100000 in
theorem opened_table {W : World} {base : Nat} {v : Value} {d : DataW H} {ps : List MemPlace} (hval : Value.okWide Try.prog W .any base 25 v) (hd : DataW.Trod enc Try.prog W 0 (fun _ => true) true 25 v d ps) (hblk : ∀ x ∈ ps, x.block < W.heap.size) (hsz : Sz Try.prog 25 d) :
    ∃ tab : List (List Int), SlII W v tab := by
  obtain ⟨a0, len0, cap0, rfl⟩ := okWide_slice Try.underlying25 hval
  obtain ⟨fuel, hf⟩ := hd
  rcases Deep.open_slice Try.underlying25 hf with ⟨hcs, hx⟩ | ⟨a, len, cap, m, n, D, Pl, hcs, _, hl, hm, hmm, hx, hxx⟩
  · simp [Value.cells] at hcs
    obtain ⟨rfl, rfl, rfl⟩ := hcs
    exact ⟨[], [], ⟨none, 0, rfl, by simp, by simp, fun h => by simp at h⟩, rfl, fun i hi => by simp at hi⟩
  · simp [Value.cells] at hcs
    obtain ⟨rfl, rfl, rfl⟩ := hcs
    simp only [Prod.mk.injEq] at hx
    obtain ⟨rfl, rfl⟩ := hx
    simp only [if_true] at hmm
    have each : ∀ i, i < len0 → ∃ q : Value × List Int, W.cell? (a.add i) = some q.1 ∧ SlI W q.1 q.2 := by
      intro i hi
      obtain ⟨cs', h1, h2⟩ := hxx i (by omega)
      rw [one28] at h1
      obtain ⟨_, hlen, hcell⟩ := World.cells?_some h1
      have hk : Sz Try.prog 28 (D i) := sz_elem (i := i) hsz Try.underlying25 (by rw [List.getElem?_map, List.getElem?_range hi]; rfl)
      obtain ⟨v, xs, rfl, hv⟩ := trod_ints (x := (D i, Pl i)) Try.underlying28 Try.underlying3 one3 by3 h2 (fun y hy => hblk y (List.mem_append_right _ (List.mem_flatMap.2 ⟨i, List.mem_range.2 (by omega), hy⟩))) hk
      have k0 := hcell 0 (by omega)
      rw [Deep.add_add] at k0
      exact ⟨(v, xs), by simpa using k0, hv⟩
    obtain ⟨q, hq⟩ := Deep.choose_lt each
    refine ⟨(List.range len0).map (fun i => (q i).2), (List.range len0).map (fun i => (q i).1), ⟨some a, cap0, by simp, ?_, by simpa using hl, fun h0 => ?_⟩, by simp, fun i hi hi' => ?_⟩
    · have hr := sz_slice hsz Try.underlying25
      rw [by28] at hr
      simp only [List.length_map, List.length_range, reachBytes] at hr ⊢
      omega
    · simp only [List.length_map, List.length_range] at h0 ⊢
      have hsp := spot_none (a := a) ((hq 0 (by omega)).1)
      refine ⟨a.block, a.off, by rw [← hsp], ?_, fun i hi => ?_⟩
      · refine hblk (.cell a.block a.off) (List.mem_append_left _ ?_)
        rw [one28]
        exact MemPlace.mem_row.2 ⟨0, by omega, by simp⟩
      · have h := (hq i (by omega)).1
        rw [hsp, add_at] at h
        rw [h]; simp
    · simp only [List.length_map, List.length_range] at hi
      simp only [List.getElem_map, List.getElem_range]
      exact (hq i hi).2
end
section
variable {H : Type} {enc : TypeId × Value → H} {P : Program}
/-- All arguments read behind the call as they did before. -/
theorem trodAll_stays (hl : laidOutB P = true) {W W' : World} (hb : Below W.heap.size W W') {sp : Nat → Bool} : ∀ {ts : List TypeId} {vs : List Value} {ds : List (DataW H)} {ps : List MemPlace},
    (∀ t ∈ ts, P.readableRec t = true ∧ t < P.types.size) → DataW.TrodAll enc P W 0 (fun _ => true) true ts vs ds ps → (∀ x ∈ ps, x.block < W.heap.size) → (∀ x ∈ ps, sp x.block = true) → DataW.TrodAll enc P W' 0 sp true ts vs ds ps
  | [], vs, ds, ps, _, h, _, _ => by
    obtain ⟨rfl, rfl, rfl⟩ := trodAll_nil h
    rfl
  | t :: ts, vs, ds, ps, hr, h, hlt, hs => by
    obtain ⟨v, vs', d, ds', p, q, rfl, rfl, rfl, h1, h2⟩ := trodAll_cons h
    have ht := hr t (by simp)
    refine trodAll_cons_mk (WideElems.Trod_stays hl ht.1 ht.2 h1 (fun x hx => hb.same (hlt x (by simp [hx]))) (fun x hx => hs x (by simp [hx]))) ?_
    exact trodAll_stays hl hb (fun t' h' => hr t' (by simp [h'])) h2 (fun x hx => hlt x (by simp [hx])) (fun x hx => hs x (by simp [hx]))
end
end Ytndmjginmomfiaa
end Go.Proofs
