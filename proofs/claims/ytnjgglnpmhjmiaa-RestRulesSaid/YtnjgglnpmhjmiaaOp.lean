/- What the arguments of the laws of layer 10 read as: laws, lists of lists, numbers. -/
import Derived.Test.YtnjgglnpmhjmiaaA4
import Derived.Deep.SlicePairs
import Derived.Deep.Strs
import Derived.Deep.Grids
import Derived.SizedLaws
import Derived.Carry
import Derived.ChangeSlices
open Go Go.RowKit Go.YtnjgglnpmhjmiaaIt
namespace Go.Proofs
namespace Ytnjgglnpmhjmiaa
open Go.ChangeShapes Go.WideShapes Go.ChangeAt
section
variable {H : Type} {enc : TypeId × Value → H} {P : Program}
theorem spot_none {W : World} {a : Addr} {u : Value} (h : W.cell? (a.add 0) = some u) : a = ⟨a.block, a.off, none⟩ := by
 obtain ⟨b, o, s⟩ := a
 simp only [Addr.add, if_true] at h
 unfold World.cell? at h
 split at h
 ·simp only at h
  cases s with
  | none => rfl
  | some x => simp at h
 ·cases h
/-- Nothing that a value holds takes more than the reach. -/
def Sz (P : Program) (t : TypeId) (d : DataW H) : Prop := ∀ n ∈ d.weights P t, n ≤ reachBytes
theorem sz_top {ts : List TypeId} {ds : List (DataW H)} (h : (DataW.weightsEach P ts ds).all (· ≤ reachBytes) = true) {j : Nat} {t : TypeId} {d : DataW H} (ht : ts[j]? = some t) (hd : ds[j]? = some d) : Sz P t d := fun n hn => by
 have := List.all_eq_true.1 h _ (DataW.weights_mem_each ht hd n hn)
 simpa using this
theorem sz_struct {t : TypeId} {fs : Array Field} {parts : List (DataW H)} (h : Sz P t (.agg parts)) (hu : P.underlying t = some (.struct fs)) {i : Nat} {f : Field} {p : DataW H} (hf : fs[i]? = some f) (hp : parts[i]? = some p) : Sz P f.type p := fun n hn => by
 refine h n ?_
 simp only [DataW.weights, hu]
 refine DataW.weights_mem_each (j := i) ?_ hp n hn
 rw [List.getElem?_map, Array.getElem?_toList, hf]; rfl
theorem sz_slice {t e : TypeId} {el sp : List (DataW H)} (h : Sz P t (.slice el sp)) (hu : P.underlying t = some (.slice e)) : (el.length + sp.length) * P.bytesOf e ≤ reachBytes := h _ (by simp [DataW.weights, hu])
theorem weightsAll_mem {e : TypeId} : ∀ {l : List (DataW H)} {i : Nat} {p : DataW H}, l[i]? = some p → ∀ n ∈ p.weights P e, n ∈ DataW.weightsAll P e l
 | x :: l, 0, p, hp, n, hn => by simp at hp; subst hp; simp only [DataW.weightsAll, List.mem_append]; exact .inl hn
 | x :: l, i + 1, p, hp, n, hn => by simp at hp; simp only [DataW.weightsAll, List.mem_append]; exact .inr (weightsAll_mem hp n hn)
 | [], _, _, hp, _, _ => by simp at hp
theorem sz_elem {t e : TypeId} {el sp : List (DataW H)} (h : Sz P t (.slice el sp)) (hu : P.underlying t = some (.slice e)) {i : Nat} {p : DataW H} (hp : el[i]? = some p) : Sz P e p := fun n hn => by
 refine h n ?_
 simp only [DataW.weights, hu, List.mem_cons, List.mem_append]
 exact .inr (.inl (weightsAll_mem hp n hn))
/-- A slice of ints, opened. -/
theorem trod_ints {W : World} {t e : TypeId} {fuel : Nat} {cs : List Value} {x : DataW H × List MemPlace} (ht : P.underlying t = some (.slice e)) (he : P.underlying e = some (.int .i64)) (hc : P.cellsOf e = 1) (hby : P.bytesOf e = 8)
  (hf : DataW.trod enc P W 0 (fun _ => true) true fuel t cs = some x) (hblk : ∀ y ∈ x.2, y.block < W.heap.size) (hsz : Sz P t x.1) : ∃ v xs, cs = [v] ∧ SlI W v xs := by
 rcases open_ints ht he hc hf with ⟨rfl, rfl⟩ | ⟨a, len, cap, zs, rfl, _, hl, hm, hz, rfl, hcell, hwz⟩
 ·exact ⟨_, [], rfl, slI_nil _⟩
 ·simp only [if_true] at hz
  have hr := sz_slice hsz ht
  have hlen : (zs.take len).length = len := by simp; omega
  refine ⟨_, zs.take len, rfl, some a, cap, by rw [hlen], ?_, by rw [hlen]; exact hl, fun h0 => ?_⟩
  ·rw [hby] at hr
   simp only [lits, List.length_map, reachBytes] at hr
   rw [hlen] at hr ⊢
   omega
  ·rw [hlen] at h0
   have hz0 : 0 < zs.length := by omega
   have hsp := spot_none (hcell 0 hz0)
   refine ⟨a.block, a.off, by rw [← hsp], ?_, fun i hi => ?_⟩
   ·exact hblk (.cell a.block a.off) (MemPlace.mem_row.2 ⟨0, by omega, by simp⟩)
   ·rw [hlen] at hi
    have h := hcell i (by omega)
    rw [hsp, add_at] at h
    rw [h]
    unfold at0
    simp [List.getD_eq_getElem?_getD, hi]
/-- A slice of bools, opened. -/
theorem trod_bools {W : World} {t e : TypeId} {fuel : Nat} {cs : List Value} {x : DataW H × List MemPlace} (ht : P.underlying t = some (.slice e)) (he : P.underlying e = some .bool) (hc : P.cellsOf e = 1)
  (hf : DataW.trod enc P W 0 (fun _ => true) true fuel t cs = some x) (hblk : ∀ y ∈ x.2, y.block < W.heap.size) (hsz : Sz P t x.1) (hby : P.bytesOf e = 1) : ∃ (v : Value) (xs : List Bool), cs = [v] ∧ SlV W v (xs.map Value.bool) := by
 rcases Deep.open_slice ht hf with ⟨rfl, rfl⟩ | ⟨a, len, cap, m, n, D, Pl, rfl, _, hl, hm, hmm, rfl, hx⟩
 ·exact ⟨_, [], rfl, none, 0, rfl, by simp, by simp, fun h => by simp at h⟩
 ·simp only [if_true] at hmm
  have each : ∀ i, i < m → ∃ q : Bool, W.cell? (a.add i) = some (.bool q) := by
   intro i hi
   obtain ⟨cs', h1, h2⟩ := hx i hi
   rw [hc] at h1
   obtain ⟨_, _, hcell⟩ := World.cells?_some h1
   obtain ⟨b, rfl, _⟩ := DataW.trod_bool he h2
   have k0 := hcell 0 (by omega)
   rw [Deep.add_add] at k0
   exact ⟨b, by simpa using k0⟩
  obtain ⟨q, hq⟩ := Deep.choose_lt each
  refine ⟨_, (List.range len).map q, rfl, some a, cap, by simp, ?_, by simpa using hl, fun h0 => ?_⟩
  ·have hr := sz_slice hsz ht
   rw [hby] at hr
   simp only [List.length_map, List.length_range, reachBytes] at hr ⊢
   omega
  ·simp only [List.length_map, List.length_range] at h0 ⊢
   have hsp := spot_none (a := a) (hq 0 (by omega))
   refine ⟨a.block, a.off, by rw [← hsp], ?_, fun i hi => ?_⟩
   ·refine hblk (.cell a.block a.off) (List.mem_append_left _ ?_)
    rw [hc]
    exact MemPlace.mem_row.2 ⟨0, by omega, by simp⟩
   ·have h := hq i (by omega)
    rw [hsp, add_at] at h
    rw [h]; simp
end
section
variable {H : Type} {enc : TypeId × Value → H}
theorem one3 : Try.prog.cellsOf 3 = 1 := by kernel_rfl
theorem one4 : Try.prog.cellsOf 4 = 1 := by kernel_rfl
theorem one22 : Try.prog.cellsOf 22 = 1 := by kernel_rfl
theorem one23 : Try.prog.cellsOf 23 = 1 := by kernel_rfl
theorem two25 : Try.prog.cellsOf 25 = 2 := by kernel_rfl
theorem one40 : Try.prog.cellsOf 40 = 1 := by kernel_rfl
theorem by3 : Try.prog.bytesOf 3 = 8 := by kernel_rfl
theorem by4 : Try.prog.bytesOf 4 = 1 := by kernel_rfl
theorem by40 : Try.prog.bytesOf 40 = 24 := by kernel_rfl
set_option maxRecDepth 100000 in
theorem trod_lists {W : World} {fuel : Nat} {cs : List Value} {x : DataW H × List MemPlace} (hf : DataW.trod enc Try.prog W 0 (fun _ => true) true fuel 22 cs = some x) (hblk : ∀ y ∈ x.2, y.block < W.heap.size) (hsz : Sz Try.prog 22 x.1) :
  ∃ (v : Value) (tab : List (List Int)), cs = [v] ∧ SlII W v tab := by
 rcases Deep.open_slice Try.underlying22 hf with ⟨rfl, rfl⟩ | ⟨a, len0, cap0, m, n, D, Pl, rfl, _, hl, hm, hmm, rfl, hxx⟩
 ·exact ⟨_, [], rfl, [], ⟨none, 0, rfl, by simp, by simp, fun h => by simp at h⟩, rfl, fun i hi => by simp at hi⟩
 ·simp only [if_true] at hmm
  have each : ∀ i, i < len0 → ∃ q : Value × List Int, W.cell? (a.add i) = some q.1 ∧ SlI W q.1 q.2 := by
   intro i hi
   obtain ⟨cs', h1, h2⟩ := hxx i (by omega)
   rw [one40] at h1
   obtain ⟨_, hlen, hcell⟩ := World.cells?_some h1
   have hk : Sz Try.prog 40 (D i) := sz_elem (i := i) hsz Try.underlying22 (by rw [List.getElem?_map, List.getElem?_range hi]; rfl)
   obtain ⟨v, xs, rfl, hv⟩ := trod_ints (x := (D i, Pl i)) Try.underlying40 Try.underlying3 one3 by3 h2 (fun y hy => hblk y (List.mem_append_right _ (List.mem_flatMap.2 ⟨i, List.mem_range.2 (by omega), hy⟩))) hk
   have k0 := hcell 0 (by omega)
   rw [Deep.add_add] at k0
   exact ⟨(v, xs), by simpa using k0, hv⟩
  obtain ⟨q, hq⟩ := Deep.choose_lt each
  refine ⟨_, (List.range len0).map (fun i => (q i).2), rfl, (List.range len0).map (fun i => (q i).1), ⟨some a, cap0, by simp, ?_, by simpa using hl, fun h0 => ?_⟩, by simp, fun i hi hi' => ?_⟩
  ·have hr := sz_slice hsz Try.underlying22
   rw [by40] at hr
   simp only [List.length_map, List.length_range, reachBytes] at hr ⊢
   omega
  ·simp only [List.length_map, List.length_range] at h0 ⊢
   have hsp := spot_none (a := a) ((hq 0 (by omega)).1)
   refine ⟨a.block, a.off, by rw [← hsp], ?_, fun i hi => ?_⟩
   ·refine hblk (.cell a.block a.off) (List.mem_append_left _ ?_)
    rw [one40]
    exact MemPlace.mem_row.2 ⟨0, by omega, by simp⟩
   ·have h := (hq i (by omega)).1
    rw [hsp, add_at] at h
    rw [h]; simp
  ·simp only [List.length_map, List.length_range] at hi
   simp only [List.getElem_map, List.getElem_range]
   exact (hq i hi).2
set_option maxRecDepth 100000 in
theorem opened_lists {W : World} {base : Nat} {v : Value} {d : DataW H} {ps : List MemPlace} (hval : Value.okWide Try.prog W .any base 22 v) (hd : DataW.Trod enc Try.prog W 0 (fun _ => true) true 22 v d ps) (hblk : ∀ x ∈ ps, x.block < W.heap.size) (hsz : Sz Try.prog 22 d) : ∃ tab : List (List Int), SlII W v tab := by
 obtain ⟨a0, len, cap, rfl⟩ := okWide_slice Try.underlying22 hval
 obtain ⟨fuel, hf⟩ := hd
 obtain ⟨v, os, hv, h⟩ := trod_lists hf hblk hsz
 simp [Value.cells] at hv
 subst hv
 exact ⟨os, h⟩
set_option maxRecDepth 100000 in
theorem opened_nums {W : World} {base : Nat} {v : Value} {d : DataW H} {ps : List MemPlace} (hval : Value.okWide Try.prog W .any base 40 v) (hd : DataW.Trod enc Try.prog W 0 (fun _ => true) true 40 v d ps) (hblk : ∀ x ∈ ps, x.block < W.heap.size) (hsz : Sz Try.prog 40 d) :
  ∃ xs : List Int, SlI W v xs := by
 obtain ⟨a0, len, cap, rfl⟩ := okWide_slice Try.underlying40 hval
 obtain ⟨fuel, hf⟩ := hd
 obtain ⟨v, os, hv, h⟩ := trod_ints Try.underlying40 Try.underlying3 one3 by3 hf hblk hsz
 simp [Value.cells] at hv
 subst hv
 exact ⟨os, h⟩
set_option maxRecDepth 100000 in
theorem opened_law {W : World} {base : Nat} {v : Value} {d : DataW H} {ps : List MemPlace} (hval : Value.okWide Try.prog W .any base 25 v) (hd : DataW.Trod enc Try.prog W 0 (fun _ => true) true 25 v d ps) (hblk : ∀ x ∈ ps, x.block < W.heap.size) (hsz : Sz Try.prog 25 d) :
  ∃ l : Lw, LawA W v l := by
 obtain ⟨cs, rfl, hcs⟩ := okWide_struct Try.underlying25 hval
 rw [two25] at hcs
 obtain ⟨fuel, hf⟩ := hd
 obtain ⟨xs, k, _, hxe, _, hlen, hz⟩ := DataW.trod_struct Try.underlying25 hf
 obtain ⟨l⟩ := cs
 simp only [List.size_toArray] at hcs
 match l, hcs, xs, hlen with
 | [a, b], _, [z0, z1], _ =>
  simp only [Prod.mk.injEq] at hxe
  obtain ⟨rfl, rfl⟩ := hxe
  have g0 := hz 0 _ rfl
  have g1 := hz 1 _ rfl
  simp [one22, one23, Value.cells] at g0 g1
  obtain ⟨v0, t0, e0, h0⟩ := trod_lists g0 (fun y hy => hblk y (by simp [hy])) (sz_struct (i := 0) hsz Try.underlying25 rfl rfl)
  obtain ⟨v1, t1, e1, h1⟩ := trod_bools Try.underlying23 Try.underlying4 one4 g1 (fun y hy => hblk y (by simp [hy])) (sz_struct (i := 1) hsz Try.underlying25 rfl rfl) by4
  simp at e0 e1
  subst e0 e1
  exact ⟨⟨t0, t1⟩, _, _, rfl, h0, h1⟩
end
section
variable {H : Type} {enc : TypeId × Value → H} {P : Program}
/-- All arguments read behind the call as they did before. -/
theorem trodAll_stays (hl : laidOutB P = true) {W W' : World} (hb : Below W.heap.size W W') {sp : Nat → Bool} : ∀ {ts : List TypeId} {vs : List Value} {ds : List (DataW H)} {ps : List MemPlace},
  (∀ t ∈ ts, P.readableRec t = true ∧ t < P.types.size) → DataW.TrodAll enc P W 0 (fun _ => true) true ts vs ds ps → (∀ x ∈ ps, x.block < W.heap.size) → (∀ x ∈ ps, sp x.block = true) → DataW.TrodAll enc P W' 0 sp true ts vs ds ps
 | [], vs, ds, ps, _, h, _, _ => by
  obtain ⟨rfl, rfl, rfl⟩ := trodAll_nil h
  rfl
 | t :: ts, vs, ds, ps, hr, h, hlt, hs => by
  obtain ⟨v, vs', d, ds', p, q, rfl, rfl, rfl, h1, h2⟩ := trodAll_cons h
  have ht := hr t (by simp)
  refine trodAll_cons_mk (WideElems.Trod_stays hl ht.1 ht.2 h1 (fun x hx => hb.same (hlt x (by simp [hx]))) (fun x hx => hs x (by simp [hx]))) ?_
  exact trodAll_stays hl hb (fun t' h' => hr t' (by simp [h'])) h2 (fun x hx => hlt x (by simp [hx])) (fun x hx => hs x (by simp [hx]))
end
end Ytnjgglnpmhjmiaa
end Go.Proofs

