/- What the arguments of the laws of layer 02 read as: a field, numbers. -/
import Derived.Test.YtgnjeefanbcbkaaB1
import Derived.Deep.SlicePairs
import Derived.Deep.Strs
import Derived.SizedLaws
import Derived.Carry
import Derived.ChangeSlices
import Derived.Laws.IdiomArrays
open Go Go.RowKit Go.YtgnjeefanbcbkaaIt
namespace Go.Proofs
namespace Ytgnjeefanbcbkaa
open Go.ChangeShapes Go.WideShapes Go.ChangeAt
section
variable {H : Type} {enc : TypeId × Value → H} {P : Program}
theorem spot_none {W : World} {a : Addr} {u : Value} (h : W.cell? (a.add 0) = some u) : a = ⟨a.block, a.off, none⟩ := by
  obtain ⟨b, o, s⟩ := a
  simp only [Addr.add, if_true] at h
  unfold World.cell? at h
  split at h
  · simp only at h
    cases s with
    | none => rfl
    | some x => simp at h
  · cases h
/-- Nothing that a value holds takes more than the reach. -/
def Sz (P : Program) (t : TypeId) (d : DataW H) : Prop := ∀ n ∈ d.weights P t, n ≤ reachBytes
theorem sz_top {ts : List TypeId} {ds : List (DataW H)} (h : (DataW.weightsEach P ts ds).all (· ≤ reachBytes) = true) {j : Nat} {t : TypeId} {d : DataW H} (ht : ts[j]? = some t) (hd : ds[j]? = some d) : Sz P t d := fun n hn => by
  have := List.all_eq_true.1 h _ (DataW.weights_mem_each ht hd n hn)
  simpa using this
theorem sz_struct {t : TypeId} {fs : Array Field} {parts : List (DataW H)} (h : Sz P t (.agg parts)) (hu : P.underlying t = some (.struct fs)) {i : Nat} {f : Field} {p : DataW H} (hf : fs[i]? = some f) (hp : parts[i]? = some p) : Sz P f.type p := fun n hn => by
  refine h n ?_
  simp only [DataW.weights, hu]
  refine DataW.weights_mem_each (j := i) ?_ hp n hn
  rw [List.getElem?_map, Array.getElem?_toList, hf]; rfl
theorem sz_slice {t e : TypeId} {el sp : List (DataW H)} (h : Sz P t (.slice el sp)) (hu : P.underlying t = some (.slice e)) : (el.length + sp.length) * P.bytesOf e ≤ reachBytes := h _ (by simp [DataW.weights, hu])
theorem weightsAll_mem {e : TypeId} : ∀ {l : List (DataW H)} {i : Nat} {p : DataW H}, l[i]? = some p → ∀ n ∈ p.weights P e, n ∈ DataW.weightsAll P e l
  | x :: l, 0, p, hp, n, hn => by simp at hp; subst hp; simp only [DataW.weightsAll, List.mem_append]; exact .inl hn
  | x :: l, i + 1, p, hp, n, hn => by simp at hp; simp only [DataW.weightsAll, List.mem_append]; exact .inr (weightsAll_mem hp n hn)
  | [], _, _, hp, _, _ => by simp at hp
theorem sz_elem {t e : TypeId} {el sp : List (DataW H)} (h : Sz P t (.slice el sp)) (hu : P.underlying t = some (.slice e)) {i : Nat} {p : DataW H} (hp : el[i]? = some p) : Sz P e p := fun n hn => by
  refine h n ?_
  simp only [DataW.weights, hu, List.mem_cons, List.mem_append]
  exact .inr (.inl (weightsAll_mem hp n hn))
/-- A slice of ints, opened. -/
theorem trod_ints {W : World} {t e : TypeId} {fuel : Nat} {cs : List Value} {x : DataW H × List MemPlace} (ht : P.underlying t = some (.slice e)) (he : P.underlying e = some (.int .i64)) (hc : P.cellsOf e = 1) (hby : P.bytesOf e = 8)
    (hf : DataW.trod enc P W 0 (fun _ => true) true fuel t cs = some x) (hblk : ∀ y ∈ x.2, y.block < W.heap.size) (hsz : Sz P t x.1) : ∃ v xs, cs = [v] ∧ SlI W v xs := by
  rcases open_ints ht he hc hf with ⟨rfl, rfl⟩ | ⟨a, len, cap, zs, rfl, _, hl, hm, hz, rfl, hcell, hwz⟩
  · exact ⟨_, [], rfl, slI_nil _⟩
  · simp only [if_true] at hz
    have hr := sz_slice hsz ht
    have hlen : (zs.take len).length = len := by simp; omega
    refine ⟨_, zs.take len, rfl, some a, cap, by rw [hlen], ?_, by rw [hlen]; exact hl, fun h0 => ?_⟩
    · rw [hby] at hr
      simp only [lits, List.length_map, reachBytes] at hr
      rw [hlen] at hr ⊢
      omega
    · rw [hlen] at h0
      have hz0 : 0 < zs.length := by omega
      have hsp := spot_none (hcell 0 hz0)
      refine ⟨a.block, a.off, by rw [← hsp], ?_, fun i hi => ?_⟩
      · exact hblk (.cell a.block a.off) (MemPlace.mem_row.2 ⟨0, by omega, by simp⟩)
      · rw [hlen] at hi
        have h := hcell i (by omega)
        rw [hsp, add_at] at h
        rw [h]
        unfold at0
        simp [List.getD_eq_getElem?_getD, hi]
end
section
variable {H : Type} {enc : TypeId × Value → H} {P : Program}
/-- All arguments read behind the call as they did before. -/
theorem trodAll_stays (hl : laidOutB P = true) {W W' : World} (hb : Below W.heap.size W W') {sp : Nat → Bool} : ∀ {ts : List TypeId} {vs : List Value} {ds : List (DataW H)} {ps : List MemPlace},
    (∀ t ∈ ts, P.readableRec t = true ∧ t < P.types.size) → DataW.TrodAll enc P W 0 (fun _ => true) true ts vs ds ps → (∀ x ∈ ps, x.block < W.heap.size) → (∀ x ∈ ps, sp x.block = true) → DataW.TrodAll enc P W' 0 sp true ts vs ds ps
  | [], vs, ds, ps, _, h, _, _ => by
    obtain ⟨rfl, rfl, rfl⟩ := trodAll_nil h
    rfl
  | t :: ts, vs, ds, ps, hr, h, hlt, hs => by
    obtain ⟨v, vs', d, ds', p, q, rfl, rfl, rfl, h1, h2⟩ := trodAll_cons h
    have ht := hr t (by simp)
    refine trodAll_cons_mk (WideElems.Trod_stays hl ht.1 ht.2 h1 (fun x hx => hb.same (hlt x (by simp [hx]))) (fun x hx => hs x (by simp [hx]))) ?_
    exact trodAll_stays hl hb (fun t' h' => hr t' (by simp [h'])) h2 (fun x hx => hlt x (by simp [hx])) (fun x hx => hs x (by simp [hx]))
end
section
variable {H : Type} {enc : TypeId × Value → H}
theorem one3 : Try.prog.cellsOf 3 = 1 := by kernel_rfl
theorem two23 : Try.prog.cellsOf 23 = 2 := by kernel_rfl
theorem three82 : Try.prog.cellsOf 82 = 3 := by kernel_rfl
theorem one24 : Try.prog.cellsOf 24 = 1 := by kernel_rfl
theorem four26 : Try.prog.cellsOf 26 = 4 := by kernel_rfl
theorem by82 : Try.prog.bytesOf 82 = 24 := by kernel_rfl
theorem by3 : Try.prog.bytesOf 3 = 8 := by kernel_rfl
set_option maxRecDepth 100000 in
/-- A sample's cells. -/
theorem trod_smp {W : World} {fuel : Nat} {cs : List Value} {x : DataW H × List MemPlace} (hc : cs.length = 3) (h : DataW.trod enc Try.prog W 0 (fun _ => true) true fuel 82 cs = some x) : ∃ q : Smp, cs = encS q := by
  obtain ⟨xs, k, _, _, _, hlen, hf⟩ := DataW.trod_struct Try.underlying82 h
  match cs, hc, xs, hlen with
  | [a, b, c], _, [z0, z1, z2], _ =>
    have g0 := hf 0 _ rfl
    have g1 := hf 1 _ rfl
    have g2 := hf 2 _ rfl
    simp [one3] at g0 g1 g2
    obtain ⟨p0, e0, _, _⟩ := DataW.trod_int Try.underlying3 g0
    obtain ⟨p1, e1, _, _⟩ := DataW.trod_int Try.underlying3 g1
    obtain ⟨p2, e2, _, _⟩ := DataW.trod_int Try.underlying3 g2
    simp at e0 e1 e2
    subst e0 e1 e2
    exact ⟨⟨p0, p1, p2⟩, rfl⟩
instance : Inhabited Smp := ⟨⟨0, 0, 0⟩⟩
set_option maxRecDepth 100000 in
theorem trod_smps {W : World} {fuel : Nat} {cs : List Value} {x : DataW H × List MemPlace} (h : DataW.trod enc Try.prog W 0 (fun _ => true) true fuel 24 cs = some x) (hblk : ∀ y ∈ x.2, y.block < W.heap.size) (hsz : Sz Try.prog 24 x.1) : ∃ v ws, cs = [v] ∧ SlS W v ws := by
  rcases Deep.open_slice Try.underlying24 h with ⟨rfl, rfl⟩ | ⟨a, len, cap, m, n, D, Pl, rfl, _, hl, hm, hmm, rfl, hx⟩
  · exact ⟨_, [], rfl, slG_nil _ _ _⟩
  · simp only [if_true] at hmm
    have each : ∀ i, i < m → ∃ q : Smp, W.cell? (a.add (i * 3)) = some (.int .i64 q.week) ∧ W.cell? (a.add (i * 3 + 1)) = some (.int .i64 q.val) ∧ W.cell? (a.add (i * 3 + 2)) = some (.int .i64 q.off) := by
      intro i hi
      obtain ⟨cs', h1, h2⟩ := hx i hi
      rw [three82] at h1
      obtain ⟨_, hcl, hcell⟩ := World.cells?_some h1
      obtain ⟨q, rfl⟩ := trod_smp hcl h2
      have k0 := hcell 0 (by omega)
      have k1 := hcell 1 (by omega)
      have k2 := hcell 2 (by omega)
      rw [Deep.add_add] at k0 k1 k2
      exact ⟨q, by simpa [encS] using k0, by simpa [encS] using k1, by simpa [encS] using k2⟩
    obtain ⟨q, hq⟩ := Deep.choose_lt each
    refine ⟨_, (List.range len).map q, rfl, some a, cap, by simp, ?_, by simpa using hl, fun h0 => ?_⟩
    · have hr := sz_slice hsz Try.underlying24
      rw [by82] at hr
      simp only [List.length_map, List.length_range, reachBytes] at hr ⊢
      omega
    · simp only [List.length_map, List.length_range] at h0 ⊢
      have hsp := spot_none (a := a) (by simpa using (hq 0 (by omega)).1)
      refine ⟨a.block, a.off, by rw [← hsp], ?_, fun i hi f u hu => ?_⟩
      · refine hblk (.cell a.block a.off) (List.mem_append_left _ ?_)
        rw [three82]
        exact MemPlace.mem_row.2 ⟨0, by omega, by simp⟩
      · have h := hq i (by omega)
        rw [hsp, add_at, add_at, add_at] at h
        rw [List.getElem_map, List.getElem_range] at hu
        obtain ⟨g0, g1, g2⟩ := h
        match f, hu with
        | 0, hu => simp [encS] at hu; subst hu; exact g0
        | 1, hu => simp [encS] at hu; subst hu; rw [Nat.add_assoc]; exact g1
        | 2, hu => simp [encS] at hu; subst hu; rw [Nat.add_assoc]; exact g2
        | f + 3, hu => simp [encS] at hu
set_option maxRecDepth 100000 in
theorem opened_field {W : World} {base : Nat} {v : Value} {d : DataW H} {ps : List MemPlace} (hval : Value.okWide Try.prog W .any base 26 v) (hd : DataW.Trod enc Try.prog W 0 (fun _ => true) true 26 v d ps) (hblk : ∀ x ∈ ps, x.block < W.heap.size) (hsz : Sz Try.prog 26 d) :
    ∃ (n lo hi : Int) (u : Value) (ws : List Smp), v = .agg #[.int .i64 n, .int .i64 lo, .int .i64 hi, u] ∧ SlS W u ws := by
  obtain ⟨cs, rfl, hcs⟩ := okWide_struct Try.underlying26 hval
  rw [four26] at hcs
  obtain ⟨fuel, hf⟩ := hd
  obtain ⟨xs, k, _, hxe, _, hlen, hz⟩ := DataW.trod_struct Try.underlying26 hf
  obtain ⟨l⟩ := cs
  simp only [List.size_toArray] at hcs
  match l, hcs, xs, hlen with
  | [a, b, c, e], _, [z0, z1, z2], _ =>
    simp only [Prod.mk.injEq] at hxe
    obtain ⟨rfl, rfl⟩ := hxe
    have g0 := hz 0 _ rfl
    have g1 := hz 1 _ rfl
    have g2 := hz 2 _ rfl
    simp [one3, two23, one24, Value.cells] at g0 g1 g2
    obtain ⟨p0, e0, _, _⟩ := DataW.trod_int Try.underlying3 g0
    obtain ⟨ys, k', _, _, _, hlen', hf'⟩ := DataW.trod_struct Try.underlying23 g1
    obtain ⟨u, ws, e3, hw⟩ := trod_smps g2 (fun y hy => hblk y (by simp [hy])) (sz_struct (i := 2) hsz Try.underlying26 rfl rfl)
    match ys, hlen' with
    | [y0, y1], _ =>
      have r0 := hf' 0 _ rfl
      have r1 := hf' 1 _ rfl
      simp [one3] at r0 r1
      obtain ⟨p1, e1, _, _⟩ := DataW.trod_int Try.underlying3 r0
      obtain ⟨p2, e2, _, _⟩ := DataW.trod_int Try.underlying3 r1
      simp at e0 e1 e2 e3
      subst e0 e1 e2 e3
      exact ⟨p0, p1, p2, e, ws, rfl, hw⟩
set_option maxRecDepth 100000 in
theorem opened_nums {W : World} {base : Nat} {v : Value} {d : DataW H} {ps : List MemPlace} (hval : Value.okWide Try.prog W .any base 41 v) (hd : DataW.Trod enc Try.prog W 0 (fun _ => true) true 41 v d ps) (hblk : ∀ x ∈ ps, x.block < W.heap.size) (hsz : Sz Try.prog 41 d) :
    ∃ xs : List Int, SlI W v xs := by
  obtain ⟨a0, len, cap, rfl⟩ := okWide_slice Try.underlying41 hval
  obtain ⟨fuel, hf⟩ := hd
  obtain ⟨v, os, hv, h⟩ := trod_ints Try.underlying41 Try.underlying3 one3 by3 hf hblk hsz
  simp [Value.cells] at hv
  subst hv
  exact ⟨os, h⟩
end
end Ytgnjeefanbcbkaa
end Go.Proofs
