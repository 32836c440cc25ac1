/- What the arguments of the laws of layer 06 read as: a work, a period. -/
import Derived.Test.YteileadcmekkoaaOp
open Go Go.RowKit Go.YteileadcmekkoaaIt
namespace Go.Proofs
namespace Yteileadcmekkoaa
open Go.ChangeShapes Go.WideShapes Go.ChangeAt
section
variable {H : Type} {enc : TypeId × Value → H}
theorem one3 : Try.prog.cellsOf 3 = 1 := by kernel_rfl
theorem two80 : Try.prog.cellsOf 80 = 2 := by kernel_rfl
theorem five82 : Try.prog.cellsOf 82 = 5 := by kernel_rfl
theorem one22 : Try.prog.cellsOf 22 = 1 := by kernel_rfl
theorem two24 : Try.prog.cellsOf 24 = 2 := by kernel_rfl
theorem by82 : Try.prog.bytesOf 82 = 40 := by kernel_rfl
set_option maxRecDepth 100000 in
/-- A wait's cells. -/
theorem trod_wa {W : World} {fuel : Nat} {cs : List Value} {x : DataW H × List MemPlace} (hc : cs.length = 5) (h : DataW.trod enc Try.prog W 0 (fun _ => true) true fuel 82 cs = some x) : ∃ q : Wa, cs = encA q := by
  obtain ⟨xs, k, _, _, _, hlen, hf⟩ := DataW.trod_struct Try.underlying82 h
  match cs, hc, xs, hlen with
  | [a, b, c, d, e], _, [z0, z1, z2, z3], _ =>
    have g0 := hf 0 _ rfl
    have g1 := hf 1 _ rfl
    have g2 := hf 2 _ rfl
    have g3 := hf 3 _ rfl
    simp [one3, two80] at g0 g1 g2 g3
    obtain ⟨p0, e0, _, _⟩ := DataW.trod_int Try.underlying3 g0
    obtain ⟨p1, e1, _, _⟩ := DataW.trod_int Try.underlying3 g1
    obtain ⟨p4, e4, _, _⟩ := DataW.trod_int Try.underlying3 g3
    obtain ⟨ys, k', _, _, _, hlen', hf'⟩ := DataW.trod_struct Try.underlying80 g2
    match ys, hlen' with
    | [y0, y1], _ =>
      have r0 := hf' 0 _ rfl
      have r1 := hf' 1 _ rfl
      simp [one3] at r0 r1
      obtain ⟨p2, e2, _, _⟩ := DataW.trod_int Try.underlying3 r0
      obtain ⟨p3, e3, _, _⟩ := DataW.trod_int Try.underlying3 r1
      simp at e0 e1 e2 e3 e4
      subst e0 e1 e2 e3 e4
      exact ⟨⟨p0, p1, p2, p3, p4⟩, rfl⟩
instance : Inhabited Wa := ⟨⟨0, 0, 0, 0, 0⟩⟩
set_option maxRecDepth 100000 in
theorem trod_was {W : World} {fuel : Nat} {cs : List Value} {x : DataW H × List MemPlace} (h : DataW.trod enc Try.prog W 0 (fun _ => true) true fuel 22 cs = some x) (hblk : ∀ y ∈ x.2, y.block < W.heap.size) (hsz : Sz Try.prog 22 x.1) : ∃ v ws, cs = [v] ∧ SlA W v ws := by
  rcases Deep.open_slice Try.underlying22 h with ⟨rfl, rfl⟩ | ⟨a, len, cap, m, n, D, Pl, rfl, _, hl, hm, hmm, rfl, hx⟩
  · exact ⟨_, [], rfl, slG_nil _ _ _⟩
  · simp only [if_true] at hmm
    have each : ∀ i, i < m → ∃ q : Wa, W.cell? (a.add (i * 5)) = some (.int .i64 q.f) ∧ W.cell? (a.add (i * 5 + 1)) = some (.int .i64 q.t) ∧ W.cell? (a.add (i * 5 + 2)) = some (.int .i64 q.lo) ∧ W.cell? (a.add (i * 5 + 3)) = some (.int .i64 q.hi) ∧ W.cell? (a.add (i * 5 + 4)) = some (.int .i64 q.b) := by
      intro i hi
      obtain ⟨cs', h1, h2⟩ := hx i hi
      rw [five82] at h1
      obtain ⟨_, hcl, hcell⟩ := World.cells?_some h1
      obtain ⟨q, rfl⟩ := trod_wa hcl h2
      have k0 := hcell 0 (by omega)
      have k1 := hcell 1 (by omega)
      have k2 := hcell 2 (by omega)
      have k3 := hcell 3 (by omega)
      have k4 := hcell 4 (by omega)
      rw [Deep.add_add] at k0 k1 k2 k3 k4
      exact ⟨q, by simpa [encA] using k0, by simpa [encA] using k1, by simpa [encA] using k2, by simpa [encA] using k3, by simpa [encA] using k4⟩
    obtain ⟨q, hq⟩ := Deep.choose_lt each
    refine ⟨_, (List.range len).map q, rfl, some a, cap, by simp, ?_, by simpa using hl, fun h0 => ?_⟩
    · have hr := sz_slice hsz Try.underlying22
      rw [by82] at hr
      simp only [List.length_map, List.length_range, reachBytes] at hr ⊢
      omega
    · simp only [List.length_map, List.length_range] at h0 ⊢
      have hsp := spot_none (a := a) (by simpa using (hq 0 (by omega)).1)
      refine ⟨a.block, a.off, by rw [← hsp], ?_, fun i hi f u hu => ?_⟩
      · refine hblk (.cell a.block a.off) (List.mem_append_left _ ?_)
        rw [five82]
        exact MemPlace.mem_row.2 ⟨0, by omega, by simp⟩
      · have h := hq i (by omega)
        rw [hsp, add_at, add_at, add_at, add_at, add_at] at h
        rw [List.getElem_map, List.getElem_range] at hu
        obtain ⟨g0, g1, g2, g3, g4⟩ := h
        match f, hu with
        | 0, hu => simp [encA] at hu; subst hu; exact g0
        | 1, hu => simp [encA] at hu; subst hu; rw [Nat.add_assoc]; exact g1
        | 2, hu => simp [encA] at hu; subst hu; rw [Nat.add_assoc]; exact g2
        | 3, hu => simp [encA] at hu; subst hu; rw [Nat.add_assoc]; exact g3
        | 4, hu => simp [encA] at hu; subst hu; rw [Nat.add_assoc]; exact g4
        | f + 5, hu => simp [encA] at hu
set_option maxRecDepth 100000 in
theorem opened_work {W : World} {base : Nat} {v : Value} {d : DataW H} {ps : List MemPlace} (hval : Value.okWide Try.prog W .any base 24 v) (hd : DataW.Trod enc Try.prog W 0 (fun _ => true) true 24 v d ps) (hblk : ∀ x ∈ ps, x.block < W.heap.size) (hsz : Sz Try.prog 24 d) :
    ∃ (n : Int) (u : Value) (ws : List Wa), v = .agg #[.int .i64 n, u] ∧ SlA W u ws := by
  obtain ⟨cs, rfl, hcs⟩ := okWide_struct Try.underlying24 hval
  rw [two24] at hcs
  obtain ⟨fuel, hf⟩ := hd
  obtain ⟨xs, k, _, hxe, _, hlen, hz⟩ := DataW.trod_struct Try.underlying24 hf
  obtain ⟨l⟩ := cs
  simp only [List.size_toArray] at hcs
  match l, hcs, xs, hlen with
  | [a, e], _, [z0, z1], _ =>
    simp only [Prod.mk.injEq] at hxe
    obtain ⟨rfl, rfl⟩ := hxe
    have g0 := hz 0 _ rfl
    have g1 := hz 1 _ rfl
    simp [one3, one22, Value.cells] at g0 g1
    obtain ⟨p0, e0, _, _⟩ := DataW.trod_int Try.underlying3 g0
    obtain ⟨u, ws, e3, hw⟩ := trod_was g1 (fun y hy => hblk y (by simp [hy])) (sz_struct (i := 1) hsz Try.underlying24 rfl rfl)
    simp at e0 e3
    subst e0 e3
    exact ⟨p0, e, ws, rfl, hw⟩
end
end Yteileadcmekkoaa
end Go.Proofs
