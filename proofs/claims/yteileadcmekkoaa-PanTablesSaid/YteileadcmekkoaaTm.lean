/- Rows of numbers of a call's own, strike by strike: what lies in memory. -/
import Derived.Test.YteileadcmekkoaaRx
import Derived.Test.YteileadcmekkoaaGenH
import Derived.Test.YteileadcmekkoaaQ20
open Go Go.RowKit Go.YteileadcmekkoaaIt
namespace Go.Proofs
namespace Yteileadcmekkoaa
open PanPlain (upd upd_same upd_ne)
def slN (g m : Nat) : Value := .slice (some ⟨g, 0, none⟩) m m
/-- c rows of m numbers, in blocks of their own, and the slice of them. -/
structure TM (w0 : World) (bb m : Nat) (gs : Nat → Nat) (Y : Tim) (c : Nat) (ov : Value) (W : World) : Prop where
  rows : ∀ k, k < c → W.heap[gs k]? = some (.cells (rowX m (Y k)).toArray 3 (0, 0))
  inj : ∀ k k', k < c → k' < c → gs k = gs k' → k = k'
  lo : ∀ k, k < c → bb ≤ gs k
  out : W.ownsRow bb 45 1 ov c ((List.range c).map fun k => slN (gs k) m)
  b : Below bb w0 W
theorem TM.below {w0 : World} {bb m : Nat} {gs : Nat → Nat} {Y : Tim} {c : Nat} {ov : Value} {W W' : World} (h : TM w0 bb m gs Y c ov W) (h0 : bb ≤ w0.heap.size) (hb : Below W.heap.size W W') : TM w0 bb m gs Y c ov W' :=
  ⟨fun k hk => blk_keep (h.rows k hk) hb, h.inj, h.lo, row_below h.out hb, h.b.trans (hb.mono (Nat.le_trans h0 h.b.size))⟩
theorem TM.congr {w0 : World} {bb m : Nat} {gs : Nat → Nat} {Y Y' : Tim} {c : Nat} {ov : Value} {W : World} (h : TM w0 bb m gs Y c ov W) (he : ∀ k v, k < c → v < m → Y k v = Y' k v) : TM w0 bb m gs Y' c ov W :=
  ⟨fun k hk => by rw [← rowX_same (fun v hv => he k v hk hv)]; exact h.rows k hk, h.inj, h.lo, h.out, h.b⟩
/-- A further row, of zeros. -/
theorem TM.begin {w0 : World} {bb m : Nat} {gs : Nat → Nat} {Y : Tim} {c : Nat} {ov ov' : Value} {W Wa W6 : World} (h : TM w0 bb m gs Y c ov W) (h0 : bb ≤ w0.heap.size) (hb : Below W.heap.size W Wa)
    (hrow : Wa.heap[W.heap.size]? = some (.cells (rowX m (Y c)).toArray 3 (0, 0))) (r1 : W6.ownsRow bb 45 1 ov' (c + 1) (((List.range c).map fun k => slN (gs k) m) ++ [slN W.heap.size m])) (r2 : Wa.grownBy W6 ov.ownBlock) :
    TM w0 bb m (upd gs c W.heap.size) Y (c + 1) ov' W6 := by
  have hlt : ∀ k, k < c → gs k < W.heap.size := fun k hk => lt_blk (h.rows k hk)
  have hbs := h.b.size
  have ho := row_below h.out hb
  have hov : ∀ b, ov.ownBlock = some b → b < W.heap.size ∧ bb ≤ b := fun b e => ⟨(h.out.lt b e).2, (h.out.lt b e).1⟩
  refine ⟨fun k hk => ?_, fun k k' hk hk' e => ?_, fun k hk => ?_, ?_, ?_⟩
  · by_cases hkc : k = c
    · subst hkc
      rw [upd_same]
      exact (r2.block _ (lt_blk hrow) (fun e => own_ne ho hrow (by decide) e.symm)).trans hrow
    · rw [upd_ne _ _ hkc]
      have h1 := blk_keep (h.rows k (by omega)) hb
      exact (r2.block _ (lt_blk h1) (fun e => own_ne ho h1 (by decide) e.symm)).trans h1
  · by_cases h1 : k = c <;> by_cases h2 : k' = c
    · omega
    · subst h1
      rw [upd_same, upd_ne _ _ h2] at e
      have := hlt k' (by omega); omega
    · subst h2
      rw [upd_same, upd_ne _ _ h1] at e
      have := hlt k (by omega); omega
    · rw [upd_ne _ _ h1, upd_ne _ _ h2] at e
      exact h.inj k k' (by omega) (by omega) e
  · by_cases hkc : k = c
    · subst hkc; rw [upd_same]; omega
    · rw [upd_ne _ _ hkc]; exact h.lo k (by omega)
  · have e : ((List.range (c + 1)).map fun k => slN (upd gs c W.heap.size k) m) = ((List.range c).map fun k => slN (gs k) m) ++ [slN W.heap.size m] := by
      rw [List.range_succ, List.map_append, List.map_cons, List.map_nil, upd_same]
      congr 1
      exact List.map_congr_left fun k hk => by rw [upd_ne _ _ (by have := List.mem_range.1 hk; omega)]
    rw [e]; exact r1
  · have hs2 := hb.size
    have hs3 := r2.size
    exact ⟨r2.os.trans (hb.os.trans h.b.os), r2.tape.trans (hb.tape.trans h.b.tape), r2.output.trans (hb.output.trans h.b.output), by omega,
      fun b hbb => (r2.block b (by omega) (fun e => by have := hov b e.symm; omega)).trans ((hb.block b (by omega)).trans (h.b.block b hbb))⟩
/-- A number of a row is changed. -/
theorem TM.set {w0 : World} {bb m : Nat} {gs : Nat → Nat} {Y Y' : Tim} {c : Nat} {ov : Value} {W : World} (h : TM w0 bb m gs Y c ov W) {k s : Nat} (hk : k < c) {x : Int} (hY : ∀ q v, Y' q v = if q = k ∧ v = s then x else Y q v) :
    TM w0 bb m gs Y' c ov (W.setCell ⟨gs k, s, none⟩ (.int .i64 x)) := by
  have hr := h.rows k hk
  refine ⟨fun q hq => ?_, h.inj, h.lo, ?_, ?_⟩
  · by_cases hqk : q = k
    · subst hqk
      have e : rowX m (Y' q) = rowX m (upd (Y q) s x) := rowX_same fun v _ => by
        rw [hY]
        by_cases hv : v = s
        · subst hv; rw [if_pos ⟨rfl, rfl⟩, upd_same]
        · rw [if_neg (fun e => hv e.2), upd_ne _ _ hv]
      rw [e, ← rowX_set]
      exact heap_set_blk hr
    · have e : rowX m (Y' q) = rowX m (Y q) := rowX_same fun v _ => by rw [hY, if_neg (fun e => hqk e.1)]
      rw [e]
      exact (heap_set_other (fun e => hqk (h.inj q k hq hk e))).trans (h.rows q hq)
  · exact row_set_other h.out (own_ne h.out hr (by decide))
  · exact h.b.setCell (p := ⟨gs k, s, none⟩) (h.lo k hk) _
/-- What it reads as. -/
theorem TM.cells {w0 : World} {bb m : Nat} {gs : Nat → Nat} {Y : Tim} {c : Nat} {ov : Value} {W : World} (h : TM w0 bb m gs Y c ov W) (hc : 0 < c) :
    ∃ g cap, ov = .slice (some ⟨g, 0, none⟩) c cap ∧ g < W.heap.size ∧ (∀ k, k < c → W.cell? ⟨g, k, none⟩ = some (slN (gs k) m)) ∧ ∀ k v, k < c → v < m → W.cell? ⟨gs k, v, none⟩ = some (.int .i64 (Y k v)) := by
  rcases h.out.2 with ⟨_, h2⟩ | ⟨g, cap, cur, rfl, hbg, hh, h3, h4, h5, h6⟩
  · exfalso; first | omega | (simp at h2) | (have := h2.1; omega)
  · refine ⟨g, cap, rfl, lt_blk hh, fun k hk => ?_, fun k v hk hv => ?_⟩
    · have h7 := cell_blk (i := k) hh
      rw [h7]
      have h8 : (cur.toList.take (c * 1))[k]? = some (slN (gs k) m) := by rw [h6]; simp [hk]
      rw [List.getElem?_take_of_lt (by omega)] at h8
      simpa using h8
    · have h7 := cell_blk (i := v) (h.rows k hk)
      rw [h7]
      simpa using rowX_get (Y k) hv
theorem TM.slII {w0 : World} {bb m : Nat} {gs : Nat → Nat} {Y : Tim} {c : Nat} {ov : Value} {W : World} (h : TM w0 bb m gs Y c ov W) (hc : c ≤ 1000) (hm : m ≤ 1000) : SlII W ov ((List.range c).map fun k => (List.range m).map (Y k)) := by
  refine ⟨(List.range c).map fun k => slN (gs k) m, ?_, by simp, fun i hi hi' => ?_⟩
  · rcases Nat.eq_zero_or_pos c with rfl | hc0
    · rcases h.out.2 with ⟨rfl, _⟩ | ⟨g, cap, cur, rfl, hbg, hh, h3, h4, h5, h6⟩
      · exact ⟨none, 0, rfl, by simp, by simp, fun h => by simp at h⟩
      · exact ⟨some ⟨g, 0, none⟩, cap, by simp, by simp, by simp, fun h => by simp at h⟩
    · rcases h.out.2 with ⟨_, h2⟩ | ⟨g, cap, cur, e, hbg, hh, h3, h4, h5, h6⟩
      · exfalso; first | omega | (simp at h2) | (have := h2.1; omega)
      · obtain ⟨g', cap', e', hg', hcell, -⟩ := h.cells hc0
        rw [e] at e'
        injection e' with e1 e2 e3
        injection e1 with e1
        injection e1 with e1
        subst e1
        refine ⟨_, cap, by rw [e]; simp, by simp; omega, by simpa using h3, fun _ => ⟨g, 0, rfl, hg', fun i hi => ?_⟩⟩
        simp only [List.length_map, List.length_range] at hi
        rw [Nat.zero_add, hcell i hi]; simp
  · simp only [List.length_map, List.length_range] at hi
    simp only [List.getElem_map, List.getElem_range]
    refine ⟨_, m, by simp only [List.length_map, List.length_range]; rfl, by simp; omega, by simp, fun h0 => ⟨gs i, 0, rfl, lt_blk (h.rows i hi), fun v hv => ?_⟩⟩
    simp only [List.length_map, List.length_range] at hv h0
    have h7 := cell_blk (i := v) (h.rows i hi)
    rw [Nat.zero_add, h7]
    have e : at0 ((List.range m).map (Y i)) v = Y i v := by unfold at0; simp [List.getD_eq_getElem?_getD, hv]
    rw [e]
    simpa using rowX_get (Y i) hv
end Yteileadcmekkoaa
end Go.Proofs
