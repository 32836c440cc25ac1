/- The reference: the state after a move. -/
import Derived.Test.YteijenefhoconaaRefB
import Derived.Test.YteijenefhoconaaClone
open Go Go.RowKit Go.YteijenefhoconaaIt
namespace Go.Proofs
namespace Yteijenefhoconaa
theorem slT_own' {W : World} {base e : Nat} {v : Value} {ts : List Tn} (h : W.ownsRow base e 2 v ts.length (flat ts)) (hm : ts.length ≤ 8796093022208) : SlT W v ts := by
  rcases Joins.ownsRow_forms h with ⟨rfl, h0⟩ | ⟨g, cap, rfl⟩
  · exact ⟨none, 0, by rw [h0], hm, fun h1 => by omega⟩
  · have hl := h.lt g rfl
    refine ⟨_, cap, rfl, hm, fun _ => ⟨g, 0, rfl, hl.2, fun i hi => ?_⟩⟩
    have f := flat_at ts i hi
    have c1 := h.cellAt (i * 2) (by omega)
    have c2 := h.cellAt (i * 2 + 1) (by omega)
    rw [Nat.zero_add]
    exact ⟨c1.trans f.1, c2.trans f.2⟩
theorem info81 : (Try.prog.info? 81).map (fun i => (i.zero, i.size, i.bytes)) = some (some (.agg #[.int .i64 0, .int .i64 0]), 2, 16) := by kernel_rfl
theorem size81 : (Try.prog.info? 81).map (·.size) = some 2 := by kernel_rfl
/-- The trains after a move. -/
def movT (ts : List Tn) (i : Nat) : List Tn := ts.set i (nxtT ts i, tTo ts i)
theorem movT_len (ts : List Tn) (i : Nat) : (movT ts i).length = ts.length := by simp [movT]
theorem movT_at {ts : List Tn} {i j : Nat} (hi : i < ts.length) : tAt (movT ts i) j = (if j = i then nxtT ts i else tAt ts j) ∧ tTo (movT ts i) j = tTo ts j := by
  unfold movT tAt tTo
  simp only [List.getD_eq_getElem?_getD, List.getElem?_set]
  by_cases h : i = j
  · subst h; simp [hi]
  · simp [h, Ne.symm h]
theorem flat_news (ts : List Tn) {w : World} {b off : Nat} (hc : ∀ i, i < ts.length → w.cell? ⟨b, off + i * 2, none⟩ = some (.int .i64 (tAt ts i)) ∧ w.cell? ⟨b, off + i * 2 + 1, none⟩ = some (.int .i64 (tTo ts i))) :
    ∀ j u, (flat ts)[j]? = some u → w.cell? ((⟨b, off, none⟩ : Addr).add j) = some u := by
  intro j u hj
  have hl : j < ts.length * 2 := by rw [← flat_len]; exact (List.getElem?_eq_some_iff.1 hj).1
  have e : ((⟨b, off, none⟩ : Addr).add j) = ⟨b, off + j, none⟩ := by cases j <;> simp [Addr.add]
  rw [e]
  have h1 := flat_at ts (j / 2) (by omega)
  have h2 := hc (j / 2) (by omega)
  rcases Nat.mod_two_eq_zero_or_one j with h | h
  · have hj2 : j = j / 2 * 2 := by omega
    rw [hj2] at hj ⊢
    rw [h1.1] at hj; cases hj
    exact h2.1
  · have hj2 : j = j / 2 * 2 + 1 := by omega
    rw [hj2] at hj ⊢
    rw [h1.2] at hj; cases hj
    exact h2.2
theorem flat_one (ts : List Tn) : ∀ u ∈ flat ts, u.oneCell' = true := by
  intro u hu
  simp only [flat, List.mem_flatMap] at hu
  obtain ⟨x, _, hx⟩ := hu
  simp at hx
  rcases hx with rfl | rfl <;> rfl
set_option maxRecDepth 100000 in
set_option maxHeartbeats 1000000 in
theorem moved_any (vt : Value) (ts : List Tn) (i : Nat) (w : World) (ht : SlT w vt ts) (hi : i < ts.length) (h20 : ts.length ≤ 20) (hb1 : ∀ j, j < ts.length → (-1000 ≤ tAt ts j ∧ tAt ts j ≤ 1000) ∧ (-1000 ≤ tTo ts j ∧ tTo ts j ≤ 1000)) :
    Calls Try.prog 62 #[vt, .int .i64 i] w fun e w' => ∃ v, e = .returned v ∧ SlT w' v (movT ts i) ∧ Below w.heap.size w w' := by
  obtain ⟨ad, cap, rfl, hm, hc⟩ := ht
  obtain ⟨b, off, rfl, hlt, hcell⟩ := hc (by omega)
  have hnews := flat_news ts hcell
  have h1 := (hcell i hi).1
  have h2 := (hcell i hi).2
  have hn75 := fun (W : World) => next75_any (tAt ts i, tTo ts i) W (hb1 i hi).1 (hb1 i hi).2
  simp only [encT] at hn75
  have hcn : ∀ j u, (flat ts)[j]? = some u → (w.alloc (.cells #[] 81)).cell? ((⟨b, off, none⟩ : Addr).add j) = some u := fun j u hj => (World.cell?_of_block (w := w) (heap_oldI (by rw [addr_block]; exact hlt))).trans (hnews j u hj)
  have HCN := Lib.hid hcn
  clear hcn hnews hcell hc
  obtain ⟨i81, hi81, hz1, hz2, hz3⟩ := info_parts info81
  go_enter Try.func62, Try.ntmps62
  refine wp_seq_k (fun K hK => ?_)
  have HK := Lib.hid hK; clear hK
  go_wp2
  refine HK.out _ _ ?_; clear HK K
  refine wp_seq_k (fun K hK => ?_)
  have HK := Lib.hid hK; clear hK
  go_wp2_with (at_builtin; refine wpList_append_own _ rfl (.tmp 6) (.tmp 7) 26 rfl w.heap.size 81 i81 (.agg #[.int .i64 0, .int .i64 0]) 2 16 Try.underlying26 hi81 hz1 hz2 hz3 rfl (by decide) _ _ _ rfl (World.ownsRow_made w #[] 0 (Nat.le_refl _) (by decide) rfl) ⟨b, off, none⟩ ts.length cap (flat ts) rfl (flat_len ts) HCN.out (flat_one ts) (Nat.le_trans (by omega : 0 + ts.length ≤ 2000) (by decide)) (by omega) (by rw [World.size_alloc]; omega) ?_; intro v' w6 r1 r2 _)
  refine HK.out _ _ ?_; clear HK K
  have hown : w6.ownsRow w.heap.size 81 2 v' ts.length (flat ts) := by simpa using r1
  have hbw : Below w.heap.size w w6 := by
    have hs : w.heap.size + 1 ≤ w6.heap.size := by have := r2.size; simpa using this
    refine ⟨r2.os, r2.tape, r2.output, by omega, fun k hk => ?_⟩
    rw [r2.block k (by simp; omega) (fun h2 => by have h3 : some k = some w.heap.size := h2; injection h3; omega)]
    exact heap_oldI hk
  obtain ⟨g, capg, rfl⟩ := Joins.ownsRow_form hown (by omega)
  have hgl := hown.lt g rfl
  obtain ⟨cur, hgc⟩ : ∃ cur, w6.heap[g]? = some (.cells cur 81 (0, 0)) := by
    rcases hown.2 with ⟨h, _⟩ | ⟨g2, cap2, cur, hv, _, hh, _⟩
    · cases h
    · injection hv with e1 _ _
      injection e1 with e1
      injection e1 with e1
      subst e1
      exact ⟨cur, hh⟩
  have hcells : ∀ j, j < ts.length → w6.cell? ⟨g, j * 2, none⟩ = some (.int .i64 (tAt ts j)) ∧ w6.cell? ⟨g, j * 2 + 1, none⟩ = some (.int .i64 (tTo ts j)) := fun j hj => by
    have f := flat_at ts j hj
    exact ⟨(hown.cellAt (j * 2) (by omega)).trans f.1, (hown.cellAt (j * 2 + 1) (by omega)).trans f.2⟩
  have h1' := (hbw.cell (p := ⟨b, off + i * 2, none⟩) hlt).trans h1
  have h2' := (hbw.cell (p := ⟨b, off + i * 2 + 1, none⟩) hlt).trans h2
  have HC := Lib.hid hcells
  clear r1 r2 hown HCN h1 h2 hcells
  refine wp_seq_k (fun K hK => ?_)
  have HK := Lib.hid hK; clear hK
  have hs6 := hbw.size
  go_wp2_with (go_at_call 75; refine (hn75 _).mono ?_; rintro e w7 ⟨rfl, hb7⟩; have c3 := (hb7.cell (p := ⟨g, i * 2, none⟩) hgl.2).trans (HC.out i hi).1; have z3 := free_blk (i := i * 2) (blk_below hgc hb7 hgl.2))
  refine HK.out _ _ ?_; clear HK K
  go_wp2
  go_ret
  have hs7 := hb7.size
  refine ⟨_, rfl, ⟨_, capg, by rw [movT_len]; rfl, by rw [movT_len]; exact hm, fun _ => ⟨g, 0, rfl, by simp; omega, fun j hj => ?_⟩⟩, ((hbw.trans (hb7.mono hs6)).setCell (by simp; omega) _)⟩
  rw [movT_len] at hj
  rw [Nat.zero_add, (movT_at hi).1, (movT_at hi).2]
  have d1 := (hb7.cell (p := ⟨g, j * 2, none⟩) hgl.2).trans (HC.out j hj).1
  have d2 := (hb7.cell (p := ⟨g, j * 2 + 1, none⟩) hgl.2).trans (HC.out j hj).2
  refine ⟨?_, ?_⟩
  · by_cases hji : j = i
    · subst hji
      rw [if_pos rfl]
      exact World.cell?_setCell_same _ _ _ d1
    · rw [if_neg hji, World.cell?_setCell_other _ _ _ _ (by intro h; injection h; omega)]
      exact d1
  · rw [World.cell?_setCell_other _ _ _ _ (by intro h; injection h; omega)]
    exact d2
end Yteijenefhoconaa
end Go.Proofs
