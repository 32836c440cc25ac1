/- Fields: the least sweetness of a week. -/
import Derived.Test.YtgnjeefanbcbkaaA5
open Go Go.RowKit Go.YtgnjeefanbcbkaaIt
namespace Go.Proofs
namespace Ytgnjeefanbcbkaa
theorem lines_any {b n : Nat} {L H : Nat → Int} {x : Nat} {w : World} (hy : Yr w b n L H) :
    Calls Try.prog 72 #[.pointer (some ⟨b, 0, none⟩), .int .i64 (x : Int)] w fun e w' =>
      e = .returned (.func (.func 84) #[] #[.pointer (some ⟨w.heap.size + 1, 0, none⟩), .pointer (some ⟨w.heap.size, 0, none⟩)]) ∧ KeL (w.heap.size + 1) w.heap.size b n L H x w' ∧ Below w.heap.size w w' ∧ w.heap.size + 2 ≤ w'.heap.size := by
  have hmf : ∀ (fn : Fn) (first cap : Array Value) (w : World), (Instr.makeFunc fn first cap).run Try.prog w = .ok (.func fn first cap) w := fun _ _ _ _ => rfl
  have HY := Lib.hid hy
  clear hy
  go_enter Try.func72, Try.ntmps72
  go_wp2
  generalize hw1 : World.alloc _ _ = w1
  obtain ⟨b1, b2, hB, hs1⟩ := blk2 hw1
  clear hw1
  go_ret
  exact ⟨rfl, ⟨b2, b1, HY.out.keep hB⟩, hB, hs1⟩
theorem lineW_bd {i k w : Int} {x y : Int} (hi : 0 ≤ i ∧ i ≤ 29) (hk : 0 ≤ k ∧ k ≤ 29) (hw : 0 ≤ w ∧ w ≤ 29) (hne : i ≠ k) (hx : 0 ≤ x ∧ x ≤ 30000) (hy : 0 ≤ y ∧ y ≤ 30000) : Bd 2000000 29 (lineF i (whole x) k (whole y) w) := by
  have e : lineF i (whole x) k (whole y) w = nrm (x * (k - i) + (y - x) * (w - i)) (k - i) := by simp [lineF, whole]
  rw [e]
  have h1 := mulB (a := x) (A := 30000) (b := k - i) (B := 29) (by omega) (by omega) (by omega) (by omega)
  have h2 := mulB (a := y - x) (A := 30000) (b := w - i) (B := 29) (by omega) (by omega) (by omega) (by omega)
  unfold nrm
  split
  · exact ⟨by show _ ≤ -_; omega, by show -_ ≤ _; omega, by show 0 < -_; omega, by show -_ ≤ _; omega⟩
  · exact ⟨by show _ ≤ _ + _; omega, by show _ + _ ≤ _; omega, by show 0 < _ - _; omega, by show _ - _ ≤ _; omega⟩
theorem lines_bd {n : Nat} {L H : Nat → Int} (hb : Bds n L H) {w : Nat} (hw : w < n) : ∀ y ∈ linesL L n w, Bd 2000000 29 y := by
  intro y hy
  obtain ⟨i, k, h1, h2, h3, rfl⟩ := mem_lines.1 hy
  have := hb.n30
  exact lineW_bd (by omega) (by omega) (by omega) (by omega) (hb.lo i (by omega)) (hb.lo k h3)
theorem toBig {x : Fr} (h : Bd 2000000 29 x) : Big x := h.mono (by decide) (by decide)
theorem lower_bd {n : Nat} {L H : Nat → Int} (hb : Bds n L H) {w : Nat} (hw : w < n) : Bd 2000000 29 (lowerF L n w) := big_all (whole_bd (hb.lo w hw)) (lines_bd hb hw)
theorem oneFr (x : Fr) : (#[Value.int .i64 x.o, Value.int .i64 x.u] : Array Value).all (·.oneCell') = true := by simp [Value.oneCell']
set_option maxRecDepth 100000 in
set_option maxHeartbeats 4000000 in
theorem lower_any {b n : Nat} {L H : Nat → Int} {x : Nat} {w : World} (hb : Bds n L H) (hx : x < n) (hy : Yr w b n L H) :
    Calls Try.prog 41 #[.pointer (some ⟨b, 0, none⟩), .int .i64 (x : Int)] w fun e w' => e = .returned (enc (lowerF L n x)) ∧ Below w.heap.size w w' := by
  refine calls_of_wpM Try.func41 rfl ?_
  simp only [Try.ntmps41, List.size_toArray, List.length_cons, List.length_nil, Nat.reduceAdd, Nat.reduceSub, Array.replicate_succ, Array.replicate_zero, List.push_toArray, List.append_toArray, List.nil_append, List.cons_append]
  refine wpIn_seq_k (fun K hK => ?_)
  have HK := Lib.hid hK; clear hK
  gi_wp2
  refine HK.out _ _ ?_; clear HK K
  generalize hw1 : World.alloc _ _ = w1
  obtain ⟨b4, hB, hs1⟩ := blk1 hw1
  clear hw1
  have hy1 := hy.keep hB
  have c0 := hy1.lo x hx
  have hx30 : x < 30 := by have := hb.n30; omega
  refine wpIn_seq_k (fun K hK => ?_)
  have HK := Lib.hid hK; clear hK
  gi_wp2_with (gi_at_call 59; refine callsTo (whole_any (L x) _) ?_; rintro e w2 ⟨rfl, hb2⟩)
  refine HK.out _ _ ?_; clear HK K
  generalize hw3 : World.alloc _ _ = w3
  obtain ⟨b5, hB3, hs3⟩ := blk1 hw3
  clear hw3 c0
  replace b4 := blk_keep (blk_keep b4 hb2) hB3
  replace hB := btr (btr hB hb2 (Nat.le_refl _)) hB3 (Nat.le_refl _)
  have hl5 : w.heap.size + 1 ≤ w2.heap.size := Nat.le_trans hs1 hb2.size
  have hy3 := (hy1.keep hb2).keep hB3
  generalize hp5 : w2.heap.size = p5 at *
  clear hb2 hB3 hy1 hs1 hp5 w2 w1
  refine wpIn_seq_k (fun K hK => ?_)
  have HK := Lib.hid hK; clear hK
  refine wpIn_seq_k (fun K2 hK2 => ?_)
  have HK2 := Lib.hid hK2; clear hK2
  gi_wp2_with (gi_at_call 72; refine callsTo (lines_any hy3) ?_; rintro e w4 ⟨rfl, hke, hb4, hs4⟩)
  refine HK2.out _ _ ?_; clear HK2 K2
  replace b4 := blk_keep b4 hb4
  replace b5 := blk_keep b5 hb4
  replace hB := btr hB hb4 (Nat.le_refl _)
  have hl53 : p5 < w3.heap.size := hs3
  have hit := lines_iter (fun _ => False) (w3.heap.size + 1) w3.heap.size b n L H x hb hx
  have hyl : (linesY L n x).length = (linesL L n x).length := by simp [linesY]
  have hbd := lines_bd hb hx
  refine wpIn_block ?_
  refine wpIn_range (gf := 84) (lb := #[.pointer (some ⟨w3.heap.size + 1, 0, none⟩), .pointer (some ⟨w3.heap.size, 0, none⟩)]) ?hg ?eg hit ?hps
    (fun k W => (W.heap[w3.heap.size + 1]? = some (.cells #[.int .i64 (x : Int)] 3 (0, 0)) ∧ W.heap[w3.heap.size]? = some (.cells #[.pointer (some ⟨b, 0, none⟩)] 89 (0, 0))) ∧ W.heap[w.heap.size]? = some (.cells #[.int .i64 0, .int .i64 0] 93 (0, 0)) ∧ W.heap[p5]? = some (.cells #[.int .i64 (big ((linesL L n x).take k) (whole (L x))).o, .int .i64 (big ((linesL L n x).take k) (whole (L x))).u] 93 (0, 0)) ∧ Below w.heap.size w W)
    (fun c W => False) ?hK ?sI ?sIx ?h0 ?round ?done ?stop
  case hg => rfl
  case eg => exact (enters_of Try.func84 (by kernel_rfl) rfl)
  case hps => intro y hy; simp [linesY] at hy; obtain ⟨i, _, rfl⟩ := hy; rfl
  case hK => exact fun k W ⟨⟨h1, h2⟩, _, _, h5⟩ => ⟨h1, h2, hy.keep h5⟩
  case sI => exact fun k => (Stb.cells.and Stb.cells).and (Stb.cells.and (Stb.cells.and (Stb.below hB.size (Nat.le_refl _))))
  case sIx => exact fun c => Stb.pure
  case h0 => exact ⟨⟨hke.wk, hke.pt⟩, b4, b5, hB⟩
  case stop => rintro c W h; exact h.elim
  case round =>
    rintro k hk l2 W ⟨⟨g1, g2⟩, g4, g5, gB⟩
    have hk' : k < (linesL L n x).length := by rw [← hyl]; exact hk
    have hyk : (linesY L n x)[k] = #[enc (linesL L n x)[k]] := by simp [linesY]
    have hbk := hbd _ (List.getElem_mem hk')
    have hts : big ((linesL L n x).take (k + 1)) (whole (L x)) = most (big ((linesL L n x).take k) (whole (L x))) (linesL L n x)[k] := by rw [List.take_succ_eq_append_getElem hk', big_app]
    have hbz : Bd 2000000 29 (big ((linesL L n x).take k) (whole (L x))) := big_all (whole_bd (hb.lo x hx)) fun y hy => hbd y (List.mem_of_mem_take hy)
    rw [hyk, hts]
    generalize big ((linesL L n x).take k) (whole (L x)) = z at *
    generalize (linesL L n x)[k] = y at *
    have HBZ := Lib.hid (toBig hbz)
    have HBY := Lib.hid (toBig hbk)
    clear hyk hts hit hke b4 b5 hbd hb4 hbz hbk hk
    simp only [List.zip_toArray, List.zip_cons_cons, List.zip_nil_right, List.foldl_toArray', List.size_toArray, List.length_cons, List.length_nil, List.foldl_cons, List.foldl_nil, List.setIfInBounds_toArray, List.set_cons_succ, List.set_cons_zero]
    gi_wp2
    have hbe : Below W.heap.size W (W.alloc (.cells #[.int .i64 y.o, .int .i64 y.u] 93)) := (Below.refl _ _).alloc (Nat.le_refl _) _
    have hb7 := gB.trans (hbe.mono gB.size)
    refine ⟨Kx.below hbe, fun V => (V.heap[w3.heap.size + 1]? = some (.cells #[.int .i64 (x : Int)] 3 (0, 0)) ∧ V.heap[w3.heap.size]? = some (.cells #[.pointer (some ⟨b, 0, none⟩)] 89 (0, 0))) ∧ V.heap[w.heap.size]? = some (.cells #[.int .i64 0, .int .i64 0] 93 (0, 0)) ∧ V.heap[p5]? = some (.cells #[.int .i64 z.o, .int .i64 z.u] 93 (0, 0)) ∧ V.heap[W.heap.size]? = some (.cells #[.int .i64 y.o, .int .i64 y.u] 93 (0, 0)) ∧ Below w.heap.size w V,
      (Stb.cells.and Stb.cells).and (Stb.cells.and (Stb.cells.and (Stb.cells.and (Stb.below hB.size (Nat.le_refl _))))),
      ⟨⟨blk_keep g1 hbe, blk_keep g2 hbe⟩, blk_keep g4 hbe, blk_keep g5 hbe, heap_newI rfl, hb7⟩, ?_⟩
    have hlW : p5 < W.heap.size := lt_blk g5
    clear g1 g2 g4 g5 gB hbe hb7
    rintro V - ⟨⟨g1, g2⟩, g4, g5, g6, gB⟩
    refine wpIn_block ?_
    have hal : ∀ o, Below V.heap.size V (V.alloc o) := fun o => (Below.refl _ _).alloc (Nat.le_refl _) o
    have h73 := fun (c : Nat) => best_any z y V.heap.size c (V.alloc (.cells #[.int .i64 y.o, .int .i64 y.u] 93)) HBZ.out HBY.out (mid_blk (heap_newI rfl) (fun j v h => by simpa using h)) (by simp)
    have H73 := Lib.hid h73
    clear h73
    gi_wp2_with (first | (refine wpListIn_load_blk rfl 93 _ rfl _ rfl g5 Try.underlying93 rfl size93 rfl ?_) | (refine wpListIn_load_blk rfl 93 _ rfl _ rfl g6 Try.underlying93 rfl size93 rfl ?_) | (gi_at_call 73; refine callsTo (H73.out _) ?_; rintro e w5 ⟨rfl, hb5⟩; have hb6 := (hal _).trans (hb5.mono (hal _).size); have g55 := blk_keep g5 hb6) | (refine wpListIn_store_blk rfl 93 _ _ rfl _ rfl rfl g55 size93 rfl rfl (oneFr _) ?_))
    exact ⟨(Kx.below hb6).trans (Kx.putCells g55 (fun h => h)), ⟨(World.putObj_heap_other (by omega)).trans (blk_keep g1 hb6), (World.putObj_heap_other (by omega)).trans (blk_keep g2 hb6)⟩, (World.putObj_heap_other (by omega)).trans (blk_keep g4 hb6), World.putObj_heap_same (lt_blk g55), below_putObj (btr gB hb6 (Nat.le_refl _)) (by omega)⟩
  case done =>
    rintro W ⟨-, g4, g5, gB⟩ hD
    have hd : big ((linesL L n x).take (linesY L n x).length) (whole (L x)) = lowerF L n x := by rw [hyl, List.take_length]; rfl
    rw [hd] at g5
    refine HK.out _ _ ?_
    clear hit hd hyl hbd hke b4 b5 hb4
    gi_wp2_with (first | (refine wpListIn_load_blk rfl 93 _ rfl _ rfl g5 Try.underlying93 rfl size93 rfl ?_) | (refine wpListIn_store_blk rfl 93 _ _ rfl _ rfl rfl g4 size93 rfl rfl (oneFr _) ?_))
    have hne : w.heap.size ≠ w4.heap.size := by have := hB.size; omega
    refine leave_mark rfl (D := w4.heap.size) ((World.putObj_heap_other (Ne.symm hne)).trans hD) (results_blk rfl _ _ w.heap.size rfl ((World.putObj_heap_other hne).trans (World.putObj_heap_same (lt_blk g4))) Try.underlying93 rfl size93 rfl) ⟨rfl, below_putObj (below_putObj gB (Nat.le_refl _)) (by omega)⟩
end Ytgnjeefanbcbkaa
end Go.Proofs
