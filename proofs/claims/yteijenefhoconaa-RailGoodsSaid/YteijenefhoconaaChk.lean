/- Check, and Possible. -/
import Derived.Test.YteijenefhoconaaTrack
import Derived.Test.YteijenefhoconaaGrow
import Derived.OwnWalkIn
open Go Go.RowKit Go.YteijenefhoconaaIt
namespace Go.Proofs
namespace Yteijenefhoconaa
set_option maxRecDepth 100000 in
set_option maxHeartbeats 1000000 in
theorem check_any (vL vt : Value) (L : List Int) (ts : List Tn) (w : World) (hL : SlI w vL L) (ht : SlT w vt ts) :
    Calls Try.prog 45 #[vL, vt] w fun e w' => e = .returned (.int .i64 (lineE L ts)) ∧ Below w.heap.size w w' := by
  have h48 := track_any vL vt L ts w hL ht
  have H := Lib.hid h48
  clear h48
  have hP : (arr (pos ts)).size = 5 := by rw [arr_size]; exact posK_len _ _
  go_enter Try.func45, Try.ntmps45
  go_wp2_with (first | (refine wpList_store_blk rfl 84 _ _ rfl _ rfl rfl (heap_newI rfl) size84 (by first | exact (arr_size _).trans hA | exact hP) rfl (arr_one _) ?_) | (go_at_call 48; refine H.out.mono ?_; rintro e w2 ⟨hb2, hcs⟩; rcases hcs with ⟨hne, A, hA, rfl⟩ | ⟨he, bx, bm, vT, rfl, -, -⟩))
  · go_ret
    exact ⟨rfl, below_putObj (hb2.alloc hb2.size _) (hb2.size)⟩
  · go_ret
    exact ⟨by rw [he]; rfl, below_putObj (hb2.alloc hb2.size _) (hb2.size)⟩
/-- Which trains can move, as ints. -/
def canL (L T A : List Int) : List Int := (movL L T A).map fun (i : Nat) => (i : Int)
theorem canL_len (L T A : List Int) : (canL L T A).length = (movY L T A).length := by simp [canL, movY]
set_option maxRecDepth 100000 in
set_option maxHeartbeats 4000000 in
theorem possible_any (vL vt : Value) (L : List Int) (ts : List Tn) (w : World) (hL : SlI w vL L) (ht : SlT w vt ts) :
    Calls Try.prog 35 #[vL, vt] w fun e w' => Below w.heap.size w w' ∧
      ((lineE L ts ≠ 0 ∧ e = .returned (.tuple #[.slice none 0 0, .int .i64 (lineE L ts)])) ∨
       (lineE L ts = 0 ∧ ∃ v, e = .returned (.tuple #[v, .int .i64 0]) ∧ SlI w' v (canL L (tos ts) (pos ts)))) := by
  have h48 := track_any vL vt L ts w hL ht
  have H := Lib.hid h48
  clear h48
  have hP : (arr (pos ts)).size = 5 := by rw [arr_size]; exact posK_len _ _
  refine calls_of_wpM Try.func35 rfl ?_
  simp only [Try.ntmps35, List.size_toArray, List.length_cons, List.length_nil, Nat.reduceAdd, Nat.reduceSub, Array.replicate_succ, Array.replicate_zero, List.push_toArray, List.append_toArray, List.nil_append, List.cons_append]
  iterate 2
    refine wpIn_seq_k (fun K hK => ?_)
    have HK := Lib.hid hK; clear hK
    gi_wp2_with (first | (refine wpListIn_store_blk rfl 84 _ _ rfl _ rfl rfl (heap_newI rfl) size84 (by first | exact (arr_size _).trans hA | exact hP) rfl (arr_one _) ?_) | (gi_at_call 48; refine callsTo H.out ?_; rintro e w2 ⟨hb2, hcs⟩; rcases hcs with ⟨hne, A, hA, rfl⟩ | ⟨he, bx, bm, vT, rfl, hT2, -⟩))
    all_goals refine HK.out _ _ ?_; clear HK K
  · have hneb : (lineE L ts != 0) = true := bne_iff_ne.2 hne
    gi_wp2
    exact ⟨_, results_tmp2 rfl _ _ _, below_putObj (hb2.alloc hb2.size _) hb2.size, .inl ⟨hne, rfl⟩⟩
  generalize hw3 : World.putObj _ _ _ = w3
  have b7 : w3.heap[w2.heap.size]? = some (.cells (arr (pos ts)) 84 (0, 0)) := by rw [← hw3]; exact World.putObj_heap_same (by rw [World.size_alloc]; omega)
  have hbf : Below w2.heap.size w2 w3 := by rw [← hw3]; exact below_putObj ((Below.refl _ _).alloc (Nat.le_refl _) _) (Nat.le_refl _)
  have hB3 : Below w.heap.size w w3 := hb2.trans (hbf.mono hb2.size)
  have hs3 : w2.heap.size + 1 ≤ w3.heap.size := by rw [← hw3]; simp
  have hs2 := hb2.size
  have hT3 : Tk w3 bx bm vL vT L (tos ts) := hT2.below hbf (Nat.le_refl _)
  clear hw3 hb2 hT2 hbf
  generalize w2.heap.size = c7 at *
  refine wpIn_seq_k (fun K hK => ?_)
  have HK := Lib.hid hK; clear hK
  gi_wp2
  refine HK.out _ _ ?_; clear HK K
  refine wpIn_seq_k (fun K hK => ?_)
  have HK := Lib.hid hK; clear hK
  gi_wp2
  refine HK.out _ _ ?_; clear HK K
  generalize hw4 : World.alloc _ _ = w4
  have b9 : w4.heap[w3.heap.size]? = some (.cells #[.slice none 0 0] 22 (0, 0)) := by rw [← hw4]; exact heap_newI rfl
  have g7 : w4.heap[c7]? = some (.cells (arr (pos ts)) 84 (0, 0)) := by rw [← hw4, heap_oldI (by omega)]; exact b7
  have hbf : Below w3.heap.size w3 w4 := by rw [← hw4]; go_grown
  have hB4 : Below w.heap.size w w4 := hB3.trans (hbf.mono hB3.size)
  have hT4 : Tk w4 bx bm vL vT L (tos ts) := hT3.below hbf (Nat.le_refl _)
  have hs4 : w3.heap.size + 1 ≤ w4.heap.size := by rw [← hw4]; simp
  clear hw4 b7
  refine wpIn_seq_k (fun K hK => ?_)
  have HK := Lib.hid hK; clear hK
  refine wpIn_seq_k (fun K2 hK2 => ?_)
  have HK2 := Lib.hid hK2; clear hK2
  gi_wp2_with (first | (refine wpListIn_load_blk rfl 84 _ rfl _ rfl g7 Try.underlying84 rfl size84 hP ?_) | (gi_at_call 51; refine callsTo (moves_any bx bm vL vT L (tos ts) (pos ts) w4 hT4) ?_; rintro e w5 ⟨rfl, hke, hb5⟩))
  refine HK2.out _ _ ?_; clear HK2 K2
  have hs5 := hb5.size
  have b9' := blk_below b9 hb5 (by omega)
  have hB5 : Below w3.heap.size w3 w5 := hbf.trans (hb5.mono (by omega))
  have hs6 : w4.heap.size + 2 ≤ w5.heap.size := by have := lt_blk hke.at_; omega
  have ok := okt_of he
  have hm8 : (canL L (tos ts) (pos ts)).length ≤ 5 := by
    have h1 : (movL L (tos ts) (pos ts)).length ≤ (tos ts).length := by
      refine Nat.le_trans (List.length_filter_le _ _) (Nat.le_trans (List.length_filter_le _ _) ?_)
      simp
    have := ok.t5
    simpa [canL] using Nat.le_trans h1 this
  have hit := moves_iter TTm (fun _ h => h) w4.heap.size (w4.heap.size + 1) bx bm vL vT L (tos ts) (pos ts) ok
  refine wpIn_block ?_
  refine wpIn_range (gf := 72) (lb := #[.pointer (some ⟨w4.heap.size, 0, none⟩), .pointer (some ⟨w4.heap.size + 1, 0, none⟩)]) ?hg ?eg hit ?hps
    (fun k W => (W.heap[w4.heap.size]? = some (.cells #[.pointer (some ⟨bx, 0, none⟩)] 82 (0, 0)) ∧ W.heap[w4.heap.size + 1]? = some (.cells (arr (pos ts)) 84 (0, 0))) ∧ (∃ v, W.heap[w3.heap.size]? = some (.cells #[v] 22 (0, 0)) ∧ W.ownsRow (w4.heap.size + 2) 3 1 v k (((canL L (tos ts) (pos ts)).take k).map (.int .i64))) ∧ Below w3.heap.size w3 W)
    (fun _ _ => False) ?hK ?sI ?sIx ?h0 ?round ?done ?stop
  case hg => rfl
  case eg => exact (enters_of Try.func72 (by kernel_rfl) rfl)
  case hps => intro y hy; simp [movY] at hy; obtain ⟨i, _, rfl⟩ := hy; rfl
  case hK => exact fun k W ⟨⟨h1, h2⟩, _, h5⟩ => ⟨h1, h2, hT3.below h5 (Nat.le_refl _)⟩
  case sIx => exact fun _ => Stb.pure
  case h0 => exact ⟨⟨hke.x, hke.at_⟩, ⟨_, b9', World.ownsRow_nil _ _ _ _⟩, hB5⟩
  case sI => exact fun k => (Stb.cells.and Stb.cells).and ((Stb.ex fun v => Stb.cells.and Stb.row).and (Stb.below (by omega) (Nat.le_refl _)))
  case stop => exact fun _ _ h => h.elim
  case round =>
    rintro k hk l W ⟨⟨g1, g2⟩, ⟨v, g9, gr⟩, gb⟩
    have hk' : k < (movL L (tos ts) (pos ts)).length := by simpa [movY] using hk
    have hyk : (movY L (tos ts) (pos ts))[k] = #[.int .i64 (((movL L (tos ts) (pos ts))[k] : Nat) : Int), .agg (arr (after L (tos ts) (pos ts) (movL L (tos ts) (pos ts))[k]))] := by simp [movY]
    have hpush : ((canL L (tos ts) (pos ts)).take k).map (Value.int .i64) ++ [.int .i64 (((movL L (tos ts) (pos ts))[k] : Nat) : Int)] = ((canL L (tos ts) (pos ts)).take (k + 1)).map (Value.int .i64) := by
      have hkl : k < (canL L (tos ts) (pos ts)).length := by simpa [canL] using hk'
      rw [List.take_succ_eq_append_getElem hkl, List.map_append]
      simp [canL]
    rw [hyk]
    have hkc : k < 5 := by have : (canL L (tos ts) (pos ts)).length = _ := canL_len _ _ _; omega
    generalize (movL L (tos ts) (pos ts))[k] = x at *
    clear hit hyk
    simp only [List.zip_toArray, List.zip_cons_cons, List.zip_nil_right, List.foldl_toArray', List.size_toArray, List.length_cons, List.length_nil, List.foldl_cons, List.foldl_nil, List.setIfInBounds_toArray, List.set_cons_succ, List.set_cons_zero]
    gi_wp2
    refine ⟨Kx.refl _ _ _, fun W => (W.heap[w4.heap.size]? = some (.cells #[.pointer (some ⟨bx, 0, none⟩)] 82 (0, 0)) ∧ W.heap[w4.heap.size + 1]? = some (.cells (arr (pos ts)) 84 (0, 0))) ∧ (W.heap[w3.heap.size]? = some (.cells #[v] 22 (0, 0)) ∧ W.ownsRow (w4.heap.size + 2) 3 1 v k (((canL L (tos ts) (pos ts)).take k).map (.int .i64))) ∧ Below w3.heap.size w3 W,
      (Stb.cells.and Stb.cells).and ((Stb.cells.and Stb.row).and (Stb.below (by omega) (Nat.le_refl _))), ⟨⟨g1, g2⟩, ⟨g9, gr⟩, gb⟩, ?_⟩
    clear g1 g2 g9 gr gb
    rintro W2 - ⟨⟨g1, g2⟩, ⟨g9, gr⟩, gb⟩
    have c9 := cell_blk (i := 0) g9
    simp at c9
    have l2 := lt_blk g2
    obtain ⟨i3, hi3, hz1, hz2, hz3⟩ := info_parts info3
    gi_wp2_with (gi_at_builtin; refine wpListIn_append_own _ rfl _ _ 22 rfl (w4.heap.size + 2) 3 i3 (.int .i64 0) 1 8 Try.underlying22 hi3 hz1 hz2 hz3 rfl (by decide) _ _ _ rfl (gr.alloc _) ⟨W2.heap.size, 0, none⟩ 1 1 [.int .i64 x] rfl rfl (cell_new1 rfl) (by simp [Value.oneCell']) (Nat.le_trans (by omega : k + 1 ≤ 6) (by decide)) (by omega) (by rw [World.size_alloc]; omega) ?_; intro v' w6 r1 r2 _; obtain ⟨g', cap', rfl⟩ := Joins.ownsRow_form r1 (Nat.succ_pos _); have ap := appended g9 gr (by omega) (by omega) r1 r2; have z1 := ap.cell; have z2 := ap.free)
    refine ⟨ap.kx _ _ (by unfold TTm; decide) (by unfold TTm; decide), ⟨(ap.others _ (by omega) (by omega)).trans g1, (ap.others _ (by omega) (by omega)).trans g2⟩, ⟨_, ap.blk, ?_⟩, ap.below _ _ (Nat.le_refl _) gb⟩
    rw [← hpush]
    exact ap.row
  case done =>
    rintro W ⟨⟨g1, g2⟩, ⟨v, g9, gr⟩, gb⟩ hD
    refine HK.out _ _ ?_
    have c9 := cell_blk (i := 0) g9
    simp at c9
    clear hit
    gi_wp2
    refine leave_mark rfl hD (results_tmp2 rfl _ _ _) ⟨?_, .inr ⟨he, v, rfl, ?_⟩⟩
    · exact below_putObj (hB3.trans (gb.mono hB3.size)) (by omega)
    · have hr := Stb.row (B := w5.heap.size) W _ (Gr.putObj (.deferred none) (Nat.le_refl _) hD rfl) gr
      rw [← canL_len, List.take_of_length_le (Nat.le_refl _)] at hr
      exact slI_own hr (by omega) (Nat.le_refl _) (fun _ _ _ => rfl)
end Yteijenefhoconaa
end Go.Proofs
