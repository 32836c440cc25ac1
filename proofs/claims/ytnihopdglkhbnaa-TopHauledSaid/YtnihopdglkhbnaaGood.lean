/- Good: the trains whose move leaves a safe state. -/
import Derived.Test.YtnihopdglkhbnaaStuck
open Go Go.RowKit Go.YtnihopdglkhbnaaIt
namespace Go
namespace YtnihopdglkhbnaaIt
open Go.Proofs.Ytnihopdglkhbnaa
theorem row_bm {W W' : World} {base m : Nat} {e : TypeId} {sz : Nat} {v : Value} {n : Nat} {xs : List Value} (h : W.ownsRow base e sz v n xs) (hb : Bm m W.heap.size W W') (hm : m < base) : W'.ownsRow base e sz v n xs := by
  obtain ⟨h1, h2⟩ := h
  refine ⟨h1, ?_⟩
  rcases h2 with h | ⟨b, cap, cur, hv, hbb, hh, r1, r2, r3, r4⟩
  · exact .inl h
  · exact .inr ⟨b, cap, cur, hv, hbb, (hb.block b (Array.getElem?_eq_some_iff.1 hh).1 (by omega)).trans hh, r1, r2, r3, r4⟩
end YtnihopdglkhbnaaIt
namespace Proofs
namespace Ytnihopdglkhbnaa
def goodL (L T A : List Int) : List Int := ((movL L T A).filter fun i => safeB L T (after L T A i)).map fun (i : Nat) => (i : Int)
def goodN (L T A : List Int) (k : Nat) : List Int := (((movL L T A).take k).filter fun i => safeB L T (after L T A i)).map fun (i : Nat) => (i : Int)
theorem goodN_succ {L T A : List Int} {k : Nat} (h : k < (movL L T A).length) : goodN L T A (k + 1) = goodN L T A k ++ if safeB L T (after L T A (movL L T A)[k]) then [((movL L T A)[k] : Int)] else [] := by
  unfold goodN
  rw [List.take_succ_eq_append_getElem h, List.filter_append, List.map_append]
  by_cases hs : safeB L T (after L T A (movL L T A)[k]) = true <;> simp [hs]
theorem goodN_len (L T A : List Int) (k : Nat) : (goodN L T A k).length ≤ T.length := by
  have h1 : ((movL L T A).take k).length ≤ (movL L T A).length := by simp; omega
  have h2 : (movL L T A).length ≤ (wayL A T).length := List.length_filter_le _ _
  have h3 : (wayL A T).length ≤ T.length := by unfold wayL; exact Nat.le_trans (List.length_filter_le _ _) (by simp)
  unfold goodN
  rw [List.length_map]
  have h4 := List.length_filter_le (fun i => safeB L T (after L T A i)) ((movL L T A).take k)
  omega
theorem goodN_end (L T A : List Int) : goodN L T A (movY L T A).length = goodL L T A := by
  unfold goodN goodL
  rw [List.take_of_length_le (by simp [movY])]
/-- What holds before round k of Good's loop. -/
structure GoodI (L T A : List Int) (c6 c9 b4 bx bm : Nat) (w2 : World) (k : Nat) (V : World) : Prop where
  x : V.heap[b4]? = some (.cells #[.pointer (some ⟨bx, 0, none⟩)] 47 (0, 0))
  at_ : V.heap[b4 + 1]? = some (.cells (arr A) 49 (0, 0))
  v6 : V.heap[c6]? = some (.cells #[.pointer (some ⟨bx, 0, none⟩)] 47 (0, 0))
  out : ∃ v, V.heap[c9]? = some (.cells #[v] 27 (0, 0)) ∧ V.ownsRow (b4 + 2) 3 1 v (goodN L T A k).length ((goodN L T A k).map (.int .i64))
  memo : Memo V bm (GSafe L T)
  bm_ : Bm bm c6 w2 V
theorem GoodI.stb {L T A : List Int} {c6 c9 b4 bx bm : Nat} {w2 : World} {k B : Nat} (h1 : bm < B) (h2 : c6 ≤ B) (h3 : c6 ≤ w2.heap.size) : Stb B (GoodI L T A c6 c9 b4 bx bm w2 k) := fun W W' g h =>
  ⟨Stb.cells (B := B) W W' g h.x, Stb.cells (B := B) W W' g h.at_, Stb.cells (B := B) W W' g h.v6, (Stb.ex (B := B) fun _ => Stb.cells.and Stb.row) W W' g h.out, Memo.stb h1 W W' g h.memo, Stb.bm h2 h3 W W' g h.bm_⟩
set_option maxRecDepth 100000 in
set_option maxHeartbeats 4000000 in
theorem good_any (vL vt : Value) (L : List Int) (ts : List Tn) (w : World) (hL : SlI w vL L) (ht : SlT w vt ts) :
    Calls Try.prog 18 #[vL, vt] w fun e w' => Below w.heap.size w w' ∧
      ((lineE L ts ≠ 0 ∧ e = .returned (.tuple #[.slice none 0 0, .int .i64 (lineE L ts)])) ∨
       (lineE L ts = 0 ∧ ∃ v, e = .returned (.tuple #[v, .int .i64 0]) ∧ SlI w' v (goodL L (tos ts) (pos ts)))) := by
  have h48 := track_any vL vt L ts w hL ht
  have H := Lib.hid h48
  clear h48
  have hP : (arr (pos ts)).size = 5 := by rw [arr_size]; exact posK_len _ _
  refine calls_of_wpM Try.func18 rfl ?_
  simp only [Try.ntmps18, List.size_toArray, List.length_cons, List.length_nil, Nat.reduceAdd, Nat.reduceSub, Array.replicate_succ, Array.replicate_zero, List.push_toArray, List.append_toArray, List.nil_append, List.cons_append]
  iterate 2
    refine wpIn_seq_k (fun K hK => ?_)
    have HK := Lib.hid hK; clear hK
    gi_wp2_with (first | (refine wpListIn_store_blk rfl 49 _ _ rfl _ rfl rfl (heap_newI (by first | rfl | simp)) size84 (by first | exact (arr_size _).trans hA | exact hP) rfl (arr_one _) ?_) | (gi_at_call 11; refine callsTo H.out ?_; rintro e w2 ⟨hb2, hcs⟩; rcases hcs with ⟨hne, A, hA, rfl⟩ | ⟨he, bx, bm, vT, rfl, hT2, hM2, hbm⟩))
    all_goals refine HK.out _ _ ?_; clear HK K
  · have hneb : (lineE L ts != 0) = true := bne_iff_ne.2 hne
    gi_wp2
    exact ⟨_, results_tmp2 rfl _ _ _, below_putObj ((hb2.alloc hb2.size _).alloc (by have := hb2.size; simp; omega) _) (by have := hb2.size; simp; omega), .inl ⟨hne, rfl⟩⟩
  generalize hw3 : World.putObj _ _ _ = w3
  have a6 : w3.heap[w2.heap.size]? = some (.cells #[.pointer (some ⟨bx, 0, none⟩)] 47 (0, 0)) := by rw [← hw3, World.putObj_heap_other (by omega)]; simp (disch := first | omega | (simp only [World.size_alloc]; done) | (simp only [World.size_alloc]; omega)) only [heap_newI, heap_oldI]
  have a7 : w3.heap[w2.heap.size + 1]? = some (.cells (arr (pos ts)) 49 (0, 0)) := by rw [← hw3]; exact World.putObj_heap_same (by simp only [World.size_alloc]; omega)
  have hb3 : Below w2.heap.size w2 w3 := by rw [← hw3]; exact below_putObj (((Below.refl _ _).alloc (Nat.le_refl _) _).alloc (by simp) _) (by omega)
  have hs3 : w2.heap.size + 2 ≤ w3.heap.size := by rw [← hw3]; simp
  have hs2 := hb2.size
  have hB3 : Below w.heap.size w w3 := hb2.trans (hb3.mono hs2)
  have hT3 : Tk w3 bx bm vL vT L (tos ts) := hT2.below hb3 (Nat.le_refl _)
  have hM3 : Memo w3 bm (GSafe L (tos ts)) := hM2.below hb3 hM2.lt
  have hlm := hM2.lt
  have ok := okt_of he
  clear hw3 H
  obtain ⟨c6, hc6⟩ : ∃ c, c = w2.heap.size := ⟨_, rfl⟩
  rw [← hc6] at a6 a7 hb3 hs3 hlm
  rw [← hc6]
  have HC6 := Lib.hid hc6
  clear hc6
  have c6' := cell_blk (i := 0) a6
  simp at c6'
  have he0 : (lineE L ts != 0) = false := by simp [he]
  refine wpIn_seq_k (fun K hK => ?_)
  have HK := Lib.hid hK; clear hK
  gi_wp2
  refine HK.out _ _ ?_; clear HK K
  refine wpIn_seq_k (fun K hK => ?_)
  have HK := Lib.hid hK; clear hK
  gi_wp2
  refine HK.out _ _ ?_; clear HK K
  generalize hw4 : World.alloc _ _ = w4
  have b9 : w4.heap[w3.heap.size]? = some (.cells #[.slice none 0 0] 27 (0, 0)) := by rw [← hw4]; exact heap_newI rfl
  have b6 : w4.heap[c6]? = some (.cells #[.pointer (some ⟨bx, 0, none⟩)] 47 (0, 0)) := by rw [← hw4, heap_oldI (by omega)]; exact a6
  have b7 : w4.heap[c6 + 1]? = some (.cells (arr (pos ts)) 49 (0, 0)) := by rw [← hw4, heap_oldI (by omega)]; exact a7
  have hbf : Below w3.heap.size w3 w4 := by rw [← hw4]; go_grown
  have hB4 : Below w.heap.size w w4 := hB3.trans (hbf.mono hB3.size)
  have hT4 : Tk w4 bx bm vL vT L (tos ts) := hT3.below hbf (Nat.le_refl _)
  have hM4 : Memo w4 bm (GSafe L (tos ts)) := hM3.below hbf hM3.lt
  have hs4 : w3.heap.size + 1 ≤ w4.heap.size := by rw [← hw4]; simp
  have hb4 : Below c6 w2 w4 := hb3.trans (hbf.mono (by omega))
  clear hw4 a6 a7 c6' hbf hT3 hM3 hb3
  generalize w3.heap.size = c9 at *
  have c6' := cell_blk (i := 0) b6
  simp at c6'
  refine wpIn_seq_k (fun K hK => ?_)
  have HK := Lib.hid hK; clear hK
  refine wpIn_seq_k (fun K2 hK2 => ?_)
  have HK2 := Lib.hid hK2; clear hK2
  gi_wp2_with (first | (refine wpListIn_load_blk rfl 49 _ rfl _ rfl b7 Try.underlying49 rfl size84 hP ?_) | (gi_at_call 31; refine callsTo (moves_any bx bm vL vT L (tos ts) (pos ts) w4 hT4) ?_; rintro e w5 ⟨rfl, hke, hb5⟩))
  refine HK2.out _ _ ?_; clear HK2 K2
  have hs5 := hb5.size
  have g9 := blk_below b9 hb5 (by omega)
  have g6 := blk_below b6 hb5 (by omega)
  have hB5 : Below w.heap.size w w5 := hB4.trans (hb5.mono hB4.size)
  have hM5 : Memo w5 bm (GSafe L (tos ts)) := hM4.below hb5 (by omega)
  have hT5 : Tk w5 bx bm vL vT L (tos ts) := hT4.below hb5 (Nat.le_refl _)
  have hs6 : w4.heap.size + 2 ≤ w5.heap.size := by have := lt_blk hke.at_; omega
  have hit := moves_iter TTm (fun _ h => h) w4.heap.size (w4.heap.size + 1) bx bm vL vT L (tos ts) (pos ts) ok
  refine wpIn_block ?_
  refine wpIn_range (gf := 44) (lb := #[.pointer (some ⟨w4.heap.size, 0, none⟩), .pointer (some ⟨w4.heap.size + 1, 0, none⟩)]) ?hg ?eg hit ?hps
    (GoodI L (tos ts) (pos ts) c6 c9 w4.heap.size bx bm w2)
    (fun _ _ => False) ?hK ?sI ?sIx ?h0 ?round ?done ?stop
  case hg => rfl
  case eg => exact (enters_of Try.func44 (by kernel_rfl) rfl)
  case hps => intro y hy; simp [movY] at hy; obtain ⟨i, _, rfl⟩ := hy; rfl
  case hK => exact fun k V h => ⟨h.x, h.at_, hT2.bm hM2 (by rw [← HC6.out]; exact h.bm_)⟩
  case sIx => exact fun _ => Stb.pure
  case h0 => exact ⟨hke.x, hke.at_, g6, ⟨_, g9, World.ownsRow_nil _ _ _ _⟩, hM5, Bm.of (hb4.trans (hb5.mono (by omega)))⟩
  case sI => exact fun k => GoodI.stb (by omega) (by omega) (by rw [HC6.out]; exact Nat.le_refl _)
  case stop => exact fun _ _ h => h.elim
  case round =>
    rintro k hk l V hI
    have hk' : k < (movL L (tos ts) (pos ts)).length := by simpa [movY] using hk
    have hyk : (movY L (tos ts) (pos ts))[k] = #[.int .i64 (((movL L (tos ts) (pos ts))[k] : Nat) : Int), .agg (arr (after L (tos ts) (pos ts) (movL L (tos ts) (pos ts))[k]))] := by simp [movY]
    have hmem := mov_mem (List.getElem_mem hk')
    have hgs := goodN_succ hk'
    have hgl := goodN_len L (tos ts) (pos ts) k
    have ht5 := ok.t5
    rw [hyk]
    generalize (movL L (tos ts) (pos ts))[k] = i at *
    obtain ⟨hi, hio, hic⟩ := hmem
    have ok6 := ok.after hi hio
    have hA6 : (arr (after L (tos ts) (pos ts) i)).size = 5 := by rw [arr_size, ok6.a5]
    have HI := Lib.hid hI
    have HGS := Lib.hid hgs
    clear hit hyk hI hgs hk hk' hi hio hic hke g9 g6 hM5 b9 b6 b7 c6' hT4 hM4 hb5
    simp only [List.zip_toArray, List.zip_cons_cons, List.zip_nil_right, List.foldl_toArray', List.size_toArray, List.length_cons, List.length_nil, List.foldl_cons, List.foldl_nil, List.setIfInBounds_toArray, List.set_cons_succ, List.set_cons_zero]
    gi_wp2_with (first | (refine wpListIn_store_blk rfl 49 _ _ rfl _ rfl rfl (World.alloc_heap_new _ _) size84 hA6 rfl (arr_one _) ?_))
    have hbV : Below V.heap.size V ((V.alloc (.cells #[.int .i64 0, .int .i64 0, .int .i64 0, .int .i64 0, .int .i64 0] 49)).putObj V.heap.size (.cells (arr (after L (tos ts) (pos ts) i)) 49 (0, 0))) :=
      below_putObj ((Below.refl _ V).alloc (Nat.le_refl _) _) (Nat.le_refl _)
    have b11 : ((V.alloc (.cells #[.int .i64 0, .int .i64 0, .int .i64 0, .int .i64 0, .int .i64 0] 49)).putObj V.heap.size (.cells (arr (after L (tos ts) (pos ts) i)) 49 (0, 0))).heap[V.heap.size]? = some (.cells (arr (after L (tos ts) (pos ts) i)) 49 (0, 0)) := World.putObj_heap_same (by simp)
    have hI4 := GoodI.stb (B := w5.heap.size) (by omega) (by omega) (by rw [HC6.out]; exact Nat.le_refl _) V _ (Gr.below hbV) HI.out

    clear HI
    generalize World.putObj _ _ _ = V4 at *
    refine ⟨Kx.below hbV, fun U => GoodI L (tos ts) (pos ts) c6 c9 w4.heap.size bx bm w2 k U ∧ U.heap[V.heap.size]? = some (.cells (arr (after L (tos ts) (pos ts) i)) 49 (0, 0)), (GoodI.stb (by omega) (by omega) (by rw [HC6.out]; exact Nat.le_refl _)).and Stb.cells, ⟨hI4, b11⟩, ?_⟩
    clear hI4 b11 hbV
    rintro V2 - ⟨⟨g1, g2, g3, ⟨v, g4, gr⟩, g5, g6⟩, g11⟩
    have c6' := cell_blk (i := 0) g3
    simp at c6'
    have hTV := hT2.bm hM2 (by rw [← HC6.out]; exact g6)
    have hcall := safe_any bx bm vL vT L (tos ts) _ V2 ok6 hTV g5
    refine wpIn_block ?_
    refine wpIn_seq_k (fun K hK => ?_)
    have HK := Lib.hid hK; clear hK
    have hl1 := lt_blk g1
    have hl2 := lt_blk g2
    have hl3 := lt_blk g3
    have hl4 := lt_blk g4
    obtain ⟨sv, hsv⟩ : ∃ sv, sv = safeB L (tos ts) (after L (tos ts) (pos ts) i) := ⟨_, rfl⟩
    rw [← hsv] at hcall
    have HSV := Lib.hid hsv
    clear hsv
    gi_wp2_with (first | (refine wpListIn_load_blk rfl 49 _ rfl _ rfl g11 Try.underlying49 rfl size84 hA6 ?_) | (gi_at_call 12; refine callsTo hcall ?_; rintro e V3 ⟨rfl, hM3, hBV⟩))
    refine HK.out _ _ ?_; clear HK K
    have hkx : Kx w5.heap.size TTm V2 V3 := by
      obtain ⟨es, clock, hm1, _⟩ := g5
      exact Kx.bm hBV hm1 rfl (by omega)
    have q1 := (hBV.block _ hl1 (by omega)).trans g1
    have q2 := (hBV.block _ hl2 (by omega)).trans g2
    have q3 := (hBV.block _ hl3 (by omega)).trans g3
    have q4 := (hBV.block _ hl4 (by omega)).trans g4
    have qr := row_bm gr hBV (by omega)
    have q6 : Bm bm c6 w2 V3 := g6.trans (hBV.mono (by omega))
    have hl3' := hBV.size
    clear hcall hTV g1 g2 g3 g4 gr g5 g6 g11 hBV hl1 hl2 hl3 hl4 c6'
    have c9' := cell_blk (i := 0) q4
    simp at c9'
    cases sv
    · have hn : goodN L (tos ts) (pos ts) (k + 1) = goodN L (tos ts) (pos ts) k := by rw [HGS.out, ← HSV.out]; simp
      have HN := Lib.hid hn
      clear hn
      gi_wp2
      exact ⟨hkx, q1, q2, q3, ⟨v, q4, by rw [HN.out]; exact qr⟩, hM3, q6⟩
    · have hn : goodN L (tos ts) (pos ts) (k + 1) = goodN L (tos ts) (pos ts) k ++ [(i : Int)] := by rw [HGS.out, ← HSV.out]; simp
      have HN := Lib.hid hn
      clear hn
      have hlq := lt_blk q2
      obtain ⟨i3, hi3, hz1, hz2, hz3⟩ := info_parts info3
      gi_wp2_with (gi_at_builtin; refine wpListIn_append_own _ rfl _ _ 27 rfl (w4.heap.size + 2) 3 i3 (.int .i64 0) 1 8 Try.underlying27 hi3 hz1 hz2 hz3 rfl (by decide) _ _ _ rfl (qr.alloc _) ⟨V3.heap.size, 0, none⟩ 1 1 [.int .i64 i] rfl rfl (cell_new1 rfl) (by simp [Value.oneCell']) (Nat.le_trans (by omega : (goodN L (tos ts) (pos ts) k).length + 1 ≤ 6) (by decide)) (by omega) (by rw [World.size_alloc]; omega) ?_; intro v' w6 r1 r2 _; obtain ⟨g', cap', rfl⟩ := Joins.ownsRow_form r1 (Nat.succ_pos _); have ap := appended q4 qr (by omega) (by omega) r1 r2; have z1 := ap.cell; have z2 := ap.free)
      refine ⟨hkx.trans (ap.kx _ _ (by unfold TTm; decide) (by unfold TTm; decide)), (ap.others _ (by omega) (by omega)).trans q1, (ap.others _ (by omega) (by omega)).trans q2, (ap.others _ (by omega) (by omega)).trans q3, ⟨_, ap.blk, ?_⟩, ?_, ?_⟩
      · have hr := ap.row
        rw [HN.out, List.map_append, List.length_append]
        exact hr
      · obtain ⟨es, clock, hm1, hm2⟩ := hM3
        exact ⟨es, clock, (ap.others _ (by omega) (by omega)).trans hm1, hm2⟩
      · exact q6.trans (Bm.of (ap.below _ _ (by omega) (Below.refl _ _)))
  case done =>
    rintro V ⟨g1, g2, g3, ⟨v, g4, gr⟩, g5, g6⟩ hD
    refine HK.out _ _ ?_
    have c9' := cell_blk (i := 0) g4
    simp at c9'
    clear hit
    have hlD := lt_blk hD
    gi_wp2
    refine leave_mark rfl hD (results_tmp2 rfl _ _ _) ⟨?_, .inr ⟨he, v, rfl, ?_⟩⟩
    · refine below_putObj (hb2.trans ⟨g6.os, g6.tape, g6.output, g6.size, fun b hb => g6.block b (by omega) (by omega)⟩) (by omega)
    · have hr := Stb.row (B := w5.heap.size) V _ (Gr.putObj (.deferred none) (Nat.le_refl _) hD rfl) gr
      rw [goodN_end] at hr
      have hgl := goodN_len L (tos ts) (pos ts) (movY L (tos ts) (pos ts)).length
      rw [goodN_end] at hgl
      exact slI_own hr (by have := ok.t5; omega) (Nat.le_refl _) (fun _ _ _ => rfl)
end Ytnihopdglkhbnaa
end Proofs
end Go

