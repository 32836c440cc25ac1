/- Check, and Possible. -/
import Derived.Test.YteijenefhoconaaTrack
import Derived.Test.YteijenefhoconaaGrow
import Derived.OwnWalkIn
open Go Go.RowKit Go.YteijenefhoconaaIt
namespace Go.Proofs
namespace Yteijenefhoconaa
set_option maxRecDepth 100000 in
set_option maxHeartbeats 1000000 in
theorem check_any (vL vt : Value) (L : List Int) (ts : List Tn) (w : World) (hL : SlI w vL L) (ht : SlT w vt ts) :
    Calls Try.prog 45 #[vL, vt] w fun e w' => e = .returned (.int .i64 (lineE L ts)) ∧ Below w.heap.size w w' := by
  have h48 := track_any vL vt L ts w hL ht
  have H := Lib.hid h48
  clear h48
  have hP : (arr (pos ts)).size = 5 := by rw [arr_size]; exact posK_len _ _
  go_enter Try.func45, Try.ntmps45
  go_wp2_with (first | (refine wpList_store_blk rfl 84 _ _ rfl _ rfl rfl (heap_newI rfl) size84 (by first | exact (arr_size _).trans hA | exact hP) rfl (arr_one _) ?_) | (go_at_call 48; refine H.out.mono ?_; rintro e w2 ⟨hb2, hcs⟩; rcases hcs with ⟨hne, A, hA, rfl⟩ | ⟨he, bx, bm, vT, rfl, -, -⟩))
  · go_ret
    exact ⟨rfl, below_putObj (hb2.alloc hb2.size _) (hb2.size)⟩
  · go_ret
    exact ⟨by rw [he]; rfl, below_putObj (hb2.alloc hb2.size _) (hb2.size)⟩
/-- Which trains can move, as ints. -/
def canL (L T A : List Int) : List Int := (movL L T A).map fun (i : Nat) => (i : Int)
theorem canL_len (L T A : List Int) : (canL L T A).length = (movY L T A).length := by simp [canL, movY]
set_option maxRecDepth 100000 in
set_option maxHeartbeats 4000000 in
theorem possible_any (vL vt : Value) (L : List Int) (ts : List Tn) (w : World) (hL : SlI w vL L) (ht : SlT w vt ts) :
    Calls Try.prog 35 #[vL, vt] w fun e w' => Below w.heap.size w w' ∧
      ((lineE L ts ≠ 0 ∧ e = .returned (.tuple #[.slice none 0 0, .int .i64 (lineE L ts)])) ∨
       (lineE L ts = 0 ∧ ∃ v, e = .returned (.tuple #[v, .int .i64 0]) ∧ SlI w' v (canL L (tos ts) (pos ts)))) := by
  have h48 := track_any vL vt L ts w hL ht
  have H := Lib.hid h48
  clear h48
  have hP : (arr (pos ts)).size = 5 := by rw [arr_size]; exact posK_len _ _
  refine calls_of_wpM Try.func35 rfl ?_
  simp only [Try.ntmps35, List.size_toArray, List.length_cons, List.length_nil, Nat.reduceAdd, Nat.reduceSub, Array.replicate_succ, Array.replicate_zero, List.push_toArray, List.append_toArray, List.nil_append, List.cons_append]
  iterate 2
    refine wpIn_seq_k (fun K hK => ?_)
    have HK := Lib.hid hK; clear hK
    gi_wp2_with (first | (refine wpListIn_store_blk rfl 84 _ _ rfl _ rfl rfl (heap_newI rfl) size84 (by first | exact (arr_size _).trans hA | exact hP) rfl (arr_one _) ?_) | (gi_at_call 48; refine callsTo H.out ?_; rintro e w2 ⟨hb2, hcs⟩; rcases hcs with ⟨hne, A, hA, rfl⟩ | ⟨he, bx, bm, vT, rfl, hT2, -⟩))
    all_goals refine HK.out _ _ ?_; clear HK K
  · have hneb : (lineE L ts != 0) = true := bne_iff_ne.2 hne
    gi_wp2
    exact ⟨_, results_tmp2 rfl _ _ _, below_putObj (hb2.alloc hb2.size _) hb2.size, .inl ⟨hne, rfl⟩⟩
  generalize hw3 : World.putObj _ _ _ = w3
  have b7 : w3.heap[w2.heap.size]? = some (.cells (arr (pos ts)) 84 (0, 0)) := by rw [← hw3]; exact World.putObj_heap_same (by rw [World.size_alloc]; omega)
  have hbf : Below w2.heap.size w2 w3 := by rw [← hw3]; exact below_putObj ((Below.refl _ _).alloc (Nat.le_refl _) _) (Nat.le_refl _)
  have hB3 : Below w.heap.size w w3 := hb2.trans (hbf.mono hb2.size)
  have hs3 : w2.heap.size + 1 ≤ w3.heap.size := by rw [← hw3]; simp
  have hs2 := hb2.size
  have hT3 : Tk w3 bx bm vL vT L (tos ts) := hT2.below hbf (Nat.le_refl _)
  clear hw3 hb2 hT2 hbf
  generalize w2.heap.size = c7 at *
  refine wpIn_seq_k (fun K hK => ?_)
  have HK := Lib.hid hK; clear hK
  gi_wp2
  refine HK.out _ _ ?_; clear HK K
  refine wpIn_seq_k (fun K hK => ?_)
  have HK := Lib.hid hK; clear hK
  gi_wp2
  refine HK.out _ _ ?_; clear HK K
  generalize hw4 : World.alloc _ _ = w4
  have b9 : w4.heap[w3.heap.size]? = some (.cells #[.slice none 0 0] 22 (0, 0)) := by rw [← hw4]; exact heap_newI rfl
  have g7 : w4.heap[c7]? = some (.cells (arr (pos ts)) 84 (0, 0)) := by rw [← hw4, heap_oldI (by omega)]; exact b7
  have hbf : Below w3.heap.size w3 w4 := by rw [← hw4]; go_grown
  have hB4 : Below w.heap.size w w4 := hB3.trans (hbf.mono hB3.size)
  have hT4 : Tk w4 bx bm vL vT L (tos ts) := hT3.below hbf (Nat.le_refl _)
  have hs4 : w3.heap.size + 1 ≤ w4.heap.size := by rw [← hw4]; simp
  clear hw4 b7
  refine wpIn_seq_k (fun K hK => ?_)
  have HK := Lib.hid hK; clear hK
  refine wpIn_seq_k (fun K2 hK2 => ?_)
  have HK2 := Lib.hid hK2; clear hK2
  gi_wp2_with (first | (refine wpListIn_load_blk rfl 84 _ rfl _ rfl g7 Try.underlying84 rfl size84 hP ?_) | (gi_at_call 51; refine callsTo (moves_any bx bm vL vT L (tos ts) (pos ts) w4 hT4) ?_; rintro e w5 ⟨rfl, hke, hb5⟩))
  refine HK2.out _ _ ?_; clear HK2 K2
  have hs5 := hb5.size
  have b9' := blk_below b9 hb5 (by omega)
  have hB5 : Below w3.heap.size w3 w5 := hbf.trans (hb5.mono (by omega))
  have hs6 : w4.heap.size + 2 ≤ w5.heap.size := by have := lt_blk hke.at_; omega
  have ok := okt_of he
  have hm8 : (canL L (tos ts) (pos ts)).length ≤ 5 := by
    have h1 : (movL L (tos ts) (pos ts)).length ≤ (tos ts).length := by
      refine Nat.le_trans (List.length_filter_le _ _) (Nat.le_trans (List.length_filter_le _ _) ?_)
      simp
    have := ok.t5
    simpa [canL] using Nat.le_trans h1 this
  have hit := moves_iter TTm (fun _ h => h) w4.heap.size (w4.heap.size + 1) bx bm vL vT L (tos ts) (pos ts) ok
  refine wpIn_block ?_
  refine wpIn_range (gf := 72) (lb := #[.pointer (some ⟨w4.heap.size, 0, none⟩), .pointer (some ⟨w4.heap.size + 1, 0, none⟩)]) ?hg ?eg hit ?hps
    (fun k W => (W.heap[w4.heap.size]? = some (.cells #[.pointer (some ⟨bx, 0, none⟩)] 82 (0, 0)) ∧ W.heap[w4.heap.size + 1]? = some (.cells (arr (pos ts)) 84 (0, 0))) ∧ (∃ v, W.heap[w3.heap.size]? = some (.cells #[v] 22 (0, 0)) ∧ W.ownsRow (w4.heap.size + 2) 3 1 v k (((canL L (tos ts) (pos ts)).take k).map (.int .i64))) ∧ Below w3.heap.size w3 W)
    (fun _ _ => False) ?hK ?sI ?sIx ?h0 ?round ?done ?stop
  case hg => rfl
  case eg => exact (enters_of Try.func72 (by kernel_rfl) rfl)
  case hps => intro y hy; simp [movY] at hy; obtain ⟨i, _, rfl⟩ := hy; rfl
  case hK => exact fun k W ⟨⟨h1, h2⟩, _, h5⟩ => ⟨h1, h2, hT3.below h5 (Nat.le_refl _)⟩
  case sIx => exact fun _ => Stb.pure
  case h0 => exact ⟨⟨hke.x, hke.at_⟩, ⟨_, b9', World.ownsRow_nil _ _ _ _⟩, hB5⟩
  case sI => exact fun k => (Stb.cells.and Stb.cells).and ((Stb.ex fun v => Stb.cells.and Stb.row).and (Stb.below (by omega) (Nat.le_refl _)))
  case stop => exact fun _ _ h => h.elim
  case round =>
    rintro k hk l W ⟨⟨g1, g2⟩, ⟨v, g9, gr⟩, gb⟩
    have hk' : k < (movL L (tos ts) (pos ts)).length := by simpa [movY] using hk
    have hyk : (movY L (tos ts) (pos ts))[k] = #[.int .i64 (((movL L (tos ts) (pos ts))[k] : Nat) : Int), .agg (arr (after L (tos ts) (pos ts) (movL L (tos ts) (pos ts))[k]))] := by simp [movY]
    have hpush : ((canL L (tos ts) (pos ts)).take k).map (Value.int .i64) ++ [.int .i64 (((movL L (tos ts) (pos ts))[k] : Nat) : Int)] = ((canL L (tos ts) (pos ts)).take (k + 1)).map (Value.int .i64) := by
      have hkl : k < (canL L (tos ts) (pos ts)).length := by simpa [canL] using hk'
      rw [List.take_succ_eq_append_getElem hkl, List.map_append]
      simp [canL]
    rw [hyk]
    have hkc : k < 5 := by have : (canL L (tos ts) (pos ts)).length = _ := canL_len _ _ _; omega
    generalize (movL L (tos ts) (pos ts))[k] = x at *
    clear hit hyk
    simp only [List.zip_toArray, List.zip_cons_cons, List.zip_nil_right, List.foldl_toArray', List.size_toArray, List.length_cons, List.length_nil, List.foldl_cons, List.foldl_nil, List.setIfInBounds_toArray, List.set_cons_succ, List.set_cons_zero]
    gi_wp2
    refine ⟨Kx.refl _ _ _, fun W => (W.heap[w4.heap.size]? = some (.cells #[.pointer (some ⟨bx, 0, none⟩)] 82 (0, 0)) ∧ W.heap[w4.heap.size + 1]? = some (.cells (arr (pos ts)) 84 (0, 0))) ∧ (W.heap[w3.heap.size]? = some (.cells #[v] 22 (0, 0)) ∧ W.ownsRow (w4.heap.size + 2) 3 1 v k (((canL L (tos ts) (pos ts)).take k).map (.int .i64))) ∧ Below w3.heap.size w3 W,
      (Stb.cells.and Stb.cells).and ((Stb.cells.and Stb.row).and (Stb.below (by omega) (Nat.le_refl _))), ⟨⟨g1, g2⟩, ⟨g9, gr⟩, gb⟩, ?_⟩
    clear g1 g2 g9 gr gb
    rintro W2 - ⟨⟨g1, g2⟩, ⟨g9, gr⟩, gb⟩
    have c9 := cell_blk (i := 0) g9
    simp at c9
    have l2 := lt_blk g2
    obtain ⟨i3, hi3, hz1, hz2, hz3⟩ := info_parts info3
    gi_wp2_with (gi_at_builtin; refine wpListIn_append_own _ rfl _ _ 22 rfl (w4.heap.size + 2) 3 i3 (.int .i64 0) 1 8 Try.underlying22 hi3 hz1 hz2 hz3 rfl (by decide) _ _ _ rfl (gr.alloc _) ⟨W2.heap.size, 0, none⟩ 1 1 [.int .i64 x] rfl rfl (cell_new1 rfl) (by simp [Value.oneCell']) (Nat.le_trans (by omega : k + 1 ≤ 6) (by decide)) (by omega) (by rw [World.size_alloc]; omega) ?_; intro v' w6 r1 r2 _; obtain ⟨g', cap', rfl⟩ := Joins.ownsRow_form r1 (Nat.succ_pos _); have ap := appended g9 gr (by omega) (by omega) r1 r2; have z1 := ap.cell; have z2 := ap.free)
    refine ⟨ap.kx _ _ (by unfold TTm; decide) (by unfold TTm; decide), ⟨(ap.others _ (by omega) (by omega)).trans g1, (ap.others _ (by omega) (by omega)).trans g2⟩, ⟨_, ap.blk, ?_⟩, ap.below _ _ (Nat.le_refl _) gb⟩
    rw [← hpush]
    exact ap.row
  case done =>
    rintro W ⟨⟨g1, g2⟩, ⟨v, g9, gr⟩, gb⟩ hD
    refine HK.out _ _ ?_
    have c9 := cell_blk (i := 0) g9
    simp at c9
    clear hit
    gi_wp2
    refine leave_mark rfl hD (results_tmp2 rfl _ _ _) ⟨?_, .inr ⟨he, v, rfl, ?_⟩⟩
    · exact below_putObj (hB3.trans (gb.mono hB3.size)) (by omega)
    · have hr := Stb.row (B := w5.heap.size) W _ (Gr.putObj (.deferred none) (Nat.le_refl _) hD rfl) gr
      rw [← canL_len, List.take_of_length_le (Nat.le_refl _)] at hr
      exact slI_own hr (by omega) (Nat.le_refl _) (fun _ _ _ => rfl)
end Yteijenefhoconaa
end Go.Proofs
/- One train's move, and the trains of a state. -/
open Go Go.RowKit Go.YteijenefhoconaaIt
namespace Go.Proofs
namespace Yteijenefhoconaa

/-- What a move answers: the state, and the error. -/
def moveE (L T A : List Int) (i : Int) : Int :=
  if btw 0 i (T.length - 1) then (if at0 A i.toNat = at0 T i.toNat then 22 else if canGo L T A i.toNat then 0 else 15) else 5
def moveS (L T A : List Int) (i : Int) : List Int :=
  if moveE L T A i = 0 then after L T A i.toNat else A
set_option maxRecDepth 100000 in
set_option maxHeartbeats 4000000 in
theorem move_any (bx bm : Nat) (vL vT : Value) (L T A : List Int) (i : Int) (w : World) (ok : Okt L T A) (hT : Tk w bx bm vL vT L T) :
    Calls Try.prog 55 #[.pointer (some ⟨bx, 0, none⟩), .agg (arr A), .int .i64 i] w fun e w' => e = .returned (.tuple #[.agg (arr (moveS L T A i)), .int .i64 (moveE L T A i)]) ∧ Below w.heap.size w w' := by
  have hA5 : (arr A).size = 5 := by rw [arr_size, ok.a5]
  obtain ⟨ad, capT, rfl, hmT, hcT⟩ := hT.st
  have c1 := cell_blk (i := 1) hT.blk
  simp at c1
  have hbx := lt_blk hT.blk
  go_enter Try.func55, Try.ntmps55
  refine wp_seq_k (fun K hK => ?_)
  have HK := Lib.hid hK; clear hK
  go_wp2
  refine HK.out _ _ ?_; clear HK K
  generalize hw1 : World.alloc _ _ = w1
  have bA : w1.heap[w.heap.size]? = some (.cells (arr A) 84 (0, 0)) := by rw [← hw1]; simp (disch := first | omega | (simp only [World.size_alloc]; done) | (simp only [World.size_alloc]; omega)) only [heap_newI, heap_oldI]
  have bR : w1.heap[w.heap.size + 1]? = some (.cells (arr [0, 0, 0, 0, 0]) 84 (0, 0)) := by rw [zero3, ← hw1]; simp (disch := first | omega | (simp only [World.size_alloc]; done) | (simp only [World.size_alloc]; omega)) only [heap_newI]
  have hb1 : Below w.heap.size w w1 := by rw [← hw1]; go_grown
  have hs1 : w.heap.size + 2 ≤ w1.heap.size := by rw [← hw1]; simp
  clear hw1
  have hT1 : Tk w1 bx bm vL _ L T := hT.below hb1 (Nat.le_refl _)
  have d1 := (hb1.cell (p := ⟨bx, 1, none⟩) hbx).trans c1
  obtain ⟨o, ho⟩ : ∃ o, o = btw 0 i ((T.length : Int) - 1) := ⟨_, rfl⟩
  have hbt : ∀ w, Calls Try.prog 59 #[.int .i64 0, .int .i64 i, .int .i64 ((T.length : Int) - 1)] w fun e w' => e = .returned (.bool o) ∧ w = w' := by rw [ho]; exact fun w => between_any _ _ _ w
  have HO := Lib.hid ho
  clear ho
  cases o with
  | false =>
    have hE : moveE L T A i = 5 := by unfold moveE; rw [← HO.out]; rfl
    have hS : moveS L T A i = A := by unfold moveS; rw [hE]; rfl
    go_wp2_with (first | (refine wpList_load_blk rfl 84 _ rfl _ rfl bA Try.underlying84 rfl size84 hA5 ?_) | (refine wpList_store_blk rfl 84 _ _ rfl _ rfl rfl bR size84 hA5 rfl (arr_one _) ?_) | (go_at_call 59; refine (hbt _).mono ?_; rintro e w' ⟨rfl, rfl⟩))
    refine bodyPost_ret (results_agg_tmp rfl _ _ _ rfl (World.putObj_heap_same (lt_blk bR)) Try.underlying84 rfl size84 hA5) rfl ⟨?_, below_putObj hb1 (by omega)⟩
    rw [hE, hS]; rfl
  | true =>
    have hi := HO.out
    simp [btw] at hi
    obtain ⟨j, rfl⟩ := Int.eq_ofNat_of_zero_le hi.1
    have hj : j < T.length := by omega
    obtain ⟨b, off, rfl, hlt, hcell⟩ := hcT (by omega)
    have c3 := hcell j hj
    have d3 := (hb1.cell (p := ⟨b, off + j, none⟩) hlt).trans c3
    have hai := arr_get (A := A) (i := j) (by have := ok.a5; have := ok.t5; omega)
    have dA := (cell_blk (i := j) bA).trans hai
    have hj5 : j < 5 := by have := ok.t5; omega
    have hbx1 : bx < w1.heap.size := Nat.lt_of_lt_of_le hbx hb1.size
    have hlt1 : b < w1.heap.size := Nat.lt_of_lt_of_le hlt hb1.size
    clear c1 c3 hai hcell
    have hE : moveE L T A j = if at0 A j = at0 T j then 22 else if canGo L T A j then 0 else 15 := by unfold moveE; rw [← HO.out, if_pos rfl]; rfl
    go_wp2_with (first | (refine wpList_load_blk rfl 84 _ rfl _ rfl bA Try.underlying84 rfl size84 hA5 ?_) | (refine wpList_store_blk rfl 84 _ _ rfl _ rfl rfl bR size84 hA5 rfl (arr_one _) ?_) | (go_at_call 59; refine (hbt _).mono ?_; rintro e w' ⟨rfl, rfl⟩))
    by_cases hst : at0 A j = at0 T j
    · have h1 : (at0 A j == at0 T j) = true := by rw [beq_iff_eq]; exact hst
      rw [if_pos hst] at hE
      have hS : moveS L T A j = A := by unfold moveS; rw [hE]; rfl
      have HE := Lib.hid hE
      have HS := Lib.hid hS
      clear hE hS hst
      go_quiet (fail)
      generalize hw2 : World.drewN _ _ = w2
      have bA2 : w2.heap[w.heap.size]? = some (.cells (arr A) 84 (0, 0)) := by rw [← hw2]; exact bA
      have bR2 : w2.heap[w.heap.size + 1]? = some (.cells (arr [0, 0, 0, 0, 0]) 84 (0, 0)) := by rw [← hw2]; exact bR
      have hb2 : Below w.heap.size w w2 := by rw [← hw2]; exact below_drewN hb1 _
      clear hw2 bA bR hb1 hT1 d1 d3 dA hs1 hbx1 hlt1
      go_wp2_with (first | (refine wpList_load_blk rfl 84 _ rfl _ rfl bA2 Try.underlying84 rfl size84 hA5 ?_) | (refine wpList_store_blk rfl 84 _ _ rfl _ rfl rfl bR2 size84 hA5 rfl (arr_one _) ?_))
      refine bodyPost_ret (results_agg_tmp rfl _ _ _ rfl (World.putObj_heap_same (lt_blk bR2)) Try.underlying84 rfl size84 hA5) rfl ⟨?_, below_putObj hb2 (by omega)⟩
      rw [HE.out, HS.out]; rfl
    · have h1 : (at0 A j == at0 T j) = false := by rw [beq_eq_false_iff_ne]; exact hst
      rw [if_neg hst] at hE
      have hnx := fun w hw => next_any bx bm vL (.slice (some ⟨b, off, none⟩) T.length capT) L T A j w ok hj hst hw
      have hN5' := (ok.after hj hst).a5
      have HN := Lib.hid hnx
      have HE := Lib.hid hE
      clear hE hst hnx
      go_quiet (fail)
      generalize hw2 : World.drewN _ _ = w2
      have bA2 : w2.heap[w.heap.size]? = some (.cells (arr A) 84 (0, 0)) := by rw [← hw2]; exact bA
      have bR2 : w2.heap[w.heap.size + 1]? = some (.cells (arr [0, 0, 0, 0, 0]) 84 (0, 0)) := by rw [← hw2]; exact bR
      have hb2 : Below w.heap.size w w2 := by rw [← hw2]; exact below_drewN hb1 _
      have hT2 : Tk w2 bx bm vL (.slice (some ⟨b, off, none⟩) T.length capT) L T := by rw [← hw2]; exact hT1.below (below_drewN (Below.refl _ _) _) (Nat.le_refl _)
      have hs2 : w.heap.size + 2 ≤ w2.heap.size := by rw [← hw2]; exact hs1
      clear hw2 bA bR hb1 hT1 d1 d3 dA hs1 hbx1 hlt1
      have hN5 : (arr (after L T A j)).size = 5 := by rw [arr_size]; exact hN5'
      obtain ⟨g, hg⟩ : ∃ g, g = canGo L T A j := ⟨_, rfl⟩
      have hcall := HN.out w2 hT2
      rw [← hg] at hcall
      have HG := Lib.hid hg
      clear hg
      cases g
      all_goals
        go_wp2_with (first
          | (refine wpList_load_blk rfl 84 _ rfl _ rfl bA2 Try.underlying84 rfl size84 hA5 ?_)
          | (go_at_call 74; refine hcall.mono ?_; rintro e w3 ⟨rfl, hb3⟩; have hs3 := hb3.size; have bA3 := blk_below bA2 hb3 (by omega); have bR3 := blk_below bR2 hb3 (by omega); have hB3 : Below w.heap.size w w3 := hb2.trans (hb3.mono (by omega)))
          | (refine wpList_store_blk rfl 84 _ _ rfl _ rfl rfl (heap_newI rfl) size84 hN5 rfl (arr_one _) ?_)
          | (refine wpList_load_blk rfl 84 _ rfl _ rfl (World.putObj_heap_same (by rw [World.size_alloc]; omega)) Try.underlying84 rfl size84 hN5 ?_)
          | (refine wpList_load_blk rfl 84 _ rfl _ rfl ((World.putObj_heap_other (by omega)).trans ((heap_oldI (by omega)).trans bA3)) Try.underlying84 rfl size84 hA5 ?_)
          | (refine wpList_store_blk rfl 84 _ _ rfl _ rfl rfl ((World.putObj_heap_other (by omega)).trans ((heap_oldI (by omega)).trans bR3)) size84 (by first | exact hN5 | exact hA5) rfl (arr_one _) ?_))
      · have hE : moveE L T A j = 15 := by rw [HE.out, ← HG.out]; rfl
        have hS : moveS L T A j = A := by unfold moveS; rw [hE]; rfl
        refine bodyPost_ret (results_agg_tmp rfl _ _ _ rfl (World.putObj_heap_same (by have := lt_blk bR3; simp; omega)) Try.underlying84 rfl size84 hA5) rfl ⟨?_, below_putObj (below_putObj (hB3.alloc hB3.size _) hB3.size) (by omega)⟩
        rw [hE, hS]; rfl
      · have hE : moveE L T A j = 0 := by rw [HE.out, ← HG.out]; rfl
        have hS : moveS L T A j = after L T A j := by unfold moveS; rw [hE]; rfl
        refine bodyPost_ret (results_agg_tmp rfl _ _ _ rfl (World.putObj_heap_same (by have := lt_blk bR3; simp; omega)) Try.underlying84 rfl size84 hN5) rfl ⟨?_, below_putObj (below_putObj (hB3.alloc hB3.size _) hB3.size) (by omega)⟩
        rw [hE, hS]; rfl
theorem moveS_okt {L T A : List Int} {i : Int} (ok : Okt L T A) : Okt L T (moveS L T A i) := by
  unfold moveS
  split
  · rename_i h
    unfold moveE at h
    split at h
    · rename_i hb
      simp [btw] at hb
      split at h
      · cases h
      · rename_i hne
        exact ok.after (by omega) hne
    · cases h
  · exact ok
end Yteijenefhoconaa
end Go.Proofs
/- The trains of a state. -/
open Go Go.RowKit Go.YteijenefhoconaaIt
namespace Go.Proofs
namespace Yteijenefhoconaa

def tsOf (A T : List Int) : List Tn := (List.range T.length).map fun i => (at0 A i, at0 T i)
theorem tsOf_len (A T : List Int) : (tsOf A T).length = T.length := by simp [tsOf]
def flat (ts : List Tn) : List Value := ts.flatMap fun x => [.int .i64 x.1, .int .i64 x.2]
theorem flat_len (ts : List Tn) : (flat ts).length = ts.length * 2 := by
  induction ts with
  | nil => rfl
  | cons x ts ih => simp [flat] at ih ⊢; omega
theorem flat_at (ts : List Tn) : ∀ i, i < ts.length → (flat ts)[i * 2]? = some (.int .i64 (tAt ts i)) ∧ (flat ts)[i * 2 + 1]? = some (.int .i64 (tTo ts i)) := by
  induction ts with
  | nil => intro i hi; simp at hi
  | cons x ts ih =>
    intro i hi
    cases i with
    | zero => simp [flat, tAt, tTo]
    | succ i =>
      have h := ih i (by simpa using hi)
      have e1 : (i + 1) * 2 = i * 2 + 2 := by omega
      rw [e1]
      simpa [flat, tAt, tTo] using h
theorem flat_take {ts : List Tn} {k : Nat} (hk : k < ts.length) : flat (ts.take k) ++ [.int .i64 (tAt ts k), .int .i64 (tTo ts k)] = flat (ts.take (k + 1)) := by
  rw [List.take_succ_eq_append_getElem hk, tAt_lt hk, tTo_lt hk]
  simp only [flat, List.flatMap_append, List.flatMap_cons, List.flatMap_nil, List.append_nil]
theorem slT_own {W : World} {base : Nat} {v : Value} {ts : List Tn} (h : W.ownsRow base 69 2 v ts.length (flat ts)) (hm : ts.length ≤ 8796093022208) : SlT W v ts := by
  rcases Joins.ownsRow_forms h with ⟨rfl, h0⟩ | ⟨g, cap, rfl⟩
  · exact ⟨none, 0, by rw [h0], hm, fun h1 => by omega⟩
  · have hl := h.lt g rfl
    refine ⟨_, cap, rfl, hm, fun _ => ⟨g, 0, rfl, hl.2, fun i hi => ?_⟩⟩
    have f := flat_at ts i hi
    have c1 := h.cellAt (i * 2) (by omega)
    have c2 := h.cellAt (i * 2 + 1) (by omega)
    rw [Nat.zero_add]
    exact ⟨c1.trans f.1, c2.trans f.2⟩
theorem cell_new2 {W : World} {x y : Value} {t : TypeId} {g : Nat} (hg : g = W.heap.size) : ∀ j u, [x, y][j]? = some u → (W.alloc (.cells #[x, y] t)).cell? ((⟨g, 0, none⟩ : Addr).add j) = some u := by
  subst hg
  intro j u h
  match j with
  | 0 => simp at h; subst h; simp [Addr.add]
  | 1 => simp at h; subst h; simp [Addr.add]
  | j + 2 => simp at h
theorem grown_below1 {W W' X : World} {o : Obj} {v : Value} {B n m : Nat} {xs : List Value} {e : TypeId} {sz : Nat} (h : (W.alloc o).grownBy W' v.ownBlock) (ho : W.ownsRow B e sz v n xs) (hb : m ≤ B) (hB : B ≤ W.heap.size) (hx : Below m X W) : Below m X W' := by
  have hsz : (W.alloc o).heap.size = W.heap.size + 1 := by rw [World.size_alloc]
  refine ⟨h.os.trans hx.os, h.tape.trans hx.tape, h.output.trans hx.output, Nat.le_trans hx.size (Nat.le_trans (by omega) h.size), fun k hk => ?_⟩
  rw [h.block k (by omega) (fun h2 => by have := (ho.lt k h2.symm).1; omega), heap_oldI (by omega)]
  exact hx.block k hk
theorem info69 : (Try.prog.info? 69).map (fun i => (i.zero, i.size, i.bytes)) = some (some (.agg #[.int .i64 0, .int .i64 0]), 2, 16) := by kernel_rfl

set_option maxRecDepth 100000 in
set_option maxHeartbeats 4000000 in
theorem trains_any (bx bm : Nat) (vL vT : Value) (L T A : List Int) (w : World) (hA : A.length = 5) (hT5 : T.length ≤ 5) (hT : Tk w bx bm vL vT L T) :
    Calls Try.prog 60 #[.pointer (some ⟨bx, 0, none⟩), .agg (arr A)] w fun e w' => ∃ v, e = .returned v ∧ SlT w' v (tsOf A T) ∧ Below w.heap.size w w' := by
  obtain ⟨ad, capT, rfl, hmT, hcT⟩ := hT.st
  have c1 := cell_blk (i := 1) hT.blk
  simp at c1
  have hbx := lt_blk hT.blk
  obtain ⟨n, hn⟩ : ∃ n, n = T.length := ⟨_, rfl⟩
  rw [← hn] at c1 hcT hT5
  have HN := Lib.hid hn
  clear hT hmT
  clear hn
  obtain ⟨i6, hi6, hz1, hz2, hz3⟩ := info_parts info69
  go_enter Try.func60, Try.ntmps60
  iterate 2
    refine wp_seq_k (fun K hK => ?_)
    have HK := Lib.hid hK; clear hK
    go_wp2
    refine HK.out _ _ ?_; clear HK K
  generalize hw1 : World.alloc _ _ = w1
  have bA : w1.heap[w.heap.size]? = some (.cells (arr A) 84 (0, 0)) := by rw [← hw1]; exact heap_newI rfl
  have hb1 : Below w.heap.size w w1 := by rw [← hw1]; go_grown
  have hs1 : w.heap.size + 1 ≤ w1.heap.size := by rw [← hw1]; simp
  clear hw1
  have d1 := (hb1.cell (p := ⟨bx, 1, none⟩) hbx).trans c1
  refine wp_seq_k (fun K hK => ?_)
  have HK := Lib.hid hK; clear hK
  go_wp2
  go_loopw [5, 13] (fun v i wr => ∃ k : Nat, k ≤ n ∧ i = .int .i64 k ∧ Below w1.heap.size w1 wr ∧ wr.ownsRow w1.heap.size 69 2 v k (flat ((tsOf A T).take k))) (fun _ i _ => n - (intOf i).toNat)
  case atStart => exact ⟨0, Nat.zero_le _, rfl, Below.refl _ _, World.ownsRow_nil _ _ _ _⟩
  case round =>
    obtain ⟨k, hk, rfl, hb, ho⟩ := hrel
    have hsz := hb.size
    by_cases hkn : k < n
    · obtain ⟨b, off, rfl, hlt, hcell⟩ := hcT (by omega)
      have d3 := (hb.cell (p := ⟨b, off + k, none⟩) (Nat.lt_of_lt_of_le hlt hb1.size)).trans ((hb1.cell (p := ⟨b, off + k, none⟩) hlt).trans (hcell k hkn))
      have dA := (hb.cell (p := ⟨w.heap.size, k, none⟩) (lt_blk bA)).trans ((cell_blk (i := k) bA).trans (arr_get (by omega)))
      have hk5 : k < 5 := by omega
      have hkt : k < (tsOf A T).length := by rw [tsOf_len, ← HN.out]; exact hkn
      have hft := flat_take hkt
      have ht1 : tAt (tsOf A T) k = at0 A k := by rw [tAt_lt hkt]; simp [tsOf]
      have ht2 : tTo (tsOf A T) k = at0 T k := by rw [tTo_lt hkt]; simp [tsOf]
      rw [ht1, ht2] at hft
      have HF := Lib.hid hft
      clear hft ht1 ht2 hcell hcT hkt
      go_wp2_with (at_builtin; refine wpList_append_own _ rfl _ _ 24 rfl w1.heap.size 69 i6 (.agg #[.int .i64 0, .int .i64 0]) 2 16 Try.underlying24 hi6 hz1 hz2 hz3 rfl (by decide) _ _ _ rfl (ho.alloc _) ⟨wr.heap.size, 0, none⟩ 1 1 [.int .i64 (at0 A k), .int .i64 (at0 T k)] rfl rfl (cell_new2 rfl) (fun x hx => by simp at hx; rcases hx with rfl | rfl <;> rfl) (Nat.le_trans (by omega : k + 1 ≤ 6) (by decide)) (by omega) (by rw [World.size_alloc]; omega) ?_; intro v' w6 r1 r2 _)
      go_roundw
      case rel => exact ⟨k + 1, by omega, by go_num, grown_below1 r2 ho (Nat.le_refl _) hsz hb, by rw [← HF.out]; exact r1⟩
      case measure => simp [intOf]; omega
    · have hkn2 : k = n := by omega
      go_wp2
      refine HK.out _ _ ?_
      go_wp2
      go_ret
      refine ⟨_, rfl, ?_, hb1.trans (hb.mono (by omega))⟩
      rw [hkn2, HN.out, ← tsOf_len A T, List.take_of_length_le (Nat.le_refl _)] at ho
      exact slT_own ho (by rw [tsOf_len, ← HN.out]; omega)
end Yteijenefhoconaa
end Go.Proofs
/- Move. -/
open Go Go.RowKit Go.YteijenefhoconaaIt
namespace Go.Proofs
namespace Yteijenefhoconaa
/-- What Move answers. -/
def mvE (L : List Int) (ts : List Tn) (i : Int) : Int := if lineE L ts ≠ 0 then lineE L ts else moveE L (tos ts) (pos ts) i
def mvT (L : List Int) (ts : List Tn) (i : Int) : List Tn := tsOf (moveS L (tos ts) (pos ts) i) (tos ts)
set_option maxRecDepth 100000 in
set_option maxHeartbeats 4000000 in
theorem mv_any (vL vt : Value) (L : List Int) (ts : List Tn) (i : Int) (w : World) (hL : SlI w vL L) (ht : SlT w vt ts) :
    Calls Try.prog 37 #[vL, vt, .int .i64 i] w fun e w' => Below w.heap.size w w' ∧
      ((mvE L ts i ≠ 0 ∧ e = .returned (.tuple #[.slice none 0 0, .int .i64 (mvE L ts i)])) ∨
       (mvE L ts i = 0 ∧ ∃ v, e = .returned (.tuple #[v, .int .i64 0]) ∧ SlT w' v (mvT L ts i))) := by
  have h48 := track_any vL vt L ts w hL ht
  have H := Lib.hid h48
  clear h48
  have hP : (arr (pos ts)).size = 5 := by rw [arr_size]; exact posK_len _ _
  go_enter Try.func37, Try.ntmps37
  iterate 2
    refine wp_seq_k (fun K hK => ?_)
    have HK := Lib.hid hK; clear hK
    go_wp2_with (first | (refine wpList_store_blk rfl 84 _ _ rfl _ rfl rfl (heap_newI rfl) size84 (by first | exact (arr_size _).trans hA | exact hP) rfl (arr_one _) ?_) | (go_at_call 48; refine H.out.mono ?_; rintro e w2 ⟨hb2, hcs⟩; rcases hcs with ⟨hne, A, hA, rfl⟩ | ⟨he, bx, bm, vT, rfl, hT2, -⟩))
    all_goals refine HK.out _ _ ?_; clear HK K
  · have hneb : (lineE L ts != 0) = true := bne_iff_ne.2 hne
    have hE : mvE L ts i = lineE L ts := by unfold mvE; rw [if_pos hne]
    go_wp2
    go_ret2
    exact ⟨below_putObj (hb2.alloc hb2.size _) hb2.size, .inl ⟨by rw [hE]; exact hne, by rw [hE]; rfl⟩⟩
  have hE : mvE L ts i = moveE L (tos ts) (pos ts) i := by unfold mvE; rw [if_neg (by rw [he]; decide)]
  have hS5 : (arr (moveS L (tos ts) (pos ts) i)).size = 5 := by rw [arr_size]; exact (moveS_okt (okt_of he)).a5
  generalize hw3 : World.putObj _ _ _ = w3
  have b7 : w3.heap[w2.heap.size]? = some (.cells (arr (pos ts)) 84 (0, 0)) := by rw [← hw3]; exact World.putObj_heap_same (by rw [World.size_alloc]; omega)
  have hbf : Below w2.heap.size w2 w3 := by rw [← hw3]; exact below_putObj ((Below.refl _ _).alloc (Nat.le_refl _) _) (Nat.le_refl _)
  have hB3 : Below w.heap.size w w3 := hb2.trans (hbf.mono hb2.size)
  have hs3 : w2.heap.size + 1 ≤ w3.heap.size := by rw [← hw3]; simp
  have hs2 := hb2.size
  have hT3 : Tk w3 bx bm vL vT L (tos ts) := hT2.below hbf (Nat.le_refl _)
  clear hw3
  refine wp_seq_k (fun K hK => ?_)
  have HK := Lib.hid hK; clear hK
  go_wp2
  refine HK.out _ _ ?_; clear HK K
  have h55 := move_any bx bm vL vT L (tos ts) (pos ts) i w3 (okt_of he) hT3
  obtain ⟨me, hme⟩ : ∃ me, me = moveE L (tos ts) (pos ts) i := ⟨_, rfl⟩
  rw [← hme] at h55 hE
  have HME := Lib.hid hme
  clear hme
  refine wp_seq_k (fun K hK => ?_)
  have HK := Lib.hid hK; clear hK
  go_wp2_with (first
    | (go_at_call 55; refine h55.mono ?_; rintro e w4 ⟨rfl, hb4⟩; have b7' := blk_below b7 hb4 (by omega))
    | (refine wpList_load_blk rfl 84 _ rfl _ rfl b7 Try.underlying84 rfl size84 hP ?_)
    | (refine wpList_store_blk rfl 84 _ _ rfl _ rfl rfl b7' size84 hS5 hP (arr_one _) ?_))
  refine HK.out _ _ ?_; clear HK K
  have hb5 : Below w2.heap.size w2 (w4.putObj w2.heap.size (.cells (arr (moveS L (tos ts) (pos ts) i)) 84 (0, 0))) := below_putObj (hbf.trans (hb4.mono hbf.size)) (Nat.le_refl _)
  have b5 : (w4.putObj w2.heap.size (.cells (arr (moveS L (tos ts) (pos ts) i)) 84 (0, 0))).heap[w2.heap.size]? = _ := World.putObj_heap_same (lt_blk b7')
  clear b7 b7' h55 hb4 hbf
  generalize World.putObj _ _ _ = w5 at *
  have hB5 : Below w.heap.size w w5 := hb2.trans (hb5.mono hb2.size)
  have hT5 : Tk w5 bx bm vL vT L (tos ts) := hT2.below hb5 (Nat.le_refl _)
  have h60 := trains_any bx bm vL vT L (tos ts) (moveS L (tos ts) (pos ts) i) w5 (moveS_okt (okt_of he)).a5 (okt_of he).t5 hT5
  by_cases hme0 : me = 0
  · have h1 : (me != 0) = false := by simp [hme0]
    go_wp2_with (first
      | (go_at_call 60; refine h60.mono ?_; rintro e w6 ⟨v, rfl, hv, hb6⟩)
      | (refine wpList_load_blk rfl 84 _ rfl _ rfl b5 Try.underlying84 rfl size84 hS5 ?_))
    go_ret2
    exact ⟨hB5.trans (hb6.mono hB5.size), .inr ⟨by rw [hE]; exact hme0, v, rfl, hv⟩⟩
  · have h1 : (me != 0) = true := bne_iff_ne.2 hme0
    go_wp2
    go_ret2
    refine ⟨hB5, .inl ⟨by rw [hE]; exact hme0, ?_⟩⟩
    rw [hE]
    rfl
end Yteijenefhoconaa
end Go.Proofs
