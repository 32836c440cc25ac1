/- Safe and Stuck. -/
import Derived.Test.YteijenefhoconaaMv
open Go Go.RowKit Go.YteijenefhoconaaIt
namespace Go.Proofs
namespace Yteijenefhoconaa
set_option maxRecDepth 100000 in
set_option maxHeartbeats 4000000 in
theorem safeX_any (vL vt : Value) (L : List Int) (ts : List Tn) (w : World) (hL : SlI w vL L) (ht : SlT w vt ts) :
    Calls Try.prog 16 #[vL, vt] w fun e w' => e = .returned (.tuple #[.bool (if lineE L ts ≠ 0 then false else safeB L (tos ts) (pos ts)), .int .i64 (lineE L ts)]) ∧ Below w.heap.size w w' := by
  have h48 := track_any vL vt L ts w hL ht
  have H := Lib.hid h48
  clear h48
  have hP : (arr (pos ts)).size = 5 := by rw [arr_size]; exact posK_len _ _
  go_enter Try.func16, Try.ntmps16
  iterate 2
    refine wp_seq_k (fun K hK => ?_)
    have HK := Lib.hid hK; clear hK
    go_wp2_with (first | (refine wpList_store_blk rfl 84 _ _ rfl _ rfl rfl (heap_newI rfl) size84 (by first | exact (arr_size _).trans hA | exact hP) rfl (arr_one _) ?_) | (go_at_call 48; refine H.out.mono ?_; rintro e w2 ⟨hb2, hcs⟩; rcases hcs with ⟨hne, A, hA, rfl⟩ | ⟨he, bx, bm, vT, rfl, hT2, hM2, hbm⟩))
    all_goals refine HK.out _ _ ?_; clear HK K
  · have hneb : (lineE L ts != 0) = true := bne_iff_ne.2 hne
    rw [if_pos hne]
    go_wp2
    go_ret2
    exact ⟨rfl, below_putObj (hb2.alloc hb2.size _) hb2.size⟩
  generalize hw3 : World.putObj _ _ _ = w3
  have b7 : w3.heap[w2.heap.size]? = some (.cells (arr (pos ts)) 84 (0, 0)) := by rw [← hw3]; exact World.putObj_heap_same (by rw [World.size_alloc]; omega)
  have hbf : Below w2.heap.size w2 w3 := by rw [← hw3]; exact below_putObj ((Below.refl _ _).alloc (Nat.le_refl _) _) (Nat.le_refl _)
  have hB3 : Below w.heap.size w w3 := hb2.trans (hbf.mono hb2.size)
  have hT3 : Tk w3 bx bm vL vT L (tos ts) := hT2.below hbf (Nat.le_refl _)
  have hM3 : Memo w3 bm (GSafe L (tos ts)) := hM2.below hbf hM2.lt
  clear hw3
  have h49 := safe_any bx bm vL vT L (tos ts) (pos ts) w3 (okt_of he) hT3 hM3
  rw [if_neg (by rw [he]; decide)]
  rw [he]
  obtain ⟨sb, hsb⟩ : ∃ sb, sb = safeB L (tos ts) (pos ts) := ⟨_, rfl⟩
  rw [← hsb] at h49 ⊢
  clear hsb
  go_wp2_with (first
    | (go_at_call 49; refine h49.mono ?_; rintro e w4 ⟨rfl, -, hb4⟩)
    | (refine wpList_load_blk rfl 84 _ rfl _ rfl b7 Try.underlying84 rfl size84 hP ?_))
  go_ret2
  exact ⟨rfl, hB3.trans ⟨hb4.os, hb4.tape, hb4.output, hb4.size, fun k hk => hb4.block k (Nat.lt_of_lt_of_le hk hB3.size) (by omega)⟩⟩
theorem results_two {fn : Func} {p q : Tmp} {ty ty2 : TypeId} (h : fn.results = #[.cell p ty, .cell q ty2]) (tmps : Array Value) (w : World) (b c : Nat) {v v2 : Value}
    (hp : tmps.getD p undef = .pointer (some ⟨b, 0, none⟩)) (h1 : (loadVar ty ⟨b, 0, none⟩).run Try.prog w = .ok v w) (hq : tmps.getD q undef = .pointer (some ⟨c, 0, none⟩)) (h2 : (loadVar ty2 ⟨c, 0, none⟩).run Try.prog w = .ok v2 w) :
    (results fn tmps).run Try.prog w = .ok (.tuple #[v, v2]) w := by
  have hp' : tmps[p]?.getD undef = .pointer (some ⟨b, 0, none⟩) := by simpa using hp
  have hq' : tmps[q]?.getD undef = .pointer (some ⟨c, 0, none⟩) := by simpa using hq
  simp [results, h, hp', hq', asAddr, h1, h2]
/-- The two results of Stuck, out of their blocks. -/
theorem stuck_res {W : World} {b : Nat} {x : Bool} {y : Int} (h4 : W.heap[b]? = some (.cells #[.bool x] 4 (0, 0))) (h5 : W.heap[b + 1]? = some (.cells #[.int .i64 y] 29 (0, 0))) (tmps : Array Value)
    (hp : tmps.getD 4 undef = .pointer (some ⟨b, 0, none⟩)) (hq : tmps.getD 5 undef = .pointer (some ⟨b + 1, 0, none⟩)) : (results Try.f18 tmps).run Try.prog W = .ok (.tuple #[.bool x, .int .i64 y]) W :=
  results_two rfl tmps W b (b + 1) hp (run_loadVar_one (by rw [cell_blk h4]; rfl) Try.underlying4 rfl) hq (run_loadVar_one (by rw [cell_blk h5]; rfl) Try.underlying29 rfl)
theorem Stb.slI {B : Nat} {v : Value} {xs : List Int} : Stb B (fun W => SlI W v xs) := by
  rintro W W' g ⟨ad, cap, hv, hm, hc⟩
  refine ⟨ad, cap, hv, hm, fun h0 => ?_⟩
  obtain ⟨b, off, ha, hl, hcell⟩ := hc h0
  exact ⟨b, off, ha, Nat.lt_of_lt_of_le hl g.size, fun i hi => Stb.cell (B := B) W W' g (hcell i hi)⟩
theorem Stb.tk {B bx bm : Nat} {vL vT : Value} {L T : List Int} : Stb B (fun W => Tk W bx bm vL vT L T) := fun W W' g h =>
  ⟨Stb.cells (B := B) W W' g h.blk, Stb.slI (B := B) W W' g h.sl, Stb.slI (B := B) W W' g h.st⟩
def stuckB (L : List Int) (ts : List Tn) : Bool := lineE L ts == 0 && (movL L (tos ts) (pos ts)).isEmpty && !decide (wayL (pos ts) (tos ts) = [])
set_option maxRecDepth 100000 in
set_option maxHeartbeats 4000000 in
theorem stuck_any (vL vt : Value) (L : List Int) (ts : List Tn) (w : World) (hL : SlI w vL L) (ht : SlT w vt ts) :
    Calls Try.prog 18 #[vL, vt] w fun e w' => e = .returned (.tuple #[.bool (stuckB L ts), .int .i64 (lineE L ts)]) ∧ Below w.heap.size w w' := by
  have hP : (arr (pos ts)).size = 5 := by rw [arr_size]; exact posK_len _ _
  refine calls_of_wpM Try.func18 rfl ?_
  simp only [Try.ntmps18, List.size_toArray, List.length_cons, List.length_nil, Nat.reduceAdd, Nat.reduceSub, Array.replicate_succ, Array.replicate_zero, List.push_toArray, List.append_toArray, List.nil_append, List.cons_append]
  refine wpIn_seq_k (fun K hK => ?_)
  have HK := Lib.hid hK; clear hK
  gi_wp2
  refine HK.out _ _ ?_; clear HK K
  generalize hw1 : World.alloc _ _ = w1
  have a4 : w1.heap[w.heap.size]? = some (.cells #[.bool false] 4 (0, 0)) := by rw [← hw1]; simp (disch := first | omega | (simp only [World.size_alloc]; done) | (simp only [World.size_alloc]; omega)) only [heap_newI, heap_oldI]
  have a5 : w1.heap[w.heap.size + 1]? = some (.cells #[.int .i64 0] 29 (0, 0)) := by rw [← hw1]; simp (disch := first | omega | (simp only [World.size_alloc]; done) | (simp only [World.size_alloc]; omega)) only [heap_newI]
  have hb1 : Below w.heap.size w w1 := by rw [← hw1]; go_grown
  have hs1 : w.heap.size + 2 ≤ w1.heap.size := by rw [← hw1]; simp
  clear hw1
  have h48 := track_any vL vt L ts w1 (hL.below hb1 (Nat.le_refl _)) (ht.below hb1 (Nat.le_refl _))
  have H := Lib.hid h48
  clear h48
  refine wpIn_seq_k (fun K hK => ?_)
  have HK := Lib.hid hK; clear hK
  gi_wp2_with (first | (refine wpListIn_store_blk rfl 84 _ _ rfl _ rfl rfl (heap_newI rfl) size84 (by first | exact (arr_size _).trans hA | exact hP) rfl (arr_one _) ?_) | (gi_at_call 48; refine callsTo H.out ?_; rintro e w2 ⟨hb2, hcs⟩; rcases hcs with ⟨hne, A, hA, rfl⟩ | ⟨he, bx, bm, vT, rfl, hT2, -⟩))
  all_goals
    refine HK.out _ _ ?_; clear HK K
    have hs2 := hb2.size
    have e4 := blk_below a4 hb2 (by omega)
    have e5 := blk_below a5 hb2 (by omega)
    generalize hw3 : World.putObj _ _ _ = w3
    first
      | have b7 : w3.heap[w2.heap.size]? = some (.cells (arr (pos ts)) 84 (0, 0)) := by rw [← hw3]; exact World.putObj_heap_same (by rw [World.size_alloc]; omega)
      | skip
    have hbf : Below w2.heap.size w2 w3 := by rw [← hw3]; exact below_putObj ((Below.refl _ _).alloc (Nat.le_refl _) _) (Nat.le_refl _)
    have f4 := blk_below e4 hbf (by omega)
    have f5 := blk_below e5 hbf (by omega)
    have hB3 : Below w.heap.size w w3 := (hb1.trans (hb2.mono (by omega))).trans (hbf.mono (by omega))
    have hs3 : w2.heap.size + 1 ≤ w3.heap.size := by rw [← hw3]; simp
    clear hw3 e4 e5 a4 a5
    have c4 := cell_blk (i := 0) f4
    have c5 := cell_blk (i := 0) f5
    have z4 := free_blk (i := 0) f4
    have z5 := free_blk (i := 0) f5
    simp at c4 c5
  · have hneb : (lineE L ts != 0) = true := bne_iff_ne.2 hne
    have hS : stuckB L ts = false := by unfold stuckB; simp [hne]
    gi_wp2
    rw [hS]
    refine ⟨_, stuck_res (x := false) (y := lineE L ts) ?_ ?_ _ rfl rfl, rfl, (hB3.setCell (by simp) _).setCell (by simp) _⟩
    · rw [heap_set_other (by omega), heap_set_blk f4]; rfl
    · rw [heap_set_blk ((heap_set_other (by omega)).trans f5)]; rfl
  have hT3 : Tk w3 bx bm vL vT L (tos ts) := hT2.below hbf (Nat.le_refl _)
  clear hT2 hbf hb2
  refine wpIn_seq_k (fun K hK => ?_)
  have HK := Lib.hid hK; clear hK
  gi_wp2
  refine HK.out _ _ ?_; clear HK K
  refine wpIn_seq_k (fun K hK => ?_)
  have HK := Lib.hid hK; clear hK
  refine wpIn_seq_k (fun K2 hK2 => ?_)
  have HK2 := Lib.hid hK2; clear hK2
  gi_wp2_with (first | (refine wpListIn_load_blk rfl 84 _ rfl _ rfl b7 Try.underlying84 rfl size84 hP ?_) | (gi_at_call 51; refine callsTo (moves_any bx bm vL vT L (tos ts) (pos ts) w3 hT3) ?_; rintro e w5 ⟨rfl, hke, hb5⟩))
  refine HK2.out _ _ ?_; clear HK2 K2
  have hs5 := hb5.size
  have g4 := blk_below f4 hb5 (by omega)
  have g5 := blk_below f5 hb5 (by omega)
  have g7 := blk_below b7 hb5 (by omega)
  have hB5 : Below w.heap.size w w5 := hB3.trans (hb5.mono (by omega))
  have hs6 : w3.heap.size + 2 ≤ w5.heap.size := by have := lt_blk hke.at_; omega
  have ok := okt_of he
  have hit := moves_iter TTm (fun _ h => h) w3.heap.size (w3.heap.size + 1) bx bm vL vT L (tos ts) (pos ts) ok
  clear c4 c5 z4 z5 f4 f5 b7
  refine wpIn_block ?_
  refine wpIn_range (gf := 72) (lb := #[.pointer (some ⟨w3.heap.size, 0, none⟩), .pointer (some ⟨w3.heap.size + 1, 0, none⟩)]) ?hg ?eg hit ?hps
    (fun k W => k = 0 ∧ (W.heap[w3.heap.size]? = some (.cells #[.pointer (some ⟨bx, 0, none⟩)] 82 (0, 0)) ∧ W.heap[w3.heap.size + 1]? = some (.cells (arr (pos ts)) 84 (0, 0))) ∧ (W.heap[w.heap.size]? = some (.cells #[.bool false] 4 (0, 0)) ∧ W.heap[w.heap.size + 1]? = some (.cells #[.int .i64 0] 29 (0, 0))) ∧ W.heap[w2.heap.size]? = some (.cells (arr (pos ts)) 84 (0, 0)) ∧ Below w.heap.size w W ∧ Tk W bx bm vL vT L (tos ts))
    (fun c W => c = .ret ∧ movL L (tos ts) (pos ts) ≠ [] ∧ (W.heap[w.heap.size]? = some (.cells #[.bool false] 4 (0, 0)) ∧ W.heap[w.heap.size + 1]? = some (.cells #[.int .i64 0] 29 (0, 0))) ∧ Below w.heap.size w W) ?hK ?sI ?sIx ?h0 ?round ?done ?stop
  case hg => rfl
  case eg => exact (enters_of Try.func72 (by kernel_rfl) rfl)
  case hps => intro y hy; simp [movY] at hy; obtain ⟨i, _, rfl⟩ := hy; rfl
  case hK => exact fun k W ⟨_, ⟨h1, h2⟩, _, _, _, h5⟩ => ⟨h1, h2, h5⟩
  case sIx => exact fun _ => Stb.pure.and (Stb.pure.and ((Stb.cells.and Stb.cells).and (Stb.below (by omega) (Nat.le_refl _))))
  case h0 => exact ⟨rfl, ⟨hke.x, hke.at_⟩, ⟨g4, g5⟩, g7, hB5, hT3.below hb5 (Nat.le_refl _)⟩
  case sI => exact fun k => Stb.pure.and ((Stb.cells.and Stb.cells).and ((Stb.cells.and Stb.cells).and (Stb.cells.and ((Stb.below (by omega) (Nat.le_refl _)).and Stb.tk))))
  case stop =>
    rintro c W ⟨rfl, hne, ⟨k4, k5⟩, kb⟩ hD
    have hS : stuckB L ts = false := by unfold stuckB; simp [hne]
    refine wpIn_ret ?_
    refine leave_mark rfl hD (stuck_res (x := false) (y := 0) ((World.putObj_heap_other (by omega)).trans k4) ((World.putObj_heap_other (by omega)).trans k5) _ rfl rfl) ⟨by rw [hS, he], below_putObj kb (by omega)⟩
  case round =>
    rintro k hk l W ⟨rfl, -, ⟨k4, k5⟩, -, kb, -⟩
    have hne : movL L (tos ts) (pos ts) ≠ [] := by intro h; simp [movY, h] at hk
    have hsz : ∃ x y, (movY L (tos ts) (pos ts))[0] = #[x, y] := by simp [movY]
    obtain ⟨x, y, hxy⟩ := hsz
    rw [hxy]
    clear hxy hit
    simp only [List.zip_toArray, List.zip_cons_cons, List.zip_nil_right, List.foldl_toArray', List.size_toArray, List.length_cons, List.length_nil, List.foldl_cons, List.foldl_nil, List.setIfInBounds_toArray, List.set_cons_succ, List.set_cons_zero]
    gi_wp2
    refine ⟨Kx.refl _ _ _, fun W => (W.heap[w.heap.size]? = some (.cells #[.bool false] 4 (0, 0)) ∧ W.heap[w.heap.size + 1]? = some (.cells #[.int .i64 0] 29 (0, 0))) ∧ Below w.heap.size w W, (Stb.cells.and Stb.cells).and (Stb.below (by omega) (Nat.le_refl _)), ⟨⟨k4, k5⟩, kb⟩, ?_⟩
    clear k4 k5 kb
    rintro W2 - ⟨⟨k4, k5⟩, kb⟩
    have c4 := cell_blk (i := 0) k4
    have c5 := cell_blk (i := 0) k5
    have z4 := free_blk (i := 0) k4
    have z5 := free_blk (i := 0) k5
    simp at c4 c5
    gi_wp2
    have j5 : (W2.setCell ⟨w.heap.size, 0, none⟩ (.bool false)).heap[w.heap.size + 1]? = some (.cells #[.int .i64 0] 29 (0, 0)) := (heap_set_other (by omega)).trans k5
    refine ⟨(Kx.setCell k4 (by unfold TTm; decide)).trans (Kx.setCell j5 (by unfold TTm; decide)), rfl, hne, ⟨?_, ?_⟩, (kb.setCell (by simp) _).setCell (by simp) _⟩
    · rw [heap_set_other (by omega), heap_set_blk k4]; rfl
    · rw [heap_set_blk j5]; rfl
  case done =>
    rintro W ⟨h0, -, ⟨k4, k5⟩, k7, kb, hTW⟩ hD
    have he2 : movL L (tos ts) (pos ts) = [] := by simpa [movY] using h0
    have hS : stuckB L ts = !decide (wayL (pos ts) (tos ts) = []) := by unfold stuckB; simp [he, he2]
    have l5 := lt_blk hD
    clear hit h0
    have harr := arrived_any bx bm vL vT L (tos ts) (pos ts) W ok hTW
    obtain ⟨acc, hacc⟩ : ∃ acc, acc = decide (wayL (pos ts) (tos ts) = []) := ⟨_, rfl⟩
    rw [← hacc] at harr hS
    clear hacc
    refine HK.out _ _ ?_; clear HK K
    gi_wp2_with (first
      | (refine wpListIn_load_blk rfl 84 _ rfl _ rfl k7 Try.underlying84 rfl size84 hP ?_)
      | (gi_at_call 52; refine callsTo harr ?_; rintro e w6 ⟨rfl, hb6⟩; have j4 := blk_below k4 hb6 (lt_blk k4); have j5 := blk_below k5 hb6 (lt_blk k5); have jD := blk_below hD hb6 (lt_blk hD); have jb : Below w.heap.size w w6 := kb.trans (hb6.mono kb.size); have c4 := cell_blk (i := 0) j4; have c5 := cell_blk (i := 0) j5; have z4 := free_blk (i := 0) j4; have z5 := free_blk (i := 0) j5; simp at c4 c5))
    have m5 : (w6.setCell ⟨w.heap.size, 0, none⟩ (.bool !acc)).heap[w.heap.size + 1]? = some (.cells #[.int .i64 0] 29 (0, 0)) := (heap_set_other (by omega)).trans j5
    refine leave_mark rfl ((heap_set_other (by omega)).trans ((heap_set_other (by omega)).trans jD)) (stuck_res (x := !acc) (y := 0) ?_ ?_ _ rfl rfl) ⟨by rw [hS, he], below_putObj ((jb.setCell (by simp) _).setCell (by simp) _) (by omega)⟩
    · rw [World.putObj_heap_other (by omega), heap_set_other (by omega), heap_set_blk j4]; rfl
    · rw [World.putObj_heap_other (by omega), heap_set_blk m5]; rfl
end Yteijenefhoconaa
end Go.Proofs
