/- Fields: straight lines. -/
import Derived.Test.YtgnjeefanbcbkaaA2
open Go Go.RowKit Go.YtgnjeefanbcbkaaIt
namespace Go.Proofs
namespace Ytgnjeefanbcbkaa
theorem wrapB {x B : Int} (h : -B ≤ x ∧ x ≤ B) (hB : B ≤ 4611686018427387904) : IntKind.i64.wrap x = x := by rw [IntKind.wrap_i64]; omega
/-- A line's points, within bounds. -/
structure LineH (i : Int) (a : Fr) (k : Int) (b : Fr) (w : Int) : Prop where
  ne : i ≠ k
  ha : Bd 2000000 29 a
  hb : Bd 2000000 29 b
  hu : b.u * a.u ≤ 29
  i0 : 0 ≤ i ∧ i ≤ 29
  k0 : 0 ≤ k ∧ k ≤ 29
  w0 : 0 ≤ w ∧ w ≤ 29
set_option maxRecDepth 100000 in
set_option maxHeartbeats 4000000 in
theorem line_any (i : Int) (a : Fr) (k : Int) (b : Fr) (x : Int) (w : World) (h : LineH i a k b x) :
    Calls Try.prog 76 #[encP i a, encP k b, .int .i64 x] w fun e w' => e = .returned (enc (lineF i a k b x)) ∧ Below w.heap.size w w' := by
  obtain ⟨hne, ha, hb, hu, hi, hk, hx⟩ := h
  have hau := ha.pos
  have hbu := hb.pos
  have hsu0 : 0 < b.u * a.u := Int.mul_pos hbu hau
  have m1 := mulU (x := b) (y := a) hb ha
  have m2 := mulU (x := a) (y := b) ha hb
  have h81 := fun W => minus_any b a W (wrapB m1 (by decide)) (wrapB m2 (by decide)) (wrapB (B := 116000000) (by omega) (by decide)) (wrapB (B := 29) (by omega) (by decide))
  have hso : -116000000 ≤ b.o * a.u - a.o * b.u ∧ b.o * a.u - a.o * b.u ≤ 116000000 := by omega
  have H81 := Lib.hid h81
  clear h81 m1 m2
  unfold lineF
  unfold Fr.minus at H81
  generalize hsoe : b.o * a.u - a.o * b.u = so at *
  generalize hsue : b.u * a.u = su at *
  clear hsoe hsue
  obtain ⟨wd, hwd⟩ : ∃ wd, wd = k - i := ⟨_, rfl⟩
  obtain ⟨dw, hdw⟩ : ∃ dw, dw = x - i := ⟨_, rfl⟩
  have hwd1 : -29 ≤ wd ∧ wd ≤ 29 := by omega
  have hdw1 : -29 ≤ dw ∧ dw ≤ 29 := by omega
  have g1 : IntKind.i64.wrap (k - i) = wd := by rw [← hwd]; exact wrapB (B := 29) hwd1 (by decide)
  have g2 : IntKind.i64.wrap (x - i) = dw := by rw [← hdw]; exact wrapB (B := 29) hdw1 (by decide)
  rw [← hwd, ← hdw]
  have n1 := mulB (a := a.o) (A := 2000000) (b := su) (B := 29) ha.lo ha.hi (by omega) (by omega)
  have n2 := mulB (a := a.o * su) (A := 2000000 * 29) (b := wd) (B := 29) n1.1 n1.2 hwd1.1 hwd1.2
  have n3 := mulB (a := so) (A := 116000000) (b := a.u) (B := 29) hso.1 hso.2 (by omega) ha.le
  have n4 := mulB (a := so * a.u) (A := 116000000 * 29) (b := dw) (B := 29) n3.1 n3.2 hdw1.1 hdw1.2
  have n5 : -100000000000 ≤ a.o * su * wd + so * a.u * dw ∧ a.o * su * wd + so * a.u * dw ≤ 100000000000 := by omega
  have n6 := mulB (a := a.u) (A := 29) (b := su) (B := 29) (by omega) ha.le (by omega) (by omega)
  have n7 := mulB (a := a.u * su) (A := 29 * 29) (b := wd) (B := 29) n6.1 n6.2 hwd1.1 hwd1.2
  have g3 := wrapB n1 (by decide)
  have g4 := wrapB n2 (by decide)
  have g5 := wrapB n3 (by decide)
  have g6 := wrapB n4 (by decide)
  have g7 := wrapB n5 (by decide)
  have g8 := wrapB n6 (by decide)
  have g9 := wrapB n7 (by decide)
  have g10 : IntKind.i64.wrap (-(a.o * su * wd + so * a.u * dw)) = -(a.o * su * wd + so * a.u * dw) := wrapB (B := 100000000000) (by omega) (by decide)
  have g11 : IntKind.i64.wrap (-(a.u * su * wd)) = -(a.u * su * wd) := wrapB (B := 29 * 29 * 29) (by omega) (by decide)
  generalize hao : a.o = ao at *
  generalize hau : a.u = au at *
  generalize hbo : b.o = bo at *
  generalize hbu : b.u = bu at *
  have G3 := Lib.hid g3
  generalize hq1 : ao * su = q1 at *
  generalize hq2 : q1 * wd = q2 at *
  generalize hq3 : so * au = q3 at *
  generalize hq4 : q3 * dw = q4 at *
  generalize hq5 : q2 + q4 = q5 at *
  generalize hq6 : au * su = q6 at *
  generalize hq7 : q6 * wd = q7 at *
  have g3' : IntKind.i64.wrap (ao * su) = q1 := by rw [hq1]; exact g3
  have g4' : IntKind.i64.wrap (q1 * wd) = q2 := by rw [hq2]; exact g4
  have g5' : IntKind.i64.wrap (so * au) = q3 := by rw [hq3]; exact g5
  have g6' : IntKind.i64.wrap (q3 * dw) = q4 := by rw [hq4]; exact g6
  have g7' : IntKind.i64.wrap (q2 + q4) = q5 := by rw [hq5]; exact g7
  have g8' : IntKind.i64.wrap (au * su) = q6 := by rw [hq6]; exact g8
  have g9' : IntKind.i64.wrap (q6 * wd) = q7 := by rw [hq7]; exact g9
  clear g3 g4 g5 g6 g7 g8 g9 G3 n1 n2 n3 n4 n5 n6 n7 hwd hdw hwd1 hdw1 hi hk hx hne ha hb hu hau hbu hsu0 hso
  clear hq1 hq2 hq3 hq4 hq5 hq6 hq7
  obtain ⟨aO, aU⟩ := a
  obtain ⟨bO, bU⟩ := b
  simp only at hao hau hbo hbu
  subst hao hau hbo hbu
  unfold nrm
  go_enter Try.func76, Try.ntmps76
  refine wp_seq_k (fun K hK => ?_)
  have HK := Lib.hid hK; clear hK
  go_wp2
  refine HK.out _ _ ?_; clear HK K
  generalize hw1 : World.alloc _ _ = w1
  obtain ⟨b1, b2, b3, hB, hs1⟩ := blk3 hw1
  clear hw1
  have r1 : w1.rangeAt w.heap.size 1 [.int .i64 aO, .int .i64 aU] := mid2 (by rw [cell_blk b1]; rfl) (by rw [cell_blk b1]; rfl)
  have r2 : w1.rangeAt (w.heap.size + 1) 1 [.int .i64 bO, .int .i64 bU] := mid2 (by rw [cell_blk b2]; rfl) (by rw [cell_blk b2]; rfl)
  have h81 := H81.out w1
  clear H81
  refine wp_seq_k (fun K hK => ?_)
  have HK := Lib.hid hK; clear hK
  go_wp2_with (first | (refine wpList_load_mid rfl 93 _ rfl _ _ rfl _ _ r2 Try.underlying93 rfl size93 ?_) | (refine wpList_load_mid rfl 93 _ rfl _ _ rfl _ _ r1 Try.underlying93 rfl size93 ?_) | (go_at_call 81; refine h81.mono ?_; rintro e w2 ⟨rfl, hb2⟩))
  refine HK.out _ _ ?_; clear HK K h81 r1 r2
  replace b1 := blk_keep b1 hb2
  replace b2 := blk_keep b2 hb2
  replace b3 := blk_keep b3 hb2
  replace hB := btr hB hb2 (Nat.le_refl _)
  generalize hw3 : World.alloc _ _ = w3
  obtain ⟨b4, hB4, hs4⟩ := blk1 hw3
  clear hw3
  replace b1 := blk_keep b1 hB4
  replace b2 := blk_keep b2 hB4
  replace b3 := blk_keep b3 hB4
  replace hB := btr hB hB4 (Nat.le_refl _)
  have hl3 := lt_blk b3
  clear hb2 hB4 hs4
  have c0 := cell_blk (i := 0) b1
  have c1 := cell_blk (i := 1) b1
  have c2 := cell_blk (i := 2) b1
  have d0 := cell_blk (i := 0) b2
  have f0 := cell_blk (i := 0) b4
  have f1 := cell_blk (i := 1) b4
  simp only [List.getElem?_toArray, List.getElem?_cons_zero, List.getElem?_cons_succ] at c0 c1 c2 d0 f0 f1
  refine wp_seq_k (fun K hK => ?_)
  have HK := Lib.hid hK; clear hK
  go_wp2
  refine HK.out _ _ ?_; clear HK K
  refine wp_seq_k (fun K hK => ?_)
  have HK := Lib.hid hK; clear hK
  go_wp2
  refine HK.out _ _ ?_; clear HK K
  clear c0 c1 c2 d0 f0 f1 b1 b2 b4 g1 g2 g3' g4' g5' g6' g7' g8' g9'
  generalize hw5 : World.alloc _ _ = w5
  obtain ⟨b5, hB5, hs5⟩ := blk1 hw5
  clear hw5
  replace b3 := blk_keep b3 hB5
  replace hB := btr hB hB5 (Nat.le_refl _)
  have c0 := cell_blk (i := 0) b5
  have c1 := cell_blk (i := 1) b5
  simp only [List.getElem?_toArray, List.getElem?_cons_zero, List.getElem?_cons_succ] at c0 c1
  clear hB5 hs5
  by_cases hn : q7 < 0
  · rw [if_pos hn]
    go_wp2_with (refine wpList_store_blk rfl 93 _ _ rfl _ rfl rfl b3 size93 rfl rfl (by simp [Value.oneCell']) ?_)
    exact bodyPost_ret (results_blk rfl _ _ _ rfl (World.putObj_heap_same (lt_blk b3)) Try.underlying93 rfl size93 rfl) rfl ⟨by simp, below_putObj hB (by omega)⟩
  · rw [if_neg hn]
    go_wp2_with (first | (refine wpList_load_blk rfl 93 _ rfl _ rfl b5 Try.underlying93 rfl size93 rfl ?_) | (refine wpList_store_blk rfl 93 _ _ rfl _ rfl rfl b3 size93 rfl rfl (by simp [Value.oneCell']) ?_))
    exact bodyPost_ret (results_blk rfl _ _ _ rfl (World.putObj_heap_same (lt_blk b3)) Try.underlying93 rfl size93 rfl) rfl ⟨by simp, below_putObj hB (by omega)⟩
set_option maxRecDepth 100000 in
set_option maxHeartbeats 4000000 in
theorem rline_any (i : Int) (a : Fr) (k : Int) (b : Fr) (x : Int) (w : World) (h : LineH i a k b x) :
    Calls Try.prog 78 #[.int .i64 i, enc a, .int .i64 k, enc b, .int .i64 x] w fun e w' => e = .returned (enc (lineR i a k b x)) ∧ Below w.heap.size w w' := by
  obtain ⟨hne, ha, hb, hu, hi, hk, hx⟩ := h
  have hau := ha.pos
  have hbu := hb.pos
  have hsu0 : 0 < a.u * b.u := Int.mul_pos hau hbu
  rw [Int.mul_comm] at hu
  have m1 := mulU (x := b) (y := a) hb ha
  have m2 := mulU (x := a) (y := b) ha hb
  obtain ⟨wd, hwd⟩ : ∃ wd, wd = k - i := ⟨_, rfl⟩
  obtain ⟨dw, hdw⟩ : ∃ dw, dw = x - i := ⟨_, rfl⟩
  have hwd1 : -29 ≤ wd ∧ wd ≤ 29 := by omega
  have hdw1 : -29 ≤ dw ∧ dw ≤ 29 := by omega
  have g1 : IntKind.i64.wrap (k - i) = wd := by rw [← hwd]; exact wrapB (B := 29) hwd1 (by decide)
  have g2 : IntKind.i64.wrap (x - i) = dw := by rw [← hdw]; exact wrapB (B := 29) hdw1 (by decide)
  unfold lineR
  rw [← hwd, ← hdw]
  have n1 := mulB (a := a.o * b.u) (A := 2000000 * 29) (b := wd) (B := 29) m2.1 m2.2 hwd1.1 hwd1.2
  have hso : -116000000 ≤ b.o * a.u - a.o * b.u ∧ b.o * a.u - a.o * b.u ≤ 116000000 := by omega
  have n2 := mulB (a := b.o * a.u - a.o * b.u) (A := 116000000) (b := dw) (B := 29) hso.1 hso.2 hdw1.1 hdw1.2
  have n3 : -100000000000 ≤ a.o * b.u * wd + (b.o * a.u - a.o * b.u) * dw ∧ a.o * b.u * wd + (b.o * a.u - a.o * b.u) * dw ≤ 100000000000 := by omega
  have n4 := mulB (a := wd) (A := 29) (b := a.u * b.u) (B := 29) hwd1.1 hwd1.2 (by omega) (by omega)
  have g3 := wrapB m1 (by decide)
  have g4 := wrapB m2 (by decide)
  have g5 := wrapB n1 (by decide)
  have g6 := wrapB hso (by decide)
  have g7 := wrapB n2 (by decide)
  have g8 := wrapB n3 (by decide)
  have g9 : IntKind.i64.wrap (a.u * b.u) = a.u * b.u := wrapB (B := 29) (by omega) (by decide)
  have g10 := wrapB n4 (by decide)
  have g11 : IntKind.i64.wrap (-(a.o * b.u * wd + (b.o * a.u - a.o * b.u) * dw)) = -(a.o * b.u * wd + (b.o * a.u - a.o * b.u) * dw) := wrapB (B := 100000000000) (by omega) (by decide)
  have g12 : IntKind.i64.wrap (-(wd * (a.u * b.u))) = -(wd * (a.u * b.u)) := wrapB (B := 29 * 29) (by omega) (by decide)
  generalize hao : a.o = ao at *
  generalize hau' : a.u = au at *
  generalize hbo : b.o = bo at *
  generalize hbu' : b.u = bu at *
  generalize hq1 : bo * au = q1 at *
  generalize hq2 : ao * bu = q2 at *
  generalize hq3 : q2 * wd = q3 at *
  generalize hq4 : q1 - q2 = q4 at *
  generalize hq5 : q4 * dw = q5 at *
  generalize hq6 : q3 + q5 = q6 at *
  generalize hq7 : au * bu = q7 at *
  generalize hq8 : wd * q7 = q8 at *
  have g3' : IntKind.i64.wrap (bo * au) = q1 := by rw [hq1]; exact g3
  have g4' : IntKind.i64.wrap (ao * bu) = q2 := by rw [hq2]; exact g4
  have g5' : IntKind.i64.wrap (q2 * wd) = q3 := by rw [hq3]; exact g5
  have g6' : IntKind.i64.wrap (q1 - q2) = q4 := by rw [hq4]; exact g6
  have g7' : IntKind.i64.wrap (q4 * dw) = q5 := by rw [hq5]; exact g7
  have g8' : IntKind.i64.wrap (q3 + q5) = q6 := by rw [hq6]; exact g8
  have g9' : IntKind.i64.wrap (au * bu) = q7 := by rw [hq7]; exact g9
  have g10' : IntKind.i64.wrap (wd * q7) = q8 := by rw [hq8]; exact g10
  clear g3 g4 g5 g6 g7 g8 g9 g10 m1 m2 n1 n2 n3 n4 hwd hdw hwd1 hdw1 hi hk hx hne ha hb hu hau hbu hsu0 hso
  clear hq1 hq2 hq3 hq4 hq5 hq6 hq7 hq8
  obtain ⟨aO, aU⟩ := a
  obtain ⟨bO, bU⟩ := b
  simp only at hao hau' hbo hbu'
  subst hao hau' hbo hbu'
  unfold nrm
  go_enter Try.func78, Try.ntmps78
  refine wp_seq_k (fun K hK => ?_)
  have HK := Lib.hid hK; clear hK
  go_wp2
  refine HK.out _ _ ?_; clear HK K
  generalize hw1 : World.alloc _ _ = w1
  obtain ⟨b1, b2, b3, hB, hs1⟩ := blk3 hw1
  clear hw1
  have hl3 := lt_blk b3
  have c0 := cell_blk (i := 0) b1
  have c1 := cell_blk (i := 1) b1
  have d0 := cell_blk (i := 0) b2
  have d1 := cell_blk (i := 1) b2
  simp only [List.getElem?_toArray, List.getElem?_cons_zero, List.getElem?_cons_succ] at c0 c1 d0 d1
  refine wp_seq_k (fun K hK => ?_)
  have HK := Lib.hid hK; clear hK
  go_wp2
  refine HK.out _ _ ?_; clear HK K
  refine wp_seq_k (fun K hK => ?_)
  have HK := Lib.hid hK; clear hK
  go_wp2
  refine HK.out _ _ ?_; clear HK K
  refine wp_seq_k (fun K hK => ?_)
  have HK := Lib.hid hK; clear hK
  go_wp2
  refine HK.out _ _ ?_; clear HK K
  clear c0 c1 d0 d1 b1 b2 g1 g2 g3' g4' g5' g6' g7' g8' g9' g10'
  by_cases hn : q8 < 0
  · rw [if_pos hn]
    go_wp2_with (refine wpList_store_blk rfl 101 _ _ rfl _ rfl rfl b3 size101 rfl rfl (by simp [Value.oneCell']) ?_)
    exact bodyPost_ret (results_blk rfl _ _ _ rfl (World.putObj_heap_same (lt_blk b3)) Try.underlying101 rfl size101 rfl) rfl ⟨by simp, below_putObj hB (by omega)⟩
  · rw [if_neg hn]
    go_wp2_with (refine wpList_store_blk rfl 101 _ _ rfl _ rfl rfl b3 size101 rfl rfl (by simp [Value.oneCell']) ?_)
    exact bodyPost_ret (results_blk rfl _ _ _ rfl (World.putObj_heap_same (lt_blk b3)) Try.underlying101 rfl size101 rfl) rfl ⟨by simp, below_putObj hB (by omega)⟩
end Ytgnjeefanbcbkaa
end Go.Proofs
