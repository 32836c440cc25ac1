/- Fields: the greatest sweetness of a week. -/
import Derived.Test.YtgnjeefanbcbkaaA6
open Go Go.RowKit Go.YtgnjeefanbcbkaaIt
namespace Go.Proofs
namespace Ytgnjeefanbcbkaa
theorem up_bd {n : Nat} {L H : Nat → Int} (hb : Bds n L H) {w i j : Nat} (hw : w < n) (hi : i < n) (hj : j < n) (hne : i ≠ j) : Bd 2000000 29 (upT L H w i j) := by
  have := hb.n30
  exact lineW_bd (by omega) (by omega) (by omega) (by omega) (hb.lo i hi) (hb.hi j hj)
def fr74 (i j x bp bw bo b : Nat) (h l : Int) (p7 : Nat) (y : Fr) : Act :=
  { tmps := #[.int .i64 i, .int .i64 j, .pointer (some ⟨bp, 0, none⟩), .pointer (some ⟨bw, 0, none⟩), .pointer (some ⟨bo, 0, none⟩), undef, undef, .pointer (some ⟨p7, 0, none⟩), .pointer (some ⟨b, 0, none⟩), .int .i64 i, encP i (whole l), .int .i64 j,
      .pointer (some ⟨b, 0, none⟩), .int .i64 j, .pointer (some ⟨b, 0, none⟩), .pointer (some ⟨b, 31, none⟩), .pointer (some ⟨b, 31 + j, none⟩), .int .i64 h, enc (whole h), encP j (whole h), .int .i64 x, enc y, undef, undef, undef, undef, undef], defers := [] }
set_option maxRecDepth 100000 in
set_option maxHeartbeats 8000000 in
theorem bound_any {bp bw bo b n : Nat} {L H : Nat → Int} {i j x : Nat} {z : Fr} {w : World} (hb : Bds n L H) (hx : x < n) (hi : i < n) (hj : j < n) (hij : i ≠ j) (hz : Big z) (hy : Yr w b n L H)
    (h2 : w.heap[bp]? = some (.cells #[.pointer (some ⟨b, 0, none⟩)] 89 (0, 0))) (h3 : w.heap[bw]? = some (.cells #[.int .i64 (x : Int)] 3 (0, 0))) (h4 : w.heap[bo]? = some (.cells #[.int .i64 z.o, .int .i64 z.u] 93 (0, 0))) :
    Calls Try.prog 74 #[.int .i64 (i : Int), .int .i64 (j : Int), .pointer (some ⟨bp, 0, none⟩), .pointer (some ⟨bw, 0, none⟩), .pointer (some ⟨bo, 0, none⟩)] w fun e w' =>
      (∃ v, e = .returned v) ∧ w'.heap[bo]? = some (.cells #[.int .i64 (least z (upT L H x i j)).o, .int .i64 (least z (upT L H x i j)).u] 93 (0, 0)) ∧ Bm bo w.heap.size w w' := by
  have hn30 := hb.n30
  have hj30 : (j : Int) < 30 := by omega
  have hj0 : (0 : Int) ≤ (j : Int) := by omega
  have hbd := up_bd hb hx hi hj hij
  have hLi := hb.lo i hi
  have hHj := hb.hi j hj
  have h75 := fun W (hW : Below w.heap.size w W) => lowest_any (hy.keep hW) hi hn30
  have h59 := fun W => whole_any (H j) W
  have h76 := fun W => line_any (i : Int) (whole (L i)) (j : Int) (whole (H j)) (x : Int) W (lineH_ww (by omega) (by omega) (by omega) (by omega) hLi hHj)
  have h63 := fun W => compare_any (upT L H x i j) z W (toBig hbd) hz
  have hc : decide (cmpI (upT L H x i j) z < 0) = (upT L H x i j).lt z := by unfold Fr.lt; rw [decide_eq_decide]; exact cmp_neg _ _
  have H75 := Lib.hid h75
  have H59 := Lib.hid h59
  have H76 := Lib.hid h76
  have H63 := Lib.hid h63
  unfold least
  change Hid (∀ W, Calls Try.prog 76 _ W fun e w' => e = .returned (enc (upT L H x i j)) ∧ Below W.heap.size W w') at H76
  clear h75 h59 h76 h63 hbd hLi hHj hz
  generalize upT L H x i j = y at *
  generalize cmpI y z = cc at *
  have HC := Lib.hid hc
  clear hc
  go_enter Try.func74, Try.ntmps74
  refine wp_seq_k (fun K hK => ?_)
  have HK := Lib.hid hK; clear hK
  have tail : ∀ (p7 : Nat) (W : World), W.heap[p7]? = some (.cells #[.int .i64 y.o, .int .i64 y.u] 93 (0, 0)) → w.heap.size ≤ p7 → Below w.heap.size w W → K (fr74 i j x bp bw bo b (H j) (L i) p7 y) W := by
    intro p7 W hp hp0 hBW
    have b4 := blk_keep h4 hBW
    have hlo := lt_blk h4
    have hc := HC.out
    have hl7 := lt_blk hp
    refine HK.out _ _ ?_
    clear HK h2 h3 h4 hy
    unfold fr74
    generalize y.lt z = t at *
    cases t
    · simp only [Bool.false_eq_true, if_false]
      go_wp2_with (first | (refine wpList_load_blk rfl 93 _ rfl _ rfl hp Try.underlying93 rfl size93 rfl ?_) | (refine wpList_load_blk rfl 93 _ rfl _ rfl b4 Try.underlying93 rfl size93 rfl ?_) | (go_at_call 63; refine (H63.out _).mono ?_; rintro e w2 ⟨rfl, hb2⟩))
      go_end0
      exact ⟨⟨_, rfl⟩, blk_keep b4 hb2, Bm.of (btr hBW hb2 (Nat.le_refl _))⟩
    · simp only [if_true]
      go_wp2_with (first | (refine wpList_load_blk rfl 93 _ rfl _ rfl hp Try.underlying93 rfl size93 rfl ?_) | (refine wpList_load_blk rfl 93 _ rfl _ rfl b4 Try.underlying93 rfl size93 rfl ?_) | (go_at_call 63; refine (H63.out _).mono ?_; rintro e w2 ⟨rfl, hb2⟩; have hp3 := blk_keep hp hb2; have b43 := blk_keep b4 hb2) | (refine wpList_load_blk rfl 93 _ rfl _ rfl hp3 Try.underlying93 rfl size93 rfl ?_) | (refine wpList_store_blk rfl 93 _ _ rfl _ rfl rfl b43 size93 rfl rfl (oneFr _) ?_))
      go_end0
      exact ⟨⟨_, rfl⟩, World.putObj_heap_same (lt_blk b43), (Bm.of (btr hBW hb2 (Nat.le_refl _))).trans (Bm.put _ _)⟩
  have TAIL : Hid (∀ (p7 : Nat) (W : World), W.heap[p7]? = some (.cells #[.int .i64 y.o, .int .i64 y.u] 93 (0, 0)) → w.heap.size ≤ p7 → Below w.heap.size w W → K (fr74 i j x bp bw bo b (H j) (L i) p7 y) W) := Lib.hid tail
  clear tail HK
  have hS0 : Below w.heap.size w w.drew := (Below.refl _ _).drew
  refine wp_region_z (S := fun U => Below w.heap.size w U) (z := 15) (by kernel_rfl) ?_
  change wpAnyZ _ _ _ _ _ _ _ _ _ (World.drew w)
  have hBw := hS0
  have hs0 : w.heap.size = w.drew.heap.size := rfl
  generalize hwq : World.drew w = wq at *
  have hBwq := hBw
  have q2 := cell_blk (i := 0) h2
  have q3 := cell_blk (i := 0) h3
  have q4 := hy.hi j hj
  have ql := lt_blk h2
  have ql3 := lt_blk h3
  have qy := hy.lt
  simp only [List.getElem?_toArray, List.getElem?_cons_zero] at q2 q3
  refine wpAnyZ_take (i := 0) (oi := { dst := some 8, op := _, type := _, pos := _, after := _, guard := none }) (v := ?_) rfl (by kernel_rfl) (by kernel_rfl) (by kernel_rfl) (fun _ _ _ h => h) (Or.inl ⟨by rfl, ?_⟩) (by first | exact hS0 | assumption) ?_
  rotate_left
  · intro U hU
    have u2 := (hU.cell (p := ⟨bp, 0, none⟩) ql).trans q2
    go_simp
    all_goals with_reducible rfl
  simp only [Act.put, List.setIfInBounds_toArray, List.set_cons_zero, List.set_cons_succ]
  refine wpAnyZ_take (i := 1) (oi := { dst := some 9, op := _, type := _, pos := _, after := _, guard := none }) (v := ?_) rfl (by kernel_rfl) (by kernel_rfl) (by kernel_rfl) (fun _ _ _ h => h) (Or.inl ⟨by rfl, ?_⟩) (by first | exact hS0 | assumption) ?_
  rotate_left
  · intro U hU
    go_simp
    all_goals with_reducible rfl
  simp only [Act.put, List.setIfInBounds_toArray, List.set_cons_zero, List.set_cons_succ]
  refine wpAnyZ_take (i := 3) (oi := { dst := some 11, op := _, type := _, pos := _, after := _, guard := none }) (v := ?_) rfl (by kernel_rfl) (by kernel_rfl) (by kernel_rfl) (fun _ _ _ h => h) (Or.inl ⟨by rfl, ?_⟩) (by first | exact hS0 | assumption) ?_
  rotate_left
  · intro U hU
    go_simp
    all_goals with_reducible rfl
  simp only [Act.put, List.setIfInBounds_toArray, List.set_cons_zero, List.set_cons_succ]
  refine wpAnyZ_take (i := 4) (oi := { dst := some 12, op := _, type := _, pos := _, after := _, guard := none }) (v := ?_) rfl (by kernel_rfl) (by kernel_rfl) (by kernel_rfl) (fun _ _ _ h => h) (Or.inl ⟨by rfl, ?_⟩) (by first | exact hS0 | assumption) ?_
  rotate_left
  · intro U hU
    have u2 := (hU.cell (p := ⟨bp, 0, none⟩) ql).trans q2
    go_simp
    all_goals with_reducible rfl
  simp only [Act.put, List.setIfInBounds_toArray, List.set_cons_zero, List.set_cons_succ]
  refine wpAnyZ_take (i := 5) (oi := { dst := some 13, op := _, type := _, pos := _, after := _, guard := none }) (v := ?_) rfl (by kernel_rfl) (by kernel_rfl) (by kernel_rfl) (fun _ _ _ h => h) (Or.inl ⟨by rfl, ?_⟩) (by first | exact hS0 | assumption) ?_
  rotate_left
  · intro U hU
    go_simp
    all_goals with_reducible rfl
  simp only [Act.put, List.setIfInBounds_toArray, List.set_cons_zero, List.set_cons_succ]
  refine wpAnyZ_take (i := 6) (oi := { dst := some 14, op := _, type := _, pos := _, after := _, guard := none }) (v := ?_) rfl (by kernel_rfl) (by kernel_rfl) (by kernel_rfl) (fun _ _ _ h => h) (Or.inl ⟨by rfl, ?_⟩) (by first | exact hS0 | assumption) ?_
  rotate_left
  · intro U hU
    go_simp
    all_goals with_reducible rfl
  simp only [Act.put, List.setIfInBounds_toArray, List.set_cons_zero, List.set_cons_succ]
  refine wpAnyZ_take (i := 7) (oi := { dst := some 15, op := _, type := _, pos := _, after := _, guard := none }) (v := ?_) rfl (by kernel_rfl) (by kernel_rfl) (by kernel_rfl) (fun _ _ _ h => h) (Or.inl ⟨by rfl, ?_⟩) (by first | exact hS0 | assumption) ?_
  rotate_left
  · intro U hU
    go_simp
    all_goals with_reducible rfl
  simp only [Act.put, List.setIfInBounds_toArray, List.set_cons_zero, List.set_cons_succ]
  refine wpAnyZ_take (i := 8) (oi := { dst := some 16, op := _, type := _, pos := _, after := _, guard := none }) (v := ?_) rfl (by kernel_rfl) (by kernel_rfl) (by kernel_rfl) (fun _ _ _ h => h) (Or.inl ⟨by rfl, ?_⟩) (by first | exact hS0 | assumption) ?_
  rotate_left
  · intro U hU
    go_simp
    all_goals with_reducible rfl
  simp only [Act.put, List.setIfInBounds_toArray, List.set_cons_zero, List.set_cons_succ]
  refine wpAnyZ_take (i := 9) (oi := { dst := some 17, op := _, type := _, pos := _, after := _, guard := none }) (v := ?_) rfl (by kernel_rfl) (by kernel_rfl) (by kernel_rfl) (fun _ _ _ h => h) (Or.inl ⟨by rfl, ?_⟩) (by first | exact hS0 | assumption) ?_
  rotate_left
  · intro U hU
    have u4 := (hU.cell (p := ⟨b, 31 + j, none⟩) qy).trans q4
    go_simp
    all_goals with_reducible rfl
  simp only [Act.put, List.setIfInBounds_toArray, List.set_cons_zero, List.set_cons_succ]
  refine wpAnyZ_take (i := 12) (oi := { dst := some 20, op := _, type := _, pos := _, after := _, guard := none }) (v := ?_) rfl (by kernel_rfl) (by kernel_rfl) (by kernel_rfl) (fun _ _ _ h => h) (Or.inl ⟨by rfl, ?_⟩) (by first | exact hS0 | assumption) ?_
  rotate_left
  · intro U hU
    have u3 := (hU.cell (p := ⟨bw, 0, none⟩) ql3).trans q3
    go_simp
    all_goals with_reducible rfl
  simp only [Act.put, List.setIfInBounds_toArray, List.set_cons_zero, List.set_cons_succ]
  refine wpAnyZ_ready (rs := [2, 14]) (by kernel_rfl) (by simp) ?_
  refine AllReadyZ.cons (o := { dst := some 10, op := _, type := _, pos := _, after := _, guard := none }) rfl (by rfl) (fun K1 hK1 => ?_) ?_
  · have HK1 := Lib.hid hK1; clear hK1
    refine oper_call (f := 75) (xs := #[.tmp 8, .tmp 9]) (ts := _) rfl (enters_of Try.func75 (by kernel_rfl) rfl) rfl (H75.out _ hBwq) ?_
    intro wv1 hbwv1
    have hBwv1 := btr hBwq hbwv1 (Nat.le_refl _)
    refine HK1.out _ _ (fun _ => hBwv1) ?_
    clear HK1 K1
    try simp only [Act.put, List.setIfInBounds_toArray, List.set_cons_zero, List.set_cons_succ]
    refine wpAnyZ_ready (rs := [10, 14]) (by kernel_rfl) (by simp) ?_
    refine AllReadyZ.cons (o := { dst := some 18, op := _, type := _, pos := _, after := _, guard := none }) rfl (by rfl) (fun K1 hK1 => ?_) ?_
    · have HK1 := Lib.hid hK1; clear hK1
      refine oper_call (f := 59) (xs := #[.tmp 17]) (ts := _) rfl (enters_of Try.func59 (by kernel_rfl) rfl) rfl (H59.out _) ?_
      intro wv2 hbwv2
      have hBwv2 := btr hBwv1 hbwv2 (Nat.le_refl _)
      refine HK1.out _ _ (fun _ => hBwv2) ?_
      clear HK1 K1
      try simp only [Act.put, List.setIfInBounds_toArray, List.set_cons_zero, List.set_cons_succ]
      refine wpAnyZ_take (i := 11) (oi := { dst := some 19, op := _, type := _, pos := _, after := _, guard := none }) (v := ?_) rfl (by kernel_rfl) (by kernel_rfl) (by kernel_rfl) (fun _ _ _ h => h) (Or.inl ⟨by rfl, ?_⟩) (by first | exact hS0 | assumption) ?_
      rotate_left
      · intro U hU
        go_simp
        all_goals with_reducible rfl
      simp only [Act.put, List.setIfInBounds_toArray, List.set_cons_zero, List.set_cons_succ]
      refine wpAnyZ_ready (rs := [13, 14]) (by kernel_rfl) (by simp) ?_
      refine AllReadyZ.cons (o := { dst := some 21, op := _, type := _, pos := _, after := _, guard := none }) rfl (by rfl) (fun K1 hK1 => ?_) ?_
      · have HK1 := Lib.hid hK1; clear hK1
        refine oper_call (f := 76) (xs := #[.tmp 10, .tmp 19, .tmp 20]) (ts := _) rfl (enters_of Try.func76 (by kernel_rfl) rfl) rfl (H76.out _) ?_
        intro wv3 hbwv3
        have hBwv3 := btr hBwv2 hbwv3 (Nat.le_refl _)
        refine HK1.out _ _ (fun _ => hBwv3) ?_
        clear HK1 K1
        try simp only [Act.put, List.setIfInBounds_toArray, List.set_cons_zero, List.set_cons_succ]
        refine wpAnyZ_one (i := 14) (o := { dst := some 7, op := _, type := _, pos := _, after := _, guard := none }) (by kernel_rfl) rfl (by rfl) (fun K1 hK1 => ?_)
        have HK1 := Lib.hid hK1; clear hK1
        go_simp
        refine HK1.out _ _ (fun _ => hBwv3.alloc hBwv3.size _) ?_
        clear HK1 K1
        try simp only [Act.put, List.setIfInBounds_toArray, List.set_cons_zero, List.set_cons_succ]
        obtain ⟨wv4, ewv4⟩ : ∃ v, v = wv3.alloc (.cells #[.int .i64 0, .int .i64 0] 93) := ⟨_, rfl⟩
        rw [← ewv4]
        obtain ⟨hpwv4, hcwv4, -⟩ := blk1 ewv4.symm
        have hBwv4 := btr hBwv3 hcwv4 (Nat.le_refl _)
        have hqwv4 : w.heap.size ≤ wv3.heap.size := hBwv3.size
        clear ewv4 hcwv4
        refine wpAnyZ_last (o := { dst := none, op := _, type := _, pos := _, after := _, guard := none }) (by kernel_rfl) (by kernel_rfl) rfl (by rfl) (fun K1 hK1 => ?_)
        have HK1 := Lib.hid hK1; clear hK1
        refine oper_store_blk 93 (.tmp 7) (.tmp 21) rfl _ rfl rfl hpwv4 size93 rfl rfl (oneFr _) ?_
        refine HK1.out _ _ ?_
        clear HK1 K1
        try simp only [Act.put]
        refine TAIL.out (wv3.heap.size) _ (World.putObj_heap_same (lt_blk hpwv4)) (by first | exact Nat.le_refl _ | omega | (simp only [← hs0] at *; omega)) (below_putObj hBwv4 (by first | exact Nat.le_refl _ | omega))
      refine AllReadyZ.cons (o := { dst := some 7, op := _, type := _, pos := _, after := _, guard := none }) rfl (by rfl) (fun K1 hK1 => ?_) ?_
      · have HK1 := Lib.hid hK1; clear hK1
        go_simp
        refine HK1.out _ _ (fun _ => hBwv2.alloc hBwv2.size _) ?_
        clear HK1 K1
        try simp only [Act.put, List.setIfInBounds_toArray, List.set_cons_zero, List.set_cons_succ]
        obtain ⟨wv5, ewv5⟩ : ∃ v, v = wv2.alloc (.cells #[.int .i64 0, .int .i64 0] 93) := ⟨_, rfl⟩
        rw [← ewv5]
        obtain ⟨hpwv5, hcwv5, -⟩ := blk1 ewv5.symm
        have hBwv5 := btr hBwv2 hcwv5 (Nat.le_refl _)
        have hqwv5 : w.heap.size ≤ wv2.heap.size := hBwv2.size
        clear ewv5 hcwv5
        refine wpAnyZ_one (i := 13) (o := { dst := some 21, op := _, type := _, pos := _, after := _, guard := none }) (by kernel_rfl) rfl (by rfl) (fun K1 hK1 => ?_)
        have HK1 := Lib.hid hK1; clear hK1
        refine oper_call (f := 76) (xs := #[.tmp 10, .tmp 19, .tmp 20]) (ts := _) rfl (enters_of Try.func76 (by kernel_rfl) rfl) rfl (H76.out _) ?_
        intro wv6 hbwv6
        have hBwv6 := btr hBwv5 hbwv6 (Nat.le_refl _)
        refine HK1.out _ _ (fun _ => hBwv6) ?_
        clear HK1 K1
        try simp only [Act.put, List.setIfInBounds_toArray, List.set_cons_zero, List.set_cons_succ]
        have hpwv6 := blk_keep hpwv5 hbwv6
        refine wpAnyZ_last (o := { dst := none, op := _, type := _, pos := _, after := _, guard := none }) (by kernel_rfl) (by kernel_rfl) rfl (by rfl) (fun K1 hK1 => ?_)
        have HK1 := Lib.hid hK1; clear hK1
        refine oper_store_blk 93 (.tmp 7) (.tmp 21) rfl _ rfl rfl hpwv6 size93 rfl rfl (oneFr _) ?_
        refine HK1.out _ _ ?_
        clear HK1 K1
        try simp only [Act.put]
        refine TAIL.out (wv2.heap.size) _ (World.putObj_heap_same (lt_blk hpwv6)) (by first | exact Nat.le_refl _ | omega | (simp only [← hs0] at *; omega)) (below_putObj hBwv6 (by first | exact Nat.le_refl _ | omega))
      exact AllReadyZ.nil
    refine AllReadyZ.cons (o := { dst := some 7, op := _, type := _, pos := _, after := _, guard := none }) rfl (by rfl) (fun K1 hK1 => ?_) ?_
    · have HK1 := Lib.hid hK1; clear hK1
      go_simp
      refine HK1.out _ _ (fun _ => hBwv1.alloc hBwv1.size _) ?_
      clear HK1 K1
      try simp only [Act.put, List.setIfInBounds_toArray, List.set_cons_zero, List.set_cons_succ]
      obtain ⟨wv7, ewv7⟩ : ∃ v, v = wv1.alloc (.cells #[.int .i64 0, .int .i64 0] 93) := ⟨_, rfl⟩
      rw [← ewv7]
      obtain ⟨hpwv7, hcwv7, -⟩ := blk1 ewv7.symm
      have hBwv7 := btr hBwv1 hcwv7 (Nat.le_refl _)
      have hqwv7 : w.heap.size ≤ wv1.heap.size := hBwv1.size
      clear ewv7 hcwv7
      refine wpAnyZ_one (i := 10) (o := { dst := some 18, op := _, type := _, pos := _, after := _, guard := none }) (by kernel_rfl) rfl (by rfl) (fun K1 hK1 => ?_)
      have HK1 := Lib.hid hK1; clear hK1
      refine oper_call (f := 59) (xs := #[.tmp 17]) (ts := _) rfl (enters_of Try.func59 (by kernel_rfl) rfl) rfl (H59.out _) ?_
      intro wv8 hbwv8
      have hBwv8 := btr hBwv7 hbwv8 (Nat.le_refl _)
      refine HK1.out _ _ (fun _ => hBwv8) ?_
      clear HK1 K1
      try simp only [Act.put, List.setIfInBounds_toArray, List.set_cons_zero, List.set_cons_succ]
      have hpwv8 := blk_keep hpwv7 hbwv8
      refine wpAnyZ_take (i := 11) (oi := { dst := some 19, op := _, type := _, pos := _, after := _, guard := none }) (v := ?_) rfl (by kernel_rfl) (by kernel_rfl) (by kernel_rfl) (fun _ _ _ h => h) (Or.inl ⟨by rfl, ?_⟩) (by first | exact hS0 | assumption) ?_
      rotate_left
      · intro U hU
        go_simp
        all_goals with_reducible rfl
      simp only [Act.put, List.setIfInBounds_toArray, List.set_cons_zero, List.set_cons_succ]
      refine wpAnyZ_one (i := 13) (o := { dst := some 21, op := _, type := _, pos := _, after := _, guard := none }) (by kernel_rfl) rfl (by rfl) (fun K1 hK1 => ?_)
      have HK1 := Lib.hid hK1; clear hK1
      refine oper_call (f := 76) (xs := #[.tmp 10, .tmp 19, .tmp 20]) (ts := _) rfl (enters_of Try.func76 (by kernel_rfl) rfl) rfl (H76.out _) ?_
      intro wv9 hbwv9
      have hBwv9 := btr hBwv8 hbwv9 (Nat.le_refl _)
      refine HK1.out _ _ (fun _ => hBwv9) ?_
      clear HK1 K1
      try simp only [Act.put, List.setIfInBounds_toArray, List.set_cons_zero, List.set_cons_succ]
      have hpwv9 := blk_keep hpwv8 hbwv9
      refine wpAnyZ_last (o := { dst := none, op := _, type := _, pos := _, after := _, guard := none }) (by kernel_rfl) (by kernel_rfl) rfl (by rfl) (fun K1 hK1 => ?_)
      have HK1 := Lib.hid hK1; clear hK1
      refine oper_store_blk 93 (.tmp 7) (.tmp 21) rfl _ rfl rfl hpwv9 size93 rfl rfl (oneFr _) ?_
      refine HK1.out _ _ ?_
      clear HK1 K1
      try simp only [Act.put]
      refine TAIL.out (wv1.heap.size) _ (World.putObj_heap_same (lt_blk hpwv9)) (by first | exact Nat.le_refl _ | omega | (simp only [← hs0] at *; omega)) (below_putObj hBwv9 (by first | exact Nat.le_refl _ | omega))
    exact AllReadyZ.nil
  refine AllReadyZ.cons (o := { dst := some 7, op := _, type := _, pos := _, after := _, guard := none }) rfl (by rfl) (fun K1 hK1 => ?_) ?_
  · have HK1 := Lib.hid hK1; clear hK1
    go_simp
    refine HK1.out _ _ (fun _ => hBwq.alloc hBwq.size _) ?_
    clear HK1 K1
    try simp only [Act.put, List.setIfInBounds_toArray, List.set_cons_zero, List.set_cons_succ]
    obtain ⟨wv10, ewv10⟩ : ∃ v, v = wq.alloc (.cells #[.int .i64 0, .int .i64 0] 93) := ⟨_, rfl⟩
    rw [← ewv10]
    obtain ⟨hpwv10, hcwv10, -⟩ := blk1 ewv10.symm
    have hBwv10 := btr hBwq hcwv10 (Nat.le_refl _)
    have hqwv10 : w.heap.size ≤ wq.heap.size := hBwq.size
    clear ewv10 hcwv10
    refine wpAnyZ_one (i := 2) (o := { dst := some 10, op := _, type := _, pos := _, after := _, guard := none }) (by kernel_rfl) rfl (by rfl) (fun K1 hK1 => ?_)
    have HK1 := Lib.hid hK1; clear hK1
    refine oper_call (f := 75) (xs := #[.tmp 8, .tmp 9]) (ts := _) rfl (enters_of Try.func75 (by kernel_rfl) rfl) rfl (H75.out _ hBwv10) ?_
    intro wv11 hbwv11
    have hBwv11 := btr hBwv10 hbwv11 (Nat.le_refl _)
    refine HK1.out _ _ (fun _ => hBwv11) ?_
    clear HK1 K1
    try simp only [Act.put, List.setIfInBounds_toArray, List.set_cons_zero, List.set_cons_succ]
    have hpwv11 := blk_keep hpwv10 hbwv11
    refine wpAnyZ_one (i := 10) (o := { dst := some 18, op := _, type := _, pos := _, after := _, guard := none }) (by kernel_rfl) rfl (by rfl) (fun K1 hK1 => ?_)
    have HK1 := Lib.hid hK1; clear hK1
    refine oper_call (f := 59) (xs := #[.tmp 17]) (ts := _) rfl (enters_of Try.func59 (by kernel_rfl) rfl) rfl (H59.out _) ?_
    intro wv12 hbwv12
    have hBwv12 := btr hBwv11 hbwv12 (Nat.le_refl _)
    refine HK1.out _ _ (fun _ => hBwv12) ?_
    clear HK1 K1
    try simp only [Act.put, List.setIfInBounds_toArray, List.set_cons_zero, List.set_cons_succ]
    have hpwv12 := blk_keep hpwv11 hbwv12
    refine wpAnyZ_take (i := 11) (oi := { dst := some 19, op := _, type := _, pos := _, after := _, guard := none }) (v := ?_) rfl (by kernel_rfl) (by kernel_rfl) (by kernel_rfl) (fun _ _ _ h => h) (Or.inl ⟨by rfl, ?_⟩) (by first | exact hS0 | assumption) ?_
    rotate_left
    · intro U hU
      go_simp
      all_goals with_reducible rfl
    simp only [Act.put, List.setIfInBounds_toArray, List.set_cons_zero, List.set_cons_succ]
    refine wpAnyZ_one (i := 13) (o := { dst := some 21, op := _, type := _, pos := _, after := _, guard := none }) (by kernel_rfl) rfl (by rfl) (fun K1 hK1 => ?_)
    have HK1 := Lib.hid hK1; clear hK1
    refine oper_call (f := 76) (xs := #[.tmp 10, .tmp 19, .tmp 20]) (ts := _) rfl (enters_of Try.func76 (by kernel_rfl) rfl) rfl (H76.out _) ?_
    intro wv13 hbwv13
    have hBwv13 := btr hBwv12 hbwv13 (Nat.le_refl _)
    refine HK1.out _ _ (fun _ => hBwv13) ?_
    clear HK1 K1
    try simp only [Act.put, List.setIfInBounds_toArray, List.set_cons_zero, List.set_cons_succ]
    have hpwv13 := blk_keep hpwv12 hbwv13
    refine wpAnyZ_last (o := { dst := none, op := _, type := _, pos := _, after := _, guard := none }) (by kernel_rfl) (by kernel_rfl) rfl (by rfl) (fun K1 hK1 => ?_)
    have HK1 := Lib.hid hK1; clear hK1
    refine oper_store_blk 93 (.tmp 7) (.tmp 21) rfl _ rfl rfl hpwv13 size93 rfl rfl (oneFr _) ?_
    refine HK1.out _ _ ?_
    clear HK1 K1
    try simp only [Act.put]
    refine TAIL.out (wq.heap.size) _ (World.putObj_heap_same (lt_blk hpwv13)) (by first | exact Nat.le_refl _ | omega | (simp only [← hs0] at *; omega)) (below_putObj hBwv13 (by first | exact Nat.le_refl _ | omega))
  exact AllReadyZ.nil
end Ytgnjeefanbcbkaa
end Go.Proofs
