/- For every input (there is none) the law PanKnown returns true. Conditions: none. -/
import Derived.Test.YteileadcmekkoaaQ26
open Go Go.RowKit Go.YteileadcmekkoaaIt
namespace Go.Proofs
namespace Yteileadcmekkoaa
set_option maxRecDepth 100000 in
set_option maxHeartbeats 4000000 in
theorem known_any (w : World) : Calls Try.prog 14 #[] w fun e w' => e = .returned (.bool true) ∧ Below w.heap.size w w' := by
  go_enter Try.func14, Try.ntmps14
  refine wp_seq_k (fun K hK => ?_)
  have HK := Lib.hid hK; clear hK
  go_wp2
  refine HK.out _ _ ?_; clear HK K
  have hal : ∀ (W : World) (o : Obj), Below W.heap.size W (W.alloc o) := fun W o => (blk1 rfl).2.1
  refine wp_seq_k (fun K hK => ?_)
  have HK := Lib.hid hK; clear hK
  go_wp2_with (first | (go_at_call 49; refine (W_any _).mono ?_; rintro e w2 ⟨g, rfl, hg, hgl, hb⟩))
  refine HK.out _ _ ?_; clear HK K
  have hE := hal w2 (Obj.cells #[Value.int IntKind.i64 3, Value.slice (some ⟨g, 0, none⟩) 5 5] 24)
  have b1 : (w2.alloc (Obj.cells #[Value.int IntKind.i64 3, Value.slice (some ⟨g, 0, none⟩) 5 5] 24)).heap[w2.heap.size]? = some (.cells #[.int .i64 3, .slice (some ⟨g, 0, none⟩) 5 5] 24 (0, 0)) := heap_newI rfl
  have hzg := lt_blk hg
  replace hg := blk_keep hg hE
  have B0 := btr hb hE (Nat.le_refl _)
  have hsw := hb.size
  obtain ⟨bx, hbx⟩ : ∃ bx, bx = w2.heap.size := ⟨_, rfl⟩
  rw [← hbx] at b1 hzg hsw ⊢
  clear hbx hb
  generalize World.alloc w2 _ = w3 at *
  have c1 := cell_blk (i := 1) b1
  have f1 := free_blk (i := 1) b1
  simp only [List.getElem?_toArray, List.getElem?_cons_zero, List.getElem?_cons_succ] at c1
  have hzx := lt_blk b1
  obtain ⟨i82, hi82, hz1, hz2', hz3⟩ := info_parts info82
  have HI := Lib.hid (And.intro hi82 (And.intro hz1 (And.intro hz2' hz3)))
  clear hi82 hz1 hz2' hz3
  have hown : w3.ownsRow w.heap.size 82 5 (.slice (some ⟨g, 0, none⟩) 5 5) 5 (exW.flatMap encA) := ⟨rfl, .inr ⟨g, 5, _, rfl, by omega, hg, by decide, by decide, by decide, rfl⟩⟩
  have HO := Lib.hid hown
  clear hown
  refine wp_seq_k (fun K hK => ?_)
  have HK := Lib.hid hK; clear hK
  go_wp2_with (at_builtin; refine wpList_append_own _ rfl _ _ 22 rfl w.heap.size 82 i82 (.agg #[.int .i64 0, .int .i64 0, .int .i64 0, .int .i64 0, .int .i64 0]) 5 40 Try.underlying22 HI.out.1 HI.out.2.1 HI.out.2.2.1 HI.out.2.2.2 rfl (by decide) _ _ _ rfl (HO.out.alloc _) ⟨w3.heap.size, 0, none⟩ 1 1 (encA ⟨2, 0, 0, 0, 0⟩) rfl rfl (cell_newL rfl) (by decide) (by decide) (by decide) (by rw [World.size_alloc]; omega) ?_; intro v' w6 r1 r2 _; obtain ⟨av, cv, hv⟩ := form_of r1; change v' = .slice av 6 cv at hv; subst hv; obtain ⟨hk6, hs6, ee1, ee2, ee3⟩ := append_same1 HO.out r2; have b6 := (hk6 bx (lt_blk b1) (own_ne HO.out b1 (by decide))).trans b1; have c6 := cell_blk (i := 1) b6; have f6 := free_blk (i := 1) b6; simp only [List.getElem?_toArray, List.getElem?_cons_zero, List.getElem?_cons_succ] at c6)
  refine HK.out _ _ ?_; clear HK K
  have hB6 : Below w.heap.size w w6 := ⟨ee1.trans B0.os, ee2.trans B0.tape, ee3.trans B0.output, by have := B0.size; omega, fun b hb => (hk6 b (by have := B0.size; omega) (fun eg => by have := (HO.out.lt b eg).1; omega)).trans (B0.block b hb)⟩
  have P1 : (w6.setCell ⟨bx, 1, none⟩ (.slice av 6 cv)).heap[bx]? = some (.cells #[.int .i64 3, .slice av 6 cv] 24 (0, 0)) := (heap_set_blk b6).trans rfl
  have r7 := row_set_other (b := bx) (i := 1) (x := .slice av 6 cv) r1 (own_ne r1 b6 (by decide))
  replace B0 := hB6.setCell (p := ⟨bx, 1, none⟩) (show w.heap.size ≤ bx by omega) (.slice av 6 cv)
  have HS : SlA (w6.setCell ⟨bx, 1, none⟩ (.slice av 6 cv)) (.slice av 6 cv) exS := slG_own encA_len (xs := exS) r7 rfl (by decide)
  generalize World.setCell _ _ _ = w7 at *
  clear r1 r2 r7 hk6 hs6 ee1 ee2 ee3 b6 c6 f6 hB6 HO HI c1 f1 hzx hg hE b1 hzg hsw hgl
  have hlit : ∀ (W : World) (a b : Int), SlI (W.alloc (.cells #[.int .i64 a, .int .i64 b] 3)) (.slice (some ⟨W.heap.size, 0, none⟩) 2 2) [a, b] := fun W a b => slI_new (xs := [a, b]) (by simp) (Nat.le_refl _) (heap_newI rfl)
  have hlit3 : ∀ (W : World) (a b c : Int), SlI (W.alloc (.cells #[.int .i64 a, .int .i64 b, .int .i64 c] 3)) (.slice (some ⟨W.heap.size, 0, none⟩) 3 3) [a, b, c] := fun W a b c => slI_new (xs := [a, b, c]) (by simp) (Nat.le_refl _) (heap_newI rfl)
  have HL := Lib.hid (And.intro hlit (And.intro hlit3 hal))
  clear hlit hlit3 hal
  refine wp_seq_k (fun K hK => ?_)
  have HK := Lib.hid hK; clear hK
  go_wp2_with (first | (go_at_call 49; refine (W2_any _).mono ?_; rintro e wa3 ⟨va, rfl, ha, hba⟩) | (go_at_call 26; refine (y26 [1, 2] 3 (0, 0) holds_12 _ _ _ (ha.below (HL.out.2.2 _ _) (Nat.le_refl _)) (HL.out.1 _ 1 2)).mono ?_; rintro e wc3 ⟨rfl, hbc⟩))
  refine HK.out _ _ ?_; clear HK K
  replace P1 := blk_keep P1 hba
  replace HS := HS.below hba (Nat.le_refl _)
  replace B0 := btr B0 hba (Nat.le_refl _)
  replace P1 := blk_keep P1 (HL.out.2.2 _ (.cells #[.int .i64 1, .int .i64 2] 3))
  replace P1 := blk_keep P1 hbc
  replace HS := HS.below (HL.out.2.2 _ (.cells #[.int .i64 1, .int .i64 2] 3)) (Nat.le_refl _)
  replace HS := HS.below hbc (Nat.le_refl _)
  replace B0 := btr B0 (HL.out.2.2 _ (.cells #[.int .i64 1, .int .i64 2] 3)) (Nat.le_refl _)
  replace B0 := btr B0 hbc (Nat.le_refl _)
  have hbx : Below wc3.heap.size wc3 (wc3.alloc (.cells #[.int .i64 0, .int .i64 0] 26)) := (Below.refl _ _).alloc (Nat.le_refl _) _
  have P2 : (wc3.alloc (.cells #[.int .i64 0, .int .i64 0] 26)).heap[wc3.heap.size]? = some (.cells #[.int .i64 0, .int .i64 0] 26 (0, 0)) := heap_newI rfl
  replace P1 := blk_keep P1 hbx
  replace HS := HS.below hbx (Nat.le_refl _)
  replace B0 := btr B0 hbx (Nat.le_refl _)
  obtain ⟨p2, hp2⟩ : ∃ x, x = wc3.heap.size := ⟨_, rfl⟩
  rw [← hp2] at P2 ⊢
  generalize World.alloc wc3 _ = wd3 at *
  clear hp2 hbx
  clear hba hbc ha
  refine wp_seq_k (fun K hK => ?_)
  have HK := Lib.hid hK; clear hK
  go_wp2_with (first | (go_at_call 49; refine (W2_any _).mono ?_; rintro e wa4 ⟨va, rfl, ha, hba⟩) | (go_at_call 26; refine (y26 [0, 1] 3 (0, 0) holds_01 _ _ _ (ha.below (HL.out.2.2 _ _) (Nat.le_refl _)) (HL.out.1 _ 0 1)).mono ?_; rintro e wc4 ⟨rfl, hbc⟩))
  refine HK.out _ _ ?_; clear HK K
  replace P1 := blk_keep P1 hba
  replace HS := HS.below hba (Nat.le_refl _)
  replace B0 := btr B0 hba (Nat.le_refl _)
  replace P1 := blk_keep P1 (HL.out.2.2 _ (.cells #[.int .i64 0, .int .i64 1] 3))
  replace P1 := blk_keep P1 hbc
  replace HS := HS.below (HL.out.2.2 _ (.cells #[.int .i64 0, .int .i64 1] 3)) (Nat.le_refl _)
  replace HS := HS.below hbc (Nat.le_refl _)
  replace B0 := btr B0 (HL.out.2.2 _ (.cells #[.int .i64 0, .int .i64 1] 3)) (Nat.le_refl _)
  replace B0 := btr B0 hbc (Nat.le_refl _)
  have hbx : Below wc4.heap.size wc4 (wc4.alloc (.cells #[.int .i64 0, .int .i64 0] 26)) := (Below.refl _ _).alloc (Nat.le_refl _) _
  have P4 : (wc4.alloc (.cells #[.int .i64 0, .int .i64 0] 26)).heap[wc4.heap.size]? = some (.cells #[.int .i64 0, .int .i64 0] 26 (0, 0)) := heap_newI rfl
  replace P1 := blk_keep P1 hbx
  replace HS := HS.below hbx (Nat.le_refl _)
  replace B0 := btr B0 hbx (Nat.le_refl _)
  obtain ⟨p4, hp4⟩ : ∃ x, x = wc4.heap.size := ⟨_, rfl⟩
  rw [← hp4] at P4 ⊢
  generalize World.alloc wc4 _ = wd4 at *
  clear hp4 hbx
  clear hba hbc ha
  refine wp_seq_k (fun K hK => ?_)
  have HK := Lib.hid hK; clear hK
  go_wp2_with (first | (go_at_call 49; refine (W2_any _).mono ?_; rintro e wa5 ⟨va, rfl, ha, hba⟩) | (go_at_call 26; refine (y26 [0, 1, 2] 0 (75, 1) holds_012 _ _ _ (ha.below (HL.out.2.2 _ _) (Nat.le_refl _)) (HL.out.2.1 _ 0 1 2)).mono ?_; rintro e wc5 ⟨rfl, hbc⟩))
  refine HK.out _ _ ?_; clear HK K
  replace P1 := blk_keep P1 hba
  replace HS := HS.below hba (Nat.le_refl _)
  replace B0 := btr B0 hba (Nat.le_refl _)
  replace P1 := blk_keep P1 (HL.out.2.2 _ (.cells #[.int .i64 0, .int .i64 1, .int .i64 2] 3))
  replace P1 := blk_keep P1 hbc
  replace HS := HS.below (HL.out.2.2 _ (.cells #[.int .i64 0, .int .i64 1, .int .i64 2] 3)) (Nat.le_refl _)
  replace HS := HS.below hbc (Nat.le_refl _)
  replace B0 := btr B0 (HL.out.2.2 _ (.cells #[.int .i64 0, .int .i64 1, .int .i64 2] 3)) (Nat.le_refl _)
  replace B0 := btr B0 hbc (Nat.le_refl _)
  have hbx : Below wc5.heap.size wc5 (wc5.alloc (.cells #[.int .i64 75, .int .i64 1] 26)) := (Below.refl _ _).alloc (Nat.le_refl _) _
  have P6 : (wc5.alloc (.cells #[.int .i64 75, .int .i64 1] 26)).heap[wc5.heap.size]? = some (.cells #[.int .i64 75, .int .i64 1] 26 (0, 0)) := heap_newI rfl
  replace P1 := blk_keep P1 hbx
  replace HS := HS.below hbx (Nat.le_refl _)
  replace B0 := btr B0 hbx (Nat.le_refl _)
  obtain ⟨p6, hp6⟩ : ∃ x, x = wc5.heap.size := ⟨_, rfl⟩
  rw [← hp6] at P6 ⊢
  generalize World.alloc wc5 _ = wd5 at *
  clear hp6 hbx
  clear hba hbc ha
  refine wp_seq_k (fun K hK => ?_)
  have HK := Lib.hid hK; clear hK
  try simp only [List.append_eq, List.cons_append, List.nil_append]
  have hS0 : wd5.drew.heap[bx]? = some (.cells #[.int .i64 3, .slice av 6 cv] 24 (0, 0)) ∧ wd5.drew.heap[p6]? = some (.cells #[.int .i64 75, .int .i64 1] 26 (0, 0)) := ⟨P1, P6⟩
  replace B0 := B0.drew
  replace HS : SlA wd5.drew (.slice av 6 cv) exS := HS
  refine wp_region_held (S := fun U => U.heap[bx]? = some (.cells #[.int .i64 3, .slice av 6 cv] 24 (0, 0)) ∧ U.heap[p6]? = some (.cells #[.int .i64 75, .int .i64 1] 26 (0, 0))) (by kernel_rfl) ?_
  change wpAnyH _ _ _ _ _ _ _ _ (World.drew wd5)
  generalize World.drew wd5 = wq at *
  clear P1 P6
  refine wpAnyH_take (i := 0) (oi := { dst := some 33, op := _, type := _, pos := _, after := _, guard := _ }) (v := ?_) rfl (by kernel_rfl) (by kernel_rfl) (by kernel_rfl) (fun _ _ _ h => h) (Or.inl ⟨by rfl, ?_⟩) hS0 ?_
  rotate_left
  · intro U hU
    obtain ⟨hU0, hU1⟩ := hU
    go_simp
    all_goals with_reducible rfl
  simp only [Act.put, List.setIfInBounds_toArray, List.set_cons_zero, List.set_cons_succ]
  refine wpAnyH_take (i := 1) (oi := { dst := some 34, op := _, type := _, pos := _, after := _, guard := _ }) (v := ?_) rfl (by kernel_rfl) (by kernel_rfl) (by kernel_rfl) (fun _ _ _ h => h) (Or.inl ⟨by rfl, ?_⟩) hS0 ?_
  rotate_left
  · intro U hU
    obtain ⟨hU0, hU1⟩ := hU
    go_simp
    all_goals with_reducible rfl
  simp only [Act.put, List.setIfInBounds_toArray, List.set_cons_zero, List.set_cons_succ]
  refine wpAnyH_take (i := 2) (oi := { dst := some 35, op := _, type := _, pos := _, after := _, guard := _ }) (v := ?_) rfl (by kernel_rfl) (by kernel_rfl) (by kernel_rfl) (fun _ _ _ h => h) (Or.inl ⟨by rfl, ?_⟩) hS0 ?_
  rotate_left
  · intro U hU
    obtain ⟨hU0, hU1⟩ := hU
    go_simp
    all_goals with_reducible rfl
  simp only [Act.put, List.setIfInBounds_toArray, List.set_cons_zero, List.set_cons_succ]
  refine wpAnyH_take (i := 3) (oi := { dst := some 36, op := _, type := _, pos := _, after := _, guard := _ }) (v := ?_) rfl (by kernel_rfl) (by kernel_rfl) (by kernel_rfl) (fun _ _ _ h => h) (Or.inl ⟨by rfl, ?_⟩) hS0 ?_
  rotate_left
  · intro U hU
    obtain ⟨hU0, hU1⟩ := hU
    go_simp
    all_goals with_reducible rfl
  simp only [Act.put, List.setIfInBounds_toArray, List.set_cons_zero, List.set_cons_succ]
  refine wpAnyH_take (i := 4) (oi := { dst := some 37, op := _, type := _, pos := _, after := _, guard := _ }) (v := ?_) rfl (by kernel_rfl) (by kernel_rfl) (by kernel_rfl) (fun _ _ _ h => h) (Or.inl ⟨by rfl, ?_⟩) hS0 ?_
  rotate_left
  · intro U hU
    obtain ⟨hU0, hU1⟩ := hU
    go_simp
    all_goals with_reducible rfl
  simp only [Act.put, List.setIfInBounds_toArray, List.set_cons_zero, List.set_cons_succ]
  refine wpAnyH_take (i := 5) (oi := { dst := some 38, op := _, type := _, pos := _, after := _, guard := _ }) (v := ?_) rfl (by kernel_rfl) (by kernel_rfl) (by kernel_rfl) (fun _ _ _ h => h) (Or.inl ⟨by rfl, ?_⟩) hS0 ?_
  rotate_left
  · intro U hU
    obtain ⟨hU0, hU1⟩ := hU
    go_simp
    all_goals with_reducible rfl
  simp only [Act.put, List.setIfInBounds_toArray, List.set_cons_zero, List.set_cons_succ]
  refine wpAnyH_take (i := 6) (oi := { dst := some 39, op := _, type := _, pos := _, after := _, guard := _ }) (v := ?_) rfl (by kernel_rfl) (by kernel_rfl) (by kernel_rfl) (fun _ _ _ h => h) (Or.inl ⟨by rfl, ?_⟩) hS0 ?_
  rotate_left
  · intro U hU
    obtain ⟨hU0, hU1⟩ := hU
    go_simp
    all_goals with_reducible rfl
  simp only [Act.put, List.setIfInBounds_toArray, List.set_cons_zero, List.set_cons_succ]
  refine wpAnyH_take (i := 7) (oi := { dst := some 40, op := _, type := _, pos := _, after := _, guard := _ }) (v := ?_) rfl (by kernel_rfl) (by kernel_rfl) (by kernel_rfl) (fun _ _ _ h => h) (Or.inl ⟨by rfl, ?_⟩) hS0 ?_
  rotate_left
  · intro U hU
    obtain ⟨hU0, hU1⟩ := hU
    go_simp
    all_goals with_reducible rfl
  simp only [Act.put, List.setIfInBounds_toArray, List.set_cons_zero, List.set_cons_succ]
  refine wpAnyH_take (i := 8) (oi := { dst := some 41, op := _, type := _, pos := _, after := _, guard := _ }) (v := ?_) rfl (by kernel_rfl) (by kernel_rfl) (by kernel_rfl) (fun _ _ _ h => h) (Or.inl ⟨by rfl, ?_⟩) hS0 ?_
  rotate_left
  · intro U hU
    obtain ⟨hU0, hU1⟩ := hU
    go_simp
    all_goals with_reducible rfl
  simp only [Act.put, List.setIfInBounds_toArray, List.set_cons_zero, List.set_cons_succ]
  refine wpAnyH_take (i := 9) (oi := { dst := some 42, op := _, type := _, pos := _, after := _, guard := _ }) (v := ?_) rfl (by kernel_rfl) (by kernel_rfl) (by kernel_rfl) (fun _ _ _ h => h) (Or.inl ⟨by rfl, ?_⟩) hS0 ?_
  rotate_left
  · intro U hU
    obtain ⟨hU0, hU1⟩ := hU
    go_simp
    all_goals with_reducible rfl
  simp only [Act.put, List.setIfInBounds_toArray, List.set_cons_zero, List.set_cons_succ]
  refine wpAnyH_take (i := 10) (oi := { dst := some 43, op := _, type := _, pos := _, after := _, guard := _ }) (v := ?_) rfl (by kernel_rfl) (by kernel_rfl) (by kernel_rfl) (fun _ _ _ h => h) (Or.inl ⟨by rfl, ?_⟩) hS0 ?_
  rotate_left
  · intro U hU
    obtain ⟨hU0, hU1⟩ := hU
    go_simp
    all_goals with_reducible rfl
  simp only [Act.put, List.setIfInBounds_toArray, List.set_cons_zero, List.set_cons_succ]
  refine wpAnyH_take (i := 11) (oi := { dst := some 44, op := _, type := _, pos := _, after := _, guard := _ }) (v := .agg #[.int .i64 75, .int .i64 1]) rfl (by kernel_rfl) (by kernel_rfl) (by kernel_rfl) (fun _ _ _ h => h) (Or.inl ⟨by rfl, yields_load_blk 26 (.tmp 6) rfl _ rfl (fun U hU => hU.2) Try.underlying26 rfl size26 rfl⟩) hS0 ?_
  simp only [Act.put, List.setIfInBounds_toArray, List.set_cons_zero, List.set_cons_succ]
  refine wpAnyH_one (i := 12) (o := { dst := some 45, op := _, type := _, pos := _, after := _, guard := _ }) (by kernel_rfl) rfl (by rfl) (fun K1 hK1 => ?_)
  have HK1 := Lib.hid hK1; clear hK1
  go_simp
  refine (per_any 75 1 _).mono ?_
  rintro e wn ⟨rfl, hbn⟩
  replace B0 := btr B0 hbn (Nat.le_refl _)
  replace HS := HS.below hbn (Nat.le_refl _)
  have hS1 := And.intro (blk_keep hS0.1 hbn) (blk_keep hS0.2 hbn)
  clear hS0
  have hS0 := hS1
  clear hS1
  clear hbn
  refine HK1.out _ _ hS0 ?_
  clear HK1 K1
  try simp only [Act.put, List.setIfInBounds_toArray, List.set_cons_zero, List.set_cons_succ]
  refine wpAnyH_take (i := 13) (oi := { dst := some 46, op := _, type := _, pos := _, after := _, guard := _ }) (v := ?_) rfl (by kernel_rfl) (by kernel_rfl) (by kernel_rfl) (fun _ _ _ h => h) (Or.inl ⟨by rfl, ?_⟩) hS0 ?_
  rotate_left
  · intro U hU
    obtain ⟨hU0, hU1⟩ := hU
    go_simp
    all_goals with_reducible rfl
  simp only [Act.put, List.setIfInBounds_toArray, List.set_cons_zero, List.set_cons_succ]
  refine wpAnyH_take (i := 14) (oi := { dst := some 47, op := _, type := _, pos := _, after := _, guard := _ }) (v := ?_) rfl (by kernel_rfl) (by kernel_rfl) (by kernel_rfl) (fun _ _ _ h => h) (Or.inl ⟨by rfl, ?_⟩) hS0 ?_
  rotate_left
  · intro U hU
    obtain ⟨hU0, hU1⟩ := hU
    go_simp
    all_goals with_reducible rfl
  simp only [Act.put, List.setIfInBounds_toArray, List.set_cons_zero, List.set_cons_succ]
  refine wpAnyH_take (i := 15) (oi := { dst := some 48, op := _, type := _, pos := _, after := _, guard := _ }) (v := ?_) rfl (by kernel_rfl) (by kernel_rfl) (by kernel_rfl) (fun _ _ _ h => h) (Or.inl ⟨by rfl, ?_⟩) hS0 ?_
  rotate_left
  · intro U hU
    obtain ⟨hU0, hU1⟩ := hU
    go_simp
    all_goals with_reducible rfl
  simp only [Act.put, List.setIfInBounds_toArray, List.set_cons_zero, List.set_cons_succ]
  refine wpAnyH_take (i := 16) (oi := { dst := some 49, op := _, type := _, pos := _, after := _, guard := _ }) (v := .agg #[.int .i64 3, .slice av 6 cv]) rfl (by kernel_rfl) (by kernel_rfl) (by kernel_rfl) (fun _ _ _ h => h) (Or.inl ⟨by rfl, yields_load_blk 24 (.tmp 1) rfl _ rfl (fun U hU => hU.1) Try.underlying24 rfl size24 rfl⟩) hS0 ?_
  simp only [Act.put, List.setIfInBounds_toArray, List.set_cons_zero, List.set_cons_succ]
  refine wpAnyH_one (i := 17) (o := { dst := some 50, op := _, type := _, pos := _, after := _, guard := _ }) (by kernel_rfl) rfl (by rfl) (fun K1 hK1 => ?_)
  have HK1 := Lib.hid hK1; clear hK1
  go_simp
  refine (y22 _ _ HS).mono ?_
  rintro e wn ⟨rfl, hbn⟩
  replace B0 := btr B0 hbn (Nat.le_refl _)
  have hS1 := And.intro (blk_keep hS0.1 hbn) (blk_keep hS0.2 hbn)
  clear hS0
  have hS0 := hS1
  clear hS1
  clear hbn
  refine HK1.out _ _ hS0 ?_
  clear HK1 K1
  try simp only [Act.put, List.setIfInBounds_toArray, List.set_cons_zero, List.set_cons_succ]
  refine wpAnyH_take (i := 18) (oi := { dst := some 51, op := _, type := _, pos := _, after := _, guard := _ }) (v := ?_) rfl (by kernel_rfl) (by kernel_rfl) (by kernel_rfl) (fun _ _ _ h => h) (Or.inl ⟨by rfl, ?_⟩) hS0 ?_
  rotate_left
  · intro U hU
    obtain ⟨hU0, hU1⟩ := hU
    go_simp
    all_goals with_reducible rfl
  simp only [Act.put, List.setIfInBounds_toArray, List.set_cons_zero, List.set_cons_succ]
  refine wpAnyH_take (i := 19) (oi := { dst := some 52, op := _, type := _, pos := _, after := _, guard := _ }) (v := ?_) rfl (by kernel_rfl) (by kernel_rfl) (by kernel_rfl) (fun _ _ _ h => h) (Or.inl ⟨by rfl, ?_⟩) hS0 ?_
  rotate_left
  · intro U hU
    obtain ⟨hU0, hU1⟩ := hU
    go_simp
    all_goals with_reducible rfl
  simp only [Act.put, List.setIfInBounds_toArray, List.set_cons_zero, List.set_cons_succ]
  refine wpAnyH_take (i := 20) (oi := { dst := some 53, op := _, type := _, pos := _, after := _, guard := _ }) (v := ?_) rfl (by kernel_rfl) (by kernel_rfl) (by kernel_rfl) (fun _ _ _ h => h) (Or.inl ⟨by rfl, ?_⟩) hS0 ?_
  rotate_left
  · intro U hU
    obtain ⟨hU0, hU1⟩ := hU
    go_simp
    all_goals with_reducible rfl
  simp only [Act.put, List.setIfInBounds_toArray, List.set_cons_zero, List.set_cons_succ]
  refine wpAnyH_ready (rs := [21, 23]) (by kernel_rfl) (by simp) ?_
  refine AllReadyH.cons (o := { dst := some 54, op := _, type := _, pos := _, after := _, guard := _ }) rfl (fun K1 hK1 => ?_) ?_
  · have HK1 := Lib.hid hK1; clear hK1
    rw [if_pos (by rfl)]
    try go_simp
    refine (W2_any _).mono ?_
    rintro e wn ⟨vw, rfl, HW, hbn⟩
    replace B0 := btr B0 hbn (Nat.le_refl _)
    have hS1 := And.intro (blk_keep hS0.1 hbn) (blk_keep hS0.2 hbn)
    clear hS0
    have hS0 := hS1
    clear hS1
    clear hbn
    refine HK1.out _ _ hS0 ?_
    clear HK1 K1
    intro _
    try simp only [Act.put, List.setIfInBounds_toArray, List.set_cons_zero, List.set_cons_succ]
    refine wpAnyH_ready (rs := [22, 23]) (by kernel_rfl) (by simp) ?_
    refine AllReadyH.cons (o := { dst := some 55, op := _, type := _, pos := _, after := _, guard := _ }) rfl (fun K1 hK1 => ?_) ?_
    · have HK1 := Lib.hid hK1; clear hK1
      rw [if_pos (by rfl)]
      try go_simp
      refine (per_any 75 1 _).mono ?_
      rintro e wn ⟨rfl, hbn⟩
      replace B0 := btr B0 hbn (Nat.le_refl _)
      replace HW := HW.below hbn (Nat.le_refl _)
      have hS1 := And.intro (blk_keep hS0.1 hbn) (blk_keep hS0.2 hbn)
      clear hS0
      have hS0 := hS1
      clear hS1
      clear hbn
      refine HK1.out _ _ hS0 ?_
      clear HK1 K1
      intro _
      try simp only [Act.put, List.setIfInBounds_toArray, List.set_cons_zero, List.set_cons_succ]
      refine wpAnyH_one (i := 23) (o := { dst := some 56, op := _, type := _, pos := _, after := _, guard := _ }) (by kernel_rfl) rfl (by rfl) (fun K1 hK1 => ?_)
      have HK1 := Lib.hid hK1; clear hK1
      go_simp
      have hbn := HL.out.2.2 wn (.cells #[.int .i64 0, .int .i64 40, .int .i64 59] 3)
      replace B0 := btr B0 hbn (Nat.le_refl _)
      replace HW := HW.below hbn (Nat.le_refl _)
      have hS1 := And.intro (blk_keep hS0.1 hbn) (blk_keep hS0.2 hbn)
      clear hS0
      have hS0 := hS1
      clear hS1
      have hlt := HL.out.2.1 wn 0 40 59
      clear hbn
      refine HK1.out _ _ hS0 ?_
      clear HK1 K1
      try simp only [Act.put, List.setIfInBounds_toArray, List.set_cons_zero, List.set_cons_succ]
      generalize World.alloc wn _ = wn at *
      refine wpAnyH_one (i := 24) (o := { dst := some 57, op := _, type := _, pos := _, after := _, guard := _ }) (by kernel_rfl) rfl (by rfl) (fun K1 hK1 => ?_)
      have HK1 := Lib.hid hK1; clear hK1
      go_simp
      refine (y31 _ _ _ HW hlt).mono ?_
      rintro e wn ⟨rfl, hbn⟩
      replace B0 := btr B0 hbn (Nat.le_refl _)
      have hS1 := And.intro (blk_keep hS0.1 hbn) (blk_keep hS0.2 hbn)
      clear hS0
      have hS0 := hS1
      clear hS1
      clear hbn
      refine HK1.out _ _ hS0 ?_
      clear HK1 K1
      try simp only [Act.put, List.setIfInBounds_toArray, List.set_cons_zero, List.set_cons_succ]
      refine wpAnyH_take (i := 25) (oi := { dst := some 58, op := _, type := _, pos := _, after := _, guard := _ }) (v := ?_) rfl (by kernel_rfl) (by kernel_rfl) (by kernel_rfl) (fun _ _ _ h => h) (Or.inl ⟨by rfl, ?_⟩) hS0 ?_
      rotate_left
      · intro U hU
        obtain ⟨hU0, hU1⟩ := hU
        go_simp
        all_goals with_reducible rfl
      simp only [Act.put, List.setIfInBounds_toArray, List.set_cons_zero, List.set_cons_succ]
      refine wpAnyH_take (i := 26) (oi := { dst := some 59, op := _, type := _, pos := _, after := _, guard := _ }) (v := ?_) rfl (by kernel_rfl) (by kernel_rfl) (by kernel_rfl) (fun _ _ _ h => h) (Or.inl ⟨by rfl, ?_⟩) hS0 ?_
      rotate_left
      · intro U hU
        obtain ⟨hU0, hU1⟩ := hU
        go_simp
        all_goals with_reducible rfl
      simp only [Act.put, List.setIfInBounds_toArray, List.set_cons_zero, List.set_cons_succ]
      refine wpAnyH_take (i := 27) (oi := { dst := some 60, op := _, type := _, pos := _, after := _, guard := _ }) (v := ?_) rfl (by kernel_rfl) (by kernel_rfl) (by kernel_rfl) (fun _ _ _ h => h) (Or.inl ⟨by rfl, ?_⟩) hS0 ?_
      rotate_left
      · intro U hU
        obtain ⟨hU0, hU1⟩ := hU
        go_simp
        all_goals with_reducible rfl
      simp only [Act.put, List.setIfInBounds_toArray, List.set_cons_zero, List.set_cons_succ]
      refine wpAnyH_one (i := 28) (o := { dst := some 61, op := _, type := _, pos := _, after := _, guard := _ }) (by kernel_rfl) rfl (by rfl) (fun K1 hK1 => ?_)
      have HK1 := Lib.hid hK1; clear hK1
      go_simp
      refine (works_any _).mono ?_
      rintro e wn ⟨rfl, hbn⟩
      replace B0 := btr B0 hbn (Nat.le_refl _)
      have hS1 := And.intro (blk_keep hS0.1 hbn) (blk_keep hS0.2 hbn)
      clear hS0
      have hS0 := hS1
      clear hS1
      clear hbn
      refine HK1.out _ _ hS0 ?_
      clear HK1 K1
      try simp only [Act.put, List.setIfInBounds_toArray, List.set_cons_zero, List.set_cons_succ]
      refine wpAnyH_take (i := 29) (oi := { dst := some 62, op := _, type := _, pos := _, after := _, guard := _ }) (v := ?_) rfl (by kernel_rfl) (by kernel_rfl) (by kernel_rfl) (fun _ _ _ h => h) (Or.inl ⟨by rfl, ?_⟩) hS0 ?_
      rotate_left
      · intro U hU
        obtain ⟨hU0, hU1⟩ := hU
        go_simp
        all_goals with_reducible rfl
      simp only [Act.put, List.setIfInBounds_toArray, List.set_cons_zero, List.set_cons_succ]
      refine wpAnyH_one (i := 30) (o := { dst := some 0, op := _, type := _, pos := _, after := _, guard := _ }) (by kernel_rfl) rfl (by rfl) (fun K1 hK1 => ?_)
      have HK1 := Lib.hid hK1; clear hK1
      go_simp
      refine HK1.out _ _ hS0 ?_
      clear HK1 K1
      refine wpAnyH_done (by kernel_rfl) ?_ _
      simp only [Exit.then]
      refine HK.out _ _ ?_; clear HK
      go_wp2
      go_ret
      exact ⟨rfl, B0⟩
    refine AllReadyH.cons (o := { dst := some 56, op := _, type := _, pos := _, after := _, guard := _ }) rfl (fun K1 hK1 => ?_) ?_
    · have HK1 := Lib.hid hK1; clear hK1
      rw [if_pos (by rfl)]
      try go_simp
      have hbn := HL.out.2.2 wn (.cells #[.int .i64 0, .int .i64 40, .int .i64 59] 3)
      replace B0 := btr B0 hbn (Nat.le_refl _)
      replace HW := HW.below hbn (Nat.le_refl _)
      have hS1 := And.intro (blk_keep hS0.1 hbn) (blk_keep hS0.2 hbn)
      clear hS0
      have hS0 := hS1
      clear hS1
      have hlt := HL.out.2.1 wn 0 40 59
      clear hbn
      refine HK1.out _ _ hS0 ?_
      clear HK1 K1
      intro _
      try simp only [Act.put, List.setIfInBounds_toArray, List.set_cons_zero, List.set_cons_succ]
      generalize World.alloc wn _ = wn at *
      refine wpAnyH_one (i := 22) (o := { dst := some 55, op := _, type := _, pos := _, after := _, guard := _ }) (by kernel_rfl) rfl (by rfl) (fun K1 hK1 => ?_)
      have HK1 := Lib.hid hK1; clear hK1
      go_simp
      refine (per_any 75 1 _).mono ?_
      rintro e wn ⟨rfl, hbn⟩
      replace B0 := btr B0 hbn (Nat.le_refl _)
      replace HW := HW.below hbn (Nat.le_refl _)
      replace hlt := hlt.below hbn (Nat.le_refl _)
      have hS1 := And.intro (blk_keep hS0.1 hbn) (blk_keep hS0.2 hbn)
      clear hS0
      have hS0 := hS1
      clear hS1
      clear hbn
      refine HK1.out _ _ hS0 ?_
      clear HK1 K1
      try simp only [Act.put, List.setIfInBounds_toArray, List.set_cons_zero, List.set_cons_succ]
      refine wpAnyH_one (i := 24) (o := { dst := some 57, op := _, type := _, pos := _, after := _, guard := _ }) (by kernel_rfl) rfl (by rfl) (fun K1 hK1 => ?_)
      have HK1 := Lib.hid hK1; clear hK1
      go_simp
      refine (y31 _ _ _ HW hlt).mono ?_
      rintro e wn ⟨rfl, hbn⟩
      replace B0 := btr B0 hbn (Nat.le_refl _)
      have hS1 := And.intro (blk_keep hS0.1 hbn) (blk_keep hS0.2 hbn)
      clear hS0
      have hS0 := hS1
      clear hS1
      clear hbn
      refine HK1.out _ _ hS0 ?_
      clear HK1 K1
      try simp only [Act.put, List.setIfInBounds_toArray, List.set_cons_zero, List.set_cons_succ]
      refine wpAnyH_take (i := 25) (oi := { dst := some 58, op := _, type := _, pos := _, after := _, guard := _ }) (v := ?_) rfl (by kernel_rfl) (by kernel_rfl) (by kernel_rfl) (fun _ _ _ h => h) (Or.inl ⟨by rfl, ?_⟩) hS0 ?_
      rotate_left
      · intro U hU
        obtain ⟨hU0, hU1⟩ := hU
        go_simp
        all_goals with_reducible rfl
      simp only [Act.put, List.setIfInBounds_toArray, List.set_cons_zero, List.set_cons_succ]
      refine wpAnyH_take (i := 26) (oi := { dst := some 59, op := _, type := _, pos := _, after := _, guard := _ }) (v := ?_) rfl (by kernel_rfl) (by kernel_rfl) (by kernel_rfl) (fun _ _ _ h => h) (Or.inl ⟨by rfl, ?_⟩) hS0 ?_
      rotate_left
      · intro U hU
        obtain ⟨hU0, hU1⟩ := hU
        go_simp
        all_goals with_reducible rfl
      simp only [Act.put, List.setIfInBounds_toArray, List.set_cons_zero, List.set_cons_succ]
      refine wpAnyH_take (i := 27) (oi := { dst := some 60, op := _, type := _, pos := _, after := _, guard := _ }) (v := ?_) rfl (by kernel_rfl) (by kernel_rfl) (by kernel_rfl) (fun _ _ _ h => h) (Or.inl ⟨by rfl, ?_⟩) hS0 ?_
      rotate_left
      · intro U hU
        obtain ⟨hU0, hU1⟩ := hU
        go_simp
        all_goals with_reducible rfl
      simp only [Act.put, List.setIfInBounds_toArray, List.set_cons_zero, List.set_cons_succ]
      refine wpAnyH_one (i := 28) (o := { dst := some 61, op := _, type := _, pos := _, after := _, guard := _ }) (by kernel_rfl) rfl (by rfl) (fun K1 hK1 => ?_)
      have HK1 := Lib.hid hK1; clear hK1
      go_simp
      refine (works_any _).mono ?_
      rintro e wn ⟨rfl, hbn⟩
      replace B0 := btr B0 hbn (Nat.le_refl _)
      have hS1 := And.intro (blk_keep hS0.1 hbn) (blk_keep hS0.2 hbn)
      clear hS0
      have hS0 := hS1
      clear hS1
      clear hbn
      refine HK1.out _ _ hS0 ?_
      clear HK1 K1
      try simp only [Act.put, List.setIfInBounds_toArray, List.set_cons_zero, List.set_cons_succ]
      refine wpAnyH_take (i := 29) (oi := { dst := some 62, op := _, type := _, pos := _, after := _, guard := _ }) (v := ?_) rfl (by kernel_rfl) (by kernel_rfl) (by kernel_rfl) (fun _ _ _ h => h) (Or.inl ⟨by rfl, ?_⟩) hS0 ?_
      rotate_left
      · intro U hU
        obtain ⟨hU0, hU1⟩ := hU
        go_simp
        all_goals with_reducible rfl
      simp only [Act.put, List.setIfInBounds_toArray, List.set_cons_zero, List.set_cons_succ]
      refine wpAnyH_one (i := 30) (o := { dst := some 0, op := _, type := _, pos := _, after := _, guard := _ }) (by kernel_rfl) rfl (by rfl) (fun K1 hK1 => ?_)
      have HK1 := Lib.hid hK1; clear hK1
      go_simp
      refine HK1.out _ _ hS0 ?_
      clear HK1 K1
      refine wpAnyH_done (by kernel_rfl) ?_ _
      simp only [Exit.then]
      refine HK.out _ _ ?_; clear HK
      go_wp2
      go_ret
      exact ⟨rfl, B0⟩
    exact AllReadyH.nil
  refine AllReadyH.cons (o := { dst := some 56, op := _, type := _, pos := _, after := _, guard := _ }) rfl (fun K1 hK1 => ?_) ?_
  · have HK1 := Lib.hid hK1; clear hK1
    rw [if_pos (by rfl)]
    try go_simp
    have hbn := HL.out.2.2 wn (.cells #[.int .i64 0, .int .i64 40, .int .i64 59] 3)
    replace B0 := btr B0 hbn (Nat.le_refl _)
    have hS1 := And.intro (blk_keep hS0.1 hbn) (blk_keep hS0.2 hbn)
    clear hS0
    have hS0 := hS1
    clear hS1
    have hlt := HL.out.2.1 wn 0 40 59
    clear hbn
    refine HK1.out _ _ hS0 ?_
    clear HK1 K1
    intro _
    try simp only [Act.put, List.setIfInBounds_toArray, List.set_cons_zero, List.set_cons_succ]
    generalize World.alloc wn _ = wn at *
    refine wpAnyH_one (i := 21) (o := { dst := some 54, op := _, type := _, pos := _, after := _, guard := _ }) (by kernel_rfl) rfl (by rfl) (fun K1 hK1 => ?_)
    have HK1 := Lib.hid hK1; clear hK1
    go_simp
    refine (W2_any _).mono ?_
    rintro e wn ⟨vw, rfl, HW, hbn⟩
    replace B0 := btr B0 hbn (Nat.le_refl _)
    replace hlt := hlt.below hbn (Nat.le_refl _)
    have hS1 := And.intro (blk_keep hS0.1 hbn) (blk_keep hS0.2 hbn)
    clear hS0
    have hS0 := hS1
    clear hS1
    clear hbn
    refine HK1.out _ _ hS0 ?_
    clear HK1 K1
    try simp only [Act.put, List.setIfInBounds_toArray, List.set_cons_zero, List.set_cons_succ]
    refine wpAnyH_one (i := 22) (o := { dst := some 55, op := _, type := _, pos := _, after := _, guard := _ }) (by kernel_rfl) rfl (by rfl) (fun K1 hK1 => ?_)
    have HK1 := Lib.hid hK1; clear hK1
    go_simp
    refine (per_any 75 1 _).mono ?_
    rintro e wn ⟨rfl, hbn⟩
    replace B0 := btr B0 hbn (Nat.le_refl _)
    replace HW := HW.below hbn (Nat.le_refl _)
    replace hlt := hlt.below hbn (Nat.le_refl _)
    have hS1 := And.intro (blk_keep hS0.1 hbn) (blk_keep hS0.2 hbn)
    clear hS0
    have hS0 := hS1
    clear hS1
    clear hbn
    refine HK1.out _ _ hS0 ?_
    clear HK1 K1
    try simp only [Act.put, List.setIfInBounds_toArray, List.set_cons_zero, List.set_cons_succ]
    refine wpAnyH_one (i := 24) (o := { dst := some 57, op := _, type := _, pos := _, after := _, guard := _ }) (by kernel_rfl) rfl (by rfl) (fun K1 hK1 => ?_)
    have HK1 := Lib.hid hK1; clear hK1
    go_simp
    refine (y31 _ _ _ HW hlt).mono ?_
    rintro e wn ⟨rfl, hbn⟩
    replace B0 := btr B0 hbn (Nat.le_refl _)
    have hS1 := And.intro (blk_keep hS0.1 hbn) (blk_keep hS0.2 hbn)
    clear hS0
    have hS0 := hS1
    clear hS1
    clear hbn
    refine HK1.out _ _ hS0 ?_
    clear HK1 K1
    try simp only [Act.put, List.setIfInBounds_toArray, List.set_cons_zero, List.set_cons_succ]
    refine wpAnyH_take (i := 25) (oi := { dst := some 58, op := _, type := _, pos := _, after := _, guard := _ }) (v := ?_) rfl (by kernel_rfl) (by kernel_rfl) (by kernel_rfl) (fun _ _ _ h => h) (Or.inl ⟨by rfl, ?_⟩) hS0 ?_
    rotate_left
    · intro U hU
      obtain ⟨hU0, hU1⟩ := hU
      go_simp
      all_goals with_reducible rfl
    simp only [Act.put, List.setIfInBounds_toArray, List.set_cons_zero, List.set_cons_succ]
    refine wpAnyH_take (i := 26) (oi := { dst := some 59, op := _, type := _, pos := _, after := _, guard := _ }) (v := ?_) rfl (by kernel_rfl) (by kernel_rfl) (by kernel_rfl) (fun _ _ _ h => h) (Or.inl ⟨by rfl, ?_⟩) hS0 ?_
    rotate_left
    · intro U hU
      obtain ⟨hU0, hU1⟩ := hU
      go_simp
      all_goals with_reducible rfl
    simp only [Act.put, List.setIfInBounds_toArray, List.set_cons_zero, List.set_cons_succ]
    refine wpAnyH_take (i := 27) (oi := { dst := some 60, op := _, type := _, pos := _, after := _, guard := _ }) (v := ?_) rfl (by kernel_rfl) (by kernel_rfl) (by kernel_rfl) (fun _ _ _ h => h) (Or.inl ⟨by rfl, ?_⟩) hS0 ?_
    rotate_left
    · intro U hU
      obtain ⟨hU0, hU1⟩ := hU
      go_simp
      all_goals with_reducible rfl
    simp only [Act.put, List.setIfInBounds_toArray, List.set_cons_zero, List.set_cons_succ]
    refine wpAnyH_one (i := 28) (o := { dst := some 61, op := _, type := _, pos := _, after := _, guard := _ }) (by kernel_rfl) rfl (by rfl) (fun K1 hK1 => ?_)
    have HK1 := Lib.hid hK1; clear hK1
    go_simp
    refine (works_any _).mono ?_
    rintro e wn ⟨rfl, hbn⟩
    replace B0 := btr B0 hbn (Nat.le_refl _)
    have hS1 := And.intro (blk_keep hS0.1 hbn) (blk_keep hS0.2 hbn)
    clear hS0
    have hS0 := hS1
    clear hS1
    clear hbn
    refine HK1.out _ _ hS0 ?_
    clear HK1 K1
    try simp only [Act.put, List.setIfInBounds_toArray, List.set_cons_zero, List.set_cons_succ]
    refine wpAnyH_take (i := 29) (oi := { dst := some 62, op := _, type := _, pos := _, after := _, guard := _ }) (v := ?_) rfl (by kernel_rfl) (by kernel_rfl) (by kernel_rfl) (fun _ _ _ h => h) (Or.inl ⟨by rfl, ?_⟩) hS0 ?_
    rotate_left
    · intro U hU
      obtain ⟨hU0, hU1⟩ := hU
      go_simp
      all_goals with_reducible rfl
    simp only [Act.put, List.setIfInBounds_toArray, List.set_cons_zero, List.set_cons_succ]
    refine wpAnyH_one (i := 30) (o := { dst := some 0, op := _, type := _, pos := _, after := _, guard := _ }) (by kernel_rfl) rfl (by rfl) (fun K1 hK1 => ?_)
    have HK1 := Lib.hid hK1; clear hK1
    go_simp
    refine HK1.out _ _ hS0 ?_
    clear HK1 K1
    refine wpAnyH_done (by kernel_rfl) ?_ _
    simp only [Exit.then]
    refine HK.out _ _ ?_; clear HK
    go_wp2
    go_ret
    exact ⟨rfl, B0⟩
  exact AllReadyH.nil
end Yteileadcmekkoaa
end Go.Proofs
