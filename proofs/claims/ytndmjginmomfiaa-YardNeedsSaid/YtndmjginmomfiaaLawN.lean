/- The law YardNeeds returns true. -/
import Derived.Test.YtndmjginmomfiaaLawT
import Derived.Test.YtndmjginmomfiaaR8
open Go Go.RowKit Go.YtndmjginmomfiaaIt
namespace Go.Proofs
namespace Ytndmjginmomfiaa
/-- What Need answers of a valid question. -/
structure NdV (y : Yd) (s m : Nat) (A E : Int) : Prop where
  none_ : needV y s m = none → E = 21 ∧ A = 0
  some_ : ∀ r, needV y s m = some r → E = 0 ∧ A = (r : Nat)
theorem ndv_of {y : Yd} {s m : Nat} (ok : Ok y) (hs : s ≤ 60) (hm : m < y.ws.length) : NdV y s m (needR y s m) (needE y s m) := by
  have e1 : btw 0 (s : Int) 60 = true := btw_true.2 (by omega)
  have e2 : btw 0 (m : Int) ((y.ws.length : Int) - 1) = true := btw_true.2 (by omega)
  have h1 : needE y s m = if needV y s m = none then 21 else 0 := by unfold needE; rw [if_pos (chk_ok.2 ok), if_pos e1, if_pos e2]; rfl
  have h2 : needR y s m = if needE y s m = 0 then (((needV y s m).getD 0 : Nat) : Int) else (0 : Int) := rfl
  refine ⟨fun h => ?_, fun r h => ?_⟩
  · rw [if_pos h] at h1
    rw [h1] at h2
    exact ⟨h1, h2⟩
  · rw [if_neg (by rw [h]; simp)] at h1
    rw [h1, h] at h2
    exact ⟨h1, h2⟩
theorem need_ge {y : Yd} {s m r : Nat} (h : needV y s m = some r) : s ≤ r ∧ r ≤ 60 ∧ ever y s m r = true := by
  unfold needV at h
  rw [List.find?_range_eq_some] at h
  obtain ⟨h1, h2, _⟩ := h
  simp at h1 h2
  exact ⟨h1.1, by omega, h1.2⟩
theorem term_wr {y : Yd} (ok : Ok y) {s m r : Nat} (hs : s ≤ r) (hr : r ≤ 60) (hm : m < y.ws.length) : termE (wr y r) s m = termP (wr y r) s m := by
  unfold termE
  rw [if_pos (stE_ok.2 ⟨wr_ok ok hr, ⟨by omega, by show (s : Int) ≤ (r : Int); omega⟩, ⟨by omega, by show (m : Int) < (y.ws.length : Int); omega⟩⟩)]; rfl
set_option maxRecDepth 100000 in
set_option maxHeartbeats 8000000 in
theorem yardNeeds_any (y : Yd) (v : Value) (s m : Int) (w : World) (hw : SlW w v y.ws) :
    Calls Try.prog 6 #[.agg (encY y v), .int .i64 s, .int .i64 m] w fun e w' => e = .returned (.bool true) ∧ Below w.heap.size w w' := by
  have hy4 : (encY y v).size = 4 := rfl
  have H13 := Lib.hid (fun W (hW : Below w.heap.size w W) => large_any y v W (hw.below hW (Nat.le_refl _)))
  have H30 := Lib.hid (fun W (hW : Below w.heap.size w W) => need_any y v s m W (hw.below hW (Nat.le_refl _)))
  have H15 := Lib.hid (fun W (hl : y.ws.length ≤ 20) (hW : Below w.heap.size w W) => given_any y v W (hw.below hW (Nat.le_refl _)) hl)
  have H22 := Lib.hid (fun u W (hu : SlW W u y.ws) => rcheck_any y u W hu)
  have H31 := Lib.hid (fun u W (hu : SlW W u y.ws) => rneed_any y u s m W hu)
  have H19 := Lib.hid (fun (r : Nat) u W (hu : SlW W u (wr y r).ws) => rterm_any (wr y r) u s m W hu)
  have HNL := Lib.hid (fun h => not_large (y := y) h)
  have HNV := Lib.hid (fun (sn mn : Nat) ok hs hm => ndv_of (y := y) (s := sn) (m := mn) ok hs hm)
  have HCK := Lib.hid (chk_ok (y := y))
  generalize largeB y = lb at *
  generalize hRA : needR y s m = RA at *
  generalize hRE : needE y s m = RE at *
  generalize chkE y = CE at *
  have HRAE := Lib.hid (And.intro hRA hRE)
  obtain ⟨ad, cap, rfl, hmx, hcp, hc⟩ := hw
  have HC := Lib.hid hc
  clear hc hRA hRE
  go_enter Try.func6, Try.ntmps6
  refine wp_seq_k (fun K hK => ?_)
  have HK := Lib.hid hK; clear hK
  go_wp2
  refine HK.out _ _ ?_; clear HK K
  generalize hw1 : World.alloc _ _ = w1
  obtain ⟨b1, hB, hs1⟩ := blk1 hw1
  clear hw1
  have h13 := H13.out w1 hB
  cases lb
  rotate_left
  · go_wp2_with (first | (refine wpList_load_blk rfl 24 _ rfl _ rfl b1 Try.underlying24 rfl size24 hy4 ?_) | (go_at_call 13; refine h13.mono ?_; rintro e w2 ⟨rfl, hb2⟩) | (go_at_call 14; refine (works_any _).mono ?_; rintro e w3 ⟨rfl, hb3⟩))
    go_ret
    exact ⟨rfl, btr (btr hB hb2 (Nat.le_refl _)) hb3 (Nat.le_refl _)⟩
  have hl := HNL.out rfl
  refine wp_seq_k (fun K hK => ?_)
  have HK := Lib.hid hK; clear hK
  go_wp2_with (first | (refine wpList_load_blk rfl 24 _ rfl _ rfl b1 Try.underlying24 rfl size24 hy4 ?_) | (go_at_call 13; refine h13.mono ?_; rintro e w2 ⟨rfl, hb2⟩))
  refine HK.out _ _ ?_; clear HK K
  replace b1 := blk_keep b1 hb2
  replace hB := btr hB hb2 (Nat.le_refl _)
  clear hb2 h13 hs1
  have h15 := H15.out w2 hl hB
  refine wp_seq_k (fun K hK => ?_)
  have HK := Lib.hid hK; clear hK
  go_wp2_with (first | (refine wpList_load_blk rfl 24 _ rfl _ rfl b1 Try.underlying24 rfl size24 hy4 ?_) | (go_at_call 15; refine h15.mono ?_; rintro e w3 ⟨vg, rfl, hg, hb3⟩; have hone := encY_one hg; have hgy : (encY y vg).size = 4 := rfl) | (refine wpList_store_blk rfl 31 _ _ rfl _ rfl rfl (heap_newI rfl) size31 hgy rfl hone ?_))
  refine HK.out _ _ ?_; clear HK K
  have hbA : Below w3.heap.size w3 (w3.alloc (.cells #[.int .i64 0, .int .i64 0, .int .i64 0, .slice none 0 0] 31)) := (Below.refl _ _).alloc (Nat.le_refl _) _
  generalize hw4 : World.putObj _ _ _ = w4
  have b10 : w4.heap[w3.heap.size]? = some (.cells (encY y vg) 31 (0, 0)) := by rw [← hw4]; exact World.putObj_heap_same (by rw [World.size_alloc]; omega)
  have hb4 : Below w3.heap.size w3 w4 := by rw [← hw4]; exact below_putObj hbA (Nat.le_refl _)
  have hbw3 : w.heap.size < w3.heap.size := Nat.lt_of_lt_of_le (lt_blk b1) hb3.size
  clear hw4 hbA h15 hone hgy
  replace b1 := blk_keep (blk_keep b1 hb3) hb4
  replace hB := btr (btr hB hb3 (Nat.le_refl _)) hb4 (Nat.le_refl _)
  have hg3 := hg
  have hB3 := hb4
  replace hg := hg.below hb4 (Nat.le_refl _)
  clear hb3 hb4
  have c1 := cell_blk (i := 1) b1
  have c3 := cell_blk (i := 3) b1
  simp only [encY, List.getElem?_toArray, List.getElem?_cons_zero, List.getElem?_cons_succ] at c1 c3
  refine wp_seq_k (fun K hK => ?_)
  have HK := Lib.hid hK; clear hK
  go_wp2
  all_goals
    refine HK.out _ _ ?_; clear HK K
    clear c1 c3
    refine wp_seq_k (fun K hK => ?_)
    have HK := Lib.hid hK; clear hK
    go_wp2
    go_loopw [8, 9] (fun q i wr => ∃ (k : Nat) (sb : Bool), k ≤ y.ws.length ∧ i = .int .i64 k ∧ q = .bool sb ∧ w4 = wr) (fun _ i _ => y.ws.length - (intOf i).toNat)
    case atStart => exact ⟨0, _, Nat.zero_le _, rfl, rfl, rfl⟩
    case round =>
      obtain ⟨k, sb, hk, rfl, rfl, rfl⟩ := hrel
      have c3 := cell_blk (i := 3) b1
      simp only [encY, List.getElem?_toArray, List.getElem?_cons_zero, List.getElem?_cons_succ] at c3
      by_cases hkn : k < y.ws.length
      · obtain ⟨b, off, rfl, hlt, hcell⟩ := HC.out (by omega)
        obtain ⟨q0, q1, q2, q3⟩ := wt_cells hcell (n := k) hkn rfl
        replace q2 := (hB.cell (p := ⟨b, off + k * 4 + 2, none⟩) hlt).trans q2
        clear q0 q1 q3 hcell
        cases sb
        · go_wp2
          go_roundw
          case rel => exact ⟨k + 1, _, by omega, by go_num, rfl, trivial⟩
          case measure => simp [intOf]; omega
        · go_wp2
          go_roundw
          case rel => exact ⟨k + 1, _, by omega, by go_num, rfl, trivial⟩
          case measure => simp [intOf]; omega
      · go_wp2
        refine HK.out _ _ ?_; clear HK
        have h22 := H22.out vg w4 hg
        by_cases h0 : CE = 0
        · subst h0
          have HOKY := Lib.hid (HCK.out.1 rfl)
          cases sb
          · go_wp2_with (first | (refine wpList_load_blk rfl 31 _ rfl _ rfl b10 Try.underlying31 rfl size31 rfl ?_) | (go_at_call 22; refine h22.mono ?_; rintro e w5 ⟨rfl, hb5⟩) | (go_at_call 14; refine (works_any _).mono ?_; rintro e w9 ⟨rfl, hb9⟩))
            go_ret
            exact ⟨rfl, btr (btr hB hb5 (Nat.le_refl _)) hb9 (Nat.le_refl _)⟩
          · clear c3
            refine wp_seq_k (fun K hK => ?_)
            have HK := Lib.hid hK; clear hK
            go_wp2
            refine HK.out _ _ ?_; clear HK
            have h30 := H30.out w4 hB
            refine wp_seq_k (fun K hK => ?_)
            have HK := Lib.hid hK; clear hK
            go_wp2_with (first | (refine wpList_load_blk rfl 24 _ rfl _ rfl b1 Try.underlying24 rfl size24 hy4 ?_) | (go_at_call 30; refine h30.mono ?_; rintro e w5 ⟨rfl, hb5⟩))
            refine HK.out _ _ ?_; clear HK
            replace hg := hg.below hb5 (Nat.le_refl _)
            replace b1 := blk_keep b1 hb5
            replace b10 := blk_keep b10 hb5
            replace hB := btr hB hb5 (Nat.le_refl _)
            replace hB3 := btr hB3 hb5 (Nat.le_refl _)
            clear hb5
            clear h30
            have h22b := H22.out vg w5 hg
            have c3 := cell_blk (i := 3) b1
            simp only [encY, List.getElem?_toArray, List.getElem?_cons_zero, List.getElem?_cons_succ] at c3
            have hl1 := lt_blk b1
            by_cases hc1 : 0 ≤ s
            rotate_left
            · have hcnd := hc1
              have hneg : ¬ 0 ≤ s := by omega
              clear hcnd
              refine wp_seq_k (fun K hK => ?_)
              have HK := Lib.hid hK; clear hK
              go_wp2_with (first | (refine wpList_load_blk rfl 31 _ rfl _ rfl b10 Try.underlying31 rfl size31 rfl ?_) | (go_at_call 22; refine h22b.mono ?_; rintro e w6 ⟨rfl, hb6⟩; replace c3 := (hb6.cell (p := ⟨w.heap.size, 3, none⟩) hl1).trans c3))
              refine HK.out _ _ ?_; clear HK
              replace hg := hg.below hb6 (Nat.le_refl _)
              replace b1 := blk_keep b1 hb6
              replace b10 := blk_keep b10 hb6
              replace hB := btr hB hb6 (Nat.le_refl _)
              replace hB3 := btr hB3 hb6 (Nat.le_refl _)
              clear hb6
              clear h22b
              have h31 := H31.out vg w6 hg
              refine wp_seq_k (fun K hK => ?_)
              have HK := Lib.hid hK; clear hK
              go_wp2_with (first | (refine wpList_load_blk rfl 31 _ rfl _ rfl b10 Try.underlying31 rfl size31 rfl ?_) | (go_at_call 31; refine h31.mono ?_; rintro e w7 ⟨rfl, hb7⟩))
              refine HK.out _ _ ?_; clear HK
              replace hB := btr hB hb7 (Nat.le_refl _)
              clear h31 hb7
              have q1 : (RA == RA) = true := by simp
              have q2 : (RE == RE) = true := by simp
              go_wp2_with (go_at_call 14; refine (works_any _).mono ?_; rintro e w9 ⟨rfl, hb9⟩)
              go_ret
              exact ⟨rfl, btr hB hb9 (Nat.le_refl _)⟩
            by_cases hc2 : s ≤ 60
            rotate_left
            · have hcnd := hc2
              have hneg : ¬ s ≤ 60 := by omega
              clear hcnd
              refine wp_seq_k (fun K hK => ?_)
              have HK := Lib.hid hK; clear hK
              go_wp2_with (first | (refine wpList_load_blk rfl 31 _ rfl _ rfl b10 Try.underlying31 rfl size31 rfl ?_) | (go_at_call 22; refine h22b.mono ?_; rintro e w6 ⟨rfl, hb6⟩; replace c3 := (hb6.cell (p := ⟨w.heap.size, 3, none⟩) hl1).trans c3))
              refine HK.out _ _ ?_; clear HK
              replace hg := hg.below hb6 (Nat.le_refl _)
              replace b1 := blk_keep b1 hb6
              replace b10 := blk_keep b10 hb6
              replace hB := btr hB hb6 (Nat.le_refl _)
              replace hB3 := btr hB3 hb6 (Nat.le_refl _)
              clear hb6
              clear h22b
              have h31 := H31.out vg w6 hg
              refine wp_seq_k (fun K hK => ?_)
              have HK := Lib.hid hK; clear hK
              go_wp2_with (first | (refine wpList_load_blk rfl 31 _ rfl _ rfl b10 Try.underlying31 rfl size31 rfl ?_) | (go_at_call 31; refine h31.mono ?_; rintro e w7 ⟨rfl, hb7⟩))
              refine HK.out _ _ ?_; clear HK
              replace hB := btr hB hb7 (Nat.le_refl _)
              clear h31 hb7
              have q1 : (RA == RA) = true := by simp
              have q2 : (RE == RE) = true := by simp
              go_wp2_with (go_at_call 14; refine (works_any _).mono ?_; rintro e w9 ⟨rfl, hb9⟩)
              go_ret
              exact ⟨rfl, btr hB hb9 (Nat.le_refl _)⟩
            by_cases hc3 : 0 ≤ m
            rotate_left
            · have hcnd := hc3
              have hneg : ¬ 0 ≤ m := by omega
              clear hcnd
              refine wp_seq_k (fun K hK => ?_)
              have HK := Lib.hid hK; clear hK
              go_wp2_with (first | (refine wpList_load_blk rfl 31 _ rfl _ rfl b10 Try.underlying31 rfl size31 rfl ?_) | (go_at_call 22; refine h22b.mono ?_; rintro e w6 ⟨rfl, hb6⟩; replace c3 := (hb6.cell (p := ⟨w.heap.size, 3, none⟩) hl1).trans c3))
              refine HK.out _ _ ?_; clear HK
              replace hg := hg.below hb6 (Nat.le_refl _)
              replace b1 := blk_keep b1 hb6
              replace b10 := blk_keep b10 hb6
              replace hB := btr hB hb6 (Nat.le_refl _)
              replace hB3 := btr hB3 hb6 (Nat.le_refl _)
              clear hb6
              clear h22b
              have h31 := H31.out vg w6 hg
              refine wp_seq_k (fun K hK => ?_)
              have HK := Lib.hid hK; clear hK
              go_wp2_with (first | (refine wpList_load_blk rfl 31 _ rfl _ rfl b10 Try.underlying31 rfl size31 rfl ?_) | (go_at_call 31; refine h31.mono ?_; rintro e w7 ⟨rfl, hb7⟩))
              refine HK.out _ _ ?_; clear HK
              replace hB := btr hB hb7 (Nat.le_refl _)
              clear h31 hb7
              have q1 : (RA == RA) = true := by simp
              have q2 : (RE == RE) = true := by simp
              go_wp2_with (go_at_call 14; refine (works_any _).mono ?_; rintro e w9 ⟨rfl, hb9⟩)
              go_ret
              exact ⟨rfl, btr hB hb9 (Nat.le_refl _)⟩
            by_cases hc4 : m < (y.ws.length : Int)
            rotate_left
            · have hcnd := hc4
              have hneg : ¬ m < (y.ws.length : Int) := by omega
              clear hcnd
              refine wp_seq_k (fun K hK => ?_)
              have HK := Lib.hid hK; clear hK
              go_wp2_with (first | (refine wpList_load_blk rfl 31 _ rfl _ rfl b10 Try.underlying31 rfl size31 rfl ?_) | (go_at_call 22; refine h22b.mono ?_; rintro e w6 ⟨rfl, hb6⟩; replace c3 := (hb6.cell (p := ⟨w.heap.size, 3, none⟩) hl1).trans c3))
              refine HK.out _ _ ?_; clear HK
              replace hg := hg.below hb6 (Nat.le_refl _)
              replace b1 := blk_keep b1 hb6
              replace b10 := blk_keep b10 hb6
              replace hB := btr hB hb6 (Nat.le_refl _)
              replace hB3 := btr hB3 hb6 (Nat.le_refl _)
              clear hb6
              clear h22b
              have h31 := H31.out vg w6 hg
              refine wp_seq_k (fun K hK => ?_)
              have HK := Lib.hid hK; clear hK
              go_wp2_with (first | (refine wpList_load_blk rfl 31 _ rfl _ rfl b10 Try.underlying31 rfl size31 rfl ?_) | (go_at_call 31; refine h31.mono ?_; rintro e w7 ⟨rfl, hb7⟩))
              refine HK.out _ _ ?_; clear HK
              replace hB := btr hB hb7 (Nat.le_refl _)
              clear h31 hb7
              have q1 : (RA == RA) = true := by simp
              have q2 : (RE == RE) = true := by simp
              go_wp2_with (go_at_call 14; refine (works_any _).mono ?_; rintro e w9 ⟨rfl, hb9⟩)
              go_ret
              exact ⟨rfl, btr hB hb9 (Nat.le_refl _)⟩
            obtain ⟨sn, rfl⟩ := Int.eq_ofNat_of_zero_le hc1
            obtain ⟨mn, rfl⟩ := Int.eq_ofNat_of_zero_le hc3
            have ok := HOKY.out
            have hml : mn < y.ws.length := by omega
            have hs60 : sn ≤ 60 := by omega
            have hnv := HNV.out sn mn ok hs60 hml
            rw [HRAE.out.1, HRAE.out.2] at hnv
            have HND := Lib.hid hnv
            clear hnv ok
            go_wp2_with (first | (refine wpList_load_blk rfl 31 _ rfl _ rfl b10 Try.underlying31 rfl size31 rfl ?_) | (go_at_call 22; refine h22b.mono ?_; rintro e w6 ⟨rfl, hb6⟩; replace c3 := (hb6.cell (p := ⟨w.heap.size, 3, none⟩) hl1).trans c3))
            replace hg := hg.below hb6 (Nat.le_refl _)
            replace b1 := blk_keep b1 hb6
            replace b10 := blk_keep b10 hb6
            replace hB := btr hB hb6 (Nat.le_refl _)
            replace hB3 := btr hB3 hb6 (Nat.le_refl _)
            clear hb6
            clear h22b
            go_loopw [12] (fun i W => ∃ (r : Nat) (ro : Int), sn ≤ r ∧ r ≤ 61 ∧ i = .int .i64 r ∧ (∀ j, sn ≤ j → j < r → ever y sn mn j = false) ∧ (r ≤ 21 ∨ r = sn) ∧ Below w.heap.size w W ∧ W.heap[w3.heap.size]? = some (.cells (encY ⟨ro, y.most, y.lots, y.ws⟩ vg) 31 (0, 0)) ∧ Below w3.heap.size w3 W) (fun i _ => 100 - (intOf i).toNat)
            case atStart => exact ⟨sn, y.room, Nat.le_refl _, by omega, rfl, fun j h1 h2 => by omega, .inr rfl, hB, b10, hB3⟩
            case round =>
              clear hB b1 b10 hg c3 hB3
              obtain ⟨r, ro, hsr, hr, rfl, hno, hr2, hB, b10, hB3⟩ := hrel
              have HN := Lib.hid hno
              clear hno
              by_cases hrn : (r : Int) ≤ 20
              · have f0 := free_blk (i := 0) b10
                have c0 := cell_blk (i := 0) b10
                simp only [encY, List.getElem?_toArray, List.getElem?_cons_zero] at c0
                have b2 : (World.setCell wr ⟨w3.heap.size, 0, none⟩ (.int .i64 r)).heap[w3.heap.size]? = some (.cells (encY (Ytndmjginmomfiaa.wr y r) vg) 31 (0, 0)) := by rw [heap_set_blk b10]; rfl
                have hB2 : Below w.heap.size w (World.setCell wr ⟨w3.heap.size, 0, none⟩ (.int .i64 r)) := hB.setCell (by simp; omega) _
                have hg2 : SlW (World.setCell wr ⟨w3.heap.size, 0, none⟩ (.int .i64 r)) vg y.ws := hg3.below (hB3.setCell (Nat.le_refl _) _) (Nat.le_refl _)
                have hB32 : Below w3.heap.size w3 (World.setCell wr ⟨w3.heap.size, 0, none⟩ (.int .i64 r)) := hB3.setCell (Nat.le_refl _) _
                have ht := H19.out r vg _ hg2
                have hte := term_wr HOKY.out hsr (show r ≤ 60 by omega) hml
                have hev : ever y sn mn r = (termP (Ytndmjginmomfiaa.wr y r) sn mn == never) := rfl
                rw [← hte] at hev
                have HSOME := Lib.hid (show ever y sn mn r = true → RE = 0 ∧ RA = (r : Nat) from fun he => HND.out.some_ r (need_some HOKY.out hml hsr (by omega) he (by
                  by_cases h : r = sn
                  · exact .inl h
                  · exact .inr (HN.out (r - 1) (by omega) (by omega)))))
                have HNEXT := Lib.hid (show ever y sn mn r = false → ∀ j, sn ≤ j → j < r + 1 → ever y sn mn j = false from fun he j h1 h2 => by
                  rcases (show j < r ∨ j = r by omega) with h | rfl
                  · exact HN.out j h1 h
                  · exact he)
                obtain ⟨T, hT⟩ : ∃ T, T = termE (Ytndmjginmomfiaa.wr y r) sn mn := ⟨_, rfl⟩
                rw [← hT] at ht hev
                unfold never at hev
                have hs2 : w3.heap.size ≤ (World.setCell wr ⟨w3.heap.size, 0, none⟩ (.int .i64 r)).heap.size := by rw [World.size_setCell]; have := lt_blk b10; omega
                generalize hws : World.setCell wr ⟨w3.heap.size, 0, none⟩ (.int .i64 r) = ws at *
                clear hT hte
                by_cases hTn : T = 1125899906842624
                · have hTb : (T == 1125899906842624) = true := by simp [hTn]
                  obtain ⟨rE, rA⟩ := HSOME.out (by rw [hev]; exact hTb)
                  have hq1 : (RE == 0) = true := by rw [rE]; rfl
                  have hq2 : (RA == (r : Int)) = true := by rw [rA]; simp
                  clear hev HSOME HNEXT hTn rE rA
                  go_wp2_with (first | (refine wpList_load_blk rfl 31 _ rfl _ rfl b2 Try.underlying31 rfl size31 rfl ?_) | (go_at_call 19; refine ht.mono ?_; rintro e w8 ⟨rfl, hb8⟩) | (go_at_call 14; refine (works_any _).mono ?_; rintro e w9 ⟨rfl, hb9⟩))
                  go_ret
                  exact ⟨rfl, btr (btr hB2 hb8 (Nat.le_refl _)) hb9 (Nat.le_refl _)⟩
                · have hTb : (T == 1125899906842624) = false := by simp [hTn]
                  have HR := Lib.hid (HNEXT.out (by rw [hev]; exact hTb))
                  clear hev HSOME HNEXT hTn
                  go_wp2_with (first | (refine wpList_load_blk rfl 31 _ rfl _ rfl b2 Try.underlying31 rfl size31 rfl ?_) | (go_at_call 19; refine ht.mono ?_; rintro e w8 ⟨rfl, hb8⟩))
                  go_roundw
                  case rel => exact ⟨r + 1, (r : Int), by omega, by omega, by go_num, HR.out, .inl (by omega), btr hB2 hb8 (Nat.le_refl _), blk_keep b2 hb8, btr hB32 hb8 (Nat.le_refl _)⟩
                  case measure => simp [intOf]; omega
              · cases hnd : needV y sn mn with
                | none =>
                  obtain ⟨rE, rA⟩ := HND.out.none_ hnd
                  have q1 : (RE == 21) = true := by rw [rE]; rfl
                  have q2 : (RA == 0) = true := by rw [rA]; rfl
                  clear rE rA hnd
                  go_wp2_with (go_at_call 14; refine (works_any _).mono ?_; rintro e w9 ⟨rfl, hb9⟩)
                  go_ret
                  exact ⟨rfl, btr hB hb9 (Nat.le_refl _)⟩
                | some q =>
                  obtain ⟨rE, rA⟩ := HND.out.some_ q hnd
                  obtain ⟨g1, g2, g3⟩ := need_ge hnd
                  have hqr : r ≤ q := by
                    refine Classical.byContradiction fun hlt => ?_
                    have := HN.out q g1 (by omega)
                    rw [g3] at this; cases this
                  have q1 : (RE == 21) = false := by rw [rE]; rfl
                  have q2 : (RE == 0) = true := by rw [rE]; rfl
                  have q3 : (20 : Int) < RA := by rw [rA]; omega
                  have q4 : (sn : Int) ≤ RA := by rw [rA]; omega
                  clear rE rA hnd
                  go_wp2_with (go_at_call 14; refine (works_any _).mono ?_; rintro e w9 ⟨rfl, hb9⟩)
                  go_ret
                  exact ⟨rfl, btr hB hb9 (Nat.le_refl _)⟩
        · have h0b : (CE == 0) = false := by simp [h0]
          clear c3 h0
          cases sb
          · refine wp_seq_k (fun K hK => ?_)
            have HK := Lib.hid hK; clear hK
            go_wp2_with (first | (refine wpList_load_blk rfl 31 _ rfl _ rfl b10 Try.underlying31 rfl size31 rfl ?_) | (go_at_call 22; refine h22.mono ?_; rintro e w4b ⟨rfl, hb5⟩))
            refine HK.out _ _ ?_; clear HK
            replace hg := hg.below hb5 (Nat.le_refl _)
            replace b1 := blk_keep b1 hb5
            replace b10 := blk_keep b10 hb5
            replace hB := btr hB hb5 (Nat.le_refl _)
            replace hB3 := btr hB3 hb5 (Nat.le_refl _)
            clear hb5
            have h30 := H30.out w4b hB
            refine wp_seq_k (fun K hK => ?_)
            have HK := Lib.hid hK; clear hK
            go_wp2_with (first | (refine wpList_load_blk rfl 24 _ rfl _ rfl b1 Try.underlying24 rfl size24 hy4 ?_) | (go_at_call 30; refine h30.mono ?_; rintro e w5 ⟨rfl, hb5⟩))
            refine HK.out _ _ ?_; clear HK
            replace hg := hg.below hb5 (Nat.le_refl _)
            replace b1 := blk_keep b1 hb5
            replace b10 := blk_keep b10 hb5
            replace hB := btr hB hb5 (Nat.le_refl _)
            replace hB3 := btr hB3 hb5 (Nat.le_refl _)
            clear hb5
            clear h30
            have h22b := H22.out vg w5 hg
            refine wp_seq_k (fun K hK => ?_)
            have HK := Lib.hid hK; clear hK
            go_wp2_with (first | (refine wpList_load_blk rfl 31 _ rfl _ rfl b10 Try.underlying31 rfl size31 rfl ?_) | (go_at_call 22; refine h22b.mono ?_; rintro e w6 ⟨rfl, hb6⟩))
            refine HK.out _ _ ?_; clear HK
            replace hg := hg.below hb6 (Nat.le_refl _)
            replace b1 := blk_keep b1 hb6
            replace b10 := blk_keep b10 hb6
            replace hB := btr hB hb6 (Nat.le_refl _)
            replace hB3 := btr hB3 hb6 (Nat.le_refl _)
            clear hb6
            clear h22b
            have h31 := H31.out vg w6 hg
            refine wp_seq_k (fun K hK => ?_)
            have HK := Lib.hid hK; clear hK
            go_wp2_with (first | (refine wpList_load_blk rfl 31 _ rfl _ rfl b10 Try.underlying31 rfl size31 rfl ?_) | (go_at_call 31; refine h31.mono ?_; rintro e w7 ⟨rfl, hb7⟩))
            refine HK.out _ _ ?_; clear HK
            replace hB := btr hB hb7 (Nat.le_refl _)
            clear h31 hb7
            have q1 : (RA == RA) = true := by simp
            have q2 : (RE == RE) = true := by simp
            go_wp2_with (go_at_call 14; refine (works_any _).mono ?_; rintro e w9 ⟨rfl, hb9⟩)
            go_ret
            exact ⟨rfl, btr hB hb9 (Nat.le_refl _)⟩
          · refine wp_seq_k (fun K hK => ?_)
            have HK := Lib.hid hK; clear hK
            go_wp2
            refine HK.out _ _ ?_; clear HK
            have h30 := H30.out w4 hB
            refine wp_seq_k (fun K hK => ?_)
            have HK := Lib.hid hK; clear hK
            go_wp2_with (first | (refine wpList_load_blk rfl 24 _ rfl _ rfl b1 Try.underlying24 rfl size24 hy4 ?_) | (go_at_call 30; refine h30.mono ?_; rintro e w5 ⟨rfl, hb5⟩))
            refine HK.out _ _ ?_; clear HK
            replace hg := hg.below hb5 (Nat.le_refl _)
            replace b1 := blk_keep b1 hb5
            replace b10 := blk_keep b10 hb5
            replace hB := btr hB hb5 (Nat.le_refl _)
            replace hB3 := btr hB3 hb5 (Nat.le_refl _)
            clear hb5
            clear h30
            have h22b := H22.out vg w5 hg
            refine wp_seq_k (fun K hK => ?_)
            have HK := Lib.hid hK; clear hK
            go_wp2_with (first | (refine wpList_load_blk rfl 31 _ rfl _ rfl b10 Try.underlying31 rfl size31 rfl ?_) | (go_at_call 22; refine h22b.mono ?_; rintro e w6 ⟨rfl, hb6⟩))
            refine HK.out _ _ ?_; clear HK
            replace hg := hg.below hb6 (Nat.le_refl _)
            replace b1 := blk_keep b1 hb6
            replace b10 := blk_keep b10 hb6
            replace hB := btr hB hb6 (Nat.le_refl _)
            replace hB3 := btr hB3 hb6 (Nat.le_refl _)
            clear hb6
            clear h22b
            have h31 := H31.out vg w6 hg
            refine wp_seq_k (fun K hK => ?_)
            have HK := Lib.hid hK; clear hK
            go_wp2_with (first | (refine wpList_load_blk rfl 31 _ rfl _ rfl b10 Try.underlying31 rfl size31 rfl ?_) | (go_at_call 31; refine h31.mono ?_; rintro e w7 ⟨rfl, hb7⟩))
            refine HK.out _ _ ?_; clear HK
            replace hB := btr hB hb7 (Nat.le_refl _)
            clear h31 hb7
            have q1 : (RA == RA) = true := by simp
            have q2 : (RE == RE) = true := by simp
            go_wp2_with (go_at_call 14; refine (works_any _).mono ?_; rintro e w9 ⟨rfl, hb9⟩)
            go_ret
            exact ⟨rfl, btr hB hb9 (Nat.le_refl _)⟩
end Ytndmjginmomfiaa
end Go.Proofs
