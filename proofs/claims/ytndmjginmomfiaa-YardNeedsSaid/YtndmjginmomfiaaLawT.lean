/- The law YardTables returns true. -/
import Derived.Test.YtndmjginmomfiaaLawO
import Derived.Test.YtndmjginmomfiaaR7
open Go Go.RowKit Go.YtndmjginmomfiaaIt
namespace Go.Proofs
namespace Ytndmjginmomfiaa
def tabQ (y : Yd) : List (List Int) := if chkE y = 0 then tabP y else []
theorem slII_nil (w : World) : SlII w (.slice none 0 0) [] := ⟨[], ⟨none, 0, rfl, by simp, by simp, fun h => by simp at h⟩, rfl, fun i hi => by simp at hi⟩
theorem table_u (y : Yd) (v : Value) (w : World) (hw : SlW w v y.ws) :
    Calls Try.prog 16 #[.agg (encY y v)] w fun e w' => ∃ u, e = .returned (.tuple #[u, .int .i64 (chkE y)]) ∧ SlII w' u (tabQ y) ∧ Below w.heap.size w w' := by
  refine (table_any y v w hw).mono ?_
  rintro e w' ⟨hb, ⟨h, rfl⟩ | ⟨h, u, rfl, hu⟩⟩
  · exact ⟨_, rfl, by unfold tabQ; rw [if_neg h]; exact slII_nil _, hb⟩
  · exact ⟨u, by rw [h], by unfold tabQ; rw [if_pos h]; exact hu, hb⟩
theorem rtable_u (y : Yd) (v : Value) (w : World) (hw : SlW w v y.ws) :
    Calls Try.prog 17 #[.agg (encY y v)] w fun e w' => ∃ u, e = .returned (.tuple #[u, .int .i64 (chkE y)]) ∧ SlII w' u (tabQ y) ∧ Below w.heap.size w w' := by
  refine (rtable_any y v w hw).mono ?_
  rintro e w' ⟨hb, ⟨h, rfl⟩ | ⟨h, u, rfl, hu⟩⟩
  · exact ⟨_, rfl, by unfold tabQ; rw [if_neg h]; exact slII_nil _, hb⟩
  · exact ⟨u, by rw [h], by unfold tabQ; rw [if_pos h]; exact hu, hb⟩
theorem encY_one {W : World} {v : Value} {y : Yd} (h : SlW W v y.ws) : (encY y v).all (·.oneCell') = true := by obtain ⟨ad, cap, rfl, -⟩ := h; simp [encY, Value.oneCell']
set_option maxRecDepth 100000 in
set_option maxHeartbeats 4000000 in
theorem yardTables_any (y : Yd) (v : Value) (s m : Int) (vt : Value) (tab : List (List Int)) (w : World) (hw : SlW w v y.ws) (ht : SlII w vt tab) :
    Calls Try.prog 3 #[.agg (encY y v), .int .i64 s, .int .i64 m, vt] w fun e w' => e = .returned (.bool true) ∧ Below w.heap.size w w' := by
  have hy4 : (encY y v).size = 4 := rfl
  have H13 := Lib.hid (fun W (hW : Below w.heap.size w W) => large_any y v W (hw.below hW (Nat.le_refl _)))
  have H16 := Lib.hid (fun W (hW : Below w.heap.size w W) => table_u y v W (hw.below hW (Nat.le_refl _)))
  have H18 := Lib.hid (fun W (hW : Below w.heap.size w W) => termX_any y v s m W (hw.below hW (Nat.le_refl _)))
  have H21 := Lib.hid (fun W (hW : Below w.heap.size w W) => check_any y v W (hw.below hW (Nat.le_refl _)))
  have H23 := Lib.hid (fun W (hW : Below w.heap.size w W) => verify_any y v tab vt W (hw.below hW (Nat.le_refl _)) (ht.below hW (Nat.le_refl _)))
  have H15 := Lib.hid (fun W (hl : y.ws.length ≤ 20) (hW : Below w.heap.size w W) => given_any y v W (hw.below hW (Nat.le_refl _)) hl)
  have H17 := Lib.hid (fun u W (hu : SlW W u y.ws) => rtable_u y u W hu)
  have H19 := Lib.hid (fun u W (hu : SlW W u y.ws) => rterm_any y u s m W hu)
  have H22 := Lib.hid (fun u W (hu : SlW W u y.ws) => rcheck_any y u W hu)
  have H24 := Lib.hid (fun u W (hW : Below w.heap.size w W) (hu : SlW W u y.ws) => rverify_any y u tab vt W hu (ht.below hW (Nat.le_refl _)))
  have HNL := Lib.hid (fun h => not_large (y := y) h)
  generalize largeB y = lb at *
  generalize tabQ y = TQ at *
  generalize verE y tab = VE at *
  generalize chkE y = CE at *
  generalize termE y s m = TE at *
  generalize stE y s m = SE at *
  obtain ⟨ad, cap, rfl, hmx, hcp, hop⟩ := ht.opened
  have HOP := Lib.hid hop
  clear hw ht hop
  go_enter Try.func3, Try.ntmps3
  refine wp_seq_k (fun K hK => ?_)
  have HK := Lib.hid hK; clear hK
  go_wp2
  refine HK.out _ _ ?_; clear HK K
  generalize hw1 : World.alloc _ _ = w1
  obtain ⟨b1, hB, hs1⟩ := blk1 hw1
  clear hw1
  have h13 := H13.out w1 hB
  cases lb
  rotate_left
  · go_wp2_with (first | (refine wpList_load_blk rfl 24 _ rfl _ rfl b1 Try.underlying24 rfl size24 hy4 ?_) | (go_at_call 13; refine h13.mono ?_; rintro e w2 ⟨rfl, hb2⟩) | (go_at_call 14; refine (works_any _).mono ?_; rintro e w3 ⟨rfl, hb3⟩))
    go_ret
    exact ⟨rfl, btr (btr hB hb2 (Nat.le_refl _)) hb3 (Nat.le_refl _)⟩
  have hl := HNL.out rfl
  by_cases hbig : 20 < tab.length
  · have hbi : (20 : Int) < (tab.length : Int) := by omega
    go_wp2_with (first | (refine wpList_load_blk rfl 24 _ rfl _ rfl b1 Try.underlying24 rfl size24 hy4 ?_) | (go_at_call 13; refine h13.mono ?_; rintro e w2 ⟨rfl, hb2⟩) | (go_at_call 14; refine (works_any _).mono ?_; rintro e w3 ⟨rfl, hb3⟩))
    go_ret
    exact ⟨rfl, btr (btr hB hb2 (Nat.le_refl _)) hb3 (Nat.le_refl _)⟩
  have hbi : ¬ (20 : Int) < (tab.length : Int) := by omega
  refine wp_seq_k (fun K hK => ?_)
  have HK := Lib.hid hK; clear hK
  go_wp2_with (first | (refine wpList_load_blk rfl 24 _ rfl _ rfl b1 Try.underlying24 rfl size24 hy4 ?_) | (go_at_call 13; refine h13.mono ?_; rintro e w2 ⟨rfl, hb2⟩))
  refine HK.out _ _ ?_; clear HK K
  replace b1 := blk_keep b1 hb2
  replace hB := btr hB hb2 (Nat.le_refl _)
  clear hb2 h13 hs1 hbig
  refine wp_seq_k (fun K hK => ?_)
  have HK := Lib.hid hK; clear hK
  go_wp2
  go_loopw [9] (fun i wr => ∃ k : Nat, k ≤ tab.length ∧ i = .int .i64 k ∧ wr = w2) (fun i _ => tab.length - (intOf i).toNat)
  case atStart => exact ⟨0, Nat.zero_le _, rfl, rfl⟩
  case round =>
    obtain ⟨k, hk, rfl, rfl⟩ := hrel
    by_cases hkn : k < tab.length
    · obtain ⟨b, off, ad2, cap2, rfl, hlt, hcell, -⟩ := HOP.out k hkn
      have hc0 := (hB.cell (p := ⟨b, off + k, none⟩) hlt).trans hcell
      by_cases h80 : (80 : Int) < ((tabR tab k).length : Int)
      · go_wp2_with (go_at_call 14; refine (works_any _).mono ?_; rintro e w3 ⟨rfl, hb3⟩)
        go_ret
        exact ⟨rfl, btr hB hb3 (Nat.le_refl _)⟩
      · go_wp2
        go_roundw
        case rel => exact ⟨k + 1, by omega, by go_num, trivial⟩
        case measure => simp [intOf]; omega
    · go_wp2
      refine HK.out _ _ ?_; clear HK
      have h15 := H15.out wr hl hB
      refine wp_seq_k (fun K hK => ?_)
      have HK := Lib.hid hK; clear hK
      go_wp2_with (first | (refine wpList_load_blk rfl 24 _ rfl _ rfl b1 Try.underlying24 rfl size24 hy4 ?_) | (go_at_call 15; refine h15.mono ?_; rintro e w3 ⟨vg, rfl, hg, hb3⟩; have hone := encY_one hg; have hgy : (encY y vg).size = 4 := rfl) | (refine wpList_store_blk rfl 31 _ _ rfl _ rfl rfl (heap_newI rfl) size31 hgy rfl hone ?_))
      refine HK.out _ _ ?_; clear HK K
      have hbA : Below w3.heap.size w3 (w3.alloc (.cells #[.int .i64 0, .int .i64 0, .int .i64 0, .slice none 0 0] 31)) := (Below.refl _ _).alloc (Nat.le_refl _) _
      generalize hw4 : World.putObj _ _ _ = w4
      have b10 : w4.heap[w3.heap.size]? = some (.cells (encY y vg) 31 (0, 0)) := by rw [← hw4]; exact World.putObj_heap_same (by rw [World.size_alloc]; omega)
      have hb4 : Below w3.heap.size w3 w4 := by rw [← hw4]; exact below_putObj hbA (Nat.le_refl _)
      clear hw4 hbA h15 hone hgy
      replace b1 := blk_keep (blk_keep b1 hb3) hb4
      replace hB := btr (btr hB hb3 (Nat.le_refl _)) hb4 (Nat.le_refl _)
      replace hg := hg.below hb4 (Nat.le_refl _)
      clear hb3 hb4
      have h16 := H16.out w4 hB
      refine wp_seq_k (fun K hK => ?_)
      have HK := Lib.hid hK; clear hK
      go_wp2_with (first | (refine wpList_load_blk rfl 24 _ rfl _ rfl b1 Try.underlying24 rfl size24 hy4 ?_) | (go_at_call 16; refine h16.mono ?_; rintro e w5 ⟨u1, rfl, hu1, hb5⟩))
      refine HK.out _ _ ?_; clear HK K
      replace hg := hg.below hb5 (Nat.le_refl _)
      replace b1 := blk_keep b1 hb5
      replace b10 := blk_keep b10 hb5
      replace hB := btr hB hb5 (Nat.le_refl _)
      clear hb5
      have h17 := H17.out vg w5 hg
      refine wp_seq_k (fun K hK => ?_)
      have HK := Lib.hid hK; clear hK
      go_wp2_with (first | (refine wpList_load_blk rfl 31 _ rfl _ rfl b10 Try.underlying31 rfl size31 rfl ?_) | (go_at_call 17; refine h17.mono ?_; rintro e w6 ⟨u2, rfl, hu2, hb6⟩))
      refine HK.out _ _ ?_; clear HK K
      replace hg := hg.below hb6 (Nat.le_refl _)
      replace hu1 := hu1.below hb6 (Nat.le_refl _)
      replace b1 := blk_keep b1 hb6
      replace b10 := blk_keep b10 hb6
      replace hB := btr hB hb6 (Nat.le_refl _)
      clear hb6
      have h18 := H18.out w6 hB
      refine wp_seq_k (fun K hK => ?_)
      have HK := Lib.hid hK; clear hK
      go_wp2_with (first | (refine wpList_load_blk rfl 24 _ rfl _ rfl b1 Try.underlying24 rfl size24 hy4 ?_) | (go_at_call 18; refine h18.mono ?_; rintro e w7 ⟨rfl, hb7⟩))
      refine HK.out _ _ ?_; clear HK K
      replace hg := hg.below hb7 (Nat.le_refl _)
      replace hu1 := hu1.below hb7 (Nat.le_refl _)
      replace hu2 := hu2.below hb7 (Nat.le_refl _)
      replace b1 := blk_keep b1 hb7
      replace b10 := blk_keep b10 hb7
      replace hB := btr hB hb7 (Nat.le_refl _)
      clear hb7
      have h19 := H19.out vg w7 hg
      refine wp_seq_k (fun K hK => ?_)
      have HK := Lib.hid hK; clear hK
      go_wp2_with (first | (refine wpList_load_blk rfl 31 _ rfl _ rfl b10 Try.underlying31 rfl size31 rfl ?_) | (go_at_call 19; refine h19.mono ?_; rintro e w8 ⟨rfl, hb8⟩))
      refine HK.out _ _ ?_; clear HK K
      replace hg := hg.below hb8 (Nat.le_refl _)
      replace hu1 := hu1.below hb8 (Nat.le_refl _)
      replace hu2 := hu2.below hb8 (Nat.le_refl _)
      replace b1 := blk_keep b1 hb8
      replace b10 := blk_keep b10 hb8
      replace hB := btr hB hb8 (Nat.le_refl _)
      clear hb8
      clear h16 h17 h18 h19
      have hl1 := lt_blk b1
      have hl2 := lt_blk b10
      have hb8 := hB.size
      have e20 := fun (x : Ab w8.heap.size w8) => tables_any u1 u2 TQ TQ x.val (hu1.below x.ok (Nat.le_refl _)) (hu2.below x.ok (Nat.le_refl _))
      rw [show decide (TQ = TQ) = true by simp] at e20
      have e21 := fun (x : Ab w8.heap.size w8) => H21.out x.val (hB.trans (x.ok.mono hb8))
      have e22 := fun (x : Ab w8.heap.size w8) => H22.out vg x.val (hg.below x.ok (Nat.le_refl _))
      have e23 := fun (x : Ab w8.heap.size w8) => H23.out x.val (hB.trans (x.ok.mono hb8))
      have e24 := fun (x : Ab w8.heap.size w8) => H24.out vg x.val (hB.trans (x.ok.mono hb8)) (hg.below x.ok (Nat.le_refl _))
      have e14 := fun (x : Ab w8.heap.size w8) => works_any x.val
      have q1 : (CE == CE) = true := by simp
      have q2 : (TE == TE) = true := by simp
      have q3 : (SE == SE) = true := by simp
      have q4 : (VE == VE) = true := by simp
      refine wp_seq_k (fun K hK => ?_)
      have HK := Lib.hid hK; clear hK
      refine wp_region_ab w8.heap.size w8 (by kernel_rfl) (by kernel_rfl) (Below.refl _ _) ?_
      unfold AbC
      repeat (first
        | (refine wpQuiet_load_blk rfl 24 _ rfl w.heap.size rfl (fun W ⟨x, hx⟩ => by rw [hx]; exact blk_below b1 x.ok hl1) Try.underlying24 rfl size24 hy4 ?_; simp only [Act.put, List.setIfInBounds_toArray, List.set_cons_zero, List.set_cons_succ])
        | (refine wpQuiet_load_blk rfl 31 _ rfl w3.heap.size rfl (fun W ⟨x, hx⟩ => by rw [hx]; exact blk_below b10 x.ok hl2) Try.underlying31 rfl size31 rfl ?_; simp only [Act.put, List.setIfInBounds_toArray, List.set_cons_zero, List.set_cons_succ])
        | (go_big_quiet_step (first | (go_at_call 20; exact Calls.ab _ (Nat.le_refl _) (e20 _)) | (go_at_call 21; exact Calls.ab _ (Nat.le_refl _) (e21 _)) | (go_at_call 22; exact Calls.ab _ (Nat.le_refl _) (e22 _)) | (go_at_call 23; exact Calls.ab _ (Nat.le_refl _) (e23 _)) | (go_at_call 24; exact Calls.ab _ (Nat.le_refl _) (e24 _)) | (go_at_call 14; exact Calls.ab _ (Nat.le_refl _) (e14 _)))))
      refine wpQuiet_nil ?_
      rintro W' ⟨z, rfl⟩
      have hz := hB.trans (z.ok.mono hb8)
      refine HK.out _ _ ?_; clear HK
      go_wp2
      go_ret
      exact ⟨rfl, hz⟩
end Ytndmjginmomfiaa
end Go.Proofs
