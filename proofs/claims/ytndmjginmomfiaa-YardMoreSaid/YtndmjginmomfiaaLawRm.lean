/- The law YardRoom returns true. -/
import Derived.Test.YtndmjginmomfiaaPlRoom
open Go Go.RowKit Go.YtndmjginmomfiaaIt
namespace Go.Proofs
namespace Ytndmjginmomfiaa
theorem info62 : (Try.prog.info? 62).map (·.size) = some 4 := by kernel_rfl
set_option maxRecDepth 100000 in
set_option maxHeartbeats 8000000 in
theorem yardRoom_any (r m l : Int) (u : Value) (qs : List Q4) (st we : Int) (w : World) (hr : (0 ≤ r ∧ r < 256) ∧ (0 ≤ m ∧ m < 256) ∧ (0 ≤ l ∧ l < 256)) (hq : ∀ q ∈ qs, q.ok) (hu : SlQ w u qs) (hs : 0 ≤ st ∧ st < 256) (hm : 0 ≤ we ∧ we < 256) :
    Calls Try.prog 12 #[encP r m l u, .int .u8 st, .int .u8 we] w fun e w' => e = .returned (.bool true) ∧ Below w.heap.size w w' := by
  have hp4 : #[Value.int .u8 r, .int .u8 m, .int .u8 l, u].size = 4 := rfl
  have HM := Lib.hid (fun W (hW : Below w.heap.size w W) => made_any r m l u qs W hr.1 hr.2.1 hr.2.2 hq (hu.below (w' := W) hW (Nat.le_refl _)))
  obtain ⟨ad, cap, rfl, -, -, -⟩ := hu
  clear hr hq
  unfold encP at *
  have hmf := hmf
  go_enter Try.func12, Try.ntmps12
  refine wp_seq_k (fun K hK => ?_)
  have HK := Lib.hid hK; clear hK
  go_wp2
  refine HK.out _ _ ?_; clear HK K
  generalize hw1 : World.alloc _ _ = w1
  obtain ⟨b1, hB, hs1⟩ := blk1 hw1
  clear hw1
  have h32 := HM.out w1 hB
  refine wp_seq_k (fun K hK => ?_)
  have HK := Lib.hid hK; clear hK
  go_wp2_with (first | (refine wpList_load_blk rfl 62 _ rfl _ rfl b1 Try.underlying62 rfl info62 hp4 ?_) | (go_at_call 32; refine h32.mono ?_; rintro e w2 ⟨y, v, rfl, hw, hy, hb2⟩; have hy4 : (encY y v).size = 4 := rfl; have ho1 : (encY y v).all (·.oneCell') = true := (by obtain ⟨ad, cap, rfl, -⟩ := hw; simp [encY, Value.oneCell']) ) | (refine wpList_store_blk rfl 24 _ _ rfl _ rfl rfl (heap_newI rfl) size24 hy4 rfl ho1 ?_))
  refine HK.out _ _ ?_; clear HK K
  have b1' := blk_keep b1 hb2
  have hB2 := btr hB hb2 (Nat.le_refl _)
  clear h32 b1
  generalize hwA : World.putObj _ _ _ = wA
  have b7 : wA.heap[w2.heap.size]? = some (.cells (encY y v) 24 (0, 0)) := by rw [← hwA]; exact World.putObj_heap_same (by rw [World.size_alloc]; omega)
  have hBA : Below w2.heap.size w2 wA := by rw [← hwA]; exact below_putObj ((Below.refl _ _).alloc (Nat.le_refl _) _) (Nat.le_refl _)
  clear hwA
  have hw' := hw.below hBA (Nat.le_refl _)
  have hB3 := btr hB2 hBA (Nat.le_refl _)
  clear hw hB hb2 hB2 hBA b1' hp4 hs1 HM
  generalize w2.heap.size = n7 at *
  have hlA := lt_blk b7
  have HW := Lib.hid hw'
  obtain ⟨av, cv, rfl, -, -, -⟩ := hw'
  have hn1 := hy.ok.n0
  have hn2 := hy.n
  have HY := Lib.hid hy
  obtain ⟨nw, hnw⟩ : ∃ nw, nw = y.ws.length := ⟨_, rfl⟩
  have HN := Lib.hid hnw
  have hE00 : ¬ nw = 0 := by omega
  have hE0 := Lib.hid hE00
  clear hE00
  simp only [encY] at b7 ho1 hy4 ⊢
  rw [← hnw] at b7 hn1 hn2 ⊢
  clear hnw hy
  have hS : wA.cell? ⟨n7, 3, none⟩ = some (.slice av nw cv) := cell_blk (i := 3) b7
  refine wp_seq_k (fun K hK => ?_)
  have HK := Lib.hid hK; clear hK
  refine wp_region_held (S := fun U => U.cell? ⟨n7, 3, none⟩ = some (.slice av nw cv)) (by kernel_rfl) ?_
  change wpAnyH _ _ _ _ _ _ _ _ (World.drew wA)
  refine wpAnyH_take (i := 0) (oi := { dst := some 15, op := _, type := _, pos := _, after := _, guard := none }) (v := ?_) rfl (by kernel_rfl) (by kernel_rfl) (by kernel_rfl) (fun _ _ _ h => h) (Or.inl ⟨by rfl, ?_⟩) hS ?_
  rotate_left
  · intro U hU
    go_simp
    all_goals with_reducible rfl
  simp only [Act.put, List.setIfInBounds_toArray, List.set_cons_zero, List.set_cons_succ]
  refine wpAnyH_take (i := 1) (oi := { dst := some 16, op := _, type := _, pos := _, after := _, guard := none }) (v := ?_) rfl (by kernel_rfl) (by kernel_rfl) (by kernel_rfl) (fun _ _ _ h => h) (Or.inl ⟨by rfl, ?_⟩) hS ?_
  rotate_left
  · intro U hU
    go_simp
    all_goals with_reducible rfl
  simp only [Act.put, List.setIfInBounds_toArray, List.set_cons_zero, List.set_cons_succ]
  refine wpAnyH_take (i := 2) (oi := { dst := some 17, op := _, type := _, pos := _, after := _, guard := none }) (v := ?_) rfl (by kernel_rfl) (by kernel_rfl) (by kernel_rfl) (fun _ _ _ h => h) (Or.inl ⟨by rfl, ?_⟩) hS ?_
  rotate_left
  · intro U hU
    go_simp
    all_goals with_reducible rfl
  simp only [Act.put, List.setIfInBounds_toArray, List.set_cons_zero, List.set_cons_succ]
  refine wpAnyH_take (i := 3) (oi := { dst := some 18, op := _, type := _, pos := _, after := _, guard := none }) (v := ?_) rfl (by kernel_rfl) (by kernel_rfl) (by kernel_rfl) (fun _ _ _ h => h) (Or.inl ⟨by rfl, ?_⟩) hS ?_
  rotate_left
  · intro U hU
    go_simp
    all_goals with_reducible rfl
  simp only [Act.put, List.setIfInBounds_toArray, List.set_cons_zero, List.set_cons_succ]
  refine wpAnyH_take (i := 4) (oi := { dst := some 19, op := _, type := _, pos := _, after := _, guard := none }) (v := ?_) rfl (by kernel_rfl) (by kernel_rfl) (by kernel_rfl) (fun _ _ _ h => h) (Or.inl ⟨by rfl, ?_⟩) hS ?_
  rotate_left
  · intro U hU
    go_simp
    all_goals with_reducible rfl
  simp only [Act.put, List.setIfInBounds_toArray, List.set_cons_zero, List.set_cons_succ]
  refine wpAnyH_take (i := 5) (oi := { dst := some 20, op := _, type := _, pos := _, after := _, guard := none }) (v := ?_) rfl (by kernel_rfl) (by kernel_rfl) (by kernel_rfl) (fun _ _ _ h => h) (Or.inl ⟨by rfl, ?_⟩) hS ?_
  rotate_left
  · intro U hU
    go_simp
    all_goals with_reducible rfl
  simp only [Act.put, List.setIfInBounds_toArray, List.set_cons_zero, List.set_cons_succ]
  refine wpAnyH_take (i := 6) (oi := { dst := some 21, op := _, type := _, pos := _, after := _, guard := none }) (v := ?_) rfl (by kernel_rfl) (by kernel_rfl) (by kernel_rfl) (fun _ _ _ h => h) (Or.inl ⟨by rfl, ?_⟩) hS ?_
  rotate_left
  · intro U hU
    go_simp
    all_goals with_reducible rfl
  simp only [Act.put, List.setIfInBounds_toArray, List.set_cons_zero, List.set_cons_succ]
  refine wpAnyH_take (i := 7) (oi := { dst := some 22, op := _, type := _, pos := _, after := _, guard := none }) (v := ?_) rfl (by kernel_rfl) (by kernel_rfl) (by kernel_rfl) (fun _ _ _ h => h) (Or.inl ⟨by rfl, ?_⟩) hS ?_
  rotate_left
  · intro U hU
    go_simp
    all_goals with_reducible rfl
  simp only [Act.put, List.setIfInBounds_toArray, List.set_cons_zero, List.set_cons_succ]
  refine wpAnyH_take (i := 8) (oi := { dst := some 23, op := _, type := _, pos := _, after := _, guard := none }) (v := ?_) rfl (by kernel_rfl) (by kernel_rfl) (by kernel_rfl) (fun _ _ _ h => h) (Or.inl ⟨by rfl, ?_⟩) hS ?_
  rotate_left
  · intro U hU
    go_simp
    rw [if_neg hE0.out]
    all_goals with_reducible rfl
  simp only [Act.put, List.setIfInBounds_toArray, List.set_cons_zero, List.set_cons_succ]
  simp only [bwq hs, bwq hm, bt _ hs, bt _ hm]
  obtain ⟨sn, hsn⟩ : ∃ sn : Nat, (sn : Int) = st % 10 := ⟨(st % 10).toNat, by omega⟩
  have hs9 : sn ≤ 9 := by omega
  have hwn := Int.emod_nonneg we (show ((nw : Nat) : Int) ≠ 0 by omega)
  have hwl := Int.emod_lt_of_pos we (show (0 : Int) < ((nw : Nat) : Int) by omega)
  obtain ⟨mn, hmn⟩ : ∃ mn : Nat, (mn : Int) = we % nw := ⟨(we % nw).toNat, by omega⟩
  have hmN : mn < nw := by omega
  rw [← hsn, ← hmn]
  clear hsn hwn hwl hmn hs hm
  refine wpAnyH_ready (rs := [9, 10]) (by kernel_rfl) (by simp) ?_
  refine AllReadyH.cons (o := { dst := some 8, op := _, type := _, pos := _, after := _, guard := none }) rfl (fun K1 hK1 => ?_) ?_
  · rw [if_pos (by rfl)]
    have HK1 := Lib.hid hK1; clear hK1
    go_simp
    have hS1 : (wA.alloc (.cells #[.int .i64 0] 3)).drew.cell? ⟨n7, 3, none⟩ = some (.slice av nw cv) := cell_blk (i := 3) ((heap_oldI hlA).trans b7)
    refine HK1.out _ _ hS1 ?_
    clear HK1 K1
    intro _
    refine wpAnyH_one (i := 10) (o := { dst := some 9, op := _, type := _, pos := _, after := _, guard := none }) (by kernel_rfl) rfl (by rfl) (fun K1 hK1 => ?_)
    have HK1 := Lib.hid hK1; clear hK1
    go_simp
    generalize hwB : World.alloc (World.alloc wA _) _ = wB
    obtain ⟨b8, b9, hBB, hsB⟩ := blk2 hwB
    clear hwB
    have k7 : wB.drew.heap[n7]? = some (.cells #[.int .i64 y.room, .int .i64 y.most, .int .i64 y.lots, .slice av nw cv] 24 (0, 0)) := blk_keep b7 hBB.drew
    have k8 : wB.drew.heap[wA.heap.size]? = some (.cells #[.int .i64 0] 3 (0, 0)) := b8
    have k9 : wB.drew.heap[wA.heap.size + 1]? = some (.cells #[.int .i64 0] 3 (0, 0)) := b9
    have hBD : Below w.heap.size w wB.drew := (btr hB3 hBB (Nat.le_refl _)).drew
    have hBX : Below wA.heap.size wA wB.drew := hBB.drew
    clear b8 b9 hBB hS1
    generalize World.drew wB = wC at *
    have hS2 : wC.cell? ⟨n7, 3, none⟩ = some (.slice av nw cv) := cell_blk (i := 3) k7
    refine HK1.out _ _ hS2 ?_
    clear HK1 K1
    have hwA := hB3.size
    have hn7 : n7 ≠ wA.heap.size := by omega
    have hn8 : n7 ≠ wA.heap.size + 1 := by omega
    have hn9 : w.heap.size ≤ wA.heap.size + 1 := by omega
    have hn10 : wA.heap.size ≠ wA.heap.size + 1 := by omega
    have hn11 : wA.heap.size + 1 ≠ wA.heap.size := by omega
    obtain ⟨bs, hbs⟩ : ∃ bs, bs = wA.heap.size := ⟨_, rfl⟩
    obtain ⟨bm, hbm⟩ : ∃ bm, bm = wA.heap.size + 1 := ⟨_, rfl⟩
    rw [← hbm, ← hbs]
    have c8 : wC.heap[bs]? = some (.cells #[.int .i64 0] 3 (0, 0)) := by rw [hbs]; first | exact k8 | exact k9
    have c9 : wC.heap[bm]? = some (.cells #[.int .i64 0] 3 (0, 0)) := by rw [hbm]; first | exact k8 | exact k9
    have hd1 : n7 ≠ bs := by rw [hbs]; omega
    have hd2 : n7 ≠ bm := by rw [hbm]; omega
    have hd3 : bs ≠ bm := by rw [hbs, hbm]; omega
    have hd4 : w.heap.size ≤ bs := by rw [hbs]; omega
    have hd5 : w.heap.size ≤ bm := by rw [hbm]; omega
    have hd6 : wA.heap.size ≤ bs := by rw [hbs]; omega
    have hd7 : wA.heap.size ≤ bm := by rw [hbm]; omega
    clear hbs hbm k8 k9 hn7 hn8 hn9 hn10 hn11 hwA hlA b7 hB3 hS
    have c8c := cell_blk (i := 0) c8
    have c8f := free_blk (i := 0) c8
    have c8l := lt_blk c8
    simp only [List.getElem?_toArray, List.getElem?_cons_zero] at c8c
    refine wpAnyH_one (i := 11) (o := { dst := none, op := _, type := _, pos := _, after := _, guard := none }) (by kernel_rfl) rfl (by rfl) (fun K1 hK1 => ?_)
    have HK1 := Lib.hid hK1; clear hK1
    go_simp
    generalize hwD : World.setCell wC _ _ = wD
    replace k7 : wD.heap[n7]? = some (.cells #[.int .i64 y.room, .int .i64 y.most, .int .i64 y.lots, .slice av nw cv] 24 (0, 0)) := by rw [← hwD]; exact (heap_set_other hd1).trans k7
    have e8 : wD.heap[bs]? = some (.cells #[.int .i64 sn] 3 (0, 0)) := by rw [← hwD, heap_set_blk c8]; rfl
    replace c9 : wD.heap[bm]? = some (.cells #[.int .i64 0] 3 (0, 0)) := by rw [← hwD]; exact (heap_set_other (Ne.symm hd3)).trans c9
    replace hBD : Below w.heap.size w wD := by rw [← hwD]; exact hBD.setCell (p := ⟨bs, 0, none⟩) hd4 _
    replace hBX : Below wA.heap.size wA wD := by rw [← hwD]; exact hBX.setCell (p := ⟨bs, 0, none⟩) hd6 _
    have hS3 : wD.cell? ⟨n7, 3, none⟩ = some (.slice av nw cv) := cell_blk (i := 3) k7
    clear c8c c8f c8l c8 hwD hS2
    refine HK1.out _ _ hS3 ?_
    clear HK1 K1
    have c9c := cell_blk (i := 0) c9
    have c9f := free_blk (i := 0) c9
    have c9l := lt_blk c9
    simp only [List.getElem?_toArray, List.getElem?_cons_zero] at c9c
    refine wpAnyH_one (i := 12) (o := { dst := none, op := _, type := _, pos := _, after := _, guard := none }) (by kernel_rfl) rfl (by rfl) (fun K1 hK1 => ?_)
    have HK1 := Lib.hid hK1; clear hK1
    go_simp
    generalize hwE : World.setCell wD _ _ = wE
    replace k7 : wE.heap[n7]? = some (.cells #[.int .i64 y.room, .int .i64 y.most, .int .i64 y.lots, .slice av nw cv] 24 (0, 0)) := by rw [← hwE]; exact (heap_set_other hd2).trans k7
    replace e8 : wE.heap[bs]? = some (.cells #[.int .i64 sn] 3 (0, 0)) := by rw [← hwE]; exact (heap_set_other hd3).trans e8
    have e9 : wE.heap[bm]? = some (.cells #[.int .i64 mn] 3 (0, 0)) := by rw [← hwE, heap_set_blk c9]; rfl
    replace hBD : Below w.heap.size w wE := by rw [← hwE]; exact hBD.setCell (p := ⟨bm, 0, none⟩) hd5 _
    replace hBX : Below wA.heap.size wA wE := by rw [← hwE]; exact hBX.setCell (p := ⟨bm, 0, none⟩) hd7 _
    have hS4 : wE.cell? ⟨n7, 3, none⟩ = some (.slice av nw cv) := cell_blk (i := 3) k7
    clear c9c c9f c9l c9 hwE hS3
    refine HK1.out _ _ hS4 ?_
    clear HK1 K1
    refine wpAnyH_done (by kernel_rfl) ?_ _
    have HWE := Lib.hid (HW.out.below hBX (Nat.le_refl _))
    clear hS4 hBX hd1 hd2 hd3 hd4 hd5 hd6 hd7 HW
    refine HK.out _ _ ?_; clear HK
    have rr := room_r HY.out.ok hs9 (by rw [← HN.out]; exact hmN)
    have k7y : wE.heap[n7]? = some (.cells (encY y (.slice av y.ws.length cv)) 24 (0, 0)) := by rw [← HN.out]; exact k7
    have H30 := need_any y (.slice av y.ws.length cv) sn mn wE HWE.out
    have HEV := Lib.hid (fun W q (hW : Below wE.heap.size wE W) => ever38_any y (.slice av y.ws.length cv) q sn mn n7 bs bm W (HWE.out.below hW (Nat.le_refl _)) (blk_keep k7y hW) (blk_keep e8 hW) (blk_keep e9 hW))
    simp only [encY] at H30
    rw [← HN.out] at H30
    clear k7y HWE HY
    unfold RoomR at rr
    have HS := Lib.hid hs9
    clear hs9
    generalize needR y sn mn = R at *
    generalize needE y sn mn = E at *
    have c8 := cell_blk (i := 0) e8
    have c9 := cell_blk (i := 0) e9
    simp only [List.getElem?_toArray, List.getElem?_cons_zero] at c8 c9
    refine wp_seq_k (fun K hK => ?_)
    have HK := Lib.hid hK; clear hK
    go_wp2_with (first | (refine wpList_load_blk rfl 24 _ rfl _ rfl k7 Try.underlying24 rfl size24 rfl ?_) | (go_at_call 30; refine H30.mono ?_; rintro e w5 ⟨rfl, hb5⟩))
    refine HK.out _ _ ?_; clear HK
    have hBF := btr hBD hb5 (Nat.le_refl _)
    replace k7 := blk_keep k7 hb5
    replace e8 := blk_keep e8 hb5
    clear H30 c8 c9
    rcases rr with ⟨hE, hR, hv1, hv2⟩ | ⟨hE, n, hR, hr1, hr2, hr3, hr4, hr5, hr6⟩
    · subst hE hR
      have HV1 := Lib.hid (And.intro hv1 hv2)
      clear hv1 hv2
      refine wp_seq_k (fun K hK => ?_)
      have HK := Lib.hid hK; clear hK
      go_wp2
      refine HK.out _ _ ?_; clear HK
      go_wp2_with fail
      refine (HEV.out w5 60 hb5).mono ?_
      rintro e w6 ⟨rfl, hb6⟩
      rw [HV1.out.1]
      have hbE6 := btr hb5 hb6 (Nat.le_refl _)
      go_wp2_with fail
      refine (HEV.out w6 25 hbE6).mono ?_
      rintro e w7 ⟨rfl, hb7⟩
      rw [HV1.out.2]
      go_wp2_with fail
      refine (works_any _).mono ?_
      rintro e w8 ⟨rfl, hb8⟩
      go_wp2_with fail
      go_ret
      exact ⟨rfl, btr (btr (btr hBF hb6 (Nat.le_refl _)) hb7 (Nat.le_refl _)) hb8 (Nat.le_refl _)⟩
    · subst hE hR
      have HV := Lib.hid (And.intro hr3 (And.intro hr4 (And.intro hr5 hr6)))
      clear hr3 hr4 hr5 hr6
      refine wp_seq_k (fun K hK => ?_)
      have HK := Lib.hid hK; clear hK
      go_wp2
      refine HK.out _ _ ?_; clear HK
      refine wp_seq_k (fun K hK => ?_)
      have HK := Lib.hid hK; clear hK
      go_wp2
      refine HK.out _ _ ?_; clear HK
      have c8 := cell_blk (i := 0) e8
      simp only [List.getElem?_toArray, List.getElem?_cons_zero] at c8
      go_wp2_with fail
      refine (HEV.out w5 R hb5).mono ?_
      rintro e w6 ⟨rfl, hb6⟩
      rw [HV.out.1]
      have hbE6 := btr hb5 hb6 (Nat.le_refl _)
      replace k7 := blk_keep k7 hb6
      replace e8 := blk_keep e8 hb6
      clear c8
      have c8 := cell_blk (i := 0) e8
      simp only [List.getElem?_toArray, List.getElem?_cons_zero] at c8
      have B9 := btr hBF hb6 (Nat.le_refl _)
      clear hBF
      by_cases hsn : (sn : Int) < R
      · go_wp2_with fail
        refine (HEV.out w6 (R - 1) hbE6).mono ?_
        rintro e w7 ⟨rfl, hb7⟩
        rw [HV.out.2.1 hsn]
        have hbE7 := btr hbE6 hb7 (Nat.le_refl _)
        replace k7 := blk_keep k7 hb7
        replace e8 := blk_keep e8 hb7
        replace B9 := btr B9 hb7 (Nat.le_refl _)
        clear c8
        have c8 := cell_blk (i := 0) e8
        simp only [List.getElem?_toArray, List.getElem?_cons_zero] at c8
        by_cases hR60 : R < 60
        · go_wp2_with fail
          refine (HEV.out w7 (R + 1) hbE7).mono ?_
          rintro e w8 ⟨rfl, hb8⟩
          rw [HV.out.2.2.1 hR60]
          have hbE8 := btr hbE7 hb8 (Nat.le_refl _)
          replace k7 := blk_keep k7 hb8
          replace e8 := blk_keep e8 hb8
          replace B9 := btr B9 hb8 (Nat.le_refl _)
          clear c8
          have c8 := cell_blk (i := 0) e8
          simp only [List.getElem?_toArray, List.getElem?_cons_zero] at c8
          go_wp2_with fail
          as_aux_lemma =>
          have hc7 := cell_blk (i := 0) k7
          simp only [List.getElem?_toArray, List.getElem?_cons_zero] at hc7
          have l7 := lt_blk k7
          have l8 := lt_blk e8
          have e1 := fun (x : Ab w8.heap.size w8) => (x.ok.cell (p := ⟨n7, 0, none⟩) l7).trans hc7
          have e2 := fun (x : Ab w8.heap.size w8) => (x.ok.cell (p := ⟨bs, 0, none⟩) l8).trans c8
          have e38 := fun (x : Ab w8.heap.size w8) => HEV.out x.val y.room (hbE8.trans (x.ok.mono hbE8.size))
          have e14 := fun (x : Ab w8.heap.size w8) => works_any x.val
          have hbw := B9.size
          first | (rename_i hkk _ _; have : _ → _ := @hkk ⟨#[], []⟩ w; clear this) | (rename_i hkk _; have : _ → _ := @hkk ⟨#[], []⟩ w; clear this) | (rename_i hkk; have : _ → _ := @hkk ⟨#[], []⟩ w; clear this)
          clear c8 hc7 l7 l8 k7 e8 e9 HEV
          refine wp_region_ab w8.heap.size w8 (by kernel_rfl) (by kernel_rfl) (Below.refl _ _) ?_
          unfold AbC
          by_cases hsr : y.room < (sn : Int)
          · repeat (go_big_quiet_step (first | (go_at_call 38; exact Calls.ab _ (Nat.le_refl _) (e38 _)) | (go_at_call 14; exact Calls.ab _ (Nat.le_refl _) (e14 _))))
            refine wpQuiet_nil ?_
            rintro W' ⟨z, rfl⟩
            have hz := B9.trans (z.ok.mono hbw)
            refine hkk _ _ ?_
            go_wp2
            go_ret
            exact ⟨rfl, hz⟩
          · rw [← HV.out.2.2.2 (by omega)] at e38
            have hsb : (decide (R ≤ y.room) == decide (R ≤ y.room)) = true := by simp
            repeat (go_big_quiet_step (first | (go_at_call 38; exact Calls.ab _ (Nat.le_refl _) (e38 _)) | (go_at_call 14; exact Calls.ab _ (Nat.le_refl _) (e14 _))))
            refine wpQuiet_nil ?_
            rintro W' ⟨z, rfl⟩
            have hz := B9.trans (z.ok.mono hbw)
            refine hkk _ _ ?_
            go_wp2
            go_ret
            exact ⟨rfl, hz⟩
        · go_wp2_with fail
          as_aux_lemma =>
          have hc7 := cell_blk (i := 0) k7
          simp only [List.getElem?_toArray, List.getElem?_cons_zero] at hc7
          have l7 := lt_blk k7
          have l8 := lt_blk e8
          have e1 := fun (x : Ab w7.heap.size w7) => (x.ok.cell (p := ⟨n7, 0, none⟩) l7).trans hc7
          have e2 := fun (x : Ab w7.heap.size w7) => (x.ok.cell (p := ⟨bs, 0, none⟩) l8).trans c8
          have e38 := fun (x : Ab w7.heap.size w7) => HEV.out x.val y.room (hbE7.trans (x.ok.mono hbE7.size))
          have e14 := fun (x : Ab w7.heap.size w7) => works_any x.val
          have hbw := B9.size
          first | (rename_i hkk _ _; have : _ → _ := @hkk ⟨#[], []⟩ w; clear this) | (rename_i hkk _; have : _ → _ := @hkk ⟨#[], []⟩ w; clear this) | (rename_i hkk; have : _ → _ := @hkk ⟨#[], []⟩ w; clear this)
          clear c8 hc7 l7 l8 k7 e8 e9 HEV
          refine wp_region_ab w7.heap.size w7 (by kernel_rfl) (by kernel_rfl) (Below.refl _ _) ?_
          unfold AbC
          by_cases hsr : y.room < (sn : Int)
          · repeat (go_big_quiet_step (first | (go_at_call 38; exact Calls.ab _ (Nat.le_refl _) (e38 _)) | (go_at_call 14; exact Calls.ab _ (Nat.le_refl _) (e14 _))))
            refine wpQuiet_nil ?_
            rintro W' ⟨z, rfl⟩
            have hz := B9.trans (z.ok.mono hbw)
            refine hkk _ _ ?_
            go_wp2
            go_ret
            exact ⟨rfl, hz⟩
          · rw [← HV.out.2.2.2 (by omega)] at e38
            have hsb : (decide (R ≤ y.room) == decide (R ≤ y.room)) = true := by simp
            repeat (go_big_quiet_step (first | (go_at_call 38; exact Calls.ab _ (Nat.le_refl _) (e38 _)) | (go_at_call 14; exact Calls.ab _ (Nat.le_refl _) (e14 _))))
            refine wpQuiet_nil ?_
            rintro W' ⟨z, rfl⟩
            have hz := B9.trans (z.ok.mono hbw)
            refine hkk _ _ ?_
            go_wp2
            go_ret
            exact ⟨rfl, hz⟩
      · by_cases hR60 : R < 60
        · go_wp2_with fail
          refine (HEV.out w6 (R + 1) hbE6).mono ?_
          rintro e w7 ⟨rfl, hb7⟩
          rw [HV.out.2.2.1 hR60]
          have hbE7 := btr hbE6 hb7 (Nat.le_refl _)
          replace k7 := blk_keep k7 hb7
          replace e8 := blk_keep e8 hb7
          replace B9 := btr B9 hb7 (Nat.le_refl _)
          clear c8
          have c8 := cell_blk (i := 0) e8
          simp only [List.getElem?_toArray, List.getElem?_cons_zero] at c8
          go_wp2_with fail
          as_aux_lemma =>
          have hc7 := cell_blk (i := 0) k7
          simp only [List.getElem?_toArray, List.getElem?_cons_zero] at hc7
          have l7 := lt_blk k7
          have l8 := lt_blk e8
          have e1 := fun (x : Ab w7.heap.size w7) => (x.ok.cell (p := ⟨n7, 0, none⟩) l7).trans hc7
          have e2 := fun (x : Ab w7.heap.size w7) => (x.ok.cell (p := ⟨bs, 0, none⟩) l8).trans c8
          have e38 := fun (x : Ab w7.heap.size w7) => HEV.out x.val y.room (hbE7.trans (x.ok.mono hbE7.size))
          have e14 := fun (x : Ab w7.heap.size w7) => works_any x.val
          have hbw := B9.size
          first | (rename_i hkk _ _; have : _ → _ := @hkk ⟨#[], []⟩ w; clear this) | (rename_i hkk _; have : _ → _ := @hkk ⟨#[], []⟩ w; clear this) | (rename_i hkk; have : _ → _ := @hkk ⟨#[], []⟩ w; clear this)
          clear c8 hc7 l7 l8 k7 e8 e9 HEV
          refine wp_region_ab w7.heap.size w7 (by kernel_rfl) (by kernel_rfl) (Below.refl _ _) ?_
          unfold AbC
          by_cases hsr : y.room < (sn : Int)
          · repeat (go_big_quiet_step (first | (go_at_call 38; exact Calls.ab _ (Nat.le_refl _) (e38 _)) | (go_at_call 14; exact Calls.ab _ (Nat.le_refl _) (e14 _))))
            refine wpQuiet_nil ?_
            rintro W' ⟨z, rfl⟩
            have hz := B9.trans (z.ok.mono hbw)
            refine hkk _ _ ?_
            go_wp2
            go_ret
            exact ⟨rfl, hz⟩
          · rw [← HV.out.2.2.2 (by omega)] at e38
            have hsb : (decide (R ≤ y.room) == decide (R ≤ y.room)) = true := by simp
            repeat (go_big_quiet_step (first | (go_at_call 38; exact Calls.ab _ (Nat.le_refl _) (e38 _)) | (go_at_call 14; exact Calls.ab _ (Nat.le_refl _) (e14 _))))
            refine wpQuiet_nil ?_
            rintro W' ⟨z, rfl⟩
            have hz := B9.trans (z.ok.mono hbw)
            refine hkk _ _ ?_
            go_wp2
            go_ret
            exact ⟨rfl, hz⟩
        · go_wp2_with fail
          as_aux_lemma =>
          have hc7 := cell_blk (i := 0) k7
          simp only [List.getElem?_toArray, List.getElem?_cons_zero] at hc7
          have l7 := lt_blk k7
          have l8 := lt_blk e8
          have e1 := fun (x : Ab w6.heap.size w6) => (x.ok.cell (p := ⟨n7, 0, none⟩) l7).trans hc7
          have e2 := fun (x : Ab w6.heap.size w6) => (x.ok.cell (p := ⟨bs, 0, none⟩) l8).trans c8
          have e38 := fun (x : Ab w6.heap.size w6) => HEV.out x.val y.room (hbE6.trans (x.ok.mono hbE6.size))
          have e14 := fun (x : Ab w6.heap.size w6) => works_any x.val
          have hbw := B9.size
          first | (rename_i hkk _ _; have : _ → _ := @hkk ⟨#[], []⟩ w; clear this) | (rename_i hkk _; have : _ → _ := @hkk ⟨#[], []⟩ w; clear this) | (rename_i hkk; have : _ → _ := @hkk ⟨#[], []⟩ w; clear this)
          clear c8 hc7 l7 l8 k7 e8 e9 HEV
          refine wp_region_ab w6.heap.size w6 (by kernel_rfl) (by kernel_rfl) (Below.refl _ _) ?_
          unfold AbC
          by_cases hsr : y.room < (sn : Int)
          · repeat (go_big_quiet_step (first | (go_at_call 38; exact Calls.ab _ (Nat.le_refl _) (e38 _)) | (go_at_call 14; exact Calls.ab _ (Nat.le_refl _) (e14 _))))
            refine wpQuiet_nil ?_
            rintro W' ⟨z, rfl⟩
            have hz := B9.trans (z.ok.mono hbw)
            refine hkk _ _ ?_
            go_wp2
            go_ret
            exact ⟨rfl, hz⟩
          · rw [← HV.out.2.2.2 (by omega)] at e38
            have hsb : (decide (R ≤ y.room) == decide (R ≤ y.room)) = true := by simp
            repeat (go_big_quiet_step (first | (go_at_call 38; exact Calls.ab _ (Nat.le_refl _) (e38 _)) | (go_at_call 14; exact Calls.ab _ (Nat.le_refl _) (e14 _))))
            refine wpQuiet_nil ?_
            rintro W' ⟨z, rfl⟩
            have hz := B9.trans (z.ok.mono hbw)
            refine hkk _ _ ?_
            go_wp2
            go_ret
            exact ⟨rfl, hz⟩
  refine AllReadyH.cons (o := { dst := some 9, op := _, type := _, pos := _, after := _, guard := none }) rfl (fun K1 hK1 => ?_) ?_
  · rw [if_pos (by rfl)]
    have HK1 := Lib.hid hK1; clear hK1
    go_simp
    have hS1 : (wA.alloc (.cells #[.int .i64 0] 3)).drew.cell? ⟨n7, 3, none⟩ = some (.slice av nw cv) := cell_blk (i := 3) ((heap_oldI hlA).trans b7)
    refine HK1.out _ _ hS1 ?_
    clear HK1 K1
    intro _
    refine wpAnyH_one (i := 9) (o := { dst := some 8, op := _, type := _, pos := _, after := _, guard := none }) (by kernel_rfl) rfl (by rfl) (fun K1 hK1 => ?_)
    have HK1 := Lib.hid hK1; clear hK1
    go_simp
    generalize hwB : World.alloc (World.alloc wA _) _ = wB
    obtain ⟨b8, b9, hBB, hsB⟩ := blk2 hwB
    clear hwB
    have k7 : wB.drew.heap[n7]? = some (.cells #[.int .i64 y.room, .int .i64 y.most, .int .i64 y.lots, .slice av nw cv] 24 (0, 0)) := blk_keep b7 hBB.drew
    have k8 : wB.drew.heap[wA.heap.size]? = some (.cells #[.int .i64 0] 3 (0, 0)) := b8
    have k9 : wB.drew.heap[wA.heap.size + 1]? = some (.cells #[.int .i64 0] 3 (0, 0)) := b9
    have hBD : Below w.heap.size w wB.drew := (btr hB3 hBB (Nat.le_refl _)).drew
    have hBX : Below wA.heap.size wA wB.drew := hBB.drew
    clear b8 b9 hBB hS1
    generalize World.drew wB = wC at *
    have hS2 : wC.cell? ⟨n7, 3, none⟩ = some (.slice av nw cv) := cell_blk (i := 3) k7
    refine HK1.out _ _ hS2 ?_
    clear HK1 K1
    have hwA := hB3.size
    have hn7 : n7 ≠ wA.heap.size := by omega
    have hn8 : n7 ≠ wA.heap.size + 1 := by omega
    have hn9 : w.heap.size ≤ wA.heap.size + 1 := by omega
    have hn10 : wA.heap.size ≠ wA.heap.size + 1 := by omega
    have hn11 : wA.heap.size + 1 ≠ wA.heap.size := by omega
    obtain ⟨bs, hbs⟩ : ∃ bs, bs = wA.heap.size + 1 := ⟨_, rfl⟩
    obtain ⟨bm, hbm⟩ : ∃ bm, bm = wA.heap.size := ⟨_, rfl⟩
    rw [← hbs, ← hbm]
    have c8 : wC.heap[bs]? = some (.cells #[.int .i64 0] 3 (0, 0)) := by rw [hbs]; first | exact k8 | exact k9
    have c9 : wC.heap[bm]? = some (.cells #[.int .i64 0] 3 (0, 0)) := by rw [hbm]; first | exact k8 | exact k9
    have hd1 : n7 ≠ bs := by rw [hbs]; omega
    have hd2 : n7 ≠ bm := by rw [hbm]; omega
    have hd3 : bs ≠ bm := by rw [hbs, hbm]; omega
    have hd4 : w.heap.size ≤ bs := by rw [hbs]; omega
    have hd5 : w.heap.size ≤ bm := by rw [hbm]; omega
    have hd6 : wA.heap.size ≤ bs := by rw [hbs]; omega
    have hd7 : wA.heap.size ≤ bm := by rw [hbm]; omega
    clear hbs hbm k8 k9 hn7 hn8 hn9 hn10 hn11 hwA hlA b7 hB3 hS
    have c8c := cell_blk (i := 0) c8
    have c8f := free_blk (i := 0) c8
    have c8l := lt_blk c8
    simp only [List.getElem?_toArray, List.getElem?_cons_zero] at c8c
    refine wpAnyH_one (i := 11) (o := { dst := none, op := _, type := _, pos := _, after := _, guard := none }) (by kernel_rfl) rfl (by rfl) (fun K1 hK1 => ?_)
    have HK1 := Lib.hid hK1; clear hK1
    go_simp
    generalize hwD : World.setCell wC _ _ = wD
    replace k7 : wD.heap[n7]? = some (.cells #[.int .i64 y.room, .int .i64 y.most, .int .i64 y.lots, .slice av nw cv] 24 (0, 0)) := by rw [← hwD]; exact (heap_set_other hd1).trans k7
    have e8 : wD.heap[bs]? = some (.cells #[.int .i64 sn] 3 (0, 0)) := by rw [← hwD, heap_set_blk c8]; rfl
    replace c9 : wD.heap[bm]? = some (.cells #[.int .i64 0] 3 (0, 0)) := by rw [← hwD]; exact (heap_set_other (Ne.symm hd3)).trans c9
    replace hBD : Below w.heap.size w wD := by rw [← hwD]; exact hBD.setCell (p := ⟨bs, 0, none⟩) hd4 _
    replace hBX : Below wA.heap.size wA wD := by rw [← hwD]; exact hBX.setCell (p := ⟨bs, 0, none⟩) hd6 _
    have hS3 : wD.cell? ⟨n7, 3, none⟩ = some (.slice av nw cv) := cell_blk (i := 3) k7
    clear c8c c8f c8l c8 hwD hS2
    refine HK1.out _ _ hS3 ?_
    clear HK1 K1
    have c9c := cell_blk (i := 0) c9
    have c9f := free_blk (i := 0) c9
    have c9l := lt_blk c9
    simp only [List.getElem?_toArray, List.getElem?_cons_zero] at c9c
    refine wpAnyH_one (i := 12) (o := { dst := none, op := _, type := _, pos := _, after := _, guard := none }) (by kernel_rfl) rfl (by rfl) (fun K1 hK1 => ?_)
    have HK1 := Lib.hid hK1; clear hK1
    go_simp
    generalize hwE : World.setCell wD _ _ = wE
    replace k7 : wE.heap[n7]? = some (.cells #[.int .i64 y.room, .int .i64 y.most, .int .i64 y.lots, .slice av nw cv] 24 (0, 0)) := by rw [← hwE]; exact (heap_set_other hd2).trans k7
    replace e8 : wE.heap[bs]? = some (.cells #[.int .i64 sn] 3 (0, 0)) := by rw [← hwE]; exact (heap_set_other hd3).trans e8
    have e9 : wE.heap[bm]? = some (.cells #[.int .i64 mn] 3 (0, 0)) := by rw [← hwE, heap_set_blk c9]; rfl
    replace hBD : Below w.heap.size w wE := by rw [← hwE]; exact hBD.setCell (p := ⟨bm, 0, none⟩) hd5 _
    replace hBX : Below wA.heap.size wA wE := by rw [← hwE]; exact hBX.setCell (p := ⟨bm, 0, none⟩) hd7 _
    have hS4 : wE.cell? ⟨n7, 3, none⟩ = some (.slice av nw cv) := cell_blk (i := 3) k7
    clear c9c c9f c9l c9 hwE hS3
    refine HK1.out _ _ hS4 ?_
    clear HK1 K1
    refine wpAnyH_done (by kernel_rfl) ?_ _
    have HWE := Lib.hid (HW.out.below hBX (Nat.le_refl _))
    clear hS4 hBX hd1 hd2 hd3 hd4 hd5 hd6 hd7 HW
    refine HK.out _ _ ?_; clear HK
    have rr := room_r HY.out.ok hs9 (by rw [← HN.out]; exact hmN)
    have k7y : wE.heap[n7]? = some (.cells (encY y (.slice av y.ws.length cv)) 24 (0, 0)) := by rw [← HN.out]; exact k7
    have H30 := need_any y (.slice av y.ws.length cv) sn mn wE HWE.out
    have HEV := Lib.hid (fun W q (hW : Below wE.heap.size wE W) => ever38_any y (.slice av y.ws.length cv) q sn mn n7 bs bm W (HWE.out.below hW (Nat.le_refl _)) (blk_keep k7y hW) (blk_keep e8 hW) (blk_keep e9 hW))
    simp only [encY] at H30
    rw [← HN.out] at H30
    clear k7y HWE HY
    unfold RoomR at rr
    have HS := Lib.hid hs9
    clear hs9
    generalize needR y sn mn = R at *
    generalize needE y sn mn = E at *
    have c8 := cell_blk (i := 0) e8
    have c9 := cell_blk (i := 0) e9
    simp only [List.getElem?_toArray, List.getElem?_cons_zero] at c8 c9
    refine wp_seq_k (fun K hK => ?_)
    have HK := Lib.hid hK; clear hK
    go_wp2_with (first | (refine wpList_load_blk rfl 24 _ rfl _ rfl k7 Try.underlying24 rfl size24 rfl ?_) | (go_at_call 30; refine H30.mono ?_; rintro e w5 ⟨rfl, hb5⟩))
    refine HK.out _ _ ?_; clear HK
    have hBF := btr hBD hb5 (Nat.le_refl _)
    replace k7 := blk_keep k7 hb5
    replace e8 := blk_keep e8 hb5
    clear H30 c8 c9
    rcases rr with ⟨hE, hR, hv1, hv2⟩ | ⟨hE, n, hR, hr1, hr2, hr3, hr4, hr5, hr6⟩
    · subst hE hR
      have HV1 := Lib.hid (And.intro hv1 hv2)
      clear hv1 hv2
      refine wp_seq_k (fun K hK => ?_)
      have HK := Lib.hid hK; clear hK
      go_wp2
      refine HK.out _ _ ?_; clear HK
      go_wp2_with fail
      refine (HEV.out w5 60 hb5).mono ?_
      rintro e w6 ⟨rfl, hb6⟩
      rw [HV1.out.1]
      have hbE6 := btr hb5 hb6 (Nat.le_refl _)
      go_wp2_with fail
      refine (HEV.out w6 25 hbE6).mono ?_
      rintro e w7 ⟨rfl, hb7⟩
      rw [HV1.out.2]
      go_wp2_with fail
      refine (works_any _).mono ?_
      rintro e w8 ⟨rfl, hb8⟩
      go_wp2_with fail
      go_ret
      exact ⟨rfl, btr (btr (btr hBF hb6 (Nat.le_refl _)) hb7 (Nat.le_refl _)) hb8 (Nat.le_refl _)⟩
    · subst hE hR
      have HV := Lib.hid (And.intro hr3 (And.intro hr4 (And.intro hr5 hr6)))
      clear hr3 hr4 hr5 hr6
      refine wp_seq_k (fun K hK => ?_)
      have HK := Lib.hid hK; clear hK
      go_wp2
      refine HK.out _ _ ?_; clear HK
      refine wp_seq_k (fun K hK => ?_)
      have HK := Lib.hid hK; clear hK
      go_wp2
      refine HK.out _ _ ?_; clear HK
      have c8 := cell_blk (i := 0) e8
      simp only [List.getElem?_toArray, List.getElem?_cons_zero] at c8
      go_wp2_with fail
      refine (HEV.out w5 R hb5).mono ?_
      rintro e w6 ⟨rfl, hb6⟩
      rw [HV.out.1]
      have hbE6 := btr hb5 hb6 (Nat.le_refl _)
      replace k7 := blk_keep k7 hb6
      replace e8 := blk_keep e8 hb6
      clear c8
      have c8 := cell_blk (i := 0) e8
      simp only [List.getElem?_toArray, List.getElem?_cons_zero] at c8
      have B9 := btr hBF hb6 (Nat.le_refl _)
      clear hBF
      by_cases hsn : (sn : Int) < R
      · go_wp2_with fail
        refine (HEV.out w6 (R - 1) hbE6).mono ?_
        rintro e w7 ⟨rfl, hb7⟩
        rw [HV.out.2.1 hsn]
        have hbE7 := btr hbE6 hb7 (Nat.le_refl _)
        replace k7 := blk_keep k7 hb7
        replace e8 := blk_keep e8 hb7
        replace B9 := btr B9 hb7 (Nat.le_refl _)
        clear c8
        have c8 := cell_blk (i := 0) e8
        simp only [List.getElem?_toArray, List.getElem?_cons_zero] at c8
        by_cases hR60 : R < 60
        · go_wp2_with fail
          refine (HEV.out w7 (R + 1) hbE7).mono ?_
          rintro e w8 ⟨rfl, hb8⟩
          rw [HV.out.2.2.1 hR60]
          have hbE8 := btr hbE7 hb8 (Nat.le_refl _)
          replace k7 := blk_keep k7 hb8
          replace e8 := blk_keep e8 hb8
          replace B9 := btr B9 hb8 (Nat.le_refl _)
          clear c8
          have c8 := cell_blk (i := 0) e8
          simp only [List.getElem?_toArray, List.getElem?_cons_zero] at c8
          go_wp2_with fail
          as_aux_lemma =>
          have hc7 := cell_blk (i := 0) k7
          simp only [List.getElem?_toArray, List.getElem?_cons_zero] at hc7
          have l7 := lt_blk k7
          have l8 := lt_blk e8
          have e1 := fun (x : Ab w8.heap.size w8) => (x.ok.cell (p := ⟨n7, 0, none⟩) l7).trans hc7
          have e2 := fun (x : Ab w8.heap.size w8) => (x.ok.cell (p := ⟨bs, 0, none⟩) l8).trans c8
          have e38 := fun (x : Ab w8.heap.size w8) => HEV.out x.val y.room (hbE8.trans (x.ok.mono hbE8.size))
          have e14 := fun (x : Ab w8.heap.size w8) => works_any x.val
          have hbw := B9.size
          first | (rename_i hkk _ _; have : _ → _ := @hkk ⟨#[], []⟩ w; clear this) | (rename_i hkk _; have : _ → _ := @hkk ⟨#[], []⟩ w; clear this) | (rename_i hkk; have : _ → _ := @hkk ⟨#[], []⟩ w; clear this)
          clear c8 hc7 l7 l8 k7 e8 e9 HEV
          refine wp_region_ab w8.heap.size w8 (by kernel_rfl) (by kernel_rfl) (Below.refl _ _) ?_
          unfold AbC
          by_cases hsr : y.room < (sn : Int)
          · repeat (go_big_quiet_step (first | (go_at_call 38; exact Calls.ab _ (Nat.le_refl _) (e38 _)) | (go_at_call 14; exact Calls.ab _ (Nat.le_refl _) (e14 _))))
            refine wpQuiet_nil ?_
            rintro W' ⟨z, rfl⟩
            have hz := B9.trans (z.ok.mono hbw)
            refine hkk _ _ ?_
            go_wp2
            go_ret
            exact ⟨rfl, hz⟩
          · rw [← HV.out.2.2.2 (by omega)] at e38
            have hsb : (decide (R ≤ y.room) == decide (R ≤ y.room)) = true := by simp
            repeat (go_big_quiet_step (first | (go_at_call 38; exact Calls.ab _ (Nat.le_refl _) (e38 _)) | (go_at_call 14; exact Calls.ab _ (Nat.le_refl _) (e14 _))))
            refine wpQuiet_nil ?_
            rintro W' ⟨z, rfl⟩
            have hz := B9.trans (z.ok.mono hbw)
            refine hkk _ _ ?_
            go_wp2
            go_ret
            exact ⟨rfl, hz⟩
        · go_wp2_with fail
          as_aux_lemma =>
          have hc7 := cell_blk (i := 0) k7
          simp only [List.getElem?_toArray, List.getElem?_cons_zero] at hc7
          have l7 := lt_blk k7
          have l8 := lt_blk e8
          have e1 := fun (x : Ab w7.heap.size w7) => (x.ok.cell (p := ⟨n7, 0, none⟩) l7).trans hc7
          have e2 := fun (x : Ab w7.heap.size w7) => (x.ok.cell (p := ⟨bs, 0, none⟩) l8).trans c8
          have e38 := fun (x : Ab w7.heap.size w7) => HEV.out x.val y.room (hbE7.trans (x.ok.mono hbE7.size))
          have e14 := fun (x : Ab w7.heap.size w7) => works_any x.val
          have hbw := B9.size
          first | (rename_i hkk _ _; have : _ → _ := @hkk ⟨#[], []⟩ w; clear this) | (rename_i hkk _; have : _ → _ := @hkk ⟨#[], []⟩ w; clear this) | (rename_i hkk; have : _ → _ := @hkk ⟨#[], []⟩ w; clear this)
          clear c8 hc7 l7 l8 k7 e8 e9 HEV
          refine wp_region_ab w7.heap.size w7 (by kernel_rfl) (by kernel_rfl) (Below.refl _ _) ?_
          unfold AbC
          by_cases hsr : y.room < (sn : Int)
          · repeat (go_big_quiet_step (first | (go_at_call 38; exact Calls.ab _ (Nat.le_refl _) (e38 _)) | (go_at_call 14; exact Calls.ab _ (Nat.le_refl _) (e14 _))))
            refine wpQuiet_nil ?_
            rintro W' ⟨z, rfl⟩
            have hz := B9.trans (z.ok.mono hbw)
            refine hkk _ _ ?_
            go_wp2
            go_ret
            exact ⟨rfl, hz⟩
          · rw [← HV.out.2.2.2 (by omega)] at e38
            have hsb : (decide (R ≤ y.room) == decide (R ≤ y.room)) = true := by simp
            repeat (go_big_quiet_step (first | (go_at_call 38; exact Calls.ab _ (Nat.le_refl _) (e38 _)) | (go_at_call 14; exact Calls.ab _ (Nat.le_refl _) (e14 _))))
            refine wpQuiet_nil ?_
            rintro W' ⟨z, rfl⟩
            have hz := B9.trans (z.ok.mono hbw)
            refine hkk _ _ ?_
            go_wp2
            go_ret
            exact ⟨rfl, hz⟩
      · by_cases hR60 : R < 60
        · go_wp2_with fail
          refine (HEV.out w6 (R + 1) hbE6).mono ?_
          rintro e w7 ⟨rfl, hb7⟩
          rw [HV.out.2.2.1 hR60]
          have hbE7 := btr hbE6 hb7 (Nat.le_refl _)
          replace k7 := blk_keep k7 hb7
          replace e8 := blk_keep e8 hb7
          replace B9 := btr B9 hb7 (Nat.le_refl _)
          clear c8
          have c8 := cell_blk (i := 0) e8
          simp only [List.getElem?_toArray, List.getElem?_cons_zero] at c8
          go_wp2_with fail
          as_aux_lemma =>
          have hc7 := cell_blk (i := 0) k7
          simp only [List.getElem?_toArray, List.getElem?_cons_zero] at hc7
          have l7 := lt_blk k7
          have l8 := lt_blk e8
          have e1 := fun (x : Ab w7.heap.size w7) => (x.ok.cell (p := ⟨n7, 0, none⟩) l7).trans hc7
          have e2 := fun (x : Ab w7.heap.size w7) => (x.ok.cell (p := ⟨bs, 0, none⟩) l8).trans c8
          have e38 := fun (x : Ab w7.heap.size w7) => HEV.out x.val y.room (hbE7.trans (x.ok.mono hbE7.size))
          have e14 := fun (x : Ab w7.heap.size w7) => works_any x.val
          have hbw := B9.size
          first | (rename_i hkk _ _; have : _ → _ := @hkk ⟨#[], []⟩ w; clear this) | (rename_i hkk _; have : _ → _ := @hkk ⟨#[], []⟩ w; clear this) | (rename_i hkk; have : _ → _ := @hkk ⟨#[], []⟩ w; clear this)
          clear c8 hc7 l7 l8 k7 e8 e9 HEV
          refine wp_region_ab w7.heap.size w7 (by kernel_rfl) (by kernel_rfl) (Below.refl _ _) ?_
          unfold AbC
          by_cases hsr : y.room < (sn : Int)
          · repeat (go_big_quiet_step (first | (go_at_call 38; exact Calls.ab _ (Nat.le_refl _) (e38 _)) | (go_at_call 14; exact Calls.ab _ (Nat.le_refl _) (e14 _))))
            refine wpQuiet_nil ?_
            rintro W' ⟨z, rfl⟩
            have hz := B9.trans (z.ok.mono hbw)
            refine hkk _ _ ?_
            go_wp2
            go_ret
            exact ⟨rfl, hz⟩
          · rw [← HV.out.2.2.2 (by omega)] at e38
            have hsb : (decide (R ≤ y.room) == decide (R ≤ y.room)) = true := by simp
            repeat (go_big_quiet_step (first | (go_at_call 38; exact Calls.ab _ (Nat.le_refl _) (e38 _)) | (go_at_call 14; exact Calls.ab _ (Nat.le_refl _) (e14 _))))
            refine wpQuiet_nil ?_
            rintro W' ⟨z, rfl⟩
            have hz := B9.trans (z.ok.mono hbw)
            refine hkk _ _ ?_
            go_wp2
            go_ret
            exact ⟨rfl, hz⟩
        · go_wp2_with fail
          as_aux_lemma =>
          have hc7 := cell_blk (i := 0) k7
          simp only [List.getElem?_toArray, List.getElem?_cons_zero] at hc7
          have l7 := lt_blk k7
          have l8 := lt_blk e8
          have e1 := fun (x : Ab w6.heap.size w6) => (x.ok.cell (p := ⟨n7, 0, none⟩) l7).trans hc7
          have e2 := fun (x : Ab w6.heap.size w6) => (x.ok.cell (p := ⟨bs, 0, none⟩) l8).trans c8
          have e38 := fun (x : Ab w6.heap.size w6) => HEV.out x.val y.room (hbE6.trans (x.ok.mono hbE6.size))
          have e14 := fun (x : Ab w6.heap.size w6) => works_any x.val
          have hbw := B9.size
          first | (rename_i hkk _ _; have : _ → _ := @hkk ⟨#[], []⟩ w; clear this) | (rename_i hkk _; have : _ → _ := @hkk ⟨#[], []⟩ w; clear this) | (rename_i hkk; have : _ → _ := @hkk ⟨#[], []⟩ w; clear this)
          clear c8 hc7 l7 l8 k7 e8 e9 HEV
          refine wp_region_ab w6.heap.size w6 (by kernel_rfl) (by kernel_rfl) (Below.refl _ _) ?_
          unfold AbC
          by_cases hsr : y.room < (sn : Int)
          · repeat (go_big_quiet_step (first | (go_at_call 38; exact Calls.ab _ (Nat.le_refl _) (e38 _)) | (go_at_call 14; exact Calls.ab _ (Nat.le_refl _) (e14 _))))
            refine wpQuiet_nil ?_
            rintro W' ⟨z, rfl⟩
            have hz := B9.trans (z.ok.mono hbw)
            refine hkk _ _ ?_
            go_wp2
            go_ret
            exact ⟨rfl, hz⟩
          · rw [← HV.out.2.2.2 (by omega)] at e38
            have hsb : (decide (R ≤ y.room) == decide (R ≤ y.room)) = true := by simp
            repeat (go_big_quiet_step (first | (go_at_call 38; exact Calls.ab _ (Nat.le_refl _) (e38 _)) | (go_at_call 14; exact Calls.ab _ (Nat.le_refl _) (e14 _))))
            refine wpQuiet_nil ?_
            rintro W' ⟨z, rfl⟩
            have hz := B9.trans (z.ok.mono hbw)
            refine hkk _ _ ?_
            go_wp2
            go_ret
            exact ⟨rfl, hz⟩
  exact AllReadyH.nil
end Ytndmjginmomfiaa
end Go.Proofs
