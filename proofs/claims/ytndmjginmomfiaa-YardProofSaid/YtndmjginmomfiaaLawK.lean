/- The law YardKept returns true. -/
import Derived.Test.YtndmjginmomfiaaStp
import Derived.Test.YtndmjginmomfiaaOp6
import Derived.Test.YtndmjginmomfiaaLawRm
open Go Go.RowKit Go.YtndmjginmomfiaaIt
namespace Go.Proofs
namespace Ytndmjginmomfiaa
theorem s_cells {w : World} {b off n : Nat} {xs : List Stp} (h : ∀ i (h : i < xs.length) f u, (encS xs[i])[f]? = some u → w.cell? ⟨b, off + i * 4 + f, none⟩ = some u) {i : Nat} (hi : i < xs.length) (hn : n = i) :
    w.cell? ⟨b, off + n * 4, none⟩ = some (.int .i64 xs[i].w) ∧ w.cell? ⟨b, off + n * 4 + 1, none⟩ = some (.int .i64 xs[i].c) ∧ w.cell? ⟨b, off + n * 4 + 2, none⟩ = some (.int .i64 xs[i].s) ∧ w.cell? ⟨b, off + n * 4 + 3, none⟩ = some (.bool xs[i].g) := by
  subst hn
  exact ⟨h n hi 0 _ rfl, h n hi 1 _ rfl, h n hi 2 _ rfl, h n hi 3 _ rfl⟩
/-- What is known of a state after k days. -/
def KQ (y : Yd) (T : Int) (k sn mn : Nat) : Prop := (T = never ∧ ∀ d, keepB y d sn mn = true) ∨ (∃ t : Nat, T = t ∧ t ≤ 244 ∧ k ≤ t ∧ keepB y (t - k) sn mn = true)
set_option maxRecDepth 100000 in
set_option maxHeartbeats 8000000 in
theorem yardKept_any (r m l : Int) (u : Value) (qs : List Q4) (st we : Int) (tv : Value) (ts : List Int) (w : World) (hr : (0 ≤ r ∧ r < 256) ∧ (0 ≤ m ∧ m < 256) ∧ (0 ≤ l ∧ l < 256)) (hq : ∀ q ∈ qs, q.ok) (hu : SlQ w u qs) (hs : 0 ≤ st ∧ st < 256) (hm : 0 ≤ we ∧ we < 256) (ht : SlB w tv ts) :
    Calls Try.prog 9 #[encP r m l u, .int .u8 st, .int .u8 we, tv] w fun e w' => e = .returned (.bool true) ∧ Below w.heap.size w w' := by
  have HT := Lib.hid ht
  obtain ⟨⟨at0v, captv, rfl, htmx, -⟩, -⟩ := ht
  have hp4 : #[Value.int .u8 r, .int .u8 m, .int .u8 l, u].size = 4 := rfl
  have HM := Lib.hid (fun W (hW : Below w.heap.size w W) => made_any r m l u qs W hr.1 hr.2.1 hr.2.2 hq (hu.below (w' := W) hW (Nat.le_refl _)))
  obtain ⟨ad, cap, rfl, -, -, -⟩ := hu
  clear hr hq
  unfold encP at *
  go_enter Try.func9, Try.ntmps9
  refine wp_seq_k (fun K hK => ?_)
  have HK := Lib.hid hK; clear hK
  go_wp2
  refine HK.out _ _ ?_; clear HK K
  generalize hw1 : World.alloc _ _ = w1
  obtain ⟨b1, hB, hs1⟩ := blk1 hw1
  clear hw1
  have h32 := HM.out w1 hB
  refine wp_seq_k (fun K hK => ?_)
  have HK := Lib.hid hK; clear hK
  go_wp2_with (first | (refine wpList_load_blk rfl 62 _ rfl _ rfl b1 Try.underlying62 rfl info62 hp4 ?_) | (go_at_call 32; refine h32.mono ?_; rintro e w2 ⟨y, v, rfl, hw, hy, hb2⟩; have hy4 : (encY y v).size = 4 := rfl; have ho1 : (encY y v).all (·.oneCell') = true := (by obtain ⟨ad, cap, rfl, -⟩ := hw; simp [encY, Value.oneCell']) ) | (refine wpList_store_blk rfl 24 _ _ rfl _ rfl rfl (heap_newI rfl) size24 hy4 rfl ho1 ?_))
  refine HK.out _ _ ?_; clear HK K
  have hB2 := btr hB hb2 (Nat.le_refl _)
  clear h32 b1
  generalize hwA : World.putObj _ _ _ = wA
  have b7 : wA.heap[w2.heap.size]? = some (.cells (encY y v) 24 (0, 0)) := by rw [← hwA]; exact World.putObj_heap_same (by rw [World.size_alloc]; omega)
  have hBA : Below w2.heap.size w2 wA := by rw [← hwA]; exact below_putObj ((Below.refl _ _).alloc (Nat.le_refl _) _) (Nat.le_refl _)
  clear hwA
  have hw' := hw.below hBA (Nat.le_refl _)
  have hB3 := btr hB2 hBA (Nat.le_refl _)
  clear hw hB hb2 hB2 hBA hp4 hs1 HM
  have hY0 := hB3.size
  generalize w2.heap.size = n7 at *
  obtain ⟨av, cv, rfl, -, -, -⟩ := id hw'
  have hn1 := hy.ok.n0
  have hn2 := hy.n
  have hro := hy.ok.room0
  have hr7 := hy.room
  have hmo := hy.ok.most0
  have hmo6 := hy.most
  have hlo := hy.ok.lots0
  have hlo3 := hy.lots
  have HY := Lib.hid hy
  obtain ⟨nw, hnw⟩ : ∃ nw, nw = y.ws.length := ⟨_, rfl⟩
  have HN := Lib.hid hnw
  have HW := Lib.hid (And.intro hw' b7)
  simp only [encY] at b7 ho1 hy4 ⊢
  rw [← hnw] at b7 hn1 hn2 ⊢
  clear hnw hy hw'
  have hq1 : ¬ (IntKind.i64.wrap (y.room + 1) = 0) := by rw [bwrap (by omega)]; omega
  have hq3 : ¬ (nw = 0) := by omega
  have HQ := Lib.hid (And.intro hq1 hq3)
  clear hq1 hq3
  have d0 := cell_blk (i := 0) b7
  have d3 := cell_blk (i := 3) b7
  simp only [List.getElem?_toArray, List.getElem?_cons_zero, List.getElem?_cons_succ] at d0 d3
  have hS2 : wA.cell? ⟨n7, 0, none⟩ = some (.int .i64 y.room) ∧ wA.cell? ⟨n7, 3, none⟩ = some (.slice av nw cv) := ⟨d0, d3⟩
  clear d0 d3
  refine wp_seq_k (fun K hK => ?_)
  have HK := Lib.hid hK; clear hK
  refine wp_region_held (S := fun U => U.cell? ⟨n7, 0, none⟩ = some (.int .i64 y.room) ∧ U.cell? ⟨n7, 3, none⟩ = some (.slice av nw cv)) (by kernel_rfl) ?_
  change wpAnyH _ _ _ _ _ _ _ _ (World.drew wA)
  refine wpAnyH_take (i := 0) (oi := { dst := some 22, op := _, type := _, pos := _, after := _, guard := none }) (v := ?_) rfl (by kernel_rfl) (by kernel_rfl) (by kernel_rfl) (fun _ _ _ h => h) (Or.inl ⟨by rfl, ?_⟩) hS2 ?_
  rotate_left
  · intro U hU
    obtain ⟨hU0, hU3⟩ := hU
    go_simp
    all_goals with_reducible rfl
  simp only [Act.put, List.setIfInBounds_toArray, List.set_cons_zero, List.set_cons_succ]
  refine wpAnyH_take (i := 1) (oi := { dst := some 23, op := _, type := _, pos := _, after := _, guard := none }) (v := ?_) rfl (by kernel_rfl) (by kernel_rfl) (by kernel_rfl) (fun _ _ _ h => h) (Or.inl ⟨by rfl, ?_⟩) hS2 ?_
  rotate_left
  · intro U hU
    obtain ⟨hU0, hU3⟩ := hU
    go_simp
    all_goals with_reducible rfl
  simp only [Act.put, List.setIfInBounds_toArray, List.set_cons_zero, List.set_cons_succ]
  refine wpAnyH_take (i := 2) (oi := { dst := some 24, op := _, type := _, pos := _, after := _, guard := none }) (v := ?_) rfl (by kernel_rfl) (by kernel_rfl) (by kernel_rfl) (fun _ _ _ h => h) (Or.inl ⟨by rfl, ?_⟩) hS2 ?_
  rotate_left
  · intro U hU
    obtain ⟨hU0, hU3⟩ := hU
    go_simp
    all_goals with_reducible rfl
  simp only [Act.put, List.setIfInBounds_toArray, List.set_cons_zero, List.set_cons_succ]
  refine wpAnyH_take (i := 3) (oi := { dst := some 25, op := _, type := _, pos := _, after := _, guard := none }) (v := ?_) rfl (by kernel_rfl) (by kernel_rfl) (by kernel_rfl) (fun _ _ _ h => h) (Or.inl ⟨by rfl, ?_⟩) hS2 ?_
  rotate_left
  · intro U hU
    obtain ⟨hU0, hU3⟩ := hU
    go_simp
    all_goals with_reducible rfl
  simp only [Act.put, List.setIfInBounds_toArray, List.set_cons_zero, List.set_cons_succ]
  refine wpAnyH_take (i := 4) (oi := { dst := some 26, op := _, type := _, pos := _, after := _, guard := none }) (v := ?_) rfl (by kernel_rfl) (by kernel_rfl) (by kernel_rfl) (fun _ _ _ h => h) (Or.inl ⟨by rfl, ?_⟩) hS2 ?_
  rotate_left
  · intro U hU
    obtain ⟨hU0, hU3⟩ := hU
    go_simp
    all_goals with_reducible rfl
  simp only [Act.put, List.setIfInBounds_toArray, List.set_cons_zero, List.set_cons_succ]
  refine wpAnyH_take (i := 5) (oi := { dst := some 27, op := _, type := _, pos := _, after := _, guard := none }) (v := ?_) rfl (by kernel_rfl) (by kernel_rfl) (by kernel_rfl) (fun _ _ _ h => h) (Or.inl ⟨by rfl, ?_⟩) hS2 ?_
  rotate_left
  · intro U hU
    obtain ⟨hU0, hU3⟩ := hU
    go_simp
    rw [if_neg HQ.out.1]
    all_goals with_reducible rfl
  simp only [Act.put, List.setIfInBounds_toArray, List.set_cons_zero, List.set_cons_succ]
  refine wpAnyH_take (i := 6) (oi := { dst := some 28, op := _, type := _, pos := _, after := _, guard := none }) (v := ?_) rfl (by kernel_rfl) (by kernel_rfl) (by kernel_rfl) (fun _ _ _ h => h) (Or.inl ⟨by rfl, ?_⟩) hS2 ?_
  rotate_left
  · intro U hU
    obtain ⟨hU0, hU3⟩ := hU
    go_simp
    all_goals with_reducible rfl
  simp only [Act.put, List.setIfInBounds_toArray, List.set_cons_zero, List.set_cons_succ]
  refine wpAnyH_take (i := 7) (oi := { dst := some 29, op := _, type := _, pos := _, after := _, guard := none }) (v := ?_) rfl (by kernel_rfl) (by kernel_rfl) (by kernel_rfl) (fun _ _ _ h => h) (Or.inl ⟨by rfl, ?_⟩) hS2 ?_
  rotate_left
  · intro U hU
    obtain ⟨hU0, hU3⟩ := hU
    go_simp
    all_goals with_reducible rfl
  simp only [Act.put, List.setIfInBounds_toArray, List.set_cons_zero, List.set_cons_succ]
  refine wpAnyH_take (i := 8) (oi := { dst := some 30, op := _, type := _, pos := _, after := _, guard := none }) (v := ?_) rfl (by kernel_rfl) (by kernel_rfl) (by kernel_rfl) (fun _ _ _ h => h) (Or.inl ⟨by rfl, ?_⟩) hS2 ?_
  rotate_left
  · intro U hU
    obtain ⟨hU0, hU3⟩ := hU
    go_simp
    all_goals with_reducible rfl
  simp only [Act.put, List.setIfInBounds_toArray, List.set_cons_zero, List.set_cons_succ]
  refine wpAnyH_take (i := 9) (oi := { dst := some 31, op := _, type := _, pos := _, after := _, guard := none }) (v := ?_) rfl (by kernel_rfl) (by kernel_rfl) (by kernel_rfl) (fun _ _ _ h => h) (Or.inl ⟨by rfl, ?_⟩) hS2 ?_
  rotate_left
  · intro U hU
    obtain ⟨hU0, hU3⟩ := hU
    go_simp
    all_goals with_reducible rfl
  simp only [Act.put, List.setIfInBounds_toArray, List.set_cons_zero, List.set_cons_succ]
  refine wpAnyH_take (i := 10) (oi := { dst := some 32, op := _, type := _, pos := _, after := _, guard := none }) (v := ?_) rfl (by kernel_rfl) (by kernel_rfl) (by kernel_rfl) (fun _ _ _ h => h) (Or.inl ⟨by rfl, ?_⟩) hS2 ?_
  rotate_left
  · intro U hU
    obtain ⟨hU0, hU3⟩ := hU
    go_simp
    all_goals with_reducible rfl
  simp only [Act.put, List.setIfInBounds_toArray, List.set_cons_zero, List.set_cons_succ]
  refine wpAnyH_take (i := 11) (oi := { dst := some 33, op := _, type := _, pos := _, after := _, guard := none }) (v := ?_) rfl (by kernel_rfl) (by kernel_rfl) (by kernel_rfl) (fun _ _ _ h => h) (Or.inl ⟨by rfl, ?_⟩) hS2 ?_
  rotate_left
  · intro U hU
    obtain ⟨hU0, hU3⟩ := hU
    go_simp
    rw [if_neg HQ.out.2]
    all_goals with_reducible rfl
  simp only [Act.put, List.setIfInBounds_toArray, List.set_cons_zero, List.set_cons_succ]
  simp only [bwq hs, bwq hm, bwrap (show 0 ≤ y.room + 1 ∧ y.room + 1 < 4000 by omega), bt _ hs, bt _ hm]
  obtain ⟨sn, hsn⟩ : ∃ sn : Nat, (sn : Int) = st % (y.room + 1) := ⟨(st % (y.room + 1)).toNat, by have := Int.emod_nonneg st (show y.room + 1 ≠ 0 by omega); omega⟩
  have hsR : (sn : Int) ≤ y.room := by have := Int.emod_lt_of_pos st (show 0 < y.room + 1 by omega); omega
  have hwn := Int.emod_nonneg we (show ((nw : Nat) : Int) ≠ 0 by omega)
  have hwl := Int.emod_lt_of_pos we (show (0 : Int) < ((nw : Nat) : Int) by omega)
  obtain ⟨mn, hmn⟩ : ∃ mn : Nat, (mn : Int) = we % nw := ⟨(we % nw).toNat, by omega⟩
  have hmN : mn < nw := by omega
  rw [← hsn, ← hmn]
  clear hsn hwn hwl hmn hs hm HQ
  refine wpAnyH_take (i := 12) (oi := { dst := some 10, op := _, type := _, pos := _, after := _, guard := none }) (v := ?_) rfl (by kernel_rfl) (by kernel_rfl) (by kernel_rfl) (fun _ _ _ h => h) (Or.inl ⟨by rfl, ?_⟩) hS2 ?_
  rotate_left
  · intro U hU
    go_simp
    all_goals with_reducible rfl
  simp only [Act.put, List.setIfInBounds_toArray, List.set_cons_zero, List.set_cons_succ]
  refine wpAnyH_take (i := 13) (oi := { dst := some 11, op := _, type := _, pos := _, after := _, guard := none }) (v := ?_) rfl (by kernel_rfl) (by kernel_rfl) (by kernel_rfl) (fun _ _ _ h => h) (Or.inl ⟨by rfl, ?_⟩) hS2 ?_
  rotate_left
  · intro U hU
    go_simp
    all_goals with_reducible rfl
  simp only [Act.put, List.setIfInBounds_toArray, List.set_cons_zero, List.set_cons_succ]
  refine wpAnyH_done (by kernel_rfl) ?_ _
  refine HK.out _ _ ?_; clear HK
  clear hS2
  generalize hwD : World.drew wA = wD
  have hBd : Below wA.heap.size wA wD := by rw [← hwD]; exact (Below.refl _ _).drew
  clear hwD
  replace b7 := blk_keep b7 hBd
  have HW2 := Lib.hid (And.intro (HW.out.1.below hBd (Nat.le_refl _)) (blk_keep HW.out.2 hBd))
  clear HW
  have HW := HW2
  clear HW2
  replace hB3 := btr hB3 hBd (Nat.le_refl _)
  clear hBd
  have hY0 := hB3.size
  have h18 := termX_any y (.slice av y.ws.length cv) sn mn wD HW.out.1
  have hst : stE y sn mn = 0 := stE_ok.2 ⟨HY.out.ok, ⟨by omega, hsR⟩, ⟨by omega, by rw [← HN.out]; omega⟩⟩
  have hte : termE y sn mn = termP y sn mn := by unfold termE; rw [if_pos hst]; simp
  rw [hst, hte] at h18
  clear hst hte
  simp only [encY] at h18
  rw [← HN.out] at h18
  have htc := term_cases HY.out.ok (s := sn) (m := mn) (by omega) (by rw [← HN.out]; exact hmN)
  have hTt := term_lt HY.out.ok
  generalize termP y sn mn = T at *
  refine wp_seq_k (fun K hK => ?_)
  have HK := Lib.hid hK; clear hK
  go_wp2_with (first | (refine wpList_load_blk rfl 24 _ rfl _ rfl b7 Try.underlying24 rfl size24 rfl ?_) | (go_at_call 18; refine h18.mono ?_; rintro e w3 ⟨rfl, hb3⟩))
  refine HK.out _ _ ?_; clear HK
  replace b7 := blk_keep b7 hb3
  have HW2 := Lib.hid (And.intro (HW.out.1.below hb3 (Nat.le_refl _)) (blk_keep HW.out.2 hb3))
  clear HW
  have HW := HW2
  clear HW2
  replace hB3 := btr hB3 hb3 (Nat.le_refl _)
  clear h18 hb3 hY0
  have hY0 := hB3.size
  have hkq : KQ y T 0 sn mn := by
    rcases htc with ⟨h1, h2⟩ | ⟨t, h1, h2, h3, h4⟩
    · exact .inl ⟨h1, h2⟩
    · exact .inr ⟨t, h1, by omega, Nat.zero_le _, h3⟩
  have hTr : T = never ∨ (0 ≤ T ∧ T ≤ 244) := by
    rcases htc with ⟨h1, h2⟩ | ⟨t, h1, h2, h3, h4⟩
    · exact .inl h1
    · exact .inr (by omega)
  have HTR := Lib.hid hTr
  clear htc hTr hTt
  go_wp2
  go_loopw [10, 11, 14] (fun s m d wr => ∃ (k sk mk : Nat), s = .int .i64 sk ∧ m = .int .i64 mk ∧ d = .int .i64 k ∧ k ≤ ts.length ∧ (sk : Int) ≤ y.room ∧ mk < nw ∧ KQ y T k sk mk ∧ Below w3.heap.size w3 wr) (fun _ _ d _ => ts.length - (intOf d).toNat)
  case atStart => exact ⟨0, sn, mn, rfl, rfl, rfl, Nat.zero_le _, hsR, hmN, hkq, Below.refl _ _⟩
  case round =>
    obtain ⟨k, sk, mk, rfl, rfl, rfl, hk, hsk, hmk, hkq, hb⟩ := hrel
    by_cases hkn : k < ts.length
    · rcases HTR.out with hT | hT
      · subst hT
        unfold never at *
        by_cases hk40 : k < 40
        · have hkd : keepB y (999 + 1) sk mk = true := by
            rcases hkq with ⟨h1, h2⟩ | ⟨t, h1, h2, h3⟩
            · exact h2 _
            · exfalso; omega
          as_aux_lemma =>
          have hB4 := btr hB3 hb (Nat.le_refl _)
          have HW4 := Lib.hid (And.intro (HW.out.1.below hb (Nat.le_refl _)) (blk_keep HW.out.2 hb))
          have b74 := blk_keep b7 hb
          obtain ⟨o, os, hL, ho, hne, hall⟩ := kept_step HY.out.ok hkd
          have hst : stE y sk mk = 0 := stE_ok.2 ⟨HY.out.ok, ⟨by omega, hsk⟩, ⟨by omega, by rw [← HN.out]; omega⟩⟩
          have hor : ordE y sk mk 1000 = 0 := by unfold ordE btw; rw [if_pos hst, if_pos (by simp <;> omega)]
          have h25 : Calls Try.prog 25 #[.agg (encY y (.slice av y.ws.length cv)), .int .i64 sk, .int .i64 mk, .int .i64 1000] wr fun e w' => ∃ u, e = .returned (.tuple #[u, .int .i64 0]) ∧ SlI w' u (o :: os) ∧ Below wr.heap.size wr w' :=
            (ordersX_any y (.slice av y.ws.length cv) sk mk 1000 wr HW4.out.1).mono (by
              rintro e w' ⟨hb', ⟨h, -⟩ | ⟨-, u, rfl, hu⟩⟩
              · exact absurd hor h
              · refine ⟨u, rfl, ?_, hb'⟩
                rw [← hL]
                have he : ((1000 : Int) - 1).toNat = 999 := by omega
                rw [he] at hu
                simpa using hu)
          clear hst hor
          simp only [encY] at h25
          rw [← HN.out] at h25
          have HALL := Lib.hid (And.intro hne hall)
          clear hne hall hL hkd hkq
          go_wp2_with (first | (refine wpList_load_blk rfl 24 _ rfl _ rfl b74 Try.underlying24 rfl size24 rfl ?_) | (go_at_call 25; refine h25.mono ?_; rintro e w4 ⟨u4, rfl, hu4, hb4⟩; obtain ⟨ad4, cap4, rfl, hm4, hp4, hc4⟩ := hu4; obtain ⟨b4, off4, rfl, hlt4, hcell4⟩ := hc4 (by simp); have hc40 := hcell4 0 (by simp); simp only [at0, Nat.add_zero, List.getD_cons_zero] at hc40; simp only [List.length_cons] at *))
          rename_i K hK
          have HK := Lib.hid hK; clear hK
          have b75 := blk_keep b74 hb4
          have hS5 : w4.heap[n7]? = some (.cells #[.int .i64 y.room, .int .i64 y.most, .int .i64 y.lots, .slice av nw cv] 24 (0, 0)) ∧ w4.cell? ⟨b4, off4, none⟩ = some (.int .i64 o) := ⟨b75, hc40⟩
          have h37 : Calls Try.prog 37 #[.agg (encY y (.slice av y.ws.length cv)), .int .i64 sk, .int .i64 mk, .int .i64 o] w4.drew fun e w' => ∃ u, e = .returned u ∧ SlS w' u (stpL y sk mk o) ∧ Below w4.drew.heap.size w4.drew w' := steps_any y (.slice av y.ws.length cv) sk mk o w4.drew HY.out.ok (HW4.out.1.below (hb4.drew) (Nat.le_refl _)) (by rw [← HN.out]; exact hmk) (by omega) (by omega)
          simp only [encY] at h37
          rw [← HN.out] at h37
          refine wp_region_held (S := fun U => U.heap[n7]? = some (.cells #[.int .i64 y.room, .int .i64 y.most, .int .i64 y.lots, .slice av nw cv] 24 (0, 0)) ∧ U.cell? ⟨b4, off4, none⟩ = some (.int .i64 o)) (by kernel_rfl) ?_
          change wpAnyH _ _ _ _ _ _ _ _ (World.drew w4)
          refine wpAnyH_take (i := 0) (oi := { dst := some 75, op := _, type := _, pos := _, after := _, guard := none }) (v := .agg #[.int .i64 y.room, .int .i64 y.most, .int .i64 y.lots, .slice av nw cv]) rfl (by kernel_rfl) (by kernel_rfl) (by kernel_rfl) (fun _ _ _ h => h) (Or.inl ⟨by rfl, ?_⟩) hS5 ?_
          · exact yields_load_blk 24 (.tmp 9) rfl n7 rfl (fun W hW => hW.1) Try.underlying24 rfl size24 rfl
          simp only [Act.put, List.setIfInBounds_toArray, List.set_cons_zero, List.set_cons_succ]
          refine wpAnyH_take (i := 1) (oi := { dst := some 76, op := _, type := _, pos := _, after := _, guard := none }) (v := ?_) rfl (by kernel_rfl) (by kernel_rfl) (by kernel_rfl) (fun _ _ _ h => h) (Or.inl ⟨by rfl, ?_⟩) hS5 ?_
          rotate_left
          · intro U hU
            go_simp
            all_goals with_reducible rfl
          simp only [Act.put, List.setIfInBounds_toArray, List.set_cons_zero, List.set_cons_succ]
          refine wpAnyH_take (i := 2) (oi := { dst := some 77, op := _, type := _, pos := _, after := _, guard := none }) (v := ?_) rfl (by kernel_rfl) (by kernel_rfl) (by kernel_rfl) (fun _ _ _ h => h) (Or.inl ⟨by rfl, ?_⟩) hS5 ?_
          rotate_left
          · intro U hU
            go_simp
            all_goals with_reducible rfl
          simp only [Act.put, List.setIfInBounds_toArray, List.set_cons_zero, List.set_cons_succ]
          refine wpAnyH_take (i := 3) (oi := { dst := some 78, op := _, type := _, pos := _, after := _, guard := none }) (v := ?_) rfl (by kernel_rfl) (by kernel_rfl) (by kernel_rfl) (fun _ _ _ h => h) (Or.inl ⟨by rfl, ?_⟩) hS5 ?_
          rotate_left
          · intro U hU
            go_simp
            all_goals with_reducible rfl
          simp only [Act.put, List.setIfInBounds_toArray, List.set_cons_zero, List.set_cons_succ]
          refine wpAnyH_take (i := 4) (oi := { dst := some 79, op := _, type := _, pos := _, after := _, guard := none }) (v := ?_) rfl (by kernel_rfl) (by kernel_rfl) (by kernel_rfl) (fun _ _ _ h => h) (Or.inl ⟨by rfl, ?_⟩) hS5 ?_
          rotate_left
          · intro U hU
            go_simp
            all_goals with_reducible rfl
          simp only [Act.put, List.setIfInBounds_toArray, List.set_cons_zero, List.set_cons_succ]
          refine wpAnyH_take (i := 5) (oi := { dst := some 80, op := _, type := _, pos := _, after := _, guard := none }) (v := ?_) rfl (by kernel_rfl) (by kernel_rfl) (by kernel_rfl) (fun _ _ _ h => h) (Or.inl ⟨by rfl, ?_⟩) hS5 ?_
          rotate_left
          · intro U hU
            obtain ⟨-, hU1⟩ := hU
            go_simp
            all_goals with_reducible rfl
          simp only [Act.put, List.setIfInBounds_toArray, List.set_cons_zero, List.set_cons_succ]
          refine wpAnyH_one (i := 6) (o := { dst := some 81, op := Op.call { callee := Callee.value (Operand.func 37), args := #[Operand.tmp 75, Operand.tmp 76, Operand.tmp 77, Operand.tmp 80], argTypes := _ }, type := _, pos := _, after := _, guard := none }) (by kernel_rfl) rfl (by rfl) (fun K1 hK1 => ?_)
          have HK1 := Lib.hid hK1; clear hK1
          refine oper_callg (f := 37) (lb := #[]) rfl rfl (enters_of Try.func37 (by kernel_rfl) rfl) rfl (R := fun u W => SlS W u (stpL y sk mk o) ∧ Below w4.heap.size w4 W) ?_ ?_
          · refine h37.mono ?_
            rintro e W ⟨u, rfl, hu, hb⟩
            exact ⟨_, rfl, hu, (Below.refl _ w4).drew.trans hb⟩
          rintro u5 w5 ⟨hu5, hb5⟩
          refine HK1.out _ _ ⟨blk_keep b75 hb5, (hb5.cell (p := ⟨b4, off4, none⟩) hlt4).trans hc40⟩ ?_
          clear HK1 K1
          simp only [Act.put, List.setIfInBounds_toArray, List.set_cons_zero, List.set_cons_succ]
          have hS6 : w5.heap[n7]? = some (.cells #[.int .i64 y.room, .int .i64 y.most, .int .i64 y.lots, .slice av nw cv] 24 (0, 0)) ∧ w5.cell? ⟨b4, off4, none⟩ = some (.int .i64 o) := ⟨blk_keep b75 hb5, (hb5.cell (p := ⟨b4, off4, none⟩) hlt4).trans hc40⟩
          refine wpAnyH_one (i := 7) (o := { dst := some 18, op := _, type := _, pos := _, after := _, guard := none }) (by kernel_rfl) rfl (by rfl) (fun K1 hK1 => ?_)
          have HK1 := Lib.hid hK1; clear hK1
          go_simp
          refine HK1.out _ _ hS6 ?_
          clear HK1 K1
          refine wpAnyH_done (by kernel_rfl) ?_ _
          refine HK.out _ _ ?_; clear HK
          have hb5X := btr hb4 hb5 (Nat.le_refl _)
          obtain ⟨ad5, cap5, rfl, hm5, hp5, hc5⟩ := hu5
          have hlen5 : 0 < (stpL y sk mk o).length := List.length_pos_iff.2 HALL.out.1
          obtain ⟨b5, off5, rfl, hlt5, hcell5⟩ := hc5 hlen5
          have HC5 := Lib.hid hcell5
          clear hcell5 hc5 hc4 hcell4 b75 hS5 h37 h25
          obtain ⟨n5, hn5⟩ : ∃ n5, n5 = (stpL y sk mk o).length := ⟨_, rfl⟩
          rw [← hn5] at hm5 hp5 hlen5 ⊢
          have HN5 := Lib.hid hn5
          clear hn5 hb4 hb5
          have hx0 : ¬ o < 0 := by omega
          have hx1 : ¬ y.most < o := by omega
          have hx2 : ¬ n5 = 0 := by omega
          have hc40 := hS6.2
          have hc71 := cell_blk (i := 1) hS6.1
          simp only [List.getElem?_toArray, List.getElem?_cons_zero, List.getElem?_cons_succ] at hc71
          go_wp2
          rename_i K hK
          have HK := Lib.hid hK; clear hK
          go_quiet (fail)
          refine HK.out _ _ ?_; clear HK
          generalize hw6 : World.drewN _ _ = w6
          have hb6 : Below w5.heap.size w5 w6 := by rw [← hw6]; exact below_drewN (Below.refl _ _) _
          clear hw6 hc40 hc71
          have hB6 := btr (btr hB4 hb5X (Nat.le_refl _)) hb6 (Nat.le_refl _)
          obtain ⟨⟨adt, capt, het, -, hct⟩, hxt⟩ := HT.out.below hB6 (Nat.le_refl _)
          obtain ⟨bt', offt, rfl, hltt, hcellt⟩ := hct (by omega)
          injection het with het1 het2 het3
          subst het1 het3
          have ct := hcellt k hkn
          have hxk := hxt k hkn
          clear hcellt hct hxt
          obtain ⟨tk, htk⟩ : ∃ tk, tk = at0 ts k := ⟨_, rfl⟩
          rw [← htk] at ct hxk
          clear htk
          obtain ⟨i, hi⟩ : ∃ i : Nat, (i : Int) = tk % n5 := ⟨(tk % n5).toNat, by have := Int.emod_nonneg tk (show ((n5 : Nat) : Int) ≠ 0 by omega); omega⟩
          have hin : i < n5 := by have := Int.emod_lt_of_pos tk (show (0 : Int) < ((n5 : Nat) : Int) by omega); omega
          have htm : tk.tmod (n5 : Int) = i := by rw [bt _ hxk, hi]
          have hil : i < (stpL y sk mk o).length := by rw [← HN5.out]; exact hin
          obtain ⟨c0, c1, c2, c3⟩ := s_cells HC5.out hil rfl
          have hxm := List.getElem_mem hil
          have hg := HALL.out.2 _ hxm
          obtain ⟨⟨wx, hwx, hwlt⟩, hsx0⟩ := stp_facts hxm
          have hsx := hsx0 hg.1
          clear hsx0
          rw [hwx] at c0
          rw [hg.1] at c3
          obtain ⟨sx, hsx2⟩ : ∃ sx : Nat, (stpL y sk mk o)[i].s = sx := ⟨(stpL y sk mk o)[i].s.toNat, by omega⟩
          have hkx := hg.2
          rw [hwx, hsx2, Int.toNat_natCast, Int.toNat_natCast] at hkx
          rw [hsx2] at c2 hsx
          replace c0 := (hb6.cell (p := ⟨b5, _, none⟩) hlt5).trans c0
          replace c1 := (hb6.cell (p := ⟨b5, _, none⟩) hlt5).trans c1
          replace c2 := (hb6.cell (p := ⟨b5, _, none⟩) hlt5).trans c2
          replace c3 := (hb6.cell (p := ⟨b5, _, none⟩) hlt5).trans c3
          clear hi hxm hg hwx hsx2
          generalize (stpL y sk mk o)[i].c = xc at *
          clear hil HALL
          have hn5z : ((n5 : Int) == 0) = false := by simp; omega
          have hx3 : ¬ ((o < 0 ∨ y.most < o) ∨ ((n5 : Int) == 0) = true) := by rw [hn5z]; simp; omega
          go_wp2
          rename_i K hK _
          have HK := Lib.hid hK; clear hK
          generalize hw7 : World.alloc _ _ = w7
          obtain ⟨b7', hb7, -⟩ := blk1 hw7
          have e0 := cell_blk (i := 0) b7'
          have e2 := cell_blk (i := 2) b7'
          simp only [List.getElem?_toArray, List.getElem?_cons_zero, List.getElem?_cons_succ] at e0 e2
          clear hw7 c0 c1 c2 c3 ct
          go_quiet (fail)
          refine HK.out _ _ ?_; clear HK
          have hB8 := fun j => below_drewN (btr (btr hb (btr hb5X hb6 (Nat.le_refl _)) (Nat.le_refl _)) hb7 (Nat.le_refl _)) j
          go_wp2
          go_roundw
          case rel => exact ⟨k + 1, sx, wx, rfl, rfl, by go_num, by omega, hsx.2, by rw [HN.out]; exact hwlt, .inl ⟨rfl, fun d => keep_ever HY.out.ok (keep_anti HY.out.ok (d := cnt y) (d' := 999) (by have := term_lt HY.out.ok; omega) hkx) d⟩, hB8 _⟩
          case measure => simp [intOf]; omega
        · as_aux_lemma =>
          go_wp2_with (go_at_call 14; refine (works_any _).mono ?_; rintro e w9 ⟨rfl, hb9⟩)
          go_ret
          exact ⟨rfl, btr (btr hB3 hb (Nat.le_refl _)) hb9 (Nat.le_refl _)⟩
      · have hkd : ∃ t : Nat, T = t ∧ t ≤ 244 ∧ k ≤ t ∧ keepB y (t - k) sk mk = true := by
          rcases hkq with ⟨h1, h2⟩ | h
          · exfalso; unfold never at h1; omega
          · exact h
        obtain ⟨t, rfl, ht2, ht3, hkd⟩ := hkd
        have htn : ((t : Int) == 1125899906842624) = false := by simp; omega
        by_cases hT40 : t ≤ 40
        · by_cases hkt : k < t
          · as_aux_lemma =>
            have hkt2 : k < t := by omega
            obtain ⟨d, hd⟩ : ∃ d, t - k = d + 1 := ⟨t - k - 1, by omega⟩
            rw [hd] at hkd
            have hB4 := btr hB3 hb (Nat.le_refl _)
            have HW4 := Lib.hid (And.intro (HW.out.1.below hb (Nat.le_refl _)) (blk_keep HW.out.2 hb))
            have b74 := blk_keep b7 hb
            obtain ⟨o, os, hL, ho, hne, hall⟩ := kept_step HY.out.ok hkd
            have hst : stE y sk mk = 0 := stE_ok.2 ⟨HY.out.ok, ⟨by omega, hsk⟩, ⟨by omega, by rw [← HN.out]; omega⟩⟩
            have hor : ordE y sk mk ((t : Int) - k) = 0 := by unfold ordE btw; rw [if_pos hst, if_pos (by simp <;> omega)]
            have h25 : Calls Try.prog 25 #[.agg (encY y (.slice av y.ws.length cv)), .int .i64 sk, .int .i64 mk, .int .i64 ((t : Int) - k)] wr fun e w' => ∃ u, e = .returned (.tuple #[u, .int .i64 0]) ∧ SlI w' u (o :: os) ∧ Below wr.heap.size wr w' :=
              (ordersX_any y (.slice av y.ws.length cv) sk mk ((t : Int) - k) wr HW4.out.1).mono (by
                rintro e w' ⟨hb', ⟨h, -⟩ | ⟨-, u, rfl, hu⟩⟩
                · exact absurd hor h
                · refine ⟨u, rfl, ?_, hb'⟩
                  rw [← hL]
                  have he : ((((t : Int) - k) : Int) - 1).toNat = d := by omega
                  rw [he] at hu
                  simpa using hu)
            clear hst hor
            simp only [encY] at h25
            rw [← HN.out] at h25
            have HALL := Lib.hid (And.intro hne hall)
            clear hne hall hL hkd hkq
            go_wp2_with (first | (refine wpList_load_blk rfl 24 _ rfl _ rfl b74 Try.underlying24 rfl size24 rfl ?_) | (go_at_call 25; refine h25.mono ?_; rintro e w4 ⟨u4, rfl, hu4, hb4⟩; obtain ⟨ad4, cap4, rfl, hm4, hp4, hc4⟩ := hu4; obtain ⟨b4, off4, rfl, hlt4, hcell4⟩ := hc4 (by simp); have hc40 := hcell4 0 (by simp); simp only [at0, Nat.add_zero, List.getD_cons_zero] at hc40; simp only [List.length_cons] at *))
            rename_i K hK
            have HK := Lib.hid hK; clear hK
            have b75 := blk_keep b74 hb4
            have hS5 : w4.heap[n7]? = some (.cells #[.int .i64 y.room, .int .i64 y.most, .int .i64 y.lots, .slice av nw cv] 24 (0, 0)) ∧ w4.cell? ⟨b4, off4, none⟩ = some (.int .i64 o) := ⟨b75, hc40⟩
            have h37 : Calls Try.prog 37 #[.agg (encY y (.slice av y.ws.length cv)), .int .i64 sk, .int .i64 mk, .int .i64 o] w4.drew fun e w' => ∃ u, e = .returned u ∧ SlS w' u (stpL y sk mk o) ∧ Below w4.drew.heap.size w4.drew w' := steps_any y (.slice av y.ws.length cv) sk mk o w4.drew HY.out.ok (HW4.out.1.below (hb4.drew) (Nat.le_refl _)) (by rw [← HN.out]; exact hmk) (by omega) (by omega)
            simp only [encY] at h37
            rw [← HN.out] at h37
            refine wp_region_held (S := fun U => U.heap[n7]? = some (.cells #[.int .i64 y.room, .int .i64 y.most, .int .i64 y.lots, .slice av nw cv] 24 (0, 0)) ∧ U.cell? ⟨b4, off4, none⟩ = some (.int .i64 o)) (by kernel_rfl) ?_
            change wpAnyH _ _ _ _ _ _ _ _ (World.drew w4)
            refine wpAnyH_take (i := 0) (oi := { dst := some 75, op := _, type := _, pos := _, after := _, guard := none }) (v := .agg #[.int .i64 y.room, .int .i64 y.most, .int .i64 y.lots, .slice av nw cv]) rfl (by kernel_rfl) (by kernel_rfl) (by kernel_rfl) (fun _ _ _ h => h) (Or.inl ⟨by rfl, ?_⟩) hS5 ?_
            · exact yields_load_blk 24 (.tmp 9) rfl n7 rfl (fun W hW => hW.1) Try.underlying24 rfl size24 rfl
            simp only [Act.put, List.setIfInBounds_toArray, List.set_cons_zero, List.set_cons_succ]
            refine wpAnyH_take (i := 1) (oi := { dst := some 76, op := _, type := _, pos := _, after := _, guard := none }) (v := ?_) rfl (by kernel_rfl) (by kernel_rfl) (by kernel_rfl) (fun _ _ _ h => h) (Or.inl ⟨by rfl, ?_⟩) hS5 ?_
            rotate_left
            · intro U hU
              go_simp
              all_goals with_reducible rfl
            simp only [Act.put, List.setIfInBounds_toArray, List.set_cons_zero, List.set_cons_succ]
            refine wpAnyH_take (i := 2) (oi := { dst := some 77, op := _, type := _, pos := _, after := _, guard := none }) (v := ?_) rfl (by kernel_rfl) (by kernel_rfl) (by kernel_rfl) (fun _ _ _ h => h) (Or.inl ⟨by rfl, ?_⟩) hS5 ?_
            rotate_left
            · intro U hU
              go_simp
              all_goals with_reducible rfl
            simp only [Act.put, List.setIfInBounds_toArray, List.set_cons_zero, List.set_cons_succ]
            refine wpAnyH_take (i := 3) (oi := { dst := some 78, op := _, type := _, pos := _, after := _, guard := none }) (v := ?_) rfl (by kernel_rfl) (by kernel_rfl) (by kernel_rfl) (fun _ _ _ h => h) (Or.inl ⟨by rfl, ?_⟩) hS5 ?_
            rotate_left
            · intro U hU
              go_simp
              all_goals with_reducible rfl
            simp only [Act.put, List.setIfInBounds_toArray, List.set_cons_zero, List.set_cons_succ]
            refine wpAnyH_take (i := 4) (oi := { dst := some 79, op := _, type := _, pos := _, after := _, guard := none }) (v := ?_) rfl (by kernel_rfl) (by kernel_rfl) (by kernel_rfl) (fun _ _ _ h => h) (Or.inl ⟨by rfl, ?_⟩) hS5 ?_
            rotate_left
            · intro U hU
              go_simp
              all_goals with_reducible rfl
            simp only [Act.put, List.setIfInBounds_toArray, List.set_cons_zero, List.set_cons_succ]
            refine wpAnyH_take (i := 5) (oi := { dst := some 80, op := _, type := _, pos := _, after := _, guard := none }) (v := ?_) rfl (by kernel_rfl) (by kernel_rfl) (by kernel_rfl) (fun _ _ _ h => h) (Or.inl ⟨by rfl, ?_⟩) hS5 ?_
            rotate_left
            · intro U hU
              obtain ⟨-, hU1⟩ := hU
              go_simp
              all_goals with_reducible rfl
            simp only [Act.put, List.setIfInBounds_toArray, List.set_cons_zero, List.set_cons_succ]
            refine wpAnyH_one (i := 6) (o := { dst := some 81, op := Op.call { callee := Callee.value (Operand.func 37), args := #[Operand.tmp 75, Operand.tmp 76, Operand.tmp 77, Operand.tmp 80], argTypes := _ }, type := _, pos := _, after := _, guard := none }) (by kernel_rfl) rfl (by rfl) (fun K1 hK1 => ?_)
            have HK1 := Lib.hid hK1; clear hK1
            refine oper_callg (f := 37) (lb := #[]) rfl rfl (enters_of Try.func37 (by kernel_rfl) rfl) rfl (R := fun u W => SlS W u (stpL y sk mk o) ∧ Below w4.heap.size w4 W) ?_ ?_
            · refine h37.mono ?_
              rintro e W ⟨u, rfl, hu, hb⟩
              exact ⟨_, rfl, hu, (Below.refl _ w4).drew.trans hb⟩
            rintro u5 w5 ⟨hu5, hb5⟩
            refine HK1.out _ _ ⟨blk_keep b75 hb5, (hb5.cell (p := ⟨b4, off4, none⟩) hlt4).trans hc40⟩ ?_
            clear HK1 K1
            simp only [Act.put, List.setIfInBounds_toArray, List.set_cons_zero, List.set_cons_succ]
            have hS6 : w5.heap[n7]? = some (.cells #[.int .i64 y.room, .int .i64 y.most, .int .i64 y.lots, .slice av nw cv] 24 (0, 0)) ∧ w5.cell? ⟨b4, off4, none⟩ = some (.int .i64 o) := ⟨blk_keep b75 hb5, (hb5.cell (p := ⟨b4, off4, none⟩) hlt4).trans hc40⟩
            refine wpAnyH_one (i := 7) (o := { dst := some 18, op := _, type := _, pos := _, after := _, guard := none }) (by kernel_rfl) rfl (by rfl) (fun K1 hK1 => ?_)
            have HK1 := Lib.hid hK1; clear hK1
            go_simp
            refine HK1.out _ _ hS6 ?_
            clear HK1 K1
            refine wpAnyH_done (by kernel_rfl) ?_ _
            refine HK.out _ _ ?_; clear HK
            have hb5X := btr hb4 hb5 (Nat.le_refl _)
            obtain ⟨ad5, cap5, rfl, hm5, hp5, hc5⟩ := hu5
            have hlen5 : 0 < (stpL y sk mk o).length := List.length_pos_iff.2 HALL.out.1
            obtain ⟨b5, off5, rfl, hlt5, hcell5⟩ := hc5 hlen5
            have HC5 := Lib.hid hcell5
            clear hcell5 hc5 hc4 hcell4 b75 hS5 h37 h25
            obtain ⟨n5, hn5⟩ : ∃ n5, n5 = (stpL y sk mk o).length := ⟨_, rfl⟩
            rw [← hn5] at hm5 hp5 hlen5 ⊢
            have HN5 := Lib.hid hn5
            clear hn5 hb4 hb5
            have hx0 : ¬ o < 0 := by omega
            have hx1 : ¬ y.most < o := by omega
            have hx2 : ¬ n5 = 0 := by omega
            have hc40 := hS6.2
            have hc71 := cell_blk (i := 1) hS6.1
            simp only [List.getElem?_toArray, List.getElem?_cons_zero, List.getElem?_cons_succ] at hc71
            go_wp2
            rename_i K hK
            have HK := Lib.hid hK; clear hK
            go_quiet (fail)
            refine HK.out _ _ ?_; clear HK
            generalize hw6 : World.drewN _ _ = w6
            have hb6 : Below w5.heap.size w5 w6 := by rw [← hw6]; exact below_drewN (Below.refl _ _) _
            clear hw6 hc40 hc71
            have hB6 := btr (btr hB4 hb5X (Nat.le_refl _)) hb6 (Nat.le_refl _)
            obtain ⟨⟨adt, capt, het, -, hct⟩, hxt⟩ := HT.out.below hB6 (Nat.le_refl _)
            obtain ⟨bt', offt, rfl, hltt, hcellt⟩ := hct (by omega)
            injection het with het1 het2 het3
            subst het1 het3
            have ct := hcellt k hkn
            have hxk := hxt k hkn
            clear hcellt hct hxt
            obtain ⟨tk, htk⟩ : ∃ tk, tk = at0 ts k := ⟨_, rfl⟩
            rw [← htk] at ct hxk
            clear htk
            obtain ⟨i, hi⟩ : ∃ i : Nat, (i : Int) = tk % n5 := ⟨(tk % n5).toNat, by have := Int.emod_nonneg tk (show ((n5 : Nat) : Int) ≠ 0 by omega); omega⟩
            have hin : i < n5 := by have := Int.emod_lt_of_pos tk (show (0 : Int) < ((n5 : Nat) : Int) by omega); omega
            have htm : tk.tmod (n5 : Int) = i := by rw [bt _ hxk, hi]
            have hil : i < (stpL y sk mk o).length := by rw [← HN5.out]; exact hin
            obtain ⟨c0, c1, c2, c3⟩ := s_cells HC5.out hil rfl
            have hxm := List.getElem_mem hil
            have hg := HALL.out.2 _ hxm
            obtain ⟨⟨wx, hwx, hwlt⟩, hsx0⟩ := stp_facts hxm
            have hsx := hsx0 hg.1
            clear hsx0
            rw [hwx] at c0
            rw [hg.1] at c3
            obtain ⟨sx, hsx2⟩ : ∃ sx : Nat, (stpL y sk mk o)[i].s = sx := ⟨(stpL y sk mk o)[i].s.toNat, by omega⟩
            have hkx := hg.2
            rw [hwx, hsx2, Int.toNat_natCast, Int.toNat_natCast] at hkx
            rw [hsx2] at c2 hsx
            replace c0 := (hb6.cell (p := ⟨b5, _, none⟩) hlt5).trans c0
            replace c1 := (hb6.cell (p := ⟨b5, _, none⟩) hlt5).trans c1
            replace c2 := (hb6.cell (p := ⟨b5, _, none⟩) hlt5).trans c2
            replace c3 := (hb6.cell (p := ⟨b5, _, none⟩) hlt5).trans c3
            clear hi hxm hg hwx hsx2
            generalize (stpL y sk mk o)[i].c = xc at *
            clear hil HALL
            have hn5z : ((n5 : Int) == 0) = false := by simp; omega
            have hx3 : ¬ ((o < 0 ∨ y.most < o) ∨ ((n5 : Int) == 0) = true) := by rw [hn5z]; simp; omega
            go_wp2
            rename_i K hK _
            have HK := Lib.hid hK; clear hK
            generalize hw7 : World.alloc _ _ = w7
            obtain ⟨b7', hb7, -⟩ := blk1 hw7
            have e0 := cell_blk (i := 0) b7'
            have e2 := cell_blk (i := 2) b7'
            simp only [List.getElem?_toArray, List.getElem?_cons_zero, List.getElem?_cons_succ] at e0 e2
            clear hw7 c0 c1 c2 c3 ct
            go_quiet (fail)
            refine HK.out _ _ ?_; clear HK
            have hB8 := fun j => below_drewN (btr (btr hb (btr hb5X hb6 (Nat.le_refl _)) (Nat.le_refl _)) hb7 (Nat.le_refl _)) j
            go_wp2
            go_roundw
            case rel => exact ⟨k + 1, sx, wx, rfl, rfl, by go_num, by omega, hsx.2, by rw [HN.out]; exact hwlt, .inr ⟨t, rfl, ht2, by omega, by rw [show t - (k + 1) = d by omega]; exact hkx⟩, hB8 _⟩
            case measure => simp [intOf]; omega
          · as_aux_lemma =>
            go_wp2_with (go_at_call 14; refine (works_any _).mono ?_; rintro e w9 ⟨rfl, hb9⟩)
            go_ret
            exact ⟨rfl, btr (btr hB3 hb (Nat.le_refl _)) hb9 (Nat.le_refl _)⟩
        · by_cases hkt : k < 40
          · as_aux_lemma =>
            have hkt2 : k < t := by omega
            obtain ⟨d, hd⟩ : ∃ d, t - k = d + 1 := ⟨t - k - 1, by omega⟩
            rw [hd] at hkd
            have hB4 := btr hB3 hb (Nat.le_refl _)
            have HW4 := Lib.hid (And.intro (HW.out.1.below hb (Nat.le_refl _)) (blk_keep HW.out.2 hb))
            have b74 := blk_keep b7 hb
            obtain ⟨o, os, hL, ho, hne, hall⟩ := kept_step HY.out.ok hkd
            have hst : stE y sk mk = 0 := stE_ok.2 ⟨HY.out.ok, ⟨by omega, hsk⟩, ⟨by omega, by rw [← HN.out]; omega⟩⟩
            have hor : ordE y sk mk ((t : Int) - k) = 0 := by unfold ordE btw; rw [if_pos hst, if_pos (by simp <;> omega)]
            have h25 : Calls Try.prog 25 #[.agg (encY y (.slice av y.ws.length cv)), .int .i64 sk, .int .i64 mk, .int .i64 ((t : Int) - k)] wr fun e w' => ∃ u, e = .returned (.tuple #[u, .int .i64 0]) ∧ SlI w' u (o :: os) ∧ Below wr.heap.size wr w' :=
              (ordersX_any y (.slice av y.ws.length cv) sk mk ((t : Int) - k) wr HW4.out.1).mono (by
                rintro e w' ⟨hb', ⟨h, -⟩ | ⟨-, u, rfl, hu⟩⟩
                · exact absurd hor h
                · refine ⟨u, rfl, ?_, hb'⟩
                  rw [← hL]
                  have he : ((((t : Int) - k) : Int) - 1).toNat = d := by omega
                  rw [he] at hu
                  simpa using hu)
            clear hst hor
            simp only [encY] at h25
            rw [← HN.out] at h25
            have HALL := Lib.hid (And.intro hne hall)
            clear hne hall hL hkd hkq
            go_wp2_with (first | (refine wpList_load_blk rfl 24 _ rfl _ rfl b74 Try.underlying24 rfl size24 rfl ?_) | (go_at_call 25; refine h25.mono ?_; rintro e w4 ⟨u4, rfl, hu4, hb4⟩; obtain ⟨ad4, cap4, rfl, hm4, hp4, hc4⟩ := hu4; obtain ⟨b4, off4, rfl, hlt4, hcell4⟩ := hc4 (by simp); have hc40 := hcell4 0 (by simp); simp only [at0, Nat.add_zero, List.getD_cons_zero] at hc40; simp only [List.length_cons] at *))
            rename_i K hK
            have HK := Lib.hid hK; clear hK
            have b75 := blk_keep b74 hb4
            have hS5 : w4.heap[n7]? = some (.cells #[.int .i64 y.room, .int .i64 y.most, .int .i64 y.lots, .slice av nw cv] 24 (0, 0)) ∧ w4.cell? ⟨b4, off4, none⟩ = some (.int .i64 o) := ⟨b75, hc40⟩
            have h37 : Calls Try.prog 37 #[.agg (encY y (.slice av y.ws.length cv)), .int .i64 sk, .int .i64 mk, .int .i64 o] w4.drew fun e w' => ∃ u, e = .returned u ∧ SlS w' u (stpL y sk mk o) ∧ Below w4.drew.heap.size w4.drew w' := steps_any y (.slice av y.ws.length cv) sk mk o w4.drew HY.out.ok (HW4.out.1.below (hb4.drew) (Nat.le_refl _)) (by rw [← HN.out]; exact hmk) (by omega) (by omega)
            simp only [encY] at h37
            rw [← HN.out] at h37
            refine wp_region_held (S := fun U => U.heap[n7]? = some (.cells #[.int .i64 y.room, .int .i64 y.most, .int .i64 y.lots, .slice av nw cv] 24 (0, 0)) ∧ U.cell? ⟨b4, off4, none⟩ = some (.int .i64 o)) (by kernel_rfl) ?_
            change wpAnyH _ _ _ _ _ _ _ _ (World.drew w4)
            refine wpAnyH_take (i := 0) (oi := { dst := some 75, op := _, type := _, pos := _, after := _, guard := none }) (v := .agg #[.int .i64 y.room, .int .i64 y.most, .int .i64 y.lots, .slice av nw cv]) rfl (by kernel_rfl) (by kernel_rfl) (by kernel_rfl) (fun _ _ _ h => h) (Or.inl ⟨by rfl, ?_⟩) hS5 ?_
            · exact yields_load_blk 24 (.tmp 9) rfl n7 rfl (fun W hW => hW.1) Try.underlying24 rfl size24 rfl
            simp only [Act.put, List.setIfInBounds_toArray, List.set_cons_zero, List.set_cons_succ]
            refine wpAnyH_take (i := 1) (oi := { dst := some 76, op := _, type := _, pos := _, after := _, guard := none }) (v := ?_) rfl (by kernel_rfl) (by kernel_rfl) (by kernel_rfl) (fun _ _ _ h => h) (Or.inl ⟨by rfl, ?_⟩) hS5 ?_
            rotate_left
            · intro U hU
              go_simp
              all_goals with_reducible rfl
            simp only [Act.put, List.setIfInBounds_toArray, List.set_cons_zero, List.set_cons_succ]
            refine wpAnyH_take (i := 2) (oi := { dst := some 77, op := _, type := _, pos := _, after := _, guard := none }) (v := ?_) rfl (by kernel_rfl) (by kernel_rfl) (by kernel_rfl) (fun _ _ _ h => h) (Or.inl ⟨by rfl, ?_⟩) hS5 ?_
            rotate_left
            · intro U hU
              go_simp
              all_goals with_reducible rfl
            simp only [Act.put, List.setIfInBounds_toArray, List.set_cons_zero, List.set_cons_succ]
            refine wpAnyH_take (i := 3) (oi := { dst := some 78, op := _, type := _, pos := _, after := _, guard := none }) (v := ?_) rfl (by kernel_rfl) (by kernel_rfl) (by kernel_rfl) (fun _ _ _ h => h) (Or.inl ⟨by rfl, ?_⟩) hS5 ?_
            rotate_left
            · intro U hU
              go_simp
              all_goals with_reducible rfl
            simp only [Act.put, List.setIfInBounds_toArray, List.set_cons_zero, List.set_cons_succ]
            refine wpAnyH_take (i := 4) (oi := { dst := some 79, op := _, type := _, pos := _, after := _, guard := none }) (v := ?_) rfl (by kernel_rfl) (by kernel_rfl) (by kernel_rfl) (fun _ _ _ h => h) (Or.inl ⟨by rfl, ?_⟩) hS5 ?_
            rotate_left
            · intro U hU
              go_simp
              all_goals with_reducible rfl
            simp only [Act.put, List.setIfInBounds_toArray, List.set_cons_zero, List.set_cons_succ]
            refine wpAnyH_take (i := 5) (oi := { dst := some 80, op := _, type := _, pos := _, after := _, guard := none }) (v := ?_) rfl (by kernel_rfl) (by kernel_rfl) (by kernel_rfl) (fun _ _ _ h => h) (Or.inl ⟨by rfl, ?_⟩) hS5 ?_
            rotate_left
            · intro U hU
              obtain ⟨-, hU1⟩ := hU
              go_simp
              all_goals with_reducible rfl
            simp only [Act.put, List.setIfInBounds_toArray, List.set_cons_zero, List.set_cons_succ]
            refine wpAnyH_one (i := 6) (o := { dst := some 81, op := Op.call { callee := Callee.value (Operand.func 37), args := #[Operand.tmp 75, Operand.tmp 76, Operand.tmp 77, Operand.tmp 80], argTypes := _ }, type := _, pos := _, after := _, guard := none }) (by kernel_rfl) rfl (by rfl) (fun K1 hK1 => ?_)
            have HK1 := Lib.hid hK1; clear hK1
            refine oper_callg (f := 37) (lb := #[]) rfl rfl (enters_of Try.func37 (by kernel_rfl) rfl) rfl (R := fun u W => SlS W u (stpL y sk mk o) ∧ Below w4.heap.size w4 W) ?_ ?_
            · refine h37.mono ?_
              rintro e W ⟨u, rfl, hu, hb⟩
              exact ⟨_, rfl, hu, (Below.refl _ w4).drew.trans hb⟩
            rintro u5 w5 ⟨hu5, hb5⟩
            refine HK1.out _ _ ⟨blk_keep b75 hb5, (hb5.cell (p := ⟨b4, off4, none⟩) hlt4).trans hc40⟩ ?_
            clear HK1 K1
            simp only [Act.put, List.setIfInBounds_toArray, List.set_cons_zero, List.set_cons_succ]
            have hS6 : w5.heap[n7]? = some (.cells #[.int .i64 y.room, .int .i64 y.most, .int .i64 y.lots, .slice av nw cv] 24 (0, 0)) ∧ w5.cell? ⟨b4, off4, none⟩ = some (.int .i64 o) := ⟨blk_keep b75 hb5, (hb5.cell (p := ⟨b4, off4, none⟩) hlt4).trans hc40⟩
            refine wpAnyH_one (i := 7) (o := { dst := some 18, op := _, type := _, pos := _, after := _, guard := none }) (by kernel_rfl) rfl (by rfl) (fun K1 hK1 => ?_)
            have HK1 := Lib.hid hK1; clear hK1
            go_simp
            refine HK1.out _ _ hS6 ?_
            clear HK1 K1
            refine wpAnyH_done (by kernel_rfl) ?_ _
            refine HK.out _ _ ?_; clear HK
            have hb5X := btr hb4 hb5 (Nat.le_refl _)
            obtain ⟨ad5, cap5, rfl, hm5, hp5, hc5⟩ := hu5
            have hlen5 : 0 < (stpL y sk mk o).length := List.length_pos_iff.2 HALL.out.1
            obtain ⟨b5, off5, rfl, hlt5, hcell5⟩ := hc5 hlen5
            have HC5 := Lib.hid hcell5
            clear hcell5 hc5 hc4 hcell4 b75 hS5 h37 h25
            obtain ⟨n5, hn5⟩ : ∃ n5, n5 = (stpL y sk mk o).length := ⟨_, rfl⟩
            rw [← hn5] at hm5 hp5 hlen5 ⊢
            have HN5 := Lib.hid hn5
            clear hn5 hb4 hb5
            have hx0 : ¬ o < 0 := by omega
            have hx1 : ¬ y.most < o := by omega
            have hx2 : ¬ n5 = 0 := by omega
            have hc40 := hS6.2
            have hc71 := cell_blk (i := 1) hS6.1
            simp only [List.getElem?_toArray, List.getElem?_cons_zero, List.getElem?_cons_succ] at hc71
            go_wp2
            rename_i K hK
            have HK := Lib.hid hK; clear hK
            go_quiet (fail)
            refine HK.out _ _ ?_; clear HK
            generalize hw6 : World.drewN _ _ = w6
            have hb6 : Below w5.heap.size w5 w6 := by rw [← hw6]; exact below_drewN (Below.refl _ _) _
            clear hw6 hc40 hc71
            have hB6 := btr (btr hB4 hb5X (Nat.le_refl _)) hb6 (Nat.le_refl _)
            obtain ⟨⟨adt, capt, het, -, hct⟩, hxt⟩ := HT.out.below hB6 (Nat.le_refl _)
            obtain ⟨bt', offt, rfl, hltt, hcellt⟩ := hct (by omega)
            injection het with het1 het2 het3
            subst het1 het3
            have ct := hcellt k hkn
            have hxk := hxt k hkn
            clear hcellt hct hxt
            obtain ⟨tk, htk⟩ : ∃ tk, tk = at0 ts k := ⟨_, rfl⟩
            rw [← htk] at ct hxk
            clear htk
            obtain ⟨i, hi⟩ : ∃ i : Nat, (i : Int) = tk % n5 := ⟨(tk % n5).toNat, by have := Int.emod_nonneg tk (show ((n5 : Nat) : Int) ≠ 0 by omega); omega⟩
            have hin : i < n5 := by have := Int.emod_lt_of_pos tk (show (0 : Int) < ((n5 : Nat) : Int) by omega); omega
            have htm : tk.tmod (n5 : Int) = i := by rw [bt _ hxk, hi]
            have hil : i < (stpL y sk mk o).length := by rw [← HN5.out]; exact hin
            obtain ⟨c0, c1, c2, c3⟩ := s_cells HC5.out hil rfl
            have hxm := List.getElem_mem hil
            have hg := HALL.out.2 _ hxm
            obtain ⟨⟨wx, hwx, hwlt⟩, hsx0⟩ := stp_facts hxm
            have hsx := hsx0 hg.1
            clear hsx0
            rw [hwx] at c0
            rw [hg.1] at c3
            obtain ⟨sx, hsx2⟩ : ∃ sx : Nat, (stpL y sk mk o)[i].s = sx := ⟨(stpL y sk mk o)[i].s.toNat, by omega⟩
            have hkx := hg.2
            rw [hwx, hsx2, Int.toNat_natCast, Int.toNat_natCast] at hkx
            rw [hsx2] at c2 hsx
            replace c0 := (hb6.cell (p := ⟨b5, _, none⟩) hlt5).trans c0
            replace c1 := (hb6.cell (p := ⟨b5, _, none⟩) hlt5).trans c1
            replace c2 := (hb6.cell (p := ⟨b5, _, none⟩) hlt5).trans c2
            replace c3 := (hb6.cell (p := ⟨b5, _, none⟩) hlt5).trans c3
            clear hi hxm hg hwx hsx2
            generalize (stpL y sk mk o)[i].c = xc at *
            clear hil HALL
            have hn5z : ((n5 : Int) == 0) = false := by simp; omega
            have hx3 : ¬ ((o < 0 ∨ y.most < o) ∨ ((n5 : Int) == 0) = true) := by rw [hn5z]; simp; omega
            go_wp2
            rename_i K hK _
            have HK := Lib.hid hK; clear hK
            generalize hw7 : World.alloc _ _ = w7
            obtain ⟨b7', hb7, -⟩ := blk1 hw7
            have e0 := cell_blk (i := 0) b7'
            have e2 := cell_blk (i := 2) b7'
            simp only [List.getElem?_toArray, List.getElem?_cons_zero, List.getElem?_cons_succ] at e0 e2
            clear hw7 c0 c1 c2 c3 ct
            go_quiet (fail)
            refine HK.out _ _ ?_; clear HK
            have hB8 := fun j => below_drewN (btr (btr hb (btr hb5X hb6 (Nat.le_refl _)) (Nat.le_refl _)) hb7 (Nat.le_refl _)) j
            go_wp2
            go_roundw
            case rel => exact ⟨k + 1, sx, wx, rfl, rfl, by go_num, by omega, hsx.2, by rw [HN.out]; exact hwlt, .inr ⟨t, rfl, ht2, by omega, by rw [show t - (k + 1) = d by omega]; exact hkx⟩, hB8 _⟩
            case measure => simp [intOf]; omega
          · as_aux_lemma =>
            go_wp2_with (go_at_call 14; refine (works_any _).mono ?_; rintro e w9 ⟨rfl, hb9⟩)
            go_ret
            exact ⟨rfl, btr (btr hB3 hb (Nat.le_refl _)) hb9 (Nat.le_refl _)⟩
    · as_aux_lemma =>
      go_wp2_with (go_at_call 14; refine (works_any _).mono ?_; rintro e w9 ⟨rfl, hb9⟩)
      go_ret
      exact ⟨rfl, btr (btr hB3 hb (Nat.le_refl _)) hb9 (Nat.le_refl _)⟩
end Ytndmjginmomfiaa
end Go.Proofs
