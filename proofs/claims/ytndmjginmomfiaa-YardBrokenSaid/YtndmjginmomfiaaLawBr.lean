/- The law YardBroken returns true. -/
import Derived.Test.YtndmjginmomfiaaLawK
open Go Go.RowKit Go.YtndmjginmomfiaaIt
namespace Go.Proofs
namespace Ytndmjginmomfiaa
theorem br_facts {y : Yd} (ok : Ok y) {d sk mk : Nat} {o : Int} (hs : (sk : Int) ≤ y.room) (hm : mk < y.ws.length) (hk : keepB y (d + 1) sk mk = false) (hd : d < 1000) (ho : o ∈ ordL y) :
    ∃ (j mx : Nat) (x : Stp), BrkAt y d sk mk o j x ∧ x.w = mx ∧ mx < y.ws.length ∧ brE y sk mk o ((d : Int) + 1) = 0 ∧ brM y sk mk o ((d : Int) + 1) = mx ∧ brC y sk mk o ((d : Int) + 1) = x.c := by
  obtain ⟨j, x, hB, hb⟩ := brk_at ok (not_kept ok (by omega) hm hk ho)
  obtain ⟨⟨mx, hmx, hlt⟩, -⟩ := stp_facts (List.mem_of_getElem? hB.at_)
  have h1 := ordL_mem ok ho
  have hst : stE y sk mk = 0 := stE_ok.2 ⟨ok, ⟨by omega, hs⟩, ⟨by omega, by omega⟩⟩
  have hb2 : brk y (lay y ((d : Int) + 1 - 1).toNat) sk (mk : Int).toNat o = some (mx, x.c) := by
    rw [show ((d : Int) + 1 - 1).toNat = d by omega, Int.toNat_natCast, hb, hmx, Int.toNat_natCast]
  have hE : brE y sk mk o ((d : Int) + 1) = 0 := by
    unfold brE
    rw [if_pos hst, if_pos (by unfold btw; simp; omega), if_pos ⟨by unfold btw; simp; omega, h1.2.2⟩, hb2]; rfl
  refine ⟨j, mx, x, hB, hmx, hlt, hE, ?_, ?_⟩
  · unfold brM; rw [if_pos hE, hb2]; rfl
  · unfold brC; rw [if_pos hE, hb2]; rfl
theorem ord_num {y : Yd} (ok : Ok y) {x : Int} : y.lots * (x % (y.most / y.lots + 1)) ∈ ordL y := by
  have h1 := ok.lots0
  have h0 := ok.most0
  have hq : 0 ≤ y.most / y.lots := Int.ediv_nonneg h0 (by omega)
  have ha := Int.emod_nonneg x (show y.most / y.lots + 1 ≠ 0 by omega)
  have hb := Int.emod_lt_of_pos x (show 0 < y.most / y.lots + 1 by omega)
  refine mem_ordL ok (Int.mul_nonneg (by omega) ha) ?_ (Int.mul_emod_right _ _)
  have h2 : y.lots * (x % (y.most / y.lots + 1)) ≤ y.lots * (y.most / y.lots) := Int.mul_le_mul_of_nonneg_left (by omega) (by omega)
  have h3 := Int.mul_ediv_self_le (x := y.most) (k := y.lots) (by omega)
  omega
set_option maxRecDepth 100000 in
set_option maxHeartbeats 8000000 in
theorem yardBroken_any (r m l : Int) (u : Value) (qs : List Q4) (st we : Int) (tv : Value) (ts : List Int) (w : World) (hr : (0 ≤ r ∧ r < 256) ∧ (0 ≤ m ∧ m < 256) ∧ (0 ≤ l ∧ l < 256)) (hq : ∀ q ∈ qs, q.ok) (hu : SlQ w u qs) (hs : 0 ≤ st ∧ st < 256) (hm : 0 ≤ we ∧ we < 256) (ht : SlB w tv ts) :
    Calls Try.prog 10 #[encP r m l u, .int .u8 st, .int .u8 we, tv] w fun e w' => e = .returned (.bool true) ∧ Below w.heap.size w w' := by
  have HT := Lib.hid ht
  obtain ⟨⟨at0v, captv, rfl, htmx, -⟩, -⟩ := ht
  have hp4 : #[Value.int .u8 r, .int .u8 m, .int .u8 l, u].size = 4 := rfl
  have HM := Lib.hid (fun W (hW : Below w.heap.size w W) => made_any r m l u qs W hr.1 hr.2.1 hr.2.2 hq (hu.below (w' := W) hW (Nat.le_refl _)))
  obtain ⟨ad, cap, rfl, -, -, -⟩ := hu
  clear hr hq
  unfold encP at *
  go_enter Try.func10, Try.ntmps10
  refine wp_seq_k (fun K hK => ?_)
  have HK := Lib.hid hK; clear hK
  go_wp2
  refine HK.out _ _ ?_; clear HK K
  generalize hw1 : World.alloc _ _ = w1
  obtain ⟨b1, hB, hs1⟩ := blk1 hw1
  clear hw1
  have h32 := HM.out w1 hB
  refine wp_seq_k (fun K hK => ?_)
  have HK := Lib.hid hK; clear hK
  go_wp2_with (first | (refine wpList_load_blk rfl 62 _ rfl _ rfl b1 Try.underlying62 rfl info62 hp4 ?_) | (go_at_call 32; refine h32.mono ?_; rintro e w2 ⟨y, v, rfl, hw, hy, hb2⟩; have hy4 : (encY y v).size = 4 := rfl; have ho1 : (encY y v).all (·.oneCell') = true := (by obtain ⟨ad, cap, rfl, -⟩ := hw; simp [encY, Value.oneCell']) ) | (refine wpList_store_blk rfl 24 _ _ rfl _ rfl rfl (heap_newI rfl) size24 hy4 rfl ho1 ?_))
  refine HK.out _ _ ?_; clear HK K
  have hB2 := btr hB hb2 (Nat.le_refl _)
  clear h32 b1
  generalize hwA : World.putObj _ _ _ = wA
  have b7 : wA.heap[w2.heap.size]? = some (.cells (encY y v) 24 (0, 0)) := by rw [← hwA]; exact World.putObj_heap_same (by rw [World.size_alloc]; omega)
  have hBA : Below w2.heap.size w2 wA := by rw [← hwA]; exact below_putObj ((Below.refl _ _).alloc (Nat.le_refl _) _) (Nat.le_refl _)
  clear hwA
  have hw' := hw.below hBA (Nat.le_refl _)
  have hB3 := btr hB2 hBA (Nat.le_refl _)
  clear hw hB hb2 hB2 hBA hp4 hs1 HM
  have hY0 := hB3.size
  generalize w2.heap.size = n7 at *
  obtain ⟨av, cv, rfl, -, -, -⟩ := id hw'
  have hn1 := hy.ok.n0
  have hn2 := hy.n
  have hro := hy.ok.room0
  have hr7 := hy.room
  have hmo := hy.ok.most0
  have hmo6 := hy.most
  have hlo := hy.ok.lots0
  have hlo3 := hy.lots
  have HY := Lib.hid hy
  obtain ⟨nw, hnw⟩ : ∃ nw, nw = y.ws.length := ⟨_, rfl⟩
  have HN := Lib.hid hnw
  have HW := Lib.hid (And.intro hw' b7)
  simp only [encY] at b7 ho1 hy4 ⊢
  rw [← hnw] at b7 hn1 hn2 ⊢
  clear hnw hy hw'
  have hq1 : ¬ (IntKind.i64.wrap (y.room + 1) = 0) := by rw [bwrap (by omega)]; omega
  have hq3 : ¬ (nw = 0) := by omega
  have HQ := Lib.hid (And.intro hq1 hq3)
  clear hq1 hq3
  have d0 := cell_blk (i := 0) b7
  have d3 := cell_blk (i := 3) b7
  simp only [List.getElem?_toArray, List.getElem?_cons_zero, List.getElem?_cons_succ] at d0 d3
  have hS2 : wA.cell? ⟨n7, 0, none⟩ = some (.int .i64 y.room) ∧ wA.cell? ⟨n7, 3, none⟩ = some (.slice av nw cv) := ⟨d0, d3⟩
  clear d0 d3
  refine wp_seq_k (fun K hK => ?_)
  have HK := Lib.hid hK; clear hK
  refine wp_region_held (S := fun U => U.cell? ⟨n7, 0, none⟩ = some (.int .i64 y.room) ∧ U.cell? ⟨n7, 3, none⟩ = some (.slice av nw cv)) (by kernel_rfl) ?_
  change wpAnyH _ _ _ _ _ _ _ _ (World.drew wA)
  refine wpAnyH_take (i := 0) (oi := { dst := some 30, op := _, type := _, pos := _, after := _, guard := none }) (v := ?_) rfl (by kernel_rfl) (by kernel_rfl) (by kernel_rfl) (fun _ _ _ h => h) (Or.inl ⟨by rfl, ?_⟩) hS2 ?_
  rotate_left
  · intro U hU
    obtain ⟨hU0, hU3⟩ := hU
    go_simp
    all_goals with_reducible rfl
  simp only [Act.put, List.setIfInBounds_toArray, List.set_cons_zero, List.set_cons_succ]
  refine wpAnyH_take (i := 1) (oi := { dst := some 31, op := _, type := _, pos := _, after := _, guard := none }) (v := ?_) rfl (by kernel_rfl) (by kernel_rfl) (by kernel_rfl) (fun _ _ _ h => h) (Or.inl ⟨by rfl, ?_⟩) hS2 ?_
  rotate_left
  · intro U hU
    obtain ⟨hU0, hU3⟩ := hU
    go_simp
    all_goals with_reducible rfl
  simp only [Act.put, List.setIfInBounds_toArray, List.set_cons_zero, List.set_cons_succ]
  refine wpAnyH_take (i := 2) (oi := { dst := some 32, op := _, type := _, pos := _, after := _, guard := none }) (v := ?_) rfl (by kernel_rfl) (by kernel_rfl) (by kernel_rfl) (fun _ _ _ h => h) (Or.inl ⟨by rfl, ?_⟩) hS2 ?_
  rotate_left
  · intro U hU
    obtain ⟨hU0, hU3⟩ := hU
    go_simp
    all_goals with_reducible rfl
  simp only [Act.put, List.setIfInBounds_toArray, List.set_cons_zero, List.set_cons_succ]
  refine wpAnyH_take (i := 3) (oi := { dst := some 33, op := _, type := _, pos := _, after := _, guard := none }) (v := ?_) rfl (by kernel_rfl) (by kernel_rfl) (by kernel_rfl) (fun _ _ _ h => h) (Or.inl ⟨by rfl, ?_⟩) hS2 ?_
  rotate_left
  · intro U hU
    obtain ⟨hU0, hU3⟩ := hU
    go_simp
    all_goals with_reducible rfl
  simp only [Act.put, List.setIfInBounds_toArray, List.set_cons_zero, List.set_cons_succ]
  refine wpAnyH_take (i := 4) (oi := { dst := some 34, op := _, type := _, pos := _, after := _, guard := none }) (v := ?_) rfl (by kernel_rfl) (by kernel_rfl) (by kernel_rfl) (fun _ _ _ h => h) (Or.inl ⟨by rfl, ?_⟩) hS2 ?_
  rotate_left
  · intro U hU
    obtain ⟨hU0, hU3⟩ := hU
    go_simp
    all_goals with_reducible rfl
  simp only [Act.put, List.setIfInBounds_toArray, List.set_cons_zero, List.set_cons_succ]
  refine wpAnyH_take (i := 5) (oi := { dst := some 35, op := _, type := _, pos := _, after := _, guard := none }) (v := ?_) rfl (by kernel_rfl) (by kernel_rfl) (by kernel_rfl) (fun _ _ _ h => h) (Or.inl ⟨by rfl, ?_⟩) hS2 ?_
  rotate_left
  · intro U hU
    obtain ⟨hU0, hU3⟩ := hU
    go_simp
    rw [if_neg HQ.out.1]
    all_goals with_reducible rfl
  simp only [Act.put, List.setIfInBounds_toArray, List.set_cons_zero, List.set_cons_succ]
  refine wpAnyH_take (i := 6) (oi := { dst := some 36, op := _, type := _, pos := _, after := _, guard := none }) (v := ?_) rfl (by kernel_rfl) (by kernel_rfl) (by kernel_rfl) (fun _ _ _ h => h) (Or.inl ⟨by rfl, ?_⟩) hS2 ?_
  rotate_left
  · intro U hU
    obtain ⟨hU0, hU3⟩ := hU
    go_simp
    all_goals with_reducible rfl
  simp only [Act.put, List.setIfInBounds_toArray, List.set_cons_zero, List.set_cons_succ]
  refine wpAnyH_take (i := 7) (oi := { dst := some 37, op := _, type := _, pos := _, after := _, guard := none }) (v := ?_) rfl (by kernel_rfl) (by kernel_rfl) (by kernel_rfl) (fun _ _ _ h => h) (Or.inl ⟨by rfl, ?_⟩) hS2 ?_
  rotate_left
  · intro U hU
    obtain ⟨hU0, hU3⟩ := hU
    go_simp
    all_goals with_reducible rfl
  simp only [Act.put, List.setIfInBounds_toArray, List.set_cons_zero, List.set_cons_succ]
  refine wpAnyH_take (i := 8) (oi := { dst := some 38, op := _, type := _, pos := _, after := _, guard := none }) (v := ?_) rfl (by kernel_rfl) (by kernel_rfl) (by kernel_rfl) (fun _ _ _ h => h) (Or.inl ⟨by rfl, ?_⟩) hS2 ?_
  rotate_left
  · intro U hU
    obtain ⟨hU0, hU3⟩ := hU
    go_simp
    all_goals with_reducible rfl
  simp only [Act.put, List.setIfInBounds_toArray, List.set_cons_zero, List.set_cons_succ]
  refine wpAnyH_take (i := 9) (oi := { dst := some 39, op := _, type := _, pos := _, after := _, guard := none }) (v := ?_) rfl (by kernel_rfl) (by kernel_rfl) (by kernel_rfl) (fun _ _ _ h => h) (Or.inl ⟨by rfl, ?_⟩) hS2 ?_
  rotate_left
  · intro U hU
    obtain ⟨hU0, hU3⟩ := hU
    go_simp
    all_goals with_reducible rfl
  simp only [Act.put, List.setIfInBounds_toArray, List.set_cons_zero, List.set_cons_succ]
  refine wpAnyH_take (i := 10) (oi := { dst := some 40, op := _, type := _, pos := _, after := _, guard := none }) (v := ?_) rfl (by kernel_rfl) (by kernel_rfl) (by kernel_rfl) (fun _ _ _ h => h) (Or.inl ⟨by rfl, ?_⟩) hS2 ?_
  rotate_left
  · intro U hU
    obtain ⟨hU0, hU3⟩ := hU
    go_simp
    all_goals with_reducible rfl
  simp only [Act.put, List.setIfInBounds_toArray, List.set_cons_zero, List.set_cons_succ]
  refine wpAnyH_take (i := 11) (oi := { dst := some 41, op := _, type := _, pos := _, after := _, guard := none }) (v := ?_) rfl (by kernel_rfl) (by kernel_rfl) (by kernel_rfl) (fun _ _ _ h => h) (Or.inl ⟨by rfl, ?_⟩) hS2 ?_
  rotate_left
  · intro U hU
    obtain ⟨hU0, hU3⟩ := hU
    go_simp
    rw [if_neg HQ.out.2]
    all_goals with_reducible rfl
  simp only [Act.put, List.setIfInBounds_toArray, List.set_cons_zero, List.set_cons_succ]
  simp only [bwq hs, bwq hm, bwrap (show 0 ≤ y.room + 1 ∧ y.room + 1 < 4000 by omega), bt _ hs, bt _ hm]
  obtain ⟨sn, hsn⟩ : ∃ sn : Nat, (sn : Int) = st % (y.room + 1) := ⟨(st % (y.room + 1)).toNat, by have := Int.emod_nonneg st (show y.room + 1 ≠ 0 by omega); omega⟩
  have hsR : (sn : Int) ≤ y.room := by have := Int.emod_lt_of_pos st (show 0 < y.room + 1 by omega); omega
  have hwn := Int.emod_nonneg we (show ((nw : Nat) : Int) ≠ 0 by omega)
  have hwl := Int.emod_lt_of_pos we (show (0 : Int) < ((nw : Nat) : Int) by omega)
  obtain ⟨mn, hmn⟩ : ∃ mn : Nat, (mn : Int) = we % nw := ⟨(we % nw).toNat, by omega⟩
  have hmN : mn < nw := by omega
  rw [← hsn, ← hmn]
  clear hsn hwn hwl hmn hs hm HQ
  refine wpAnyH_take (i := 12) (oi := { dst := some 10, op := _, type := _, pos := _, after := _, guard := none }) (v := ?_) rfl (by kernel_rfl) (by kernel_rfl) (by kernel_rfl) (fun _ _ _ h => h) (Or.inl ⟨by rfl, ?_⟩) hS2 ?_
  rotate_left
  · intro U hU
    go_simp
    all_goals with_reducible rfl
  simp only [Act.put, List.setIfInBounds_toArray, List.set_cons_zero, List.set_cons_succ]
  refine wpAnyH_take (i := 13) (oi := { dst := some 11, op := _, type := _, pos := _, after := _, guard := none }) (v := ?_) rfl (by kernel_rfl) (by kernel_rfl) (by kernel_rfl) (fun _ _ _ h => h) (Or.inl ⟨by rfl, ?_⟩) hS2 ?_
  rotate_left
  · intro U hU
    go_simp
    all_goals with_reducible rfl
  simp only [Act.put, List.setIfInBounds_toArray, List.set_cons_zero, List.set_cons_succ]
  refine wpAnyH_done (by kernel_rfl) ?_ _
  refine HK.out _ _ ?_; clear HK
  clear hS2
  generalize hwD : World.drew wA = wD
  have hBd : Below wA.heap.size wA wD := by rw [← hwD]; exact (Below.refl _ _).drew
  clear hwD
  replace b7 := blk_keep b7 hBd
  have HW2 := Lib.hid (And.intro (HW.out.1.below hBd (Nat.le_refl _)) (blk_keep HW.out.2 hBd))
  clear HW
  have HW := HW2
  clear HW2
  replace hB3 := btr hB3 hBd (Nat.le_refl _)
  clear hBd
  have hY0 := hB3.size
  have h18 := termX_any y (.slice av y.ws.length cv) sn mn wD HW.out.1
  have hst : stE y sn mn = 0 := stE_ok.2 ⟨HY.out.ok, ⟨by omega, hsR⟩, ⟨by omega, by rw [← HN.out]; omega⟩⟩
  have hte : termE y sn mn = termP y sn mn := by unfold termE; rw [if_pos hst]; simp
  rw [hst, hte] at h18
  clear hst hte
  simp only [encY] at h18
  rw [← HN.out] at h18
  have htc := term_cases HY.out.ok (s := sn) (m := mn) (by omega) (by rw [← HN.out]; exact hmN)
  have hTt := term_lt HY.out.ok
  generalize termP y sn mn = T at *
  refine wp_seq_k (fun K hK => ?_)
  have HK := Lib.hid hK; clear hK
  go_wp2_with (first | (refine wpList_load_blk rfl 24 _ rfl _ rfl b7 Try.underlying24 rfl size24 rfl ?_) | (go_at_call 18; refine h18.mono ?_; rintro e w3 ⟨rfl, hb3⟩))
  refine HK.out _ _ ?_; clear HK
  replace b7 := blk_keep b7 hb3
  have HW2 := Lib.hid (And.intro (HW.out.1.below hb3 (Nat.le_refl _)) (blk_keep HW.out.2 hb3))
  clear HW
  have HW := HW2
  clear HW2
  replace hB3 := btr hB3 hb3 (Nat.le_refl _)
  clear h18 hb3 hY0
  have hY0 := hB3.size
  rcases htc with ⟨h1, h2⟩ | ⟨t, rfl, h2, h3, h4⟩
  · subst h1
    clear h2 hTt
    unfold never
    as_aux_lemma =>
    have hst : stE y sn mn = 0 := stE_ok.2 ⟨HY.out.ok, ⟨by omega, hsR⟩, ⟨by omega, by rw [← HN.out]; omega⟩⟩
    have hE : brE y sn mn 0 1000 = 0 ∨ brE y sn mn 0 1000 = 5 := by
      unfold brE
      rw [if_pos hst, if_pos (by decide), if_pos ⟨by unfold btw; simp; omega, Int.zero_emod _⟩]
      split
      · exact .inr rfl
      · exact .inl rfl
    have h28 := break_any y (.slice av y.ws.length cv) sn mn 0 1000 w3 HW.out.1
    simp only [encY] at h28
    rw [← HN.out] at h28
    clear hst
    generalize brE y sn mn 0 1000 = E at *
    generalize brM y sn mn 0 1000 = Em at *
    generalize brC y sn mn 0 1000 = Ec at *
    rcases hE with rfl | rfl
    · go_wp2_with (first | (refine wpList_load_blk rfl 24 _ rfl _ rfl b7 Try.underlying24 rfl size24 rfl ?_) | (go_at_call 28; refine h28.mono ?_; rintro e w4 ⟨hb4, rfl⟩) | (go_at_call 14; refine (works_any _).mono ?_; rintro e w9 ⟨rfl, hb9⟩))
      go_ret
      exact ⟨rfl, btr (btr hB3 hb4 (Nat.le_refl _)) hb9 (Nat.le_refl _)⟩
    · go_wp2_with (first | (refine wpList_load_blk rfl 24 _ rfl _ rfl b7 Try.underlying24 rfl size24 rfl ?_) | (go_at_call 28; refine h28.mono ?_; rintro e w4 ⟨hb4, rfl⟩) | (go_at_call 14; refine (works_any _).mono ?_; rintro e w9 ⟨rfl, hb9⟩))
      go_ret
      exact ⟨rfl, btr (btr hB3 hb4 (Nat.le_refl _)) hb9 (Nat.le_refl _)⟩
  · have htn : ((t : Int) == 1125899906842624) = false := by simp; omega
    have htn2 : ¬ (t : Int) = 1125899906842624 := by omega
    go_wp2
    go_loopw [10, 11, 17] (fun s m d wr => ∃ (D sk mk : Nat), s = .int .i64 sk ∧ m = .int .i64 mk ∧ d = .int .i64 D ∧ D ≤ t + 1 ∧ (sk : Int) ≤ y.room ∧ mk < nw ∧ keepB y D sk mk = false ∧ Below w3.heap.size w3 wr) (fun _ _ d _ => (intOf d).toNat)
    case atStart => exact ⟨t + 1, sn, mn, rfl, rfl, by congr 1, Nat.le_refl _, hsR, hmN, h4, Below.refl _ _⟩
    case round =>
      clear h3 h4
      obtain ⟨D, sk, mk, rfl, rfl, rfl, hD, hsk, hmk, hkd, hb⟩ := hrel
      obtain ⟨d, rfl⟩ : ∃ d, D = d + 1 := by
        cases D with
        | zero =>
          rw [keep0 HY.out.ok] at hkd
          have h1 : mk < y.ws.length := by rw [← HN.out]; exact hmk
          have h2 : sk ≤ y.room.toNat := by omega
          simp [h1, h2] at hkd
        | succ d => exact ⟨d, rfl⟩
      have HKD := Lib.hid hkd
      clear hkd
      have hB4 := btr hB3 hb (Nat.le_refl _)
      have HW4 := Lib.hid (And.intro (HW.out.1.below hb (Nat.le_refl _)) (blk_keep HW.out.2 hb))
      have b74 := blk_keep b7 hb
      obtain ⟨p, hpt⟩ : ∃ p : Nat, (t : Int) + 1 - ((d : Int) + 1) = p := ⟨t - d, by omega⟩
      by_cases hpl : p < ts.length
      · have hpl2 : (p : Int) < ts.length := by omega
        as_aux_lemma =>
        have hB6 := btr hB3 hb (Nat.le_refl _)
        obtain ⟨⟨adt, capt, het, -, hct⟩, hxt⟩ := HT.out.below hB6 (Nat.le_refl _)
        obtain ⟨bt', offt, rfl, hltt, hcellt⟩ := hct (by omega)
        injection het with het1 het2 het3
        subst het1 het3
        have ct := hcellt p hpl
        have hxk := hxt p hpl
        clear hcellt hct hxt het2
        obtain ⟨tk, htk⟩ : ∃ tk, tk = at0 ts p := ⟨_, rfl⟩
        rw [← htk] at ct hxk
        clear htk
        go_wp2
        rename_i K hK
        have HK := Lib.hid hK; clear hK
        have d1 := cell_blk (i := 1) b74
        have d2 := cell_blk (i := 2) b74
        simp only [List.getElem?_toArray, List.getElem?_cons_zero, List.getElem?_cons_succ] at d1 d2
        have hS5 : wr.cell? ⟨n7, 1, none⟩ = some (.int .i64 y.most) ∧ wr.cell? ⟨n7, 2, none⟩ = some (.int .i64 y.lots) ∧ wr.cell? ⟨bt', offt + p, none⟩ = some (.int .u8 tk) := ⟨d1, d2, ct⟩
        clear d1 d2 ct
        have hq0 : 0 ≤ y.most / y.lots := Int.ediv_nonneg hmo (by omega)
        have hq6 : y.most / y.lots ≤ y.most := Int.ediv_le_self _ hmo
        have ha := Int.emod_nonneg tk (show y.most / y.lots + 1 ≠ 0 by omega)
        have hb' := Int.emod_lt_of_pos tk (show 0 < y.most / y.lots + 1 by omega)
        have hl3 : 0 ≤ y.lots * (tk % (y.most / y.lots + 1)) := Int.mul_nonneg (by omega) ha
        have hl4 : y.lots * (tk % (y.most / y.lots + 1)) ≤ 3 * 7 := Int.mul_le_mul hlo3 (by omega) ha (by omega)
        have HQ := Lib.hid (show (¬ y.lots = 0) ∧ IntKind.i64.wrap (y.most.tdiv y.lots) = y.most / y.lots ∧ IntKind.i64.wrap (y.most / y.lots + 1) = y.most / y.lots + 1 ∧ (¬ y.most / y.lots + 1 = 0) ∧ (IntKind.i64.wrap tk).tmod (y.most / y.lots + 1) = tk % (y.most / y.lots + 1) ∧ IntKind.i64.wrap (y.lots * (tk % (y.most / y.lots + 1))) = y.lots * (tk % (y.most / y.lots + 1)) from
          ⟨by omega, by rw [Int.tdiv_eq_ediv_of_nonneg hmo]; exact bwrap (by omega), bwrap (by omega), by omega, by rw [bwq hxk, bt _ hxk], bwrap (by omega)⟩)
        clear hq0 hq6 ha hb' hl3 hl4
        refine wp_region_held (S := fun U => U.cell? ⟨n7, 1, none⟩ = some (.int .i64 y.most) ∧ U.cell? ⟨n7, 2, none⟩ = some (.int .i64 y.lots) ∧ U.cell? ⟨bt', offt + p, none⟩ = some (.int .u8 tk)) (by kernel_rfl) ?_
        change wpAnyH _ _ _ _ _ _ _ _ (World.drew wr)
        refine wpAnyH_take (i := 0) (oi := { dst := some 84, op := _, type := _, pos := _, after := _, guard := none }) (v := ?_) rfl (by kernel_rfl) (by kernel_rfl) (by kernel_rfl) (fun _ _ _ h => h) (Or.inl ⟨by rfl, ?_⟩) hS5 ?_
        rotate_left
        · intro U hU
          obtain ⟨hU1, hU2, hU3⟩ := hU
          go_simp
          all_goals with_reducible rfl
        simp only [Act.put, List.setIfInBounds_toArray, List.set_cons_zero, List.set_cons_succ]
        refine wpAnyH_take (i := 1) (oi := { dst := some 85, op := _, type := _, pos := _, after := _, guard := none }) (v := ?_) rfl (by kernel_rfl) (by kernel_rfl) (by kernel_rfl) (fun _ _ _ h => h) (Or.inl ⟨by rfl, ?_⟩) hS5 ?_
        rotate_left
        · intro U hU
          obtain ⟨hU1, hU2, hU3⟩ := hU
          go_simp
          all_goals with_reducible rfl
        simp only [Act.put, List.setIfInBounds_toArray, List.set_cons_zero, List.set_cons_succ]
        refine wpAnyH_take (i := 2) (oi := { dst := some 86, op := _, type := _, pos := _, after := _, guard := none }) (v := ?_) rfl (by kernel_rfl) (by kernel_rfl) (by kernel_rfl) (fun _ _ _ h => h) (Or.inl ⟨by rfl, ?_⟩) hS5 ?_
        rotate_left
        · intro U hU
          obtain ⟨hU1, hU2, hU3⟩ := hU
          go_simp
          all_goals with_reducible rfl
        simp only [Act.put, List.setIfInBounds_toArray, List.set_cons_zero, List.set_cons_succ]
        refine wpAnyH_take (i := 3) (oi := { dst := some 87, op := _, type := _, pos := _, after := _, guard := none }) (v := ?_) rfl (by kernel_rfl) (by kernel_rfl) (by kernel_rfl) (fun _ _ _ h => h) (Or.inl ⟨by rfl, ?_⟩) hS5 ?_
        rotate_left
        · intro U hU
          obtain ⟨hU1, hU2, hU3⟩ := hU
          go_simp
          all_goals with_reducible rfl
        simp only [Act.put, List.setIfInBounds_toArray, List.set_cons_zero, List.set_cons_succ]
        refine wpAnyH_take (i := 4) (oi := { dst := some 88, op := _, type := _, pos := _, after := _, guard := none }) (v := ?_) rfl (by kernel_rfl) (by kernel_rfl) (by kernel_rfl) (fun _ _ _ h => h) (Or.inl ⟨by rfl, ?_⟩) hS5 ?_
        rotate_left
        · intro U hU
          obtain ⟨hU1, hU2, hU3⟩ := hU
          go_simp
          all_goals with_reducible rfl
        simp only [Act.put, List.setIfInBounds_toArray, List.set_cons_zero, List.set_cons_succ]
        refine wpAnyH_take (i := 5) (oi := { dst := some 89, op := _, type := _, pos := _, after := _, guard := none }) (v := ?_) rfl (by kernel_rfl) (by kernel_rfl) (by kernel_rfl) (fun _ _ _ h => h) (Or.inl ⟨by rfl, ?_⟩) hS5 ?_
        rotate_left
        · intro U hU
          obtain ⟨hU1, hU2, hU3⟩ := hU
          go_simp
          all_goals with_reducible rfl
        simp only [Act.put, List.setIfInBounds_toArray, List.set_cons_zero, List.set_cons_succ]
        refine wpAnyH_take (i := 6) (oi := { dst := some 90, op := _, type := _, pos := _, after := _, guard := none }) (v := ?_) rfl (by kernel_rfl) (by kernel_rfl) (by kernel_rfl) (fun _ _ _ h => h) (Or.inl ⟨by rfl, ?_⟩) hS5 ?_
        rotate_left
        · intro U hU
          obtain ⟨hU1, hU2, hU3⟩ := hU
          go_simp
          all_goals with_reducible rfl
        simp only [Act.put, List.setIfInBounds_toArray, List.set_cons_zero, List.set_cons_succ]
        refine wpAnyH_take (i := 7) (oi := { dst := some 91, op := _, type := _, pos := _, after := _, guard := none }) (v := ?_) rfl (by kernel_rfl) (by kernel_rfl) (by kernel_rfl) (fun _ _ _ h => h) (Or.inl ⟨by rfl, ?_⟩) hS5 ?_
        rotate_left
        · intro U hU
          obtain ⟨hU1, hU2, hU3⟩ := hU
          go_simp
          all_goals with_reducible rfl
        simp only [Act.put, List.setIfInBounds_toArray, List.set_cons_zero, List.set_cons_succ]
        refine wpAnyH_take (i := 8) (oi := { dst := some 92, op := _, type := _, pos := _, after := _, guard := none }) (v := ?_) rfl (by kernel_rfl) (by kernel_rfl) (by kernel_rfl) (fun _ _ _ h => h) (Or.inl ⟨by rfl, ?_⟩) hS5 ?_
        rotate_left
        · intro U hU
          obtain ⟨hU1, hU2, hU3⟩ := hU
          go_simp
          all_goals with_reducible rfl
        simp only [Act.put, List.setIfInBounds_toArray, List.set_cons_zero, List.set_cons_succ]
        refine wpAnyH_take (i := 9) (oi := { dst := some 93, op := _, type := _, pos := _, after := _, guard := none }) (v := ?_) rfl (by kernel_rfl) (by kernel_rfl) (by kernel_rfl) (fun _ _ _ h => h) (Or.inl ⟨by rfl, ?_⟩) hS5 ?_
        rotate_left
        · intro U hU
          obtain ⟨hU1, hU2, hU3⟩ := hU
          go_simp
          all_goals with_reducible rfl
        simp only [Act.put, List.setIfInBounds_toArray, List.set_cons_zero, List.set_cons_succ]
        refine wpAnyH_take (i := 10) (oi := { dst := some 94, op := _, type := _, pos := _, after := _, guard := none }) (v := ?_) rfl (by kernel_rfl) (by kernel_rfl) (by kernel_rfl) (fun _ _ _ h => h) (Or.inl ⟨by rfl, ?_⟩) hS5 ?_
        rotate_left
        · intro U hU
          obtain ⟨hU1, hU2, hU3⟩ := hU
          go_simp
          all_goals with_reducible rfl
        simp only [Act.put, List.setIfInBounds_toArray, List.set_cons_zero, List.set_cons_succ]
        refine wpAnyH_take (i := 11) (oi := { dst := some 95, op := _, type := _, pos := _, after := _, guard := none }) (v := ?_) rfl (by kernel_rfl) (by kernel_rfl) (by kernel_rfl) (fun _ _ _ h => h) (Or.inl ⟨by rfl, ?_⟩) hS5 ?_
        rotate_left
        · intro U hU
          obtain ⟨hU1, hU2, hU3⟩ := hU
          go_simp
          rw [if_neg HQ.out.1]
          all_goals with_reducible rfl
        simp only [Act.put, List.setIfInBounds_toArray, List.set_cons_zero, List.set_cons_succ]
        simp only [HQ.out.2.1]
        refine wpAnyH_take (i := 12) (oi := { dst := some 96, op := _, type := _, pos := _, after := _, guard := none }) (v := ?_) rfl (by kernel_rfl) (by kernel_rfl) (by kernel_rfl) (fun _ _ _ h => h) (Or.inl ⟨by rfl, ?_⟩) hS5 ?_
        rotate_left
        · intro U hU
          obtain ⟨hU1, hU2, hU3⟩ := hU
          go_simp
          all_goals with_reducible rfl
        simp only [Act.put, List.setIfInBounds_toArray, List.set_cons_zero, List.set_cons_succ]
        simp only [HQ.out.2.2.1]
        refine wpAnyH_take (i := 13) (oi := { dst := some 97, op := _, type := _, pos := _, after := _, guard := none }) (v := ?_) rfl (by kernel_rfl) (by kernel_rfl) (by kernel_rfl) (fun _ _ _ h => h) (Or.inl ⟨by rfl, ?_⟩) hS5 ?_
        rotate_left
        · intro U hU
          obtain ⟨hU1, hU2, hU3⟩ := hU
          go_simp
          rw [if_neg HQ.out.2.2.2.1]
          all_goals with_reducible rfl
        simp only [Act.put, List.setIfInBounds_toArray, List.set_cons_zero, List.set_cons_succ]
        simp only [HQ.out.2.2.2.2.1]
        refine wpAnyH_take (i := 14) (oi := { dst := some 98, op := _, type := _, pos := _, after := _, guard := none }) (v := ?_) rfl (by kernel_rfl) (by kernel_rfl) (by kernel_rfl) (fun _ _ _ h => h) (Or.inl ⟨by rfl, ?_⟩) hS5 ?_
        rotate_left
        · intro U hU
          obtain ⟨hU1, hU2, hU3⟩ := hU
          go_simp
          all_goals with_reducible rfl
        simp only [Act.put, List.setIfInBounds_toArray, List.set_cons_zero, List.set_cons_succ]
        simp only [HQ.out.2.2.2.2.2]
        refine wpAnyH_one (i := 15) (o := { dst := some 18, op := _, type := _, pos := _, after := _, guard := none }) (by kernel_rfl) rfl (by rfl) (fun K1 hK1 => ?_)
        have HK1 := Lib.hid hK1; clear hK1
        go_simp
        refine HK1.out _ _ hS5 ?_
        clear HK1 K1
        refine wpAnyH_done (by kernel_rfl) ?_ _
        refine HK.out _ _ ?_; clear HK HQ hS5
        have ho := ord_num HY.out.ok (x := tk)
        generalize y.lots * (tk % (y.most / y.lots + 1)) = o at *
        generalize hwS : World.drew wr = wS
        have hbS : Below wr.heap.size wr wS := by rw [← hwS]; exact (Below.refl _ _).drew
        clear hwS
        have hoL := ordL_mem HY.out.ok ho
        obtain ⟨j, mx, x, hBK, hxw, hmx, hE, hEm, hEc⟩ := br_facts HY.out.ok hsk (by rw [← HN.out]; exact hmk) HKD.out (by omega) ho
        have HBK := Lib.hid (And.intro hBK hxw)
        have HWS := Lib.hid (HW4.out.1.below hbS (Nat.le_refl _))
        have b7S := blk_keep b74 hbS
        have hmkl : mk < y.ws.length := by rw [← HN.out]; exact hmk
        have h28 := break_any y (.slice av y.ws.length cv) sk mk o ((d : Int) + 1) wS HWS.out
        rw [hE, hEm, hEc] at h28
        have h37 := fun (W : World) (hW : Below (World.heap wS).size wS W) => steps_any y (.slice av y.ws.length cv) sk mk o W HY.out.ok (HWS.out.below hW (Nat.le_refl _)) hmkl (by omega) (by omega)
        simp only [encY] at h28 h37
        rw [← HN.out] at h28 h37
        have H37 := Lib.hid h37
        clear hE hEm hEc hBK h37
        go_wp2_with (first | (refine wpList_load_blk rfl 24 _ rfl _ rfl b7S Try.underlying24 rfl size24 rfl ?_) | (go_at_call 28; refine h28.mono ?_; rintro e w4 ⟨hb4, rfl⟩; have b7U := blk_keep b7S hb4; have h37 := H37.out w4 hb4) | (refine wpList_load_blk rfl 24 _ rfl _ rfl b7U Try.underlying24 rfl size24 rfl ?_) | (go_at_call 37; refine h37.mono ?_; rintro e w5 ⟨u5, rfl, hu5, hb5⟩; obtain ⟨ad5, cap5, rfl, hm5, hp5, hc5⟩ := hu5))
        have hb5S := btr (btr hbS hb4 (Nat.le_refl _)) hb5 (Nat.le_refl _)
        have hjl : j < (stpL y sk mk o).length := (List.getElem?_eq_some_iff.1 HBK.out.1.at_).1
        obtain ⟨b5, off5, rfl, hlt5, hcell5⟩ := hc5 (by omega)
        have HC5 := Lib.hid hcell5
        have b7V := blk_keep (blk_keep b7S hb4) hb5
        have HWV := Lib.hid (HW4.out.1.below hb5S (Nat.le_refl _))
        clear hc5 hcell5 h28 b7U b7S hb4 hb5 h37
        obtain ⟨n5, hn5⟩ : ∃ n5, n5 = (stpL y sk mk o).length := ⟨_, rfl⟩
        rw [← hn5] at hm5 hp5 hjl ⊢
        have HN5 := Lib.hid hn5
        clear hn5
        go_loopw [10, 23, 117] (fun s f i wr => ∃ i' : Nat, s = .int .i64 sk ∧ f = .bool false ∧ i = .int .i64 i' ∧ i' ≤ j ∧ Below w5.heap.size w5 wr) (fun _ _ i _ => n5 - (intOf i).toNat)
        case atStart => exact ⟨0, rfl, rfl, rfl, Nat.zero_le _, Below.refl _ _⟩
        case round =>
          obtain ⟨i, rfl, rfl, rfl, hij, hbi⟩ := hrel
          have hin : i < n5 := by omega
          have hil : i < (stpL y sk mk o).length := by rw [← HN5.out]; exact hin
          obtain ⟨c0, c1, c2, c3⟩ := s_cells HC5.out hil rfl
          have hzm := List.getElem_mem hil
          have hze := List.getElem?_eq_getElem hil
          generalize (stpL y sk mk o)[i] = z at *
          obtain ⟨⟨wz, hwz, hwlt⟩, hsz⟩ := stp_facts hzm
          have b7W := blk_keep b7V hbi
          have hlt6 := Nat.lt_of_lt_of_le hlt5 hbi.size
          replace c0 := (hbi.cell (p := ⟨b5, _, none⟩) hlt5).trans c0
          replace c1 := (hbi.cell (p := ⟨b5, _, none⟩) hlt5).trans c1
          replace c2 := (hbi.cell (p := ⟨b5, _, none⟩) hlt5).trans c2
          replace c3 := (hbi.cell (p := ⟨b5, _, none⟩) hlt5).trans c3
          rw [hwz] at c0
          by_cases hlast : i < j
          · obtain ⟨hin1, hne⟩ := HBK.out.1.ere i z hlast hze
            obtain ⟨hg, hkz⟩ := (into_lay HY.out.ok hzm).1 hin1
            have hsz := hsz hg
            rw [hg] at c3
            obtain ⟨sz, hsz2⟩ : ∃ sz : Nat, z.s = sz := ⟨z.s.toNat, by omega⟩
            rw [hwz, hsz2, Int.toNat_natCast, Int.toNat_natCast] at hkz
            rw [hsz2] at c2 hsz
            rw [hwz, HBK.out.2] at hne
            generalize z.c = zc at *
            generalize x.c = xc at *
            have hT := (term_ge HY.out.ok (s := sz) (m := wz) (by omega) hwlt (d := d) (by omega)).2 hkz
            have hst : stE y sz wz = 0 := stE_ok.2 ⟨HY.out.ok, ⟨by omega, hsz.2⟩, ⟨by omega, by omega⟩⟩
            have hte : termE y sz wz = termP y sz wz := by unfold termE; rw [if_pos hst]; simp
            have h18 := fun (W : World) (hW : Below wr.heap.size wr W) => termX_any y (.slice av y.ws.length cv) sz wz W (HWV.out.below (btr hbi hW (Nat.le_refl _)) (Nat.le_refl _))
            rw [hst, hte] at h18
            simp only [encY] at h18
            rw [← HN.out] at h18
            have H18 := Lib.hid h18
            clear hst hte h18 hze hzm hin1 hkz hwz hsz2 hg
            generalize termP y sz wz = T at *
            have hT2 : ¬ T < (d : Int) := by omega
            clear hT
            by_cases hwm : wz = mx
            · have hcc : ¬ zc = xc := by
                rcases hne with h | h
                · exact absurd (by rw [hwm]) h
                · exact h
              subst hwm
              clear hne
              as_aux_lemma =>
              go_wp2_with (first | (refine wpList_load_blk rfl 24 _ rfl _ rfl ((heap_oldI (lt_blk b7W)).trans b7W) Try.underlying24 rfl size24 rfl ?_) | (go_at_call 18; refine (H18.out _ ((Below.refl _ _).alloc (Nat.le_refl _) _)).mono ?_; rintro e w8 ⟨rfl, hb8⟩))
              go_roundw
              case rel => exact ⟨i + 1, rfl, rfl, by go_num, by omega, btr (btr hbi ((Below.refl _ _).alloc (Nat.le_refl _) _) (Nat.le_refl _)) hb8 (Nat.le_refl _)⟩
              case measure => simp [intOf]; omega
            · have hwm2 : ¬ (wz : Int) = mx := by omega
              clear hne
              as_aux_lemma =>
              go_wp2_with (first | (refine wpList_load_blk rfl 24 _ rfl _ rfl ((heap_oldI (lt_blk b7W)).trans b7W) Try.underlying24 rfl size24 rfl ?_) | (go_at_call 18; refine (H18.out _ ((Below.refl _ _).alloc (Nat.le_refl _) _)).mono ?_; rintro e w8 ⟨rfl, hb8⟩))
              go_roundw
              case rel => exact ⟨i + 1, rfl, rfl, by go_num, by omega, btr (btr hbi ((Below.refl _ _).alloc (Nat.le_refl _) _) (Nat.le_refl _)) hb8 (Nat.le_refl _)⟩
              case measure => simp [intOf]; omega
          · have hij2 : i = j := by omega
            subst hij2
            have hzx : z = x := by have := HBK.out.1.at_; rw [hze] at this; exact Option.some.inj this
            subst hzx
            have hwm : wz = mx := by have := HBK.out.2; rw [hwz] at this; omega
            subst hwm
            have hbad := HBK.out.1.bad
            cases hg : z.g
            · rw [hg] at c3
              as_aux_lemma =>
              go_wp2_with (go_at_call 14; refine (works_any _).mono ?_; rintro e w9 ⟨rfl, hb9⟩)
              go_ret
              exact ⟨rfl, btr (btr hB4 (btr hb5S (btr hbi ((Below.refl _ _).alloc (Nat.le_refl _) _) (Nat.le_refl _)) (Nat.le_refl _)) (Nat.le_refl _)) hb9 (Nat.le_refl _)⟩
            · rw [hg] at c3
              have hsz := hsz hg
              obtain ⟨sz, hsz2⟩ : ∃ sz : Nat, z.s = sz := ⟨z.s.toNat, by omega⟩
              have hkz : keepB y d sz wz = false := by
                rw [Bool.eq_false_iff]; intro h
                have := (into_lay HY.out.ok (d := d) hzm).2 ⟨hg, by rw [hwz, hsz2, Int.toNat_natCast, Int.toNat_natCast]; exact h⟩
                rw [hbad] at this; cases this
              rw [hsz2] at c2 hsz
              as_aux_lemma =>
              go_wp2_with fail
              go_roundw
              case rel => exact ⟨d, sz, wz, rfl, rfl, rfl, by omega, hsz.2, by rw [HN.out]; exact hwlt, hkz, btr hb (btr hb5S (btr hbi ((Below.refl _ _).alloc (Nat.le_refl _) _) (Nat.le_refl _)) (Nat.le_refl _)) (Nat.le_refl _)⟩
              case measure => simp [intOf]
      · have hpl2 : ¬ (p : Int) < ts.length := by omega
        as_aux_lemma =>
        have hbS : Below wr.heap.size wr wr := Below.refl _ _
        have ho : (0 : Int) ∈ ordL y := mem_ordL HY.out.ok (Int.le_refl _) hmo (Int.zero_emod _)
        have hoL := ordL_mem HY.out.ok ho
        obtain ⟨j, mx, x, hBK, hxw, hmx, hE, hEm, hEc⟩ := br_facts HY.out.ok hsk (by rw [← HN.out]; exact hmk) HKD.out (by omega) ho
        have HBK := Lib.hid (And.intro hBK hxw)
        have HWS := Lib.hid (HW4.out.1.below hbS (Nat.le_refl _))
        have b7S := blk_keep b74 hbS
        have hmkl : mk < y.ws.length := by rw [← HN.out]; exact hmk
        have h28 := break_any y (.slice av y.ws.length cv) sk mk (0 : Int) ((d : Int) + 1) wr HWS.out
        rw [hE, hEm, hEc] at h28
        have h37 := fun (W : World) (hW : Below (World.heap wr).size wr W) => steps_any y (.slice av y.ws.length cv) sk mk (0 : Int) W HY.out.ok (HWS.out.below hW (Nat.le_refl _)) hmkl (by omega) (by omega)
        simp only [encY] at h28 h37
        rw [← HN.out] at h28 h37
        have H37 := Lib.hid h37
        clear hE hEm hEc hBK h37
        go_wp2_with (first | (refine wpList_load_blk rfl 24 _ rfl _ rfl b7S Try.underlying24 rfl size24 rfl ?_) | (go_at_call 28; refine h28.mono ?_; rintro e w4 ⟨hb4, rfl⟩; have b7U := blk_keep b7S hb4; have h37 := H37.out w4 hb4) | (refine wpList_load_blk rfl 24 _ rfl _ rfl b7U Try.underlying24 rfl size24 rfl ?_) | (go_at_call 37; refine h37.mono ?_; rintro e w5 ⟨u5, rfl, hu5, hb5⟩; obtain ⟨ad5, cap5, rfl, hm5, hp5, hc5⟩ := hu5))
        have hb5S := btr (btr hbS hb4 (Nat.le_refl _)) hb5 (Nat.le_refl _)
        have hjl : j < (stpL y sk mk (0 : Int)).length := (List.getElem?_eq_some_iff.1 HBK.out.1.at_).1
        obtain ⟨b5, off5, rfl, hlt5, hcell5⟩ := hc5 (by omega)
        have HC5 := Lib.hid hcell5
        have b7V := blk_keep (blk_keep b7S hb4) hb5
        have HWV := Lib.hid (HW4.out.1.below hb5S (Nat.le_refl _))
        clear hc5 hcell5 h28 b7U b7S hb4 hb5 h37
        obtain ⟨n5, hn5⟩ : ∃ n5, n5 = (stpL y sk mk (0 : Int)).length := ⟨_, rfl⟩
        rw [← hn5] at hm5 hp5 hjl ⊢
        have HN5 := Lib.hid hn5
        clear hn5
        go_loopw [10, 23, 117] (fun s f i wr => ∃ i' : Nat, s = .int .i64 sk ∧ f = .bool false ∧ i = .int .i64 i' ∧ i' ≤ j ∧ Below w5.heap.size w5 wr) (fun _ _ i _ => n5 - (intOf i).toNat)
        case atStart => exact ⟨0, rfl, rfl, rfl, Nat.zero_le _, Below.refl _ _⟩
        case round =>
          obtain ⟨i, rfl, rfl, rfl, hij, hbi⟩ := hrel
          have hin : i < n5 := by omega
          have hil : i < (stpL y sk mk (0 : Int)).length := by rw [← HN5.out]; exact hin
          obtain ⟨c0, c1, c2, c3⟩ := s_cells HC5.out hil rfl
          have hzm := List.getElem_mem hil
          have hze := List.getElem?_eq_getElem hil
          generalize (stpL y sk mk (0 : Int))[i] = z at *
          obtain ⟨⟨wz, hwz, hwlt⟩, hsz⟩ := stp_facts hzm
          have b7W := blk_keep b7V hbi
          have hlt6 := Nat.lt_of_lt_of_le hlt5 hbi.size
          replace c0 := (hbi.cell (p := ⟨b5, _, none⟩) hlt5).trans c0
          replace c1 := (hbi.cell (p := ⟨b5, _, none⟩) hlt5).trans c1
          replace c2 := (hbi.cell (p := ⟨b5, _, none⟩) hlt5).trans c2
          replace c3 := (hbi.cell (p := ⟨b5, _, none⟩) hlt5).trans c3
          rw [hwz] at c0
          by_cases hlast : i < j
          · obtain ⟨hin1, hne⟩ := HBK.out.1.ere i z hlast hze
            obtain ⟨hg, hkz⟩ := (into_lay HY.out.ok hzm).1 hin1
            have hsz := hsz hg
            rw [hg] at c3
            obtain ⟨sz, hsz2⟩ : ∃ sz : Nat, z.s = sz := ⟨z.s.toNat, by omega⟩
            rw [hwz, hsz2, Int.toNat_natCast, Int.toNat_natCast] at hkz
            rw [hsz2] at c2 hsz
            rw [hwz, HBK.out.2] at hne
            generalize z.c = zc at *
            generalize x.c = xc at *
            have hT := (term_ge HY.out.ok (s := sz) (m := wz) (by omega) hwlt (d := d) (by omega)).2 hkz
            have hst : stE y sz wz = 0 := stE_ok.2 ⟨HY.out.ok, ⟨by omega, hsz.2⟩, ⟨by omega, by omega⟩⟩
            have hte : termE y sz wz = termP y sz wz := by unfold termE; rw [if_pos hst]; simp
            have h18 := fun (W : World) (hW : Below wr.heap.size wr W) => termX_any y (.slice av y.ws.length cv) sz wz W (HWV.out.below (btr hbi hW (Nat.le_refl _)) (Nat.le_refl _))
            rw [hst, hte] at h18
            simp only [encY] at h18
            rw [← HN.out] at h18
            have H18 := Lib.hid h18
            clear hst hte h18 hze hzm hin1 hkz hwz hsz2 hg
            generalize termP y sz wz = T at *
            have hT2 : ¬ T < (d : Int) := by omega
            clear hT
            by_cases hwm : wz = mx
            · have hcc : ¬ zc = xc := by
                rcases hne with h | h
                · exact absurd (by rw [hwm]) h
                · exact h
              subst hwm
              clear hne
              as_aux_lemma =>
              go_wp2_with (first | (refine wpList_load_blk rfl 24 _ rfl _ rfl ((heap_oldI (lt_blk b7W)).trans b7W) Try.underlying24 rfl size24 rfl ?_) | (go_at_call 18; refine (H18.out _ ((Below.refl _ _).alloc (Nat.le_refl _) _)).mono ?_; rintro e w8 ⟨rfl, hb8⟩))
              go_roundw
              case rel => exact ⟨i + 1, rfl, rfl, by go_num, by omega, btr (btr hbi ((Below.refl _ _).alloc (Nat.le_refl _) _) (Nat.le_refl _)) hb8 (Nat.le_refl _)⟩
              case measure => simp [intOf]; omega
            · have hwm2 : ¬ (wz : Int) = mx := by omega
              clear hne
              as_aux_lemma =>
              go_wp2_with (first | (refine wpList_load_blk rfl 24 _ rfl _ rfl ((heap_oldI (lt_blk b7W)).trans b7W) Try.underlying24 rfl size24 rfl ?_) | (go_at_call 18; refine (H18.out _ ((Below.refl _ _).alloc (Nat.le_refl _) _)).mono ?_; rintro e w8 ⟨rfl, hb8⟩))
              go_roundw
              case rel => exact ⟨i + 1, rfl, rfl, by go_num, by omega, btr (btr hbi ((Below.refl _ _).alloc (Nat.le_refl _) _) (Nat.le_refl _)) hb8 (Nat.le_refl _)⟩
              case measure => simp [intOf]; omega
          · have hij2 : i = j := by omega
            subst hij2
            have hzx : z = x := by have := HBK.out.1.at_; rw [hze] at this; exact Option.some.inj this
            subst hzx
            have hwm : wz = mx := by have := HBK.out.2; rw [hwz] at this; omega
            subst hwm
            have hbad := HBK.out.1.bad
            cases hg : z.g
            · rw [hg] at c3
              as_aux_lemma =>
              go_wp2_with (go_at_call 14; refine (works_any _).mono ?_; rintro e w9 ⟨rfl, hb9⟩)
              go_ret
              exact ⟨rfl, btr (btr hB4 (btr hb5S (btr hbi ((Below.refl _ _).alloc (Nat.le_refl _) _) (Nat.le_refl _)) (Nat.le_refl _)) (Nat.le_refl _)) hb9 (Nat.le_refl _)⟩
            · rw [hg] at c3
              have hsz := hsz hg
              obtain ⟨sz, hsz2⟩ : ∃ sz : Nat, z.s = sz := ⟨z.s.toNat, by omega⟩
              have hkz : keepB y d sz wz = false := by
                rw [Bool.eq_false_iff]; intro h
                have := (into_lay HY.out.ok (d := d) hzm).2 ⟨hg, by rw [hwz, hsz2, Int.toNat_natCast, Int.toNat_natCast]; exact h⟩
                rw [hbad] at this; cases this
              rw [hsz2] at c2 hsz
              as_aux_lemma =>
              go_wp2_with fail
              go_roundw
              case rel => exact ⟨d, sz, wz, rfl, rfl, rfl, by omega, hsz.2, by rw [HN.out]; exact hwlt, hkz, btr hb (btr hb5S (btr hbi ((Below.refl _ _).alloc (Nat.le_refl _) _) (Nat.le_refl _)) (Nat.le_refl _)) (Nat.le_refl _)⟩
              case measure => simp [intOf]
end Ytndmjginmomfiaa
end Go.Proofs
