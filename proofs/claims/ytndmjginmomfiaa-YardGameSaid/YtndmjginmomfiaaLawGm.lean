/- The law YardGame returns true. -/
import Derived.Test.YtndmjginmomfiaaKe
open Go Go.RowKit Go.YtndmjginmomfiaaIt
namespace Go.Proofs
namespace Ytndmjginmomfiaa
theorem newGame_any (y : Yd) (v : Value) (w : World) (hw : SlW w v y.ws) :
    Calls Try.prog 33 #[.agg (encY y v)] w fun e w' => ∃ bg bm, e = .returned (.pointer (some ⟨bg, 0, none⟩)) ∧ Gf w' y v bg bm ∧ w.heap.size ≤ bm ∧ Below w.heap.size w w' := by
  have HW := Lib.hid hw
  have hy4 : (encY y v).size = 4 := rfl
  obtain ⟨ad, cap, rfl, -⟩ := hw
  simp only [encY]
  have hmm := @run_makeMap Try.prog
  go_enter Try.func33, Try.ntmps33
  refine wp_seq_k (fun K hK => ?_)
  have HK := Lib.hid hK; clear hK
  go_wp2
  refine HK.out _ _ ?_; clear HK K
  generalize hw1 : World.alloc _ _ = w1
  obtain ⟨b1, hB, hs1⟩ := blk1 hw1
  clear hw1
  go_wp2_with (refine wpList_load_blk rfl 24 _ rfl _ rfl b1 Try.underlying24 rfl size24 rfl ?_)
  go_ret
  generalize hw2 : World.alloc _ _ = w2
  obtain ⟨b3, b4, hB2, hs2⟩ := blk2 hw2
  refine ⟨_, _, rfl, ⟨b4, HW.out.below (btr hB hB2 (Nat.le_refl _)) (Nat.le_refl _), ⟨_, _, b3, by simp⟩⟩, by omega, btr hB hB2 (Nat.le_refl _)⟩
/-- The next order of the list is the one at hand just if that leads. -/
theorem next_is {y : Yd} {d s m k : Nat} (hk : k < ordC y) : (decide ((ordKN y d s m k).length < (ordK y d s m).length) && (at0 (ordK y d s m) (ordKN y d s m k).length == (k : Int) * y.lots)) = leadsB y (lay y d) s m ((k : Int) * y.lots) := by
  have hl : k < (ordL y).length := by rw [ordL_len]; exact hk
  have e : ordL y = (ordL y).take k ++ ((k : Int) * y.lots) :: (ordL y).drop (k + 1) := by
    rw [← ordL_get hl, List.getElem_cons_drop, List.take_append_drop]
  have e2 : ordK y d s m = ordKN y d s m k ++ ((if leadsB y (lay y d) s m ((k : Int) * y.lots) = true then [(k : Int) * y.lots] else []) ++ ((ordL y).drop (k + 1)).filter (leadsB y (lay y d) s m)) := by
    unfold ordK ordKN
    conv => lhs; rw [e]
    rw [List.filter_append, List.filter_cons]
    split <;> simp
  cases hLB : leadsB y (lay y d) s m ((k : Int) * y.lots)
  · rw [Bool.eq_false_iff]
    intro h
    simp only [Bool.and_eq_true, decide_eq_true_eq, beq_iff_eq] at h
    obtain ⟨h1, h2⟩ := h
    rw [at0_lt h1] at h2
    have hm := List.getElem_mem h1
    rw [h2] at hm
    have := (List.mem_filter.1 hm).2
    rw [hLB] at this; cases this
  · rw [if_pos hLB] at e2
    have h1 : (ordKN y d s m k).length < (ordK y d s m).length := by rw [e2]; simp
    have h2 : at0 (ordK y d s m) (ordKN y d s m k).length = (k : Int) * y.lots := by
      rw [at0_lt h1]
      have : (ordK y d s m)[(ordKN y d s m k).length]? = some ((k : Int) * y.lots) := by rw [e2]; simp
      exact Option.some.inj ((List.getElem?_eq_getElem h1).symm.trans this)
    simp [h1, h2]
theorem ordKN_all {y : Yd} {d s m : Nat} : ordKN y d s m (ordC y) = ordK y d s m := by
  unfold ordKN ordK; rw [← ordL_len, List.take_length]
theorem ordKN_next {y : Yd} {d s m k : Nat} (hk : k < ordC y) : (ordKN y d s m (k + 1)).length = (ordKN y d s m k).length + if leadsB y (lay y d) s m ((k : Int) * y.lots) = true then 1 else 0 := by
  have hl : k < (ordL y).length := by rw [ordL_len]; exact hk
  rw [ordKN_succ hl, ordL_get hl, List.length_append]
  split <;> simp
theorem Bm.low {bm n : Nat} {w w' : World} (h : Bm bm w.heap.size w w') (hn : n ≤ bm) (hn2 : n ≤ w.heap.size) : Below n w w' := ⟨h.os, h.tape, h.output, h.size, fun i hi => h.block i (by omega) (by omega)⟩
set_option maxRecDepth 100000 in
set_option maxHeartbeats 40000000 in
theorem yardGame_any (r m l : Int) (u : Value) (qs : List Q4) (dv : Int) (w : World) (hr : (0 ≤ r ∧ r < 256) ∧ (0 ≤ m ∧ m < 256) ∧ (0 ≤ l ∧ l < 256)) (hq : ∀ q ∈ qs, q.ok) (hu : SlQ w u qs) (hs : 0 ≤ dv ∧ dv < 256) :
    Calls Try.prog 7 #[encP r m l u, .int .u8 dv] w fun e w' => e = .returned (.bool true) ∧ Below w.heap.size w w' := by
  have hp4 : #[Value.int .u8 r, .int .u8 m, .int .u8 l, u].size = 4 := rfl
  have HM := Lib.hid (fun W (hW : Below w.heap.size w W) => made_any r m l u qs W hr.1 hr.2.1 hr.2.2 hq (hu.below (w' := W) hW (Nat.le_refl _)))
  obtain ⟨ad, cap, rfl, -, -, -⟩ := hu
  clear hr hq
  unfold encP at *
  go_enter Try.func7, Try.ntmps7
  refine wp_seq_k (fun K hK => ?_)
  have HK := Lib.hid hK; clear hK
  go_wp2
  refine HK.out _ _ ?_; clear HK K
  generalize hw1 : World.alloc _ _ = w1
  obtain ⟨b1, hB, hs1⟩ := blk1 hw1
  clear hw1
  have h32 := HM.out w1 hB
  refine wp_seq_k (fun K hK => ?_)
  have HK := Lib.hid hK; clear hK
  go_wp2_with (first | (refine wpList_load_blk rfl 62 _ rfl _ rfl b1 Try.underlying62 rfl info62 hp4 ?_) | (go_at_call 32; refine h32.mono ?_; rintro e w2 ⟨y, v, rfl, hw, hy, hb2⟩; have hy4 : (encY y v).size = 4 := rfl; have ho1 : (encY y v).all (·.oneCell') = true := (by obtain ⟨ad, cap, rfl, -⟩ := hw; simp [encY, Value.oneCell']) ) | (refine wpList_store_blk rfl 24 _ _ rfl _ rfl rfl (heap_newI rfl) size24 hy4 rfl ho1 ?_))
  refine HK.out _ _ ?_; clear HK K
  have hB2 := btr hB hb2 (Nat.le_refl _)
  clear h32 b1
  generalize hwA : World.putObj _ _ _ = wA
  have b7 : wA.heap[w2.heap.size]? = some (.cells (encY y v) 24 (0, 0)) := by rw [← hwA]; exact World.putObj_heap_same (by rw [World.size_alloc]; omega)
  have hBA : Below w2.heap.size w2 wA := by rw [← hwA]; exact below_putObj ((Below.refl _ _).alloc (Nat.le_refl _) _) (Nat.le_refl _)
  clear hwA
  have hw' := hw.below hBA (Nat.le_refl _)
  have hB3 := btr hB2 hBA (Nat.le_refl _)
  clear hw hB hb2 hB2 hBA hp4 hs1 HM
  have hY0 := hB3.size
  generalize w2.heap.size = n7 at *
  obtain ⟨av, cv, rfl, -, -, -⟩ := id hw'
  have hn1 := hy.ok.n0
  have hn2 := hy.n
  have hro := hy.ok.room0
  have hr7 := hy.room
  have hmo := hy.ok.most0
  have hmo6 := hy.most
  have hlo := hy.ok.lots0
  have hlo3 := hy.lots
  have HY := Lib.hid hy
  obtain ⟨nw, hnw⟩ : ∃ nw, nw = y.ws.length := ⟨_, rfl⟩
  have HN := Lib.hid hnw
  have HW := Lib.hid (And.intro hw' b7)
  simp only [encY] at b7 ho1 hy4 ⊢
  rw [← hnw] at b7 hn1 hn2 ⊢
  clear hnw hy hw'
  have htab := table_any y (.slice av y.ws.length cv) wA HW.out.1
  have hchk : chkE y = 0 := chk_ok.2 HY.out.ok
  have h16 : Calls Try.prog 16 #[.agg (encY y (.slice av y.ws.length cv))] wA fun e w' => ∃ u, e = .returned (.tuple #[u, .int .i64 0]) ∧ SlII w' u (tabP y) ∧ Below wA.heap.size wA w' := htab.mono (by
    rintro e w' ⟨hb', ⟨h, -⟩ | ⟨-, u, rfl, hu⟩⟩
    · exact absurd hchk h
    · exact ⟨u, rfl, hu, hb'⟩)
  have hng := fun (W : World) (hW : Below wA.heap.size wA W) => newGame_any y (.slice av y.ws.length cv) W (HW.out.1.below hW (Nat.le_refl _))
  have htl : (tabP y).length = y.ws.length := by simp [tabP]
  simp only [encY] at h16 hng
  rw [← HN.out] at h16 hng htl
  have HNG := Lib.hid hng
  have HTL := Lib.hid htl
  clear htab hchk hng htl
  have d0 := cell_blk (i := 0) b7
  have d3 := cell_blk (i := 3) b7
  simp only [List.getElem?_toArray, List.getElem?_cons_zero, List.getElem?_cons_succ] at d0 d3
  refine wp_seq_k (fun K hK => ?_)
  have HK := Lib.hid hK; clear hK
  go_wp2_with (first | (refine wpList_load_blk rfl 24 _ rfl _ rfl b7 Try.underlying24 rfl size24 rfl ?_) | (go_at_call 16; refine h16.mono ?_; rintro e w3 ⟨u3, rfl, hu3, hb3⟩))
  refine HK.out _ _ ?_; clear HK
  have b73 := blk_keep b7 hb3
  have HNG2 := HNG.out w3 hb3
  obtain ⟨ad3, cap3, rfl, hm3, hcp3, hrow3⟩ := hu3.opened
  rw [HTL.out] at hm3 hcp3 ⊢
  have HR3 := Lib.hid (And.intro hu3 hrow3)
  clear hu3 hrow3 d0 d3 h16
  have d0 := cell_blk (i := 0) b73
  have d3 := cell_blk (i := 3) b73
  simp only [List.getElem?_toArray, List.getElem?_cons_zero, List.getElem?_cons_succ] at d0 d3
  have hmb : 1 ≤ (y.room + 1) * nw ∧ (y.room + 1) * nw ≤ 16 := by
    rcases (show nw = 1 ∨ nw = 2 by omega) with h | h
    · rw [h]; exact ⟨by omega, by omega⟩
    · rw [h]; exact ⟨by omega, by omega⟩
  obtain ⟨M, hM⟩ : ∃ M : Nat, (y.room + 1) * nw = M := ⟨((y.room + 1) * nw).toNat, by omega⟩
  have hcnt : cnt y = M := by
    unfold cnt
    rw [← HN.out]
    have h2 : (((y.room.toNat + 1) * nw : Nat) : Int) = ((M : Nat) : Int) := by rw [Int.natCast_mul, show ((y.room.toNat + 1 : Nat) : Int) = y.room + 1 by omega]; exact hM
    exact Int.ofNat.inj h2
  rw [hM] at hmb
  have hdm := Int.emod_nonneg dv (show (M : Int) ≠ 0 by omega)
  have hdl := Int.emod_lt_of_pos dv (show 0 < (M : Int) by omega)
  obtain ⟨d, hd⟩ : ∃ d : Nat, dv % (M : Int) = d := ⟨(dv % M).toNat, by omega⟩
  have htm : dv.tmod (M : Int) = d := by rw [bt _ hs, hd]
  have hdd : d < 16 := by omega
  have hM0 : ¬ (M : Int) = 0 := by omega
  have HCN := Lib.hid hcnt
  clear hcnt hdm hdl hd
  go_wp2_with (first | (refine wpList_load_blk rfl 24 _ rfl _ rfl b73 Try.underlying24 rfl size24 rfl ?_) | (go_at_call 33; refine HNG2.mono ?_; rintro e w4 ⟨bg, bm, rfl, hg4, hbm, hb4⟩; have b74 := blk_keep b73 hb4; have d04 := cell_blk (i := 0) b74; have d34 := cell_blk (i := 3) b74; simp only [List.getElem?_toArray, List.getElem?_cons_zero, List.getElem?_cons_succ] at d04 d34))
  have hb3s := hb3.size
  have hB3w := btr hB3 hb3 (Nat.le_refl _)
  have hbms := hg4.me.lt
  have HG4 := Lib.hid hg4
  have hn73 := lt_blk b73
  clear b7 b74 d0 d3 d04 d34 hg4 HNG HNG2 hM htm hM0 hs
  go_loopw [54] (fun i wr => ∃ k : Nat, i = .int .i64 k ∧ k ≤ nw ∧ Memo wr bm (GK y) ∧ Bm bm w4.heap.size w4 wr) (fun i _ => nw - (intOf i).toNat)
  case atStart => exact ⟨0, rfl, Nat.zero_le _, HG4.out.me, Bm.refl _ _ _⟩
  case round =>
    obtain ⟨k, rfl, hk, hMe, hB⟩ := hrel
    have hL := hb4.trans (Bm.low hB hbm (by have := hb4.size; omega))
    by_cases hkn : k < nw
    · have hkl : k < y.ws.length := by rw [← HN.out]; exact hkn
      obtain ⟨bt, offt, ad2, cap2, rfl, hlt3, hc3, hI3⟩ := HR3.out.2 k (by rw [HTL.out]; exact hkn)
      have htr : tabR (tabP y) k = rowP y k := by rw [tabR_lt (by rw [HTL.out]; exact hkn)]; simp [tabP]
      rw [htr] at hc3 hI3
      have hLn := rowP_len y k
      obtain ⟨L, hL0⟩ : ∃ L, L = (rowP y k).length := ⟨_, rfl⟩
      rw [← hL0] at hc3 hI3 hLn
      have hLr : (L : Int) = y.room + 1 := by omega
      have hLr2 : ((L : Int) != y.room + 1) = false := by rw [hLr]; simp
      have hLr3 : ((L : Int) == y.room + 1) = true := by rw [hLr]; simp
      have HI3 := Lib.hid (And.intro hI3 hL0)
      clear htr hI3 hL0
      have hc3r := (hL.cell (p := ⟨bt, offt + k, none⟩) hlt3).trans hc3
      have b7r := blk_below b73 hL hn73
      have e0 := cell_blk (i := 0) b7r
      simp only [List.getElem?_toArray, List.getElem?_cons_zero] at e0
      have HLR := Lib.hid hLr
      clear hLr hLn
      have hlt3r := Nat.lt_of_lt_of_le hlt3 hL.size
      go_wp2
      rename_i K hK
      have HK := Lib.hid hK; clear hK
      go_quiet (fail)
      refine HK.out _ _ ?_; clear HK
      generalize hw5 : World.drewN _ _ = w5
      have hb5 : Below wr.heap.size wr w5 := by rw [← hw5]; exact below_drewN (Below.refl _ _) _
      have hM5 := hMe.below hb5 hMe.lt
      have hB5 := hB.trans (Bm.of (hb5.mono hB.size))
      have hc35 := (hb5.cell (p := ⟨bt, offt + k, none⟩) hlt3r).trans hc3r
      clear hw5 hMe hB hL hc3r b7r e0 hLr2 hLr3
      go_wp2
      go_loopw [71] (fun i wr => ∃ s : Nat, i = .int .i64 s ∧ s ≤ L ∧ Memo wr bm (GK y) ∧ Bm bm w4.heap.size w4 wr) (fun i _ => L - (intOf i).toNat)
      case atStart => exact ⟨0, rfl, Nat.zero_le _, hM5, hB5⟩
      case round =>
        clear hM5 hB5 hb5 hc35
        obtain ⟨s, rfl, hsL, hMe, hB⟩ := hrel
        have hL := hb4.trans (Bm.low hB hbm (by have := hb4.size; omega))
        by_cases hsl : s < L
        · have hsR : (s : Int) ≤ y.room := by have := HLR.out; omega
          obtain ⟨adr, capr, her, hmr, hpr, hcr⟩ := HI3.out.1.below hL (Nat.le_refl _)
          obtain ⟨b2, off2, rfl, hlt2, hcell2⟩ := hcr (by rw [← HI3.out.2]; omega)
          injection her with her1 her2 her3
          subst her1 her3
          have hc2 := hcell2 s (by rw [← HI3.out.2]; exact hsl)
          have hat : at0 (rowP y k) s = termP y s k := by rw [at0_lt (by rw [← HI3.out.2]; exact hsl)]; simp [rowP]
          rw [hat] at hc2
          clear hcell2 hcr hat her2
          have hgr := HG4.out.bm hB hMe
          have b7r := blk_below b73 hL hn73
          have hW3 := HW.out.1.below hb3 (Nat.le_refl _)
          have h18 := termX_any y (.slice av y.ws.length cv) s k wr (hW3.below hL (Nat.le_refl _))
          have hst : stE y s k = 0 := stE_ok.2 ⟨HY.out.ok, ⟨by omega, hsR⟩, ⟨by omega, by omega⟩⟩
          have hte : termE y s k = termP y s k := by unfold termE; rw [if_pos hst]; simp
          have hor : ordE y s k (1 + (d : Int)) = 0 := by unfold ordE btw; rw [if_pos hst, if_pos (by simp <;> omega)]
          rw [hst, hte] at h18
          have h25 : ∀ W, Below wr.heap.size wr W → Calls Try.prog 25 #[.agg (encY y (.slice av y.ws.length cv)), .int .i64 s, .int .i64 k, .int .i64 (1 + (d : Int))] W fun e w' => ∃ u, e = .returned (.tuple #[u, .int .i64 0]) ∧ SlI w' u (ordK y d s k) ∧ Below W.heap.size W w' := fun W hW =>
            (ordersX_any y (.slice av y.ws.length cv) s k (1 + (d : Int)) W (hW3.below (btr hL hW (Nat.le_refl _)) (Nat.le_refl _))).mono (by
              rintro e w' ⟨hb', ⟨h, -⟩ | ⟨-, u, rfl, hu⟩⟩
              · exact absurd hor h
              · refine ⟨u, rfl, ?_, hb'⟩
                have he : ((1 + (d : Int)) - 1).toNat = d := by omega
                rw [he] at hu
                simpa using hu)
          simp only [encY] at h18 h25
          rw [← HN.out] at h18 h25
          have H25 := Lib.hid h25
          have htc := term_cases HY.out.ok (s := s) (m := k) (by omega) hkl
          rw [HCN.out] at htc
          generalize termP y s k = T at *
          clear hst hte hor h25 hW3
          rcases htc with ⟨hT, hkp⟩ | ⟨t, hT, htM, hkt, hkt1⟩
          · subst hT
            unfold never at h18
            as_aux_lemma =>
            have hkM := hkp M
            have HKP : ∀ W, Gf W y (.slice av nw cv) bg bm → Calls Try.prog 34 #[.pointer (some ⟨bg, 0, none⟩), .int .i64 s, .int .i64 k, .int .i64 (M : Int)] W fun e w' => e = .returned (.bool true) ∧ Memo w' bm (GK y) ∧ Bm bm W.heap.size W w' := fun W hW => by
              have := keeps_any y (.slice av nw cv) bg bm HY.out.ok M (by omega) W s k hW hsR hkl
              rw [hkM] at this; exact this
            have HKP2 := Lib.hid HKP
            clear hkp hkM HKP
            go_wp2_with (first | (refine wpList_load_blk rfl 24 _ rfl _ rfl b7r Try.underlying24 rfl size24 rfl ?_) | (go_at_call 18; refine h18.mono ?_; rintro e w6 ⟨rfl, hb6⟩; have b76 := blk_keep b7r hb6; have h25 := H25.out w6 hb6) | (refine wpList_load_blk rfl 24 _ rfl _ rfl b76 Try.underlying24 rfl size24 rfl ?_) | (go_at_call 25; refine h25.mono ?_; rintro e w7 ⟨u7, rfl, hu7, hb7⟩; have hg7 := (hgr.below hb6).below hb7; have HU7 := Lib.hid hu7; obtain ⟨adq, capq, rfl, hmq, hpq, -⟩ := hu7) | (go_at_call 34; refine (HKP2.out w7 hg7).mono ?_; rintro e w8 ⟨rfl, hM8, hB8⟩))
            have hB7 : Bm bm w4.heap.size w4 w7 := hB.trans ((Bm.of (btr hb6 hb7 (Nat.le_refl _))).mono hB.size)
            have hg8 := hg7.bm hB8 hM8
            have b77 := blk_keep (blk_keep b7r hb6) hb7
            have hn77 := lt_blk b77
            have hnem : n7 ≠ bm := by omega
            clear hc2 b7r h18 hB hL hMe hb6 hb7 hgr
            obtain ⟨lq, hlq⟩ : ∃ lq, lq = (ordK y d s k).length := ⟨_, rfl⟩
            rw [← hlq] at hmq hpq ⊢
            have HLQ := Lib.hid hlq
            clear hlq
            go_loopw [18, 19] (fun nx o wr => ∃ j : Nat, j ≤ ordC y ∧ nx = .int .i64 ((ordKN y d s k j).length : Nat) ∧ o = .int .i64 ((j : Int) * y.lots) ∧ Memo wr bm (GK y) ∧ Bm bm w7.heap.size w7 wr) (fun _ o _ => ordC y - (intOf o / y.lots).toNat)
            case atStart => exact ⟨0, Nat.zero_le _, by simp [ordKN], by simp, hM8, hB8⟩
            case round =>
              clear hM8 hB8 hg8
              obtain ⟨j, hj, rfl, rfl, hMe, hB⟩ := hrel
              have hgr := hg7.bm hB hMe
              have hIr := HU7.out.memo hg7.me hB
              obtain ⟨adx, capx, hex, -, -, hcx⟩ := hIr
              injection hex with hx1 hx2 hx3
              subst hx1 hx3
              clear hx2
              have b7w := (hB.block _ hn77 hnem).trans b77
              have c1 := cell_blk (i := 1) b7w
              have c2 := cell_blk (i := 2) b7w
              simp only [List.getElem?_toArray, List.getElem?_cons_zero, List.getElem?_cons_succ] at c1 c2
              have hocl := ordC_le HY.out.ok (k := j)
              obtain ⟨O, hO⟩ : ∃ O, O = (j : Int) * y.lots := ⟨_, rfl⟩
              have hO0 : 0 ≤ O := by rw [hO]; exact Int.mul_nonneg (by omega) (by omega)
              by_cases hjc : j < ordC y
              · have hO1 : O ≤ y.most := by rw [hO]; exact hocl.2 hjc
                have hni := next_is (y := y) (d := d) (s := s) (m := k) hjc
                have hnx := ordKN_next (y := y) (d := d) (s := s) (m := k) hjc
                rw [← hO] at hni hnx ⊢
                have h35 := order_step y (.slice av nw cv) bg bm d HY.out.ok (by omega) (keeps_any y (.slice av nw cv) bg bm HY.out.ok d (by omega)) wr s k O hgr hsR hkl (by omega)
                rw [show (d : Int) + 1 = 1 + (d : Int) by omega] at h35
                have HO := Lib.hid hO
                clear hO hocl b7w
                obtain ⟨ln, hln⟩ : ∃ ln, ln = (ordKN y d s k j).length := ⟨_, rfl⟩
                rw [← hln] at hni hnx ⊢
                rw [← HLQ.out] at hni
                have hlnb : ln ≤ 100 := by
                  rw [hln]
                  refine Nat.le_trans (List.length_filter_le _ _) ?_
                  rw [List.length_take]
                  refine Nat.le_trans (Nat.min_le_left _ _) ?_
                  have : (j : Int) * 1 ≤ (j : Int) * y.lots := Int.mul_le_mul_of_nonneg_left (by omega) (by omega)
                  have := HO.out
                  omega
                clear hln
                generalize leadsB y (lay y d) s k O = LB at *
                have HNX := Lib.hid hnx
                clear hnx
                by_cases hlen : ln < lq
                · obtain ⟨bq, offq, rfl, hltq, hcellq⟩ := hcx (by rw [← HLQ.out]; omega)
                  have hcq := hcellq ln (by rw [← HLQ.out]; exact hlen)
                  rw [decide_eq_true hlen, Bool.true_and] at hni
                  clear hcellq hcx
                  generalize at0 (ordK y d s k) ln = X at *
                  cases LB
                  · have hXO : ¬ X = O := by simpa using hni
                    as_aux_lemma =>
                    go_wp2_with (go_at_call 35; refine h35.mono ?_; rintro e w9 ⟨rfl, hM9, hB9⟩; have b79 := (hB9.block _ (by have := hB.size; omega) hnem).trans ((hB.block _ hn77 hnem).trans b77); have c29 := cell_blk (i := 2) b79; simp only [List.getElem?_toArray, List.getElem?_cons_zero, List.getElem?_cons_succ] at c29)
                    go_roundw
                    case rel => exact ⟨j + 1, by omega, by rw [HNX.out]; rfl, by rw [HO.out]; congr 1; push_cast; rw [Int.add_mul, Int.one_mul], hM9, hB.trans (hB9.mono hB.size)⟩
                    case measure =>
                      have hO2 := HO.out
                      simp only [intOf]
                      have e1 : O / y.lots = j := by rw [hO2]; exact Int.mul_ediv_cancel _ (by omega)
                      have e2 : (O + y.lots) / y.lots = j + 1 := by rw [hO2, Int.add_ediv_of_dvd_right (Int.dvd_refl _), Int.mul_ediv_cancel _ (by omega), Int.ediv_self (by omega)]
                      rw [e1, e2]
                      omega
                  · have hXO : X = O := by simpa using hni
                    subst hXO
                    as_aux_lemma =>
                    go_wp2_with (go_at_call 35; refine h35.mono ?_; rintro e w9 ⟨rfl, hM9, hB9⟩; have b79 := (hB9.block _ (by have := hB.size; omega) hnem).trans ((hB.block _ hn77 hnem).trans b77); have c29 := cell_blk (i := 2) b79; simp only [List.getElem?_toArray, List.getElem?_cons_zero, List.getElem?_cons_succ] at c29)
                    go_roundw
                    case rel => exact ⟨j + 1, by omega, by rw [HNX.out]; rfl, by rw [HO.out]; congr 1; push_cast; rw [Int.add_mul, Int.one_mul], hM9, hB.trans (hB9.mono hB.size)⟩
                    case measure =>
                      have hO2 := HO.out
                      simp only [intOf]
                      have e1 : X / y.lots = j := by rw [hO2]; exact Int.mul_ediv_cancel _ (by omega)
                      have e2 : (X + y.lots) / y.lots = j + 1 := by rw [hO2, Int.add_ediv_of_dvd_right (Int.dvd_refl _), Int.mul_ediv_cancel _ (by omega), Int.ediv_self (by omega)]
                      rw [e1, e2]
                      omega
                · have hLBf : LB = false := by rw [← hni, decide_eq_false hlen, Bool.false_and]
                  subst hLBf
                  clear hni hcx
                  as_aux_lemma =>
                  go_wp2_with (go_at_call 35; refine h35.mono ?_; rintro e w9 ⟨rfl, hM9, hB9⟩; have b79 := (hB9.block _ (by have := hB.size; omega) hnem).trans ((hB.block _ hn77 hnem).trans b77); have c29 := cell_blk (i := 2) b79; simp only [List.getElem?_toArray, List.getElem?_cons_zero, List.getElem?_cons_succ] at c29)
                  go_roundw
                  case rel => exact ⟨j + 1, by omega, by rw [HNX.out]; rfl, by rw [HO.out]; congr 1; push_cast; rw [Int.add_mul, Int.one_mul], hM9, hB.trans (hB9.mono hB.size)⟩
                  case measure =>
                    have hO2 := HO.out
                    simp only [intOf]
                    have e1 : O / y.lots = j := by rw [hO2]; exact Int.mul_ediv_cancel _ (by omega)
                    have e2 : (O + y.lots) / y.lots = j + 1 := by rw [hO2, Int.add_ediv_of_dvd_right (Int.dvd_refl _), Int.mul_ediv_cancel _ (by omega), Int.ediv_self (by omega)]
                    rw [e1, e2]
                    omega
              · have hje : j = ordC y := by omega
                have hO1 : ¬ O ≤ y.most := fun h => hjc (hocl.1 (by rw [← hO]; exact h))
                have hlast : (ordKN y d s k j).length = lq := by rw [hje, ordKN_all, HLQ.out]
                rw [hlast]
                rw [← hO]
                clear hO hocl hcx hlast hje
                as_aux_lemma =>
                go_wp2_with fail
                go_roundw
                case rel => exact ⟨s + 1, by go_num, by omega, hMe, hB7.trans (hB.mono hB7.size)⟩
                case measure => simp [intOf]; omega
          · subst hT
            as_aux_lemma =>
            have HKP : ∀ W, Gf W y (.slice av nw cv) bg bm → Calls Try.prog 34 #[.pointer (some ⟨bg, 0, none⟩), .int .i64 s, .int .i64 k, .int .i64 (t : Int)] W fun e w' => e = .returned (.bool true) ∧ Memo w' bm (GK y) ∧ Bm bm W.heap.size W w' := fun W hW => by
              have := keeps_any y (.slice av nw cv) bg bm HY.out.ok t (by omega) W s k hW hsR hkl
              rw [hkt] at this; exact this
            have HKQ : ∀ W, Gf W y (.slice av nw cv) bg bm → Calls Try.prog 34 #[.pointer (some ⟨bg, 0, none⟩), .int .i64 s, .int .i64 k, .int .i64 ((t : Int) + 1)] W fun e w' => e = .returned (.bool false) ∧ Memo w' bm (GK y) ∧ Bm bm W.heap.size W w' := fun W hW => by
              have := keeps_any y (.slice av nw cv) bg bm HY.out.ok (t + 1) (by omega) W s k hW hsR hkl
              rw [hkt1] at this; exact this
            have HKP2 := Lib.hid HKP
            have HKQ2 := Lib.hid HKQ
            have ht1 : ((t : Int) == 1125899906842624) = false := by simp; omega
            have ht2 : ((t : Int) != 1125899906842624) = true := by simp; omega
            have ht3 : ¬ (M : Int) ≤ t := by omega
            clear HKP HKQ hkt hkt1
            go_wp2_with (first | (refine wpList_load_blk rfl 24 _ rfl _ rfl b7r Try.underlying24 rfl size24 rfl ?_) | (go_at_call 18; refine h18.mono ?_; rintro e w6 ⟨rfl, hb6⟩; have b76 := blk_keep b7r hb6; have h25 := H25.out w6 hb6) | (refine wpList_load_blk rfl 24 _ rfl _ rfl b76 Try.underlying24 rfl size24 rfl ?_) | (go_at_call 25; refine h25.mono ?_; rintro e w7 ⟨u7, rfl, hu7, hb7⟩; have hg7 := (hgr.below hb6).below hb7; have HU7 := Lib.hid hu7; obtain ⟨adq, capq, rfl, hmq, hpq, -⟩ := hu7) | (go_at_call 34; refine (HKQ2.out w7b hg7b).mono ?_; rintro e w8 ⟨rfl, hM8, hB8b⟩) | (go_at_call 34; refine (HKP2.out w7 hg7).mono ?_; rintro e w7b ⟨rfl, hM7b, hB7b⟩; have hg7b := hg7.bm hB7b hM7b))
            have hB8 := hB7b.trans (hB8b.mono hB7b.size)
            have hB7 : Bm bm w4.heap.size w4 w7 := hB.trans ((Bm.of (btr hb6 hb7 (Nat.le_refl _))).mono hB.size)
            have hg8 := hg7.bm hB8 hM8
            have b77 := blk_keep (blk_keep b7r hb6) hb7
            have hn77 := lt_blk b77
            have hnem : n7 ≠ bm := by omega
            clear hc2 b7r h18 hB hL hMe hb6 hb7 hgr
            obtain ⟨lq, hlq⟩ : ∃ lq, lq = (ordK y d s k).length := ⟨_, rfl⟩
            rw [← hlq] at hmq hpq ⊢
            have HLQ := Lib.hid hlq
            clear hlq
            go_loopw [18, 19] (fun nx o wr => ∃ j : Nat, j ≤ ordC y ∧ nx = .int .i64 ((ordKN y d s k j).length : Nat) ∧ o = .int .i64 ((j : Int) * y.lots) ∧ Memo wr bm (GK y) ∧ Bm bm w7.heap.size w7 wr) (fun _ o _ => ordC y - (intOf o / y.lots).toNat)
            case atStart => exact ⟨0, Nat.zero_le _, by simp [ordKN], by simp, hM8, hB8⟩
            case round =>
              clear hM8 hB8 hg8
              obtain ⟨j, hj, rfl, rfl, hMe, hB⟩ := hrel
              have hgr := hg7.bm hB hMe
              have hIr := HU7.out.memo hg7.me hB
              obtain ⟨adx, capx, hex, -, -, hcx⟩ := hIr
              injection hex with hx1 hx2 hx3
              subst hx1 hx3
              clear hx2
              have b7w := (hB.block _ hn77 hnem).trans b77
              have c1 := cell_blk (i := 1) b7w
              have c2 := cell_blk (i := 2) b7w
              simp only [List.getElem?_toArray, List.getElem?_cons_zero, List.getElem?_cons_succ] at c1 c2
              have hocl := ordC_le HY.out.ok (k := j)
              obtain ⟨O, hO⟩ : ∃ O, O = (j : Int) * y.lots := ⟨_, rfl⟩
              have hO0 : 0 ≤ O := by rw [hO]; exact Int.mul_nonneg (by omega) (by omega)
              by_cases hjc : j < ordC y
              · have hO1 : O ≤ y.most := by rw [hO]; exact hocl.2 hjc
                have hni := next_is (y := y) (d := d) (s := s) (m := k) hjc
                have hnx := ordKN_next (y := y) (d := d) (s := s) (m := k) hjc
                rw [← hO] at hni hnx ⊢
                have h35 := order_step y (.slice av nw cv) bg bm d HY.out.ok (by omega) (keeps_any y (.slice av nw cv) bg bm HY.out.ok d (by omega)) wr s k O hgr hsR hkl (by omega)
                rw [show (d : Int) + 1 = 1 + (d : Int) by omega] at h35
                have HO := Lib.hid hO
                clear hO hocl b7w
                obtain ⟨ln, hln⟩ : ∃ ln, ln = (ordKN y d s k j).length := ⟨_, rfl⟩
                rw [← hln] at hni hnx ⊢
                rw [← HLQ.out] at hni
                have hlnb : ln ≤ 100 := by
                  rw [hln]
                  refine Nat.le_trans (List.length_filter_le _ _) ?_
                  rw [List.length_take]
                  refine Nat.le_trans (Nat.min_le_left _ _) ?_
                  have : (j : Int) * 1 ≤ (j : Int) * y.lots := Int.mul_le_mul_of_nonneg_left (by omega) (by omega)
                  have := HO.out
                  omega
                clear hln
                generalize leadsB y (lay y d) s k O = LB at *
                have HNX := Lib.hid hnx
                clear hnx
                by_cases hlen : ln < lq
                · obtain ⟨bq, offq, rfl, hltq, hcellq⟩ := hcx (by rw [← HLQ.out]; omega)
                  have hcq := hcellq ln (by rw [← HLQ.out]; exact hlen)
                  rw [decide_eq_true hlen, Bool.true_and] at hni
                  clear hcellq hcx
                  generalize at0 (ordK y d s k) ln = X at *
                  cases LB
                  · have hXO : ¬ X = O := by simpa using hni
                    as_aux_lemma =>
                    go_wp2_with (go_at_call 35; refine h35.mono ?_; rintro e w9 ⟨rfl, hM9, hB9⟩; have b79 := (hB9.block _ (by have := hB.size; omega) hnem).trans ((hB.block _ hn77 hnem).trans b77); have c29 := cell_blk (i := 2) b79; simp only [List.getElem?_toArray, List.getElem?_cons_zero, List.getElem?_cons_succ] at c29)
                    go_roundw
                    case rel => exact ⟨j + 1, by omega, by rw [HNX.out]; rfl, by rw [HO.out]; congr 1; push_cast; rw [Int.add_mul, Int.one_mul], hM9, hB.trans (hB9.mono hB.size)⟩
                    case measure =>
                      have hO2 := HO.out
                      simp only [intOf]
                      have e1 : O / y.lots = j := by rw [hO2]; exact Int.mul_ediv_cancel _ (by omega)
                      have e2 : (O + y.lots) / y.lots = j + 1 := by rw [hO2, Int.add_ediv_of_dvd_right (Int.dvd_refl _), Int.mul_ediv_cancel _ (by omega), Int.ediv_self (by omega)]
                      rw [e1, e2]
                      omega
                  · have hXO : X = O := by simpa using hni
                    subst hXO
                    as_aux_lemma =>
                    go_wp2_with (go_at_call 35; refine h35.mono ?_; rintro e w9 ⟨rfl, hM9, hB9⟩; have b79 := (hB9.block _ (by have := hB.size; omega) hnem).trans ((hB.block _ hn77 hnem).trans b77); have c29 := cell_blk (i := 2) b79; simp only [List.getElem?_toArray, List.getElem?_cons_zero, List.getElem?_cons_succ] at c29)
                    go_roundw
                    case rel => exact ⟨j + 1, by omega, by rw [HNX.out]; rfl, by rw [HO.out]; congr 1; push_cast; rw [Int.add_mul, Int.one_mul], hM9, hB.trans (hB9.mono hB.size)⟩
                    case measure =>
                      have hO2 := HO.out
                      simp only [intOf]
                      have e1 : X / y.lots = j := by rw [hO2]; exact Int.mul_ediv_cancel _ (by omega)
                      have e2 : (X + y.lots) / y.lots = j + 1 := by rw [hO2, Int.add_ediv_of_dvd_right (Int.dvd_refl _), Int.mul_ediv_cancel _ (by omega), Int.ediv_self (by omega)]
                      rw [e1, e2]
                      omega
                · have hLBf : LB = false := by rw [← hni, decide_eq_false hlen, Bool.false_and]
                  subst hLBf
                  clear hni hcx
                  as_aux_lemma =>
                  go_wp2_with (go_at_call 35; refine h35.mono ?_; rintro e w9 ⟨rfl, hM9, hB9⟩; have b79 := (hB9.block _ (by have := hB.size; omega) hnem).trans ((hB.block _ hn77 hnem).trans b77); have c29 := cell_blk (i := 2) b79; simp only [List.getElem?_toArray, List.getElem?_cons_zero, List.getElem?_cons_succ] at c29)
                  go_roundw
                  case rel => exact ⟨j + 1, by omega, by rw [HNX.out]; rfl, by rw [HO.out]; congr 1; push_cast; rw [Int.add_mul, Int.one_mul], hM9, hB.trans (hB9.mono hB.size)⟩
                  case measure =>
                    have hO2 := HO.out
                    simp only [intOf]
                    have e1 : O / y.lots = j := by rw [hO2]; exact Int.mul_ediv_cancel _ (by omega)
                    have e2 : (O + y.lots) / y.lots = j + 1 := by rw [hO2, Int.add_ediv_of_dvd_right (Int.dvd_refl _), Int.mul_ediv_cancel _ (by omega), Int.ediv_self (by omega)]
                    rw [e1, e2]
                    omega
              · have hje : j = ordC y := by omega
                have hO1 : ¬ O ≤ y.most := fun h => hjc (hocl.1 (by rw [← hO]; exact h))
                have hlast : (ordKN y d s k j).length = lq := by rw [hje, ordKN_all, HLQ.out]
                rw [hlast]
                rw [← hO]
                clear hO hocl hcx hlast hje
                as_aux_lemma =>
                go_wp2_with fail
                go_roundw
                case rel => exact ⟨s + 1, by go_num, by omega, hMe, hB7.trans (hB.mono hB7.size)⟩
                case measure => simp [intOf]; omega
        · go_wp2
          go_roundw
          case rel => exact ⟨k + 1, by go_num, by omega, hMe, hB⟩
          case measure => simp [intOf]; omega
    · go_wp2_with (go_at_call 14; refine (works_any _).mono ?_; rintro e w9 ⟨rfl, hb9⟩)
      go_ret
      exact ⟨rfl, btr (btr hB3w hL (Nat.le_refl _)) hb9 (Nat.le_refl _)⟩
end Ytndmjginmomfiaa
end Go.Proofs
