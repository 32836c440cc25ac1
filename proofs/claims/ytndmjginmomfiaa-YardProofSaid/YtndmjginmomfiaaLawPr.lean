/- The law YardProof returns true. -/
import Derived.Test.YtndmjginmomfiaaCh
import Derived.Test.YtndmjginmomfiaaLawK
import Derived.Test.YtndmjginmomfiaaGenE
import Derived.Test.YtndmjginmomfiaaW20
open Go Go.RowKit Go.YtndmjginmomfiaaIt
namespace Go.Proofs
namespace Ytndmjginmomfiaa
theorem set_tabR {rows : List (List Int)} {i k : Nat} {r : List Int} (hi : i < rows.length) : tabR (rows.set i r) k = if k = i then r else tabR rows k := by
  unfold tabR
  rw [List.getD_eq_getElem?_getD, List.getD_eq_getElem?_getD, List.getElem?_set]
  by_cases h : i = k
  · subst h; simp [hi]
  · rw [if_neg h, if_neg (fun e => h e.symm)]
/-- A number that is changed leaves a table of the right shape. -/
theorem chT_ok {y : Yd} (ok : Ok y) {rows : List (List Int)} (h : Vt y rows) {m s n : Int} (_ : 0 ≤ n ∧ n < 256) : Vt y (chT rows.length y.room rows m s n) := by
  have hn0 := ok.n0
  have hml := h.len
  have h1 := Int.emod_nonneg m (show ((rows.length : Nat) : Int) ≠ 0 by omega)
  have h2 := Int.emod_lt_of_pos m (show (0 : Int) < ((rows.length : Nat) : Int) by omega)
  have hi : (m % (rows.length : Int)).toNat < rows.length := by omega
  have hx : chX n = never ∨ (0 ≤ chX n ∧ chX n ≤ 1000) := by
    unfold chX
    split
    · exact .inl rfl
    · exact .inr (by omega)
  unfold chT
  generalize (m % (rows.length : Int)).toNat = i at *
  generalize (s % (y.room + 1)).toNat = j at *
  refine ⟨by rw [List.length_set]; exact h.len, fun k hk => ?_, fun k hk t ht => ?_⟩
  · rw [List.length_set] at hk
    rw [set_tabR hi]
    split
    · rw [List.length_set]; exact h.row i hi
    · exact h.row k hk
  · rw [List.length_set] at hk
    rw [set_tabR hi] at ht ⊢
    by_cases hki : k = i
    · rw [if_pos hki] at ht ⊢
      rw [List.length_set] at ht
      unfold at0
      rw [List.getD_eq_getElem?_getD, List.getElem?_set]
      by_cases hjt : j = t
      · rw [if_pos hjt, if_pos (by omega)]; exact hx
      · rw [if_neg hjt, ← List.getD_eq_getElem?_getD]; exact h.rg i hi t ht
    · rw [if_neg hki] at ht ⊢
      exact h.rg k hk t ht
theorem t3_cells {w : World} {b off n : Nat} {qs : List T3} (h : ∀ i (h : i < qs.length) f u, (encT qs[i])[f]? = some u → w.cell? ⟨b, off + i * 3 + f, none⟩ = some u) {i : Nat} (hi : i < qs.length) (hn : n = i) :
    w.cell? ⟨b, off + n * 3, none⟩ = some (.int .u8 qs[i].a) ∧ w.cell? ⟨b, off + n * 3 + 1, none⟩ = some (.int .u8 qs[i].b) ∧ w.cell? ⟨b, off + n * 3 + 2, none⟩ = some (.int .u8 qs[i].c) := by
  subst hn
  exact ⟨h n hi 0 _ rfl, h n hi 1 _ rfl, h n hi 2 _ rfl⟩
theorem TabO.set_low {W : World} {B b i : Nat} {v x : Value} {rows : List (List Int)} (h : TabO W B v rows) (hb : b < B) : TabO (W.setCell ⟨b, i, none⟩ x) B v rows := by
  obtain ⟨vs, h1, h2, h3⟩ := h
  exact ⟨vs, ownsRow_setCell_below h1 (a := ⟨b, i, none⟩) hb _, fun i u r hu hr => ownsRow_setCell_below (h2 i u r hu hr) (a := ⟨b, _, none⟩) hb _, h3⟩
set_option maxRecDepth 100000 in
set_option maxHeartbeats 40000000 in
theorem yardProof_any (r m l : Int) (u : Value) (qs : List Q4) (a1 a2 a3 : Int) (tv : Value) (ts : List T3) (w : World) (hr : (0 ≤ r ∧ r < 256) ∧ (0 ≤ m ∧ m < 256) ∧ (0 ≤ l ∧ l < 256)) (hq : ∀ q ∈ qs, q.ok) (hu : SlQ w u qs) (ha1 : 0 ≤ a1 ∧ a1 < 256) (ha2 : 0 ≤ a2 ∧ a2 < 256) (ha3 : 0 ≤ a3 ∧ a3 < 256) (hto : ∀ q ∈ ts, q.ok) (ht : SlT3 w tv ts) :
    Calls Try.prog 8 #[encP r m l u, .int .u8 a1, .int .u8 a2, .int .u8 a3, tv] w fun e w' => e = .returned (.bool true) ∧ Below w.heap.size w w' := by
  have HT := Lib.hid (And.intro ht hto)
  have HA := Lib.hid (And.intro ha1 (And.intro ha2 ha3))
  obtain ⟨att, captv, rfl, htmx, -⟩ := ht
  clear hto ha1 ha2 ha3
  have hp4 : #[Value.int .u8 r, .int .u8 m, .int .u8 l, u].size = 4 := rfl
  have HM := Lib.hid (fun W (hW : Below w.heap.size w W) => made_any r m l u qs W hr.1 hr.2.1 hr.2.2 hq (hu.below (w' := W) hW (Nat.le_refl _)))
  obtain ⟨ad, cap, rfl, -, -, -⟩ := hu
  clear hr hq
  unfold encP at *
  go_enter Try.func8, Try.ntmps8
  refine wp_seq_k (fun K hK => ?_)
  have HK := Lib.hid hK; clear hK
  go_wp2
  refine HK.out _ _ ?_; clear HK K
  generalize hw1 : World.alloc _ _ = w1
  obtain ⟨b1, hB, hs1⟩ := blk1 hw1
  clear hw1
  have h32 := HM.out w1 hB
  refine wp_seq_k (fun K hK => ?_)
  have HK := Lib.hid hK; clear hK
  go_wp2_with (first | (refine wpList_load_blk rfl 62 _ rfl _ rfl b1 Try.underlying62 rfl info62 hp4 ?_) | (go_at_call 32; refine h32.mono ?_; rintro e w2 ⟨y, v, rfl, hw, hy, hb2⟩; have hy4 : (encY y v).size = 4 := rfl; have ho1 : (encY y v).all (·.oneCell') = true := (by obtain ⟨ad, cap, rfl, -⟩ := hw; simp [encY, Value.oneCell']) ) | (refine wpList_store_blk rfl 24 _ _ rfl _ rfl rfl (heap_newI rfl) size24 hy4 rfl ho1 ?_))
  refine HK.out _ _ ?_; clear HK K
  have hB2 := btr hB hb2 (Nat.le_refl _)
  clear h32 b1
  generalize hwA : World.putObj _ _ _ = wA
  have b7 : wA.heap[w2.heap.size]? = some (.cells (encY y v) 24 (0, 0)) := by rw [← hwA]; exact World.putObj_heap_same (by rw [World.size_alloc]; omega)
  have hBA : Below w2.heap.size w2 wA := by rw [← hwA]; exact below_putObj ((Below.refl _ _).alloc (Nat.le_refl _) _) (Nat.le_refl _)
  clear hwA
  have hw' := hw.below hBA (Nat.le_refl _)
  have hB3 := btr hB2 hBA (Nat.le_refl _)
  clear hw hB hb2 hB2 hBA hp4 hs1 HM
  have hY0 := hB3.size
  generalize w2.heap.size = n7 at *
  obtain ⟨av, cv, rfl, -, -, -⟩ := id hw'
  have hn1 := hy.ok.n0
  have hn2 := hy.n
  have hro := hy.ok.room0
  have hr7 := hy.room
  have hmo := hy.ok.most0
  have hmo6 := hy.most
  have hlo := hy.ok.lots0
  have hlo3 := hy.lots
  have HY := Lib.hid hy
  obtain ⟨nw, hnw⟩ : ∃ nw, nw = y.ws.length := ⟨_, rfl⟩
  have HN := Lib.hid hnw
  have HW := Lib.hid (And.intro hw' b7)
  simp only [encY] at b7 ho1 hy4 ⊢
  rw [← hnw] at b7 hn1 hn2 ⊢
  clear hnw hy hw'
  have htab := table_any y (.slice av y.ws.length cv) wA HW.out.1
  have hchk : chkE y = 0 := chk_ok.2 HY.out.ok
  have h16 : Calls Try.prog 16 #[.agg (encY y (.slice av y.ws.length cv))] wA fun e w' => ∃ u, e = .returned (.tuple #[u, .int .i64 0]) ∧ SlII w' u (tabP y) ∧ Below wA.heap.size wA w' := htab.mono (by
    rintro e w' ⟨hb', ⟨h, -⟩ | ⟨-, u, rfl, hu⟩⟩
    · exact absurd hchk h
    · exact ⟨u, rfl, hu, hb'⟩)
  have hver : verE y (tabP y) = 0 := by rw [ver_vt HY.out.ok (tabP_vt HY.out.ok), if_pos rfl]
  have h23 := fun (W : World) (vt : Value) (hW : Below wA.heap.size wA W) (hvt : SlII W vt (tabP y)) => verify_any y (.slice av y.ws.length cv) (tabP y) vt W (HW.out.1.below hW (Nat.le_refl _)) hvt
  rw [hver] at h23
  have htl : (tabP y).length = y.ws.length := by simp [tabP]
  simp only [encY] at h16 h23
  rw [← HN.out] at h16 h23 htl
  have H23 := Lib.hid h23
  have HTL := Lib.hid htl
  clear htab hchk hver h23 htl
  have d3 := cell_blk (i := 3) b7
  simp only [List.getElem?_toArray, List.getElem?_cons_zero, List.getElem?_cons_succ] at d3
  go_wp2_with (first | (refine wpList_load_blk rfl 24 _ rfl _ rfl b7 Try.underlying24 rfl size24 rfl ?_) | (go_at_call 16; refine h16.mono ?_; rintro e w3 ⟨u3, rfl, hu3, hb3⟩; have b73 := blk_keep b7 hb3; have d33 := cell_blk (i := 3) b73; simp only [List.getElem?_toArray, List.getElem?_cons_zero, List.getElem?_cons_succ] at d33; have h23 := H23.out w3 u3 hb3 hu3; obtain ⟨ad3, cap3, rfl, hm3, hcp3, hrow3⟩ := hu3.opened; have HR3 := Lib.hid (And.intro hu3 hrow3); rw [HTL.out] at hm3 hcp3 h23 ⊢) | (refine wpList_load_blk rfl 24 _ rfl _ rfl b73 Try.underlying24 rfl size24 rfl ?_) | (go_at_call 23; refine h23.mono ?_; rintro e w4 ⟨rfl, hb4⟩))
  generalize hwB : World.alloc _ _ = wB
  obtain ⟨bO, hBB, hsB⟩ := blk1 hwB
  clear hwB h16 h23 d3 d33
  have hb34 := btr hb3 hb4 (Nat.le_refl _)
  have hn73 := lt_blk b73
  have hs34 := hb4.size
  obtain ⟨i3, hi3, hz1, hz2, hz3⟩ := info_parts info3
  obtain ⟨i28, hi28, hy1, hy2, hy3⟩ := info_parts info28
  have HI := Lib.hid (And.intro hi3 (And.intro hz1 (And.intro hz2 (And.intro hz3 (And.intro hi28 (And.intro hy1 (And.intro hy2 hy3)))))))
  clear hi3 hz1 hz2 hz3 hi28 hy1 hy2 hy3
  go_loopw [45] (fun i wr => ∃ (k : Nat) (ov : Value), i = .int .i64 k ∧ k ≤ nw ∧ wr.heap[w4.heap.size]? = some (.cells #[ov] 25 (0, 0)) ∧ TabO wr (w4.heap.size + 1) ov ((tabP y).take k) ∧ Below w4.heap.size w4 wr ∧ w4.heap.size + 1 ≤ wr.heap.size) (fun i _ => nw - (intOf i).toNat)
  case atStart => exact ⟨0, _, rfl, Nat.zero_le _, bO, TabO.nil _ _, hBB, hsB⟩
  case round =>
    clear bO hBB hsB
    obtain ⟨k, ov, rfl, hk, bO, hT, hB, hsz⟩ := hrel
    have hL := btr hb4 hB (Nat.le_refl _)
    by_cases hkn : k < nw
    · have hkl : k < y.ws.length := by rw [← HN.out]; exact hkn
      obtain ⟨bt, offt, ad2, cap2, rfl, hlt3, hc3, hI3⟩ := HR3.out.2 k (by rw [HTL.out]; exact hkn)
      have htr : tabR (tabP y) k = rowP y k := tabP_row hkl
      rw [htr] at hc3 hI3
      have hLn := rowP_len y k
      obtain ⟨L, hL0⟩ : ∃ L, L = (rowP y k).length := ⟨_, rfl⟩
      rw [← hL0] at hc3 hI3 hLn
      have hLr2 : ((L : Int) != y.room + 1) = false := by simp; omega
      have hL8 : L ≤ 8 := by omega
      have HI3 := Lib.hid (And.intro hI3 hL0)
      clear htr hI3 hL0 hLn
      have hc3r := (hL.cell (p := ⟨bt, offt + k, none⟩) hlt3).trans hc3
      have b7r := blk_below b73 hL hn73
      have e0 := cell_blk (i := 0) b7r
      have eO := cell_blk (i := 0) bO
      simp only [List.getElem?_toArray, List.getElem?_cons_zero] at e0 eO
      have hlt3r := Nat.lt_of_lt_of_le hlt3 hL.size
      go_wp2
      rename_i K hK
      have HK := Lib.hid hK; clear hK
      refine wp_region_held (S := fun _ => True) (by kernel_rfl) ?_
      change wpAnyH _ _ _ _ _ _ _ _ (World.drew wr)
      refine wpAnyH_take (i := 2) (oi := { dst := some 57, op := _, type := _, pos := _, after := _, guard := none }) (v := ?_) rfl (by kernel_rfl) (by kernel_rfl) (by kernel_rfl) (fun _ _ _ h => h) (Or.inl ⟨by rfl, ?_⟩) trivial ?_
      rotate_left
      · intro U hU
        go_simp
        all_goals with_reducible rfl
      try simp only [Act.put, List.setIfInBounds_toArray, List.set_cons_zero, List.set_cons_succ]
      have eOd : wr.drew.cell? ⟨w4.heap.size, 0, none⟩ = some ov := eO
      refine wpAnyH_ready (rs := [0, 1]) (by kernel_rfl) (by simp) ?_
      refine AllReadyH.cons (o := { dst := some 55, op := _, type := _, pos := _, after := _, guard := none }) rfl (fun K1 hK1 => ?_) ?_
      · rw [if_pos (by rfl)]
        have HK1 := Lib.hid hK1; clear hK1
        go_simp
        refine HK1.out _ _ trivial ?_
        clear HK1 K1
        intro _
        try simp only [Act.put, List.setIfInBounds_toArray, List.set_cons_zero, List.set_cons_succ]
        refine wpAnyH_one (i := 1) (o := { dst := some 56, op := _, type := _, pos := _, after := _, guard := none }) (by kernel_rfl) rfl (by rfl) (fun K1 hK1 => ?_)
        have HK1 := Lib.hid hK1; clear hK1
        go_simp
        generalize hw5 : World.drew (World.alloc wr _) = w5
        have hown0 : w5.ownsRow wr.heap.size 3 1 (.slice (some ⟨wr.heap.size, 0, none⟩) 0 0) 0 [] := by rw [← hw5]; exact (World.ownsRow_made wr #[] 0 (Nat.le_refl _) (by decide) rfl).drew
        have hb5 : Below wr.heap.size wr w5 := by rw [← hw5]; exact ((Below.refl _ _).alloc (Nat.le_refl _) _).drew
        have hs5 : w5.heap.size = wr.heap.size + 1 := by rw [← hw5]; show (wr.alloc _).heap.size = _; rw [World.size_alloc]
        clear hw5
        have eO5 := (hb5.cell (p := ⟨w4.heap.size, 0, none⟩) (lt_blk bO)).trans eO
        refine HK1.out _ _ trivial ?_
        clear HK1 K1
        try simp only [Act.put, List.setIfInBounds_toArray, List.set_cons_zero, List.set_cons_succ]
        refine wpAnyH_one (i := 3) (o := { dst := some 58, op := _, type := _, pos := _, after := _, guard := none }) (by kernel_rfl) rfl (by rfl) (fun K1 hK1 => ?_)
        have HK1 := Lib.hid hK1; clear hK1
        have hrd := reads_of_slI (HI3.out.1.below (btr hL hb5 (Nat.le_refl _)) (Nat.le_refl _))
        obtain ⟨vs, hT1, hT2, hT3⟩ := hT
        refine wp_append_any _ (.tmp 56) (.tmp 57) 28 rfl wr.heap.size 3 i3 (.int .i64 0) 1 8 Try.underlying28 HI.out.1 HI.out.2.1 HI.out.2.2.1 HI.out.2.2.2.1 rfl (by decide) _ 0 [] rfl hown0 _ _ _ _ _ rfl hrd (by simp [Value.oneCell']) (Nat.le_trans (by omega : 0 + L ≤ 50) (by decide)) (by omega) (by omega) ?_
        intro v6 w6 r1 r2 _
        have hb6 : Below wr.heap.size wr w6 := by
          have hs := r2.size
          refine ⟨r2.os.trans hb5.os, r2.tape.trans hb5.tape, r2.output.trans hb5.output, by omega, fun k hk => ?_⟩
          rw [r2.block k (by omega) (fun h2 => by have h3 : some k = some wr.heap.size := h2; injection h3; omega)]
          exact hb5.block k hk
        have hs6 := r2.size
        have r1' : w6.ownsRow wr.heap.size 3 1 v6 (rowP y k).length ((rowP y k).map (.int .i64)) := by rw [← HI3.out.2]; simpa using r1
        have eO6 := (hb6.cell (p := ⟨w4.heap.size, 0, none⟩) (lt_blk bO)).trans eO
        obtain ⟨a6, c6, rfl⟩ := form_of r1'
        refine HK1.out _ _ trivial ?_
        clear HK1 K1
        try simp only [Act.put, List.setIfInBounds_toArray, List.set_cons_zero, List.set_cons_succ]
        refine wpAnyH_one (i := 4) (o := { dst := some 59, op := _, type := _, pos := _, after := _, guard := none }) (by kernel_rfl) rfl (by rfl) (fun K1 hK1 => ?_)
        have HK1 := Lib.hid hK1; clear hK1
        go_simp
        generalize hwa : World.alloc w6 _ = wa
        have eOa : wa.cell? ⟨w4.heap.size, 0, none⟩ = some ov := by rw [← hwa]; exact (((Below.refl _ w6).alloc (Nat.le_refl _) _).cell (p := ⟨w4.heap.size, 0, none⟩) (by have := lt_blk bO; have := hb6.size; show w4.heap.size < _; omega)).trans eO6
        refine HK1.out _ _ trivial ?_
        clear HK1 K1
        try simp only [Act.put, List.setIfInBounds_toArray, List.set_cons_zero, List.set_cons_succ]
        refine wpAnyH_one (i := 5) (o := { dst := some 60, op := _, type := _, pos := _, after := _, guard := none }) (by kernel_rfl) rfl (by rfl) (fun K1 hK1 => ?_)
        have HK1 := Lib.hid hK1; clear hK1
        subst hwa
        have hkt : ((tabP y).take k).length = k := by rw [List.length_take, HTL.out]; omega
        rw [hkt] at hT1
        refine wp_append_own _ (.tmp 55) (.tmp 59) 25 rfl (w4.heap.size + 1) 28 i28 (.slice none 0 0) 1 24 Try.underlying25 HI.out.2.2.2.2.1 HI.out.2.2.2.2.2.1 HI.out.2.2.2.2.2.2.1 HI.out.2.2.2.2.2.2.2 rfl (by decide) _ _ _ rfl ((row_below hT1 hb6).alloc _) ⟨w6.heap.size, 0, none⟩ 1 1 [.slice a6 (rowP y k).length c6] rfl rfl (cell_new1 rfl) (by simp [Value.oneCell']) (Nat.le_trans (by omega : k + 1 ≤ 50) (by decide)) (by omega) (by rw [World.size_alloc]; have := hb6.size; omega) ?_
        intro v7 w7 r3 r4 _
        have hP := tabO_push (W0 := wr) (rows := (tabP y).take k) (by rw [hkt]; exact hT1) hT2 hT3 hb6 r1' (Nat.le_refl _) (by omega) (by rw [hkt]; exact r3) r4
        clear hkt
        have hb7 : Below (w4.heap.size + 1) wr w7 := grown_below1 r4 (row_below hT1 hb6) (Nat.le_refl _) (by have := hb6.size; omega) (hb6.mono (by omega))
        have bO7 := blk_below bO hb7 (by omega)
        have eO7 := cell_blk (i := 0) bO7
        have fO7 := free_blk (i := 0) bO7
        simp only [List.getElem?_toArray, List.getElem?_cons_zero] at eO7
        obtain ⟨a7, c7, rfl⟩ := form_of r3
        refine HK1.out _ _ trivial ?_
        clear HK1 K1
        try simp only [Act.put, List.setIfInBounds_toArray, List.set_cons_zero, List.set_cons_succ]
        refine wpAnyH_one (i := 6) (o := { dst := none, op := _, type := _, pos := _, after := _, guard := none }) (by kernel_rfl) rfl (by rfl) (fun K1 hK1 => ?_)
        have HK1 := Lib.hid hK1; clear hK1
        go_simp
        refine HK1.out _ _ trivial ?_
        clear HK1 K1
        refine wpAnyH_done (by kernel_rfl) ?_ _
        refine HK.out _ _ ?_; clear HK
        have bO8 : (w7.setCell ⟨w4.heap.size, 0, none⟩ (.slice a7 (k + 1) c7)).heap[w4.heap.size]? = some (.cells #[.slice a7 (k + 1) c7] 25 (0, 0)) := by rw [heap_set_blk bO7]; rfl
        have hP8 := hP.set_low (b := w4.heap.size) (i := 0) (x := .slice a7 (k + 1) c7) (by omega)
        have hB8 := (hB.trans (hb7.mono (by omega))).setCell (p := ⟨w4.heap.size, 0, none⟩) (Nat.le_refl _) (.slice a7 (k + 1) c7)
        have hs8 : w4.heap.size + 1 ≤ (w7.setCell ⟨w4.heap.size, 0, none⟩ (.slice a7 (k + 1) c7)).heap.size := by rw [World.size_setCell]; have := hb7.size; omega
        have htk : (tabP y).take k ++ [rowP y k] = (tabP y).take (k + 1) := by rw [List.take_succ_eq_append_getElem (by rw [HTL.out]; exact hkn)]; simp [tabP]
        rw [htk] at hP8
        generalize World.setCell w7 _ _ = w8 at *
        go_wp2
        go_roundw
        case rel => exact ⟨k + 1, _, by go_num, by omega, bO8, hP8, hB8, hs8⟩
        case measure => simp [intOf]; omega
      refine AllReadyH.cons (o := { dst := some 56, op := _, type := _, pos := _, after := _, guard := none }) rfl (fun K1 hK1 => ?_) ?_
      · rw [if_pos (by rfl)]
        have HK1 := Lib.hid hK1; clear hK1
        go_simp
        generalize hw5 : World.drew (World.alloc wr _) = w5
        have hown0 : w5.ownsRow wr.heap.size 3 1 (.slice (some ⟨wr.heap.size, 0, none⟩) 0 0) 0 [] := by rw [← hw5]; exact (World.ownsRow_made wr #[] 0 (Nat.le_refl _) (by decide) rfl).drew
        have hb5 : Below wr.heap.size wr w5 := by rw [← hw5]; exact ((Below.refl _ _).alloc (Nat.le_refl _) _).drew
        have hs5 : w5.heap.size = wr.heap.size + 1 := by rw [← hw5]; show (wr.alloc _).heap.size = _; rw [World.size_alloc]
        clear hw5
        have eO5 := (hb5.cell (p := ⟨w4.heap.size, 0, none⟩) (lt_blk bO)).trans eO
        refine HK1.out _ _ trivial ?_
        clear HK1 K1
        intro _
        try simp only [Act.put, List.setIfInBounds_toArray, List.set_cons_zero, List.set_cons_succ]
        refine wpAnyH_ready (rs := [0, 3]) (by kernel_rfl) (by simp) ?_
        refine AllReadyH.cons (o := { dst := some 55, op := _, type := _, pos := _, after := _, guard := none }) rfl (fun K1 hK1 => ?_) ?_
        · rw [if_pos (by rfl)]
          have HK1 := Lib.hid hK1; clear hK1
          go_simp
          refine HK1.out _ _ trivial ?_
          clear HK1 K1
          intro _
          try simp only [Act.put, List.setIfInBounds_toArray, List.set_cons_zero, List.set_cons_succ]
          refine wpAnyH_one (i := 3) (o := { dst := some 58, op := _, type := _, pos := _, after := _, guard := none }) (by kernel_rfl) rfl (by rfl) (fun K1 hK1 => ?_)
          have HK1 := Lib.hid hK1; clear hK1
          have hrd := reads_of_slI (HI3.out.1.below (btr hL hb5 (Nat.le_refl _)) (Nat.le_refl _))
          obtain ⟨vs, hT1, hT2, hT3⟩ := hT
          refine wp_append_any _ (.tmp 56) (.tmp 57) 28 rfl wr.heap.size 3 i3 (.int .i64 0) 1 8 Try.underlying28 HI.out.1 HI.out.2.1 HI.out.2.2.1 HI.out.2.2.2.1 rfl (by decide) _ 0 [] rfl hown0 _ _ _ _ _ rfl hrd (by simp [Value.oneCell']) (Nat.le_trans (by omega : 0 + L ≤ 50) (by decide)) (by omega) (by omega) ?_
          intro v6 w6 r1 r2 _
          have hb6 : Below wr.heap.size wr w6 := by
            have hs := r2.size
            refine ⟨r2.os.trans hb5.os, r2.tape.trans hb5.tape, r2.output.trans hb5.output, by omega, fun k hk => ?_⟩
            rw [r2.block k (by omega) (fun h2 => by have h3 : some k = some wr.heap.size := h2; injection h3; omega)]
            exact hb5.block k hk
          have hs6 := r2.size
          have r1' : w6.ownsRow wr.heap.size 3 1 v6 (rowP y k).length ((rowP y k).map (.int .i64)) := by rw [← HI3.out.2]; simpa using r1
          have eO6 := (hb6.cell (p := ⟨w4.heap.size, 0, none⟩) (lt_blk bO)).trans eO
          obtain ⟨a6, c6, rfl⟩ := form_of r1'
          refine HK1.out _ _ trivial ?_
          clear HK1 K1
          try simp only [Act.put, List.setIfInBounds_toArray, List.set_cons_zero, List.set_cons_succ]
          refine wpAnyH_one (i := 4) (o := { dst := some 59, op := _, type := _, pos := _, after := _, guard := none }) (by kernel_rfl) rfl (by rfl) (fun K1 hK1 => ?_)
          have HK1 := Lib.hid hK1; clear hK1
          go_simp
          generalize hwa : World.alloc w6 _ = wa
          have eOa : wa.cell? ⟨w4.heap.size, 0, none⟩ = some ov := by rw [← hwa]; exact (((Below.refl _ w6).alloc (Nat.le_refl _) _).cell (p := ⟨w4.heap.size, 0, none⟩) (by have := lt_blk bO; have := hb6.size; show w4.heap.size < _; omega)).trans eO6
          refine HK1.out _ _ trivial ?_
          clear HK1 K1
          try simp only [Act.put, List.setIfInBounds_toArray, List.set_cons_zero, List.set_cons_succ]
          refine wpAnyH_one (i := 5) (o := { dst := some 60, op := _, type := _, pos := _, after := _, guard := none }) (by kernel_rfl) rfl (by rfl) (fun K1 hK1 => ?_)
          have HK1 := Lib.hid hK1; clear hK1
          subst hwa
          have hkt : ((tabP y).take k).length = k := by rw [List.length_take, HTL.out]; omega
          rw [hkt] at hT1
          refine wp_append_own _ (.tmp 55) (.tmp 59) 25 rfl (w4.heap.size + 1) 28 i28 (.slice none 0 0) 1 24 Try.underlying25 HI.out.2.2.2.2.1 HI.out.2.2.2.2.2.1 HI.out.2.2.2.2.2.2.1 HI.out.2.2.2.2.2.2.2 rfl (by decide) _ _ _ rfl ((row_below hT1 hb6).alloc _) ⟨w6.heap.size, 0, none⟩ 1 1 [.slice a6 (rowP y k).length c6] rfl rfl (cell_new1 rfl) (by simp [Value.oneCell']) (Nat.le_trans (by omega : k + 1 ≤ 50) (by decide)) (by omega) (by rw [World.size_alloc]; have := hb6.size; omega) ?_
          intro v7 w7 r3 r4 _
          have hP := tabO_push (W0 := wr) (rows := (tabP y).take k) (by rw [hkt]; exact hT1) hT2 hT3 hb6 r1' (Nat.le_refl _) (by omega) (by rw [hkt]; exact r3) r4
          clear hkt
          have hb7 : Below (w4.heap.size + 1) wr w7 := grown_below1 r4 (row_below hT1 hb6) (Nat.le_refl _) (by have := hb6.size; omega) (hb6.mono (by omega))
          have bO7 := blk_below bO hb7 (by omega)
          have eO7 := cell_blk (i := 0) bO7
          have fO7 := free_blk (i := 0) bO7
          simp only [List.getElem?_toArray, List.getElem?_cons_zero] at eO7
          obtain ⟨a7, c7, rfl⟩ := form_of r3
          refine HK1.out _ _ trivial ?_
          clear HK1 K1
          try simp only [Act.put, List.setIfInBounds_toArray, List.set_cons_zero, List.set_cons_succ]
          refine wpAnyH_one (i := 6) (o := { dst := none, op := _, type := _, pos := _, after := _, guard := none }) (by kernel_rfl) rfl (by rfl) (fun K1 hK1 => ?_)
          have HK1 := Lib.hid hK1; clear hK1
          go_simp
          refine HK1.out _ _ trivial ?_
          clear HK1 K1
          refine wpAnyH_done (by kernel_rfl) ?_ _
          refine HK.out _ _ ?_; clear HK
          have bO8 : (w7.setCell ⟨w4.heap.size, 0, none⟩ (.slice a7 (k + 1) c7)).heap[w4.heap.size]? = some (.cells #[.slice a7 (k + 1) c7] 25 (0, 0)) := by rw [heap_set_blk bO7]; rfl
          have hP8 := hP.set_low (b := w4.heap.size) (i := 0) (x := .slice a7 (k + 1) c7) (by omega)
          have hB8 := (hB.trans (hb7.mono (by omega))).setCell (p := ⟨w4.heap.size, 0, none⟩) (Nat.le_refl _) (.slice a7 (k + 1) c7)
          have hs8 : w4.heap.size + 1 ≤ (w7.setCell ⟨w4.heap.size, 0, none⟩ (.slice a7 (k + 1) c7)).heap.size := by rw [World.size_setCell]; have := hb7.size; omega
          have htk : (tabP y).take k ++ [rowP y k] = (tabP y).take (k + 1) := by rw [List.take_succ_eq_append_getElem (by rw [HTL.out]; exact hkn)]; simp [tabP]
          rw [htk] at hP8
          generalize World.setCell w7 _ _ = w8 at *
          go_wp2
          go_roundw
          case rel => exact ⟨k + 1, _, by go_num, by omega, bO8, hP8, hB8, hs8⟩
          case measure => simp [intOf]; omega
        refine AllReadyH.cons (o := { dst := some 58, op := _, type := _, pos := _, after := _, guard := none }) rfl (fun K1 hK1 => ?_) ?_
        · rw [if_pos (by rfl)]
          have HK1 := Lib.hid hK1; clear hK1
          have hrd := reads_of_slI (HI3.out.1.below (btr hL hb5 (Nat.le_refl _)) (Nat.le_refl _))
          obtain ⟨vs, hT1, hT2, hT3⟩ := hT
          refine wp_append_any _ (.tmp 56) (.tmp 57) 28 rfl wr.heap.size 3 i3 (.int .i64 0) 1 8 Try.underlying28 HI.out.1 HI.out.2.1 HI.out.2.2.1 HI.out.2.2.2.1 rfl (by decide) _ 0 [] rfl hown0 _ _ _ _ _ rfl hrd (by simp [Value.oneCell']) (Nat.le_trans (by omega : 0 + L ≤ 50) (by decide)) (by omega) (by omega) ?_
          intro v6 w6 r1 r2 _
          have hb6 : Below wr.heap.size wr w6 := by
            have hs := r2.size
            refine ⟨r2.os.trans hb5.os, r2.tape.trans hb5.tape, r2.output.trans hb5.output, by omega, fun k hk => ?_⟩
            rw [r2.block k (by omega) (fun h2 => by have h3 : some k = some wr.heap.size := h2; injection h3; omega)]
            exact hb5.block k hk
          have hs6 := r2.size
          have r1' : w6.ownsRow wr.heap.size 3 1 v6 (rowP y k).length ((rowP y k).map (.int .i64)) := by rw [← HI3.out.2]; simpa using r1
          have eO6 := (hb6.cell (p := ⟨w4.heap.size, 0, none⟩) (lt_blk bO)).trans eO
          obtain ⟨a6, c6, rfl⟩ := form_of r1'
          refine HK1.out _ _ trivial ?_
          clear HK1 K1
          intro _
          try simp only [Act.put, List.setIfInBounds_toArray, List.set_cons_zero, List.set_cons_succ]
          refine wpAnyH_ready (rs := [0, 4]) (by kernel_rfl) (by simp) ?_
          refine AllReadyH.cons (o := { dst := some 55, op := _, type := _, pos := _, after := _, guard := none }) rfl (fun K1 hK1 => ?_) ?_
          · rw [if_pos (by rfl)]
            have HK1 := Lib.hid hK1; clear hK1
            go_simp
            refine HK1.out _ _ trivial ?_
            clear HK1 K1
            intro _
            try simp only [Act.put, List.setIfInBounds_toArray, List.set_cons_zero, List.set_cons_succ]
            refine wpAnyH_one (i := 4) (o := { dst := some 59, op := _, type := _, pos := _, after := _, guard := none }) (by kernel_rfl) rfl (by rfl) (fun K1 hK1 => ?_)
            have HK1 := Lib.hid hK1; clear hK1
            go_simp
            generalize hwa : World.alloc w6 _ = wa
            have eOa : wa.cell? ⟨w4.heap.size, 0, none⟩ = some ov := by rw [← hwa]; exact (((Below.refl _ w6).alloc (Nat.le_refl _) _).cell (p := ⟨w4.heap.size, 0, none⟩) (by have := lt_blk bO; have := hb6.size; show w4.heap.size < _; omega)).trans eO6
            refine HK1.out _ _ trivial ?_
            clear HK1 K1
            try simp only [Act.put, List.setIfInBounds_toArray, List.set_cons_zero, List.set_cons_succ]
            refine wpAnyH_one (i := 5) (o := { dst := some 60, op := _, type := _, pos := _, after := _, guard := none }) (by kernel_rfl) rfl (by rfl) (fun K1 hK1 => ?_)
            have HK1 := Lib.hid hK1; clear hK1
            subst hwa
            have hkt : ((tabP y).take k).length = k := by rw [List.length_take, HTL.out]; omega
            rw [hkt] at hT1
            refine wp_append_own _ (.tmp 55) (.tmp 59) 25 rfl (w4.heap.size + 1) 28 i28 (.slice none 0 0) 1 24 Try.underlying25 HI.out.2.2.2.2.1 HI.out.2.2.2.2.2.1 HI.out.2.2.2.2.2.2.1 HI.out.2.2.2.2.2.2.2 rfl (by decide) _ _ _ rfl ((row_below hT1 hb6).alloc _) ⟨w6.heap.size, 0, none⟩ 1 1 [.slice a6 (rowP y k).length c6] rfl rfl (cell_new1 rfl) (by simp [Value.oneCell']) (Nat.le_trans (by omega : k + 1 ≤ 50) (by decide)) (by omega) (by rw [World.size_alloc]; have := hb6.size; omega) ?_
            intro v7 w7 r3 r4 _
            have hP := tabO_push (W0 := wr) (rows := (tabP y).take k) (by rw [hkt]; exact hT1) hT2 hT3 hb6 r1' (Nat.le_refl _) (by omega) (by rw [hkt]; exact r3) r4
            clear hkt
            have hb7 : Below (w4.heap.size + 1) wr w7 := grown_below1 r4 (row_below hT1 hb6) (Nat.le_refl _) (by have := hb6.size; omega) (hb6.mono (by omega))
            have bO7 := blk_below bO hb7 (by omega)
            have eO7 := cell_blk (i := 0) bO7
            have fO7 := free_blk (i := 0) bO7
            simp only [List.getElem?_toArray, List.getElem?_cons_zero] at eO7
            obtain ⟨a7, c7, rfl⟩ := form_of r3
            refine HK1.out _ _ trivial ?_
            clear HK1 K1
            try simp only [Act.put, List.setIfInBounds_toArray, List.set_cons_zero, List.set_cons_succ]
            refine wpAnyH_one (i := 6) (o := { dst := none, op := _, type := _, pos := _, after := _, guard := none }) (by kernel_rfl) rfl (by rfl) (fun K1 hK1 => ?_)
            have HK1 := Lib.hid hK1; clear hK1
            go_simp
            refine HK1.out _ _ trivial ?_
            clear HK1 K1
            refine wpAnyH_done (by kernel_rfl) ?_ _
            refine HK.out _ _ ?_; clear HK
            have bO8 : (w7.setCell ⟨w4.heap.size, 0, none⟩ (.slice a7 (k + 1) c7)).heap[w4.heap.size]? = some (.cells #[.slice a7 (k + 1) c7] 25 (0, 0)) := by rw [heap_set_blk bO7]; rfl
            have hP8 := hP.set_low (b := w4.heap.size) (i := 0) (x := .slice a7 (k + 1) c7) (by omega)
            have hB8 := (hB.trans (hb7.mono (by omega))).setCell (p := ⟨w4.heap.size, 0, none⟩) (Nat.le_refl _) (.slice a7 (k + 1) c7)
            have hs8 : w4.heap.size + 1 ≤ (w7.setCell ⟨w4.heap.size, 0, none⟩ (.slice a7 (k + 1) c7)).heap.size := by rw [World.size_setCell]; have := hb7.size; omega
            have htk : (tabP y).take k ++ [rowP y k] = (tabP y).take (k + 1) := by rw [List.take_succ_eq_append_getElem (by rw [HTL.out]; exact hkn)]; simp [tabP]
            rw [htk] at hP8
            generalize World.setCell w7 _ _ = w8 at *
            go_wp2
            go_roundw
            case rel => exact ⟨k + 1, _, by go_num, by omega, bO8, hP8, hB8, hs8⟩
            case measure => simp [intOf]; omega
          refine AllReadyH.cons (o := { dst := some 59, op := _, type := _, pos := _, after := _, guard := none }) rfl (fun K1 hK1 => ?_) ?_
          · rw [if_pos (by rfl)]
            have HK1 := Lib.hid hK1; clear hK1
            go_simp
            generalize hwa : World.alloc w6 _ = wa
            have eOa : wa.cell? ⟨w4.heap.size, 0, none⟩ = some ov := by rw [← hwa]; exact (((Below.refl _ w6).alloc (Nat.le_refl _) _).cell (p := ⟨w4.heap.size, 0, none⟩) (by have := lt_blk bO; have := hb6.size; show w4.heap.size < _; omega)).trans eO6
            refine HK1.out _ _ trivial ?_
            clear HK1 K1
            intro _
            try simp only [Act.put, List.setIfInBounds_toArray, List.set_cons_zero, List.set_cons_succ]
            refine wpAnyH_one (i := 0) (o := { dst := some 55, op := _, type := _, pos := _, after := _, guard := none }) (by kernel_rfl) rfl (by rfl) (fun K1 hK1 => ?_)
            have HK1 := Lib.hid hK1; clear hK1
            go_simp
            refine HK1.out _ _ trivial ?_
            clear HK1 K1
            try simp only [Act.put, List.setIfInBounds_toArray, List.set_cons_zero, List.set_cons_succ]
            refine wpAnyH_one (i := 5) (o := { dst := some 60, op := _, type := _, pos := _, after := _, guard := none }) (by kernel_rfl) rfl (by rfl) (fun K1 hK1 => ?_)
            have HK1 := Lib.hid hK1; clear hK1
            subst hwa
            have hkt : ((tabP y).take k).length = k := by rw [List.length_take, HTL.out]; omega
            rw [hkt] at hT1
            refine wp_append_own _ (.tmp 55) (.tmp 59) 25 rfl (w4.heap.size + 1) 28 i28 (.slice none 0 0) 1 24 Try.underlying25 HI.out.2.2.2.2.1 HI.out.2.2.2.2.2.1 HI.out.2.2.2.2.2.2.1 HI.out.2.2.2.2.2.2.2 rfl (by decide) _ _ _ rfl ((row_below hT1 hb6).alloc _) ⟨w6.heap.size, 0, none⟩ 1 1 [.slice a6 (rowP y k).length c6] rfl rfl (cell_new1 rfl) (by simp [Value.oneCell']) (Nat.le_trans (by omega : k + 1 ≤ 50) (by decide)) (by omega) (by rw [World.size_alloc]; have := hb6.size; omega) ?_
            intro v7 w7 r3 r4 _
            have hP := tabO_push (W0 := wr) (rows := (tabP y).take k) (by rw [hkt]; exact hT1) hT2 hT3 hb6 r1' (Nat.le_refl _) (by omega) (by rw [hkt]; exact r3) r4
            clear hkt
            have hb7 : Below (w4.heap.size + 1) wr w7 := grown_below1 r4 (row_below hT1 hb6) (Nat.le_refl _) (by have := hb6.size; omega) (hb6.mono (by omega))
            have bO7 := blk_below bO hb7 (by omega)
            have eO7 := cell_blk (i := 0) bO7
            have fO7 := free_blk (i := 0) bO7
            simp only [List.getElem?_toArray, List.getElem?_cons_zero] at eO7
            obtain ⟨a7, c7, rfl⟩ := form_of r3
            refine HK1.out _ _ trivial ?_
            clear HK1 K1
            try simp only [Act.put, List.setIfInBounds_toArray, List.set_cons_zero, List.set_cons_succ]
            refine wpAnyH_one (i := 6) (o := { dst := none, op := _, type := _, pos := _, after := _, guard := none }) (by kernel_rfl) rfl (by rfl) (fun K1 hK1 => ?_)
            have HK1 := Lib.hid hK1; clear hK1
            go_simp
            refine HK1.out _ _ trivial ?_
            clear HK1 K1
            refine wpAnyH_done (by kernel_rfl) ?_ _
            refine HK.out _ _ ?_; clear HK
            have bO8 : (w7.setCell ⟨w4.heap.size, 0, none⟩ (.slice a7 (k + 1) c7)).heap[w4.heap.size]? = some (.cells #[.slice a7 (k + 1) c7] 25 (0, 0)) := by rw [heap_set_blk bO7]; rfl
            have hP8 := hP.set_low (b := w4.heap.size) (i := 0) (x := .slice a7 (k + 1) c7) (by omega)
            have hB8 := (hB.trans (hb7.mono (by omega))).setCell (p := ⟨w4.heap.size, 0, none⟩) (Nat.le_refl _) (.slice a7 (k + 1) c7)
            have hs8 : w4.heap.size + 1 ≤ (w7.setCell ⟨w4.heap.size, 0, none⟩ (.slice a7 (k + 1) c7)).heap.size := by rw [World.size_setCell]; have := hb7.size; omega
            have htk : (tabP y).take k ++ [rowP y k] = (tabP y).take (k + 1) := by rw [List.take_succ_eq_append_getElem (by rw [HTL.out]; exact hkn)]; simp [tabP]
            rw [htk] at hP8
            generalize World.setCell w7 _ _ = w8 at *
            go_wp2
            go_roundw
            case rel => exact ⟨k + 1, _, by go_num, by omega, bO8, hP8, hB8, hs8⟩
            case measure => simp [intOf]; omega
          exact AllReadyH.nil
        exact AllReadyH.nil
      exact AllReadyH.nil
    · have hkn2 : k = nw := by omega
      have htk : (tabP y).take k = tabP y := by rw [hkn2, ← HTL.out, List.take_length]
      rw [htk] at hT
      have hvt := tabP_vt HY.out.ok
      have hlen1 : 1 ≤ (tabP y).length ∧ (tabP y).length ≤ 2 := by rw [HTL.out]; omega
      have b7r := blk_below b73 hL hn73
      have hn7B : n7 < w4.heap.size + 1 := by omega
      have h36 := change_any y (.slice av nw cv) (tabP y) ov w4.heap.size n7 (w4.heap.size + 1) a1 a2 a3 wr ⟨hro, hr7⟩ HA.out.1 HA.out.2.1 HA.out.2.2 hlen1 hvt.row hT bO b7r (by omega) hn7B
      have hmf := hmf
      have hv2 := chT_ok HY.out.ok hvt (m := a1) (s := a2) HA.out.2.2
      generalize chT (tabP y).length y.room (tabP y) a1 a2 a3 = rw1 at *
      have HV2 := Lib.hid hv2
      clear hv2 hvt htk hkn2 hT
      go_wp2_with (go_at_call 36; refine h36.mono ?_; rintro e w5 ⟨rfl, hT5, hb5⟩)
      have bO5 := blk_below bO hb5 (by omega)
      have hB5 : Below w4.heap.size w4 w5 := hB.trans (hb5.mono (by omega))
      clear h36 bO hB hb5 hL hmf b7r
      go_loopw [18] (fun i wr => ∃ (q : Nat) (rows : List (List Int)), i = .int .i64 q ∧ q ≤ ts.length ∧ wr.heap[w4.heap.size]? = some (.cells #[ov] 25 (0, 0)) ∧ TabO wr (w4.heap.size + 1) ov rows ∧ Vt y rows ∧ Below w4.heap.size w4 wr ∧ w4.heap.size + 1 ≤ wr.heap.size) (fun i _ => ts.length - (intOf i).toNat)
      case atStart => exact ⟨0, rw1, rfl, Nat.zero_le _, bO5, hT5, HV2.out, hB5, by have := lt_blk bO5; omega⟩
      case round =>
        clear bO5 hT5 hB5
        obtain ⟨q, rows, rfl, hq, bO, hT, hvt, hB, hsz⟩ := hrel
        have hL := btr hb4 hB (Nat.le_refl _)
        have b7r := blk_below b73 hL hn73
        have HVT := Lib.hid hvt
        clear hvt
        by_cases hq1 : q < ts.length
        · by_cases hq6 : q < 6
          · have hwr : Below w.heap.size w wr := btr (btr hB3 hb3 (Nat.le_refl _)) hL (Nat.le_refl _)
            have hw4 : w.heap.size ≤ w4.heap.size := by have := hB3.size; have := hb3.size; have := hb4.size; omega
            obtain ⟨adx, capx, hex, -, hcx⟩ := HT.out.1
            obtain ⟨bx, offx, rfl, hltx, hcellx⟩ := hcx (by omega)
            injection hex with hx1 hx2 hx3
            subst hx1 hx3
            clear hx2
            obtain ⟨c0, c1, c2⟩ := t3_cells hcellx hq1 rfl
            obtain ⟨ho1, ho2, ho3⟩ := HT.out.2 _ (List.getElem_mem hq1)
            generalize ts[q] = tq at *
            replace c0 := (hwr.cell (p := ⟨bx, _, none⟩) hltx).trans c0
            replace c1 := (hwr.cell (p := ⟨bx, _, none⟩) hltx).trans c1
            replace c2 := (hwr.cell (p := ⟨bx, _, none⟩) hltx).trans c2
            have hltr := Nat.lt_of_lt_of_le hltx hwr.size
            clear hcellx hcx
            have hlr := HVT.out.len
            have hlen1 : 1 ≤ rows.length ∧ rows.length ≤ 2 := by rw [hlr, ← HN.out]; omega
            have h36 := change_any y (.slice av nw cv) rows ov w4.heap.size n7 (w4.heap.size + 1) tq.a tq.b tq.c wr.drew ⟨hro, hr7⟩ ho1 ho2 ho3 hlen1 HVT.out.row (hT.below (Below.refl _ _).drew) bO b7r (by omega) (by omega)
            have hv2 := chT_ok HY.out.ok HVT.out (m := tq.a) (s := tq.b) ho3
            generalize chT rows.length y.room rows tq.a tq.b tq.c = rw2 at *
            have HV2 := Lib.hid hv2
            clear hv2 hlr hlen1 hT
            obtain ⟨v0, v1, v2⟩ := tq
            simp only at c0 c1 c2 h36
            go_wp2
            rename_i K hK
            have HK := Lib.hid hK; clear hK
            have hS : wr.cell? ⟨bx, offx + q * 3, none⟩ = some (.int .u8 v0) ∧ wr.cell? ⟨bx, offx + q * 3 + 1, none⟩ = some (.int .u8 v1) ∧ wr.cell? ⟨bx, offx + q * 3 + 2, none⟩ = some (.int .u8 v2) := ⟨c0, c1, c2⟩
            refine wp_region_held (S := fun U => U.cell? ⟨bx, offx + q * 3, none⟩ = some (.int .u8 v0) ∧ U.cell? ⟨bx, offx + q * 3 + 1, none⟩ = some (.int .u8 v1) ∧ U.cell? ⟨bx, offx + q * 3 + 2, none⟩ = some (.int .u8 v2)) (by kernel_rfl) ?_
            change wpAnyH _ _ _ _ _ _ _ _ (World.drew wr)
            refine wpAnyH_take (i := 0) (oi := { dst := some 78, op := _, type := _, pos := _, after := _, guard := none }) (v := ?_) rfl (by kernel_rfl) (by kernel_rfl) (by kernel_rfl) (fun _ _ _ h => h) (Or.inl ⟨by rfl, ?_⟩) hS ?_
            rotate_left
            · intro U hU
              obtain ⟨hU0, hU1, hU2⟩ := hU
              go_simp
              all_goals with_reducible rfl
            try simp only [Act.put, List.setIfInBounds_toArray, List.set_cons_zero, List.set_cons_succ]
            refine wpAnyH_take (i := 1) (oi := { dst := some 79, op := _, type := _, pos := _, after := _, guard := none }) (v := ?_) rfl (by kernel_rfl) (by kernel_rfl) (by kernel_rfl) (fun _ _ _ h => h) (Or.inl ⟨by rfl, ?_⟩) hS ?_
            rotate_left
            · intro U hU
              obtain ⟨hU0, hU1, hU2⟩ := hU
              go_simp
              all_goals with_reducible rfl
            try simp only [Act.put, List.setIfInBounds_toArray, List.set_cons_zero, List.set_cons_succ]
            refine wpAnyH_take (i := 2) (oi := { dst := some 80, op := _, type := _, pos := _, after := _, guard := none }) (v := ?_) rfl (by kernel_rfl) (by kernel_rfl) (by kernel_rfl) (fun _ _ _ h => h) (Or.inl ⟨by rfl, ?_⟩) hS ?_
            rotate_left
            · intro U hU
              obtain ⟨hU0, hU1, hU2⟩ := hU
              go_simp
              all_goals with_reducible rfl
            try simp only [Act.put, List.setIfInBounds_toArray, List.set_cons_zero, List.set_cons_succ]
            refine wpAnyH_take (i := 3) (oi := { dst := some 81, op := _, type := _, pos := _, after := _, guard := none }) (v := ?_) rfl (by kernel_rfl) (by kernel_rfl) (by kernel_rfl) (fun _ _ _ h => h) (Or.inl ⟨by rfl, ?_⟩) hS ?_
            rotate_left
            · intro U hU
              obtain ⟨hU0, hU1, hU2⟩ := hU
              go_simp
              all_goals with_reducible rfl
            try simp only [Act.put, List.setIfInBounds_toArray, List.set_cons_zero, List.set_cons_succ]
            refine wpAnyH_take (i := 4) (oi := { dst := some 82, op := _, type := _, pos := _, after := _, guard := none }) (v := ?_) rfl (by kernel_rfl) (by kernel_rfl) (by kernel_rfl) (fun _ _ _ h => h) (Or.inl ⟨by rfl, ?_⟩) hS ?_
            rotate_left
            · intro U hU
              obtain ⟨hU0, hU1, hU2⟩ := hU
              go_simp
              all_goals with_reducible rfl
            try simp only [Act.put, List.setIfInBounds_toArray, List.set_cons_zero, List.set_cons_succ]
            refine wpAnyH_take (i := 5) (oi := { dst := some 83, op := _, type := _, pos := _, after := _, guard := none }) (v := ?_) rfl (by kernel_rfl) (by kernel_rfl) (by kernel_rfl) (fun _ _ _ h => h) (Or.inl ⟨by rfl, ?_⟩) hS ?_
            rotate_left
            · intro U hU
              obtain ⟨hU0, hU1, hU2⟩ := hU
              go_simp
              all_goals with_reducible rfl
            try simp only [Act.put, List.setIfInBounds_toArray, List.set_cons_zero, List.set_cons_succ]
            refine wpAnyH_take (i := 6) (oi := { dst := some 84, op := _, type := _, pos := _, after := _, guard := none }) (v := ?_) rfl (by kernel_rfl) (by kernel_rfl) (by kernel_rfl) (fun _ _ _ h => h) (Or.inl ⟨by rfl, ?_⟩) hS ?_
            rotate_left
            · intro U hU
              obtain ⟨hU0, hU1, hU2⟩ := hU
              go_simp
              all_goals with_reducible rfl
            try simp only [Act.put, List.setIfInBounds_toArray, List.set_cons_zero, List.set_cons_succ]
            refine wpAnyH_take (i := 7) (oi := { dst := some 85, op := _, type := _, pos := _, after := _, guard := none }) (v := ?_) rfl (by kernel_rfl) (by kernel_rfl) (by kernel_rfl) (fun _ _ _ h => h) (Or.inl ⟨by rfl, ?_⟩) hS ?_
            rotate_left
            · intro U hU
              obtain ⟨hU0, hU1, hU2⟩ := hU
              go_simp
              all_goals with_reducible rfl
            try simp only [Act.put, List.setIfInBounds_toArray, List.set_cons_zero, List.set_cons_succ]
            refine wpAnyH_take (i := 8) (oi := { dst := some 86, op := _, type := _, pos := _, after := _, guard := none }) (v := ?_) rfl (by kernel_rfl) (by kernel_rfl) (by kernel_rfl) (fun _ _ _ h => h) (Or.inl ⟨by rfl, ?_⟩) hS ?_
            rotate_left
            · intro U hU
              obtain ⟨hU0, hU1, hU2⟩ := hU
              go_simp
              all_goals with_reducible rfl
            try simp only [Act.put, List.setIfInBounds_toArray, List.set_cons_zero, List.set_cons_succ]
            refine wpAnyH_take (i := 9) (oi := { dst := some 87, op := _, type := _, pos := _, after := _, guard := none }) (v := ?_) rfl (by kernel_rfl) (by kernel_rfl) (by kernel_rfl) (fun _ _ _ h => h) (Or.inl ⟨by rfl, ?_⟩) hS ?_
            rotate_left
            · intro U hU
              obtain ⟨hU0, hU1, hU2⟩ := hU
              go_simp
              all_goals with_reducible rfl
            try simp only [Act.put, List.setIfInBounds_toArray, List.set_cons_zero, List.set_cons_succ]
            refine wpAnyH_take (i := 10) (oi := { dst := some 88, op := _, type := _, pos := _, after := _, guard := none }) (v := ?_) rfl (by kernel_rfl) (by kernel_rfl) (by kernel_rfl) (fun _ _ _ h => h) (Or.inl ⟨by rfl, ?_⟩) hS ?_
            rotate_left
            · intro U hU
              obtain ⟨hU0, hU1, hU2⟩ := hU
              go_simp
              all_goals with_reducible rfl
            try simp only [Act.put, List.setIfInBounds_toArray, List.set_cons_zero, List.set_cons_succ]
            refine wpAnyH_take (i := 11) (oi := { dst := some 89, op := _, type := _, pos := _, after := _, guard := none }) (v := ?_) rfl (by kernel_rfl) (by kernel_rfl) (by kernel_rfl) (fun _ _ _ h => h) (Or.inl ⟨by rfl, ?_⟩) hS ?_
            rotate_left
            · intro U hU
              obtain ⟨hU0, hU1, hU2⟩ := hU
              go_simp
              all_goals with_reducible rfl
            try simp only [Act.put, List.setIfInBounds_toArray, List.set_cons_zero, List.set_cons_succ]
            refine wpAnyH_take (i := 12) (oi := { dst := some 90, op := _, type := _, pos := _, after := _, guard := none }) (v := ?_) rfl (by kernel_rfl) (by kernel_rfl) (by kernel_rfl) (fun _ _ _ h => h) (Or.inl ⟨by rfl, ?_⟩) hS ?_
            rotate_left
            · intro U hU
              obtain ⟨hU0, hU1, hU2⟩ := hU
              go_simp
              all_goals with_reducible rfl
            try simp only [Act.put, List.setIfInBounds_toArray, List.set_cons_zero, List.set_cons_succ]
            refine wpAnyH_take (i := 13) (oi := { dst := some 91, op := _, type := _, pos := _, after := _, guard := none }) (v := ?_) rfl (by kernel_rfl) (by kernel_rfl) (by kernel_rfl) (fun _ _ _ h => h) (Or.inl ⟨by rfl, ?_⟩) hS ?_
            rotate_left
            · intro U hU
              obtain ⟨hU0, hU1, hU2⟩ := hU
              go_simp
              all_goals with_reducible rfl
            try simp only [Act.put, List.setIfInBounds_toArray, List.set_cons_zero, List.set_cons_succ]
            refine wpAnyH_take (i := 14) (oi := { dst := some 92, op := _, type := _, pos := _, after := _, guard := none }) (v := ?_) rfl (by kernel_rfl) (by kernel_rfl) (by kernel_rfl) (fun _ _ _ h => h) (Or.inl ⟨by rfl, ?_⟩) hS ?_
            rotate_left
            · intro U hU
              obtain ⟨hU0, hU1, hU2⟩ := hU
              go_simp
              all_goals with_reducible rfl
            try simp only [Act.put, List.setIfInBounds_toArray, List.set_cons_zero, List.set_cons_succ]
            refine wpAnyH_take (i := 15) (oi := { dst := some 93, op := _, type := _, pos := _, after := _, guard := none }) (v := ?_) rfl (by kernel_rfl) (by kernel_rfl) (by kernel_rfl) (fun _ _ _ h => h) (Or.inl ⟨by rfl, ?_⟩) hS ?_
            rotate_left
            · intro U hU
              obtain ⟨hU0, hU1, hU2⟩ := hU
              go_simp
              all_goals with_reducible rfl
            try simp only [Act.put, List.setIfInBounds_toArray, List.set_cons_zero, List.set_cons_succ]
            refine wpAnyH_one (i := 16) (o := { dst := some 94, op := Op.call { callee := Callee.value (Operand.tmp 78), args := #[Operand.tmp 83, Operand.tmp 88, Operand.tmp 93], argTypes := _ }, type := _, pos := _, after := _, guard := none }) (by kernel_rfl) rfl (by rfl) (fun K1 hK1 => ?_)
            have HK1 := Lib.hid hK1; clear hK1
            refine oper_callg (f := 36) (lb := #[.pointer (some ⟨w4.heap.size, 0, none⟩), .pointer (some ⟨n7, 0, none⟩)]) rfl rfl (enters_of Try.func36 (by kernel_rfl) rfl) rfl (R := fun u W => u = .tuple #[] ∧ TabO W (w4.heap.size + 1) ov rw2 ∧ Below (w4.heap.size + 1) wr W) ?_ ?_
            · refine h36.mono ?_
              rintro e W ⟨rfl, hT9, hb9⟩
              exact ⟨_, rfl, rfl, hT9, (Below.refl _ wr).drew.trans hb9⟩
            rintro u9 w9 ⟨rfl, hT9, hb9⟩
            refine HK1.out _ _ ⟨(hb9.cell (p := ⟨bx, offx + q * 3, none⟩) (show bx < w4.heap.size + 1 by omega)).trans c0, (hb9.cell (p := ⟨bx, offx + q * 3 + 1, none⟩) (show bx < w4.heap.size + 1 by omega)).trans c1, (hb9.cell (p := ⟨bx, offx + q * 3 + 2, none⟩) (show bx < w4.heap.size + 1 by omega)).trans c2⟩ ?_
            clear HK1 K1
            try simp only [Act.put, List.setIfInBounds_toArray, List.set_cons_zero, List.set_cons_succ]
            refine wpAnyH_done (by kernel_rfl) ?_ _
            refine HK.out _ _ ?_; clear HK hS
            have bO9 := blk_below bO hb9 (by omega)
            have hs9 := hb9.size
            go_wp2
            go_roundw
            case rel => exact ⟨q + 1, rw2, by go_num, by omega, bO9, hT9, HV2.out, hB.trans (hb9.mono (by omega)), by omega⟩
            case measure => simp [intOf]; omega
          · as_aux_lemma =>
            have eO := cell_blk (i := 0) bO
            simp only [List.getElem?_toArray, List.getElem?_cons_zero] at eO
            have hrl := HVT.out.len
            have hsl : SlII wr ov rows := hT.sl (by rw [hrl, ← HN.out]; omega) (fun i hi => by rw [HVT.out.row i hi]; omega)
            have h20 := tables_any _ _ rows (tabP y) wr hsl (HR3.out.1.below hL (Nat.le_refl _))
            have h23 := fun (W : World) (hW : Below wr.heap.size wr W) => verify_any y (.slice av y.ws.length cv) rows ov W (HW.out.1.below (btr (btr hb3 hL (Nat.le_refl _)) hW (Nat.le_refl _)) (Nat.le_refl _)) (hsl.below hW (Nat.le_refl _))
            rw [ver_vt HY.out.ok HVT.out] at h23
            rw [HTL.out] at h20
            simp only [encY] at h23
            rw [← HN.out] at h23
            clear hrl hsl hT
            by_cases heq : rows = tabP y
            · rw [decide_eq_true heq] at h20
              rw [if_pos heq] at h23
              have H23b := Lib.hid h23
              clear h23 heq
              go_wp2_with (first | (go_at_call 20; refine h20.mono ?_; rintro e w6 ⟨rfl, hb6⟩; have b76 := blk_keep b7r hb6; have eO6 := (hb6.cell (p := ⟨w4.heap.size, 0, none⟩) (lt_blk bO)).trans eO; have h23 := H23b.out w6 hb6) | (refine wpList_load_blk rfl 24 _ rfl _ rfl b76 Try.underlying24 rfl size24 rfl ?_) | (go_at_call 23; refine h23.mono ?_; rintro e w7 ⟨rfl, hb7⟩) | (go_at_call 14; refine (works_any _).mono ?_; rintro e w8 ⟨rfl, hb8⟩))
              go_ret
              exact ⟨rfl, btr (btr (btr (btr (btr hB3 hb3 (Nat.le_refl _)) hL (Nat.le_refl _)) hb6 (Nat.le_refl _)) hb7 (Nat.le_refl _)) hb8 (Nat.le_refl _)⟩
            · rw [decide_eq_false heq] at h20
              rw [if_neg heq] at h23
              have H23b := Lib.hid h23
              clear h23 heq
              go_wp2_with (first | (go_at_call 20; refine h20.mono ?_; rintro e w6 ⟨rfl, hb6⟩; have b76 := blk_keep b7r hb6; have eO6 := (hb6.cell (p := ⟨w4.heap.size, 0, none⟩) (lt_blk bO)).trans eO; have h23 := H23b.out w6 hb6) | (refine wpList_load_blk rfl 24 _ rfl _ rfl b76 Try.underlying24 rfl size24 rfl ?_) | (go_at_call 23; refine h23.mono ?_; rintro e w7 ⟨rfl, hb7⟩) | (go_at_call 14; refine (works_any _).mono ?_; rintro e w8 ⟨rfl, hb8⟩))
              go_ret
              exact ⟨rfl, btr (btr (btr (btr (btr hB3 hb3 (Nat.le_refl _)) hL (Nat.le_refl _)) hb6 (Nat.le_refl _)) hb7 (Nat.le_refl _)) hb8 (Nat.le_refl _)⟩
        · as_aux_lemma =>
          have eO := cell_blk (i := 0) bO
          simp only [List.getElem?_toArray, List.getElem?_cons_zero] at eO
          have hrl := HVT.out.len
          have hsl : SlII wr ov rows := hT.sl (by rw [hrl, ← HN.out]; omega) (fun i hi => by rw [HVT.out.row i hi]; omega)
          have h20 := tables_any _ _ rows (tabP y) wr hsl (HR3.out.1.below hL (Nat.le_refl _))
          have h23 := fun (W : World) (hW : Below wr.heap.size wr W) => verify_any y (.slice av y.ws.length cv) rows ov W (HW.out.1.below (btr (btr hb3 hL (Nat.le_refl _)) hW (Nat.le_refl _)) (Nat.le_refl _)) (hsl.below hW (Nat.le_refl _))
          rw [ver_vt HY.out.ok HVT.out] at h23
          rw [HTL.out] at h20
          simp only [encY] at h23
          rw [← HN.out] at h23
          clear hrl hsl hT
          by_cases heq : rows = tabP y
          · rw [decide_eq_true heq] at h20
            rw [if_pos heq] at h23
            have H23b := Lib.hid h23
            clear h23 heq
            go_wp2_with (first | (go_at_call 20; refine h20.mono ?_; rintro e w6 ⟨rfl, hb6⟩; have b76 := blk_keep b7r hb6; have eO6 := (hb6.cell (p := ⟨w4.heap.size, 0, none⟩) (lt_blk bO)).trans eO; have h23 := H23b.out w6 hb6) | (refine wpList_load_blk rfl 24 _ rfl _ rfl b76 Try.underlying24 rfl size24 rfl ?_) | (go_at_call 23; refine h23.mono ?_; rintro e w7 ⟨rfl, hb7⟩) | (go_at_call 14; refine (works_any _).mono ?_; rintro e w8 ⟨rfl, hb8⟩))
            go_ret
            exact ⟨rfl, btr (btr (btr (btr (btr hB3 hb3 (Nat.le_refl _)) hL (Nat.le_refl _)) hb6 (Nat.le_refl _)) hb7 (Nat.le_refl _)) hb8 (Nat.le_refl _)⟩
          · rw [decide_eq_false heq] at h20
            rw [if_neg heq] at h23
            have H23b := Lib.hid h23
            clear h23 heq
            go_wp2_with (first | (go_at_call 20; refine h20.mono ?_; rintro e w6 ⟨rfl, hb6⟩; have b76 := blk_keep b7r hb6; have eO6 := (hb6.cell (p := ⟨w4.heap.size, 0, none⟩) (lt_blk bO)).trans eO; have h23 := H23b.out w6 hb6) | (refine wpList_load_blk rfl 24 _ rfl _ rfl b76 Try.underlying24 rfl size24 rfl ?_) | (go_at_call 23; refine h23.mono ?_; rintro e w7 ⟨rfl, hb7⟩) | (go_at_call 14; refine (works_any _).mono ?_; rintro e w8 ⟨rfl, hb8⟩))
            go_ret
            exact ⟨rfl, btr (btr (btr (btr (btr hB3 hb3 (Nat.le_refl _)) hL (Nat.le_refl _)) hb6 (Nat.le_refl _)) hb7 (Nat.le_refl _)) hb8 (Nat.le_refl _)⟩
end Ytndmjginmomfiaa
end Go.Proofs
