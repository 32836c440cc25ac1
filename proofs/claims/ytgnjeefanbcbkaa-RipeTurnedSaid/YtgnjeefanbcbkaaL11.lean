/- For every crop and two numbers the law RipeTurned returns true. -/
import Derived.Test.YtgnjeefanbcbkaaL7
import Derived.Test.YtgnjeefanbcbkaaE7
import Derived.Maps.AppendAt
open Go Go.RowKit Go.YtgnjeefanbcbkaaIt
namespace Go.Proofs
namespace Ytgnjeefanbcbkaa
structure KeyP (p : Prop) : Prop where
  out : p
theorem val_of {n : Nat} {lo hi : Int} {ss : List Smp} (h : posE n lo hi ss = 0) : Val n lo hi ss := by
  obtain ⟨m, hm, hV⟩ := chk_ok (pos_chk h)
  have : n = m := by omega
  subst this; exact hV
theorem no_of {n : Nat} {lo hi : Int} {ss : List Smp} (h : posE n lo hi ss = 0) : noB (lowAt lo ss) (highAt hi ss) n = true := by
  have h1 := pos_chk h
  unfold posE at h
  rw [if_neg (by rw [h1]; simp)] at h
  by_cases h2 : noB (lowAt lo ss) (highAt hi ss) (n : Int).toNat = true
  · exact h2
  · rw [if_neg h2] at h; simp at h
theorem cut_bd {n : Nat} {lo hi : Int} {ss : List Smp} (hE : posE n lo hi ss = 0) (hV : Val n lo hi ss) (h0 : noB (lowAt lo ss) (highAt hi ss) n = true) : 0 ≤ cutV n lo hi ss ∧ cutV n lo hi ss ≤ 30000 := by
  obtain ⟨i, hi', -, e, -⟩ := cut_at hE hV.n1
  obtain ⟨T, k, hk, hT, et⟩ := reg_att h0 hi'
  have hb := hV.bds
  have h1 := hT.high k hk
  have h2 := hT.low i hi'
  have h3 := (hb.hi k hk).2
  have h4 := (hb.lo i hi').1
  have h5 := tru_reg hT hi' hi'
  rw [e]
  have c4 : (0 : Rat) ≤ (lowAt lo ss i : Rat) := by have := cast_le.2 h4; simpa using this
  have c3 := cast_le.2 h3
  have hc := ceil_v (regF_pos (L := lowAt lo ss) (H := highAt hi ss) hi')
  constructor
  · have : ((0 : Int) : Rat) ≤ ((regF (lowAt lo ss) (highAt hi ss) n i).ceil : Rat) := Rat.le_trans (by have := h5; simp only [Rat.intCast_zero]; grind) hc
    exact cast_le.1 this
  · refine (ceil_le (regF_pos hi') _).2 ?_
    rw [← et]
    grind
theorem known_bd {n : Nat} {lo hi : Int} {ss : List Smp} (hV : Val n lo hi ss) (h0 : noB (lowAt lo ss) (highAt hi ss) n = true) {w : Nat} (hw : w < n) : (0 ≤ (spanAt (lowAt lo ss) (highAt hi ss) n w).1 ∧ (spanAt (lowAt lo ss) (highAt hi ss) n w).1 ≤ 30000) ∧ 0 ≤ (spanAt (lowAt lo ss) (highAt hi ss) n w).2 ∧ (spanAt (lowAt lo ss) (highAt hi ss) n w).2 ≤ 30000 := by
  have hb := hV.bds
  have h1 := (hb.lo w hw).1
  have h2 := (hb.hi w hw).2
  have g1 : (lowAt lo ss w : Rat) ≤ (lowerF (lowAt lo ss) n w).v := (lw_iff.2 Rat.le_refl).low
  have g2 : (upperF (lowAt lo ss) (highAt hi ss) n w).v ≤ (highAt hi ss w : Rat) := ((up_iff hw).2 Rat.le_refl).high
  have g3 := up_low h0 hw
  have f1 := (le_floor (lower_pos (lowAt lo ss) n w) (lowAt lo ss w)).2 g1
  have f2 := (ceil_le (upper_pos (lowAt lo ss) (highAt hi ss) n w) (highAt hi ss w)).2 g2
  have f3 := cast_le.1 (Rat.le_trans (Rat.le_trans (floor_v (lower_pos (lowAt lo ss) n w)) g3) (ceil_v (upper_pos (lowAt lo ss) (highAt hi ss) n w)))
  simp only [spanAt]
  omega
set_option maxRecDepth 100000 in
set_option maxHeartbeats 8000000 in
theorem ripeturned_any (wk fs st ra rb : Int) (vf vs : Value) (falls : List Int) (sm : List B3) (times more : Int) (w : World) (hwk : 0 ≤ wk ∧ wk < 256) (hfs : 0 ≤ fs ∧ fs < 256) (hst : 0 ≤ st ∧ st < 256) (hr0 : 0 ≤ ra ∧ ra < 256) (hr1 : 0 ≤ rb ∧ rb < 256) (hf : SlB w vf falls) (hs : SlT w vs sm) (htm : 0 ≤ times ∧ times < 256) (hmo : 0 ≤ more ∧ more < 256) :
    Calls Try.prog 11 #[.agg #[.int .u8 wk, .int .u8 fs, .int .u8 st, vf, .int .u8 ra, .int .u8 rb, vs], .int .u8 times, .int .u8 more] w fun e w' => e = .returned (.bool true) ∧ Below w.heap.size w w' := by
  have hm33 := fun (W : World) (h : Below w.heap.size w W) => made_any wk fs st ra rb vf vs falls sm W hwk hfs hst hr0 hr1 (hf.below h (Nat.le_refl _)) (hs.below h (Nat.le_refl _))
  obtain ⟨⟨af, cf, rfl, -, -⟩, -⟩ := hf
  obtain ⟨⟨sx, cx, rfl, -, -⟩, -⟩ := hs
  have HM33 := Lib.hid hm33
  clear hm33
  go_enter Try.func11, Try.ntmps11
  refine wp_seq_k (fun K hK => ?_)
  have HK := Lib.hid hK; clear hK
  go_wp2
  refine HK.out _ _ ?_; clear HK K
  generalize hw1 : World.alloc _ _ = w1
  obtain ⟨b2, B, hs1⟩ := blk1 hw1
  clear hw1
  refine wp_seq_k (fun K hK => ?_)
  have HK := Lib.hid hK; clear hK
  go_wp2_with (first | (refine wpList_load_blk rfl 63 _ rfl _ rfl b2 Try.underlying63 rfl size63 rfl ?_) | (go_at_call 33; refine (HM33.out _ B).mono ?_; rintro e w3 ⟨n, lo, hi, v, ss, p, T, rfl, hv, -, hR, h15, hb⟩; obtain ⟨av, cv, rfl, -, -, -⟩ := id hv))
  refine HK.out _ _ ?_; clear HK K
  clear HM33 b2
  have lw3 := hb.size
  have B3 := btr B hb (Nat.le_refl _)
  clear hb B
  obtain ⟨g7, hg7⟩ : ∃ g, g = w3.heap.size := ⟨_, rfl⟩
  have HG7 := Lib.hid hg7
  have HV := Lib.hid hv
  have hlw : w.heap.size < g7 := by omega
  have hB3 : Below g7 w3 w3 := Below.refl _ _
  have b7 : (w3.alloc (.cells #[.int .i64 n, .int .i64 lo, .int .i64 hi, .slice av ss.length cv] 26)).heap[g7]? = some (.cells #[.int .i64 n, .int .i64 lo, .int .i64 hi, .slice av ss.length cv] 26 (0, 0)) := by rw [hg7]; exact heap_newI rfl
  replace hB3 := hB3.alloc (Nat.le_of_eq hg7) (.cells #[.int .i64 n, .int .i64 lo, .int .i64 hi, .slice av ss.length cv] 26)
  have hn1 : 1 ≤ n ∧ n ≤ 12 := ⟨hR.n1, hR.n12⟩
  have hn0 : 0 < n := by omega
  have hn00 : (0 : Int) < (n : Int) := by omega
  rw [← hg7]
  clear hg7 hs1 lw3 hv
  generalize hwn : World.alloc _ _ = wn at *
  clear hwn
  have HR := Lib.hid hR
  have hlo0 := hR.lo0
  have hlh : lo ≤ hi := by have := hR.inn 0 hn0; omega
  have hhi := hR.hi0
  clear hR
  obtain ⟨t, ht⟩ : ∃ t : Int, t = 1 + times % 2 := ⟨_, rfl⟩
  have ht12 : t = 1 ∨ t = 2 := by omega
  have HT12 := Lib.hid ht12
  have k1 := c33 (q := times) (by omega)
  have k2 := d33 htm.1 2
  have k3 := c33 (q := 1 + times % 2) (by omega)
  refine wp_seq_k (fun K hK => ?_)
  have HK := Lib.hid hK; clear hK
  go_wp2
  refine HK.out _ _ ?_; clear HK K
  try rw [k1]
  try rw [k2]
  try rw [k3]
  rw [← ht]
  clear k1 k2 k3 ht
  have htb : 1 ≤ t ∧ t ≤ 2 := by omega
  clear ht12
  have hth0 : 0 ≤ t * hi ∧ t * hi ≤ 60000 := by rcases HT12.out with rfl | rfl <;> omega
  have htl : 0 ≤ t * lo ∧ t * lo ≤ 60000 := by rcases HT12.out with rfl | rfl <;> omega
  have c1 := cell_blk (i := 1) b7
  have c2 := cell_blk (i := 2) b7
  simp only [List.getElem?_toArray, List.getElem?_cons_zero, List.getElem?_cons_succ] at c1 c2
  have k1 := c33 (q := t * hi) (by omega)
  have k2 := c33 (q := more) (by omega)
  have k3 := c33 (q := t * hi + more) (by omega)
  have k4 := c33 (q := t * lo) (by omega)
  have k5 := c33 (q := t * lo + more) (by omega)
  by_cases hbig : 30000 < t * hi + more
  · have t1 : decide (30000 < t * hi + more) = true := decide_eq_true hbig
    have B4 := B3.trans (hB3.mono (by omega))
    clear hbig
    go_wp2_with (go_at_call 13; refine (works_any _).mono ?_; rintro e w9 ⟨rfl, hb9⟩)
    go_ret
    exact ⟨rfl, btr B4 hb9 (Nat.le_refl _)⟩
  · have t1 : decide (30000 < t * hi + more) = false := decide_eq_false hbig
    refine wp_seq_k (fun K hK => ?_)
    have HK := Lib.hid hK; clear hK
    go_wp2
    refine HK.out _ _ ?_; clear HK K
    clear c1 c2 t1
    refine wp_seq_k (fun K hK => ?_)
    have HK := Lib.hid hK; clear hK
    refine (fun (FIN : KeyP (?P9 : Prop)) => ?main9) ⟨?key9⟩
    case main9 =>
      replace b7 : wn.drew.heap[g7]? = _ := b7
      replace hB3 : Below g7 w3 wn.drew := hB3.drew
      refine wp_region_held (S := fun U : World => U.heap[g7]? = some (.cells #[.int .i64 n, .int .i64 lo, .int .i64 hi, .slice av ss.length cv] 26 (0, 0))) (by kernel_rfl) ?_
      change wpAnyH _ _ _ _ _ _ _ _ (World.drew wn)
      generalize World.drew wn = wq at *
      have hS0 := b7
      have lq := lt_blk b7
      refine wpAnyH_take (i := 0) (oi := { dst := some 57, op := _, type := _, pos := _, after := _, guard := _ }) (v := ?_) rfl (by kernel_rfl) (by kernel_rfl) (by kernel_rfl) (fun _ _ _ h => h) (Or.inl ⟨by rfl, ?_⟩) hS0 ?_
      rotate_left
      · refine yields_load_blk 26 (.tmp 7) ?_ _ ?_ (fun (U : World) (hU : U.heap[g7]? = some (.cells #[.int .i64 n, .int .i64 lo, .int .i64 hi, .slice av ss.length cv] 26 (0, 0))) => hU) Try.underlying26 rfl size26 rfl
        all_goals rfl
      simp only [Act.put, List.setIfInBounds_toArray, List.set_cons_zero, List.set_cons_succ]
      refine wpAnyH_take (i := 1) (oi := { dst := some 58, op := _, type := _, pos := _, after := _, guard := _ }) (v := ?_) rfl (by kernel_rfl) (by kernel_rfl) (by kernel_rfl) (fun _ _ _ h => h) (Or.inl ⟨by rfl, ?_⟩) hS0 ?_
      rotate_left
      · refine yields_load_blk 26 (.tmp 7) ?_ _ ?_ (fun (U : World) (hU : U.heap[g7]? = some (.cells #[.int .i64 n, .int .i64 lo, .int .i64 hi, .slice av ss.length cv] 26 (0, 0))) => hU) Try.underlying26 rfl size26 rfl
        all_goals rfl
      simp only [Act.put, List.setIfInBounds_toArray, List.set_cons_zero, List.set_cons_succ]
      have hA1 : (wq.alloc (.cells #[.int .i64 0, .int .i64 0, .int .i64 0, .slice none 0 0] 26)).heap[g7]? = some (.cells #[.int .i64 n, .int .i64 lo, .int .i64 hi, .slice av ss.length cv] 26 (0, 0)) := (heap_oldI lq).trans b7
      have lq1 : g7 < (wq.alloc (.cells #[.int .i64 0, .int .i64 0, .int .i64 0, .slice none 0 0] 26)).heap.size := lt_blk hA1
      have hA2 : ((wq.alloc (.cells #[.int .i64 0, .int .i64 0, .int .i64 0, .slice none 0 0] 26)).alloc (.cells #[.int .i64 0, .int .i64 0, .int .i64 0, .slice none 0 0] 26)).heap[g7]? = some (.cells #[.int .i64 n, .int .i64 lo, .int .i64 hi, .slice av ss.length cv] 26 (0, 0)) := (heap_oldI lq1).trans hA1
      refine wpAnyH_ready (rs := [2, 3]) (by kernel_rfl) (by simp) ?_
      refine AllReadyH.cons (o := { dst := some 10, op := _, type := _, pos := _, after := _, guard := _ }) rfl (fun K1 hK1 => ?_) ?_
      · have HK1 := Lib.hid hK1; clear hK1
        rw [if_pos (by rfl)]
        go_simp
        refine HK1.out _ _ hA1 ?_
        clear HK1 K1
        intro hS1x
        try simp only [Act.put, List.setIfInBounds_toArray, List.set_cons_zero, List.set_cons_succ]
        refine wpAnyH_one (i := 3) (o := { dst := some 11, op := _, type := _, pos := _, after := _, guard := _ }) (by kernel_rfl) rfl (by rfl) (fun K1 hK1 => ?_)
        have HK1 := Lib.hid hK1; clear hK1
        go_simp
        refine HK1.out _ _ hA2 ?_
        clear HK1 K1
        try simp only [Act.put, List.setIfInBounds_toArray, List.set_cons_zero, List.set_cons_succ]
        obtain ⟨h0, h1, hBB, hss⟩ := blk2 (rfl : (wq.alloc (.cells #[.int .i64 0, .int .i64 0, .int .i64 0, .slice none 0 0] 26)).alloc (.cells #[.int .i64 0, .int .i64 0, .int .i64 0, .slice none 0 0] 26) = _)
        replace b7 := blk_keep b7 hBB
        replace hB3 := hB3.trans (hBB.mono (by omega))
        clear hA1 hA2 hS0 hBB lq1 hS1x
        generalize World.alloc (World.alloc wq (.cells #[.int .i64 0, .int .i64 0, .int .i64 0, .slice none 0 0] 26)) (.cells #[.int .i64 0, .int .i64 0, .int .i64 0, .slice none 0 0] 26) = W0 at *
        have p7 := (World.putObj_heap_other (w := W0) (o := (.cells #[.int .i64 n, .int .i64 lo, .int .i64 hi, .slice av ss.length cv] 26 (0, 0))) (show g7 ≠ wq.heap.size by omega)).trans b7
        have p11 := (World.putObj_heap_other (w := W0) (o := (.cells #[.int .i64 n, .int .i64 lo, .int .i64 hi, .slice av ss.length cv] 26 (0, 0))) (show (wq.heap.size + 1) ≠ wq.heap.size by omega)).trans h1
        have p10 := World.putObj_heap_same (w := W0) (o := (.cells #[.int .i64 n, .int .i64 lo, .int .i64 hi, .slice av ss.length cv] 26 (0, 0))) (show wq.heap.size < W0.heap.size by omega)
        have pB := below_putObj (o := (.cells #[.int .i64 n, .int .i64 lo, .int .i64 hi, .slice av ss.length cv] 26 (0, 0))) hB3 (show g7 ≤ wq.heap.size by omega)
        refine wpAnyH_one (i := 4) (o := { dst := none, op := _, type := _, pos := _, after := _, guard := _ }) (by kernel_rfl) rfl (by rfl) (fun K1 hK1 => ?_)
        have HK1 := Lib.hid hK1; clear hK1
        refine oper_store_blk 26 (.tmp 10) (.tmp 57) rfl wq.heap.size rfl (cells := #[.int .i64 n, .int .i64 lo, .int .i64 hi, .slice av ss.length cv]) rfl h0 size26 rfl rfl (by simp [Value.oneCell']) ?_
        refine HK1.out _ _ p7 ?_
        clear HK1 K1
        have hsP : W0.heap.size ≤ (W0.putObj wq.heap.size (.cells #[.int .i64 n, .int .i64 lo, .int .i64 hi, .slice av ss.length cv] 26 (0, 0))).heap.size := by simp
        generalize World.putObj _ _ _ = W1 at *
        have q7 := (World.putObj_heap_other (w := W1) (o := (.cells #[.int .i64 n, .int .i64 lo, .int .i64 hi, .slice av ss.length cv] 26 (0, 0))) (show g7 ≠ (wq.heap.size + 1) by omega)).trans p7
        have q10 := (World.putObj_heap_other (w := W1) (o := (.cells #[.int .i64 n, .int .i64 lo, .int .i64 hi, .slice av ss.length cv] 26 (0, 0))) (show wq.heap.size ≠ (wq.heap.size + 1) by omega)).trans p10
        have q11 := World.putObj_heap_same (w := W1) (o := (.cells #[.int .i64 n, .int .i64 lo, .int .i64 hi, .slice av ss.length cv] 26 (0, 0))) (show (wq.heap.size + 1) < W1.heap.size by omega)
        have qB := below_putObj (o := (.cells #[.int .i64 n, .int .i64 lo, .int .i64 hi, .slice av ss.length cv] 26 (0, 0))) pB (show g7 ≤ (wq.heap.size + 1) by omega)
        refine wpAnyH_one (i := 5) (o := { dst := none, op := _, type := _, pos := _, after := _, guard := _ }) (by kernel_rfl) rfl (by rfl) (fun K1 hK1 => ?_)
        have HK1 := Lib.hid hK1; clear hK1
        refine oper_store_blk 26 (.tmp 11) (.tmp 58) rfl (wq.heap.size + 1) rfl (cells := #[.int .i64 n, .int .i64 lo, .int .i64 hi, .slice av ss.length cv]) rfl p11 size26 rfl rfl (by simp [Value.oneCell']) ?_
        refine HK1.out _ _ q7 ?_
        clear HK1 K1
        refine wpAnyH_done (by kernel_rfl) ?_ _
        simp only [Exit.then]
        refine HK.out _ _ ?_
        replace b7 := q7
        have b10 := q10
        have b11 := q11
        replace hB3 := qB
        have hd1 : g7 < wq.heap.size ∧ g7 < (wq.heap.size + 1) ∧ wq.heap.size ≠ (wq.heap.size + 1) := by omega
        clear p7 p10 p11 pB q7 q10 q11 qB h0 h1 hss hsP
        generalize World.putObj _ _ _ = w8 at *
        clear lq W1 W0
        generalize (wq.heap.size + 1) = g11 at *
        generalize wq.heap.size = g10 at *
        have FACT := And.intro b7 (And.intro b10 (And.intro b11 (And.intro hB3 hd1)))
        clear b7 b10 b11 hB3 hd1
        revert FACT
        revert w8
        revert g11
        revert g10
        exact FIN.out
      refine AllReadyH.cons (o := { dst := some 11, op := _, type := _, pos := _, after := _, guard := _ }) rfl (fun K1 hK1 => ?_) ?_
      · have HK1 := Lib.hid hK1; clear hK1
        rw [if_pos (by rfl)]
        go_simp
        refine HK1.out _ _ hA1 ?_
        clear HK1 K1
        intro hS1x
        try simp only [Act.put, List.setIfInBounds_toArray, List.set_cons_zero, List.set_cons_succ]
        refine wpAnyH_one (i := 2) (o := { dst := some 10, op := _, type := _, pos := _, after := _, guard := _ }) (by kernel_rfl) rfl (by rfl) (fun K1 hK1 => ?_)
        have HK1 := Lib.hid hK1; clear hK1
        go_simp
        refine HK1.out _ _ hA2 ?_
        clear HK1 K1
        try simp only [Act.put, List.setIfInBounds_toArray, List.set_cons_zero, List.set_cons_succ]
        obtain ⟨h0, h1, hBB, hss⟩ := blk2 (rfl : (wq.alloc (.cells #[.int .i64 0, .int .i64 0, .int .i64 0, .slice none 0 0] 26)).alloc (.cells #[.int .i64 0, .int .i64 0, .int .i64 0, .slice none 0 0] 26) = _)
        replace b7 := blk_keep b7 hBB
        replace hB3 := hB3.trans (hBB.mono (by omega))
        clear hA1 hA2 hS0 hBB lq1 hS1x
        generalize World.alloc (World.alloc wq (.cells #[.int .i64 0, .int .i64 0, .int .i64 0, .slice none 0 0] 26)) (.cells #[.int .i64 0, .int .i64 0, .int .i64 0, .slice none 0 0] 26) = W0 at *
        have p7 := (World.putObj_heap_other (w := W0) (o := (.cells #[.int .i64 n, .int .i64 lo, .int .i64 hi, .slice av ss.length cv] 26 (0, 0))) (show g7 ≠ (wq.heap.size + 1) by omega)).trans b7
        have p11 := (World.putObj_heap_other (w := W0) (o := (.cells #[.int .i64 n, .int .i64 lo, .int .i64 hi, .slice av ss.length cv] 26 (0, 0))) (show wq.heap.size ≠ (wq.heap.size + 1) by omega)).trans h0
        have p10 := World.putObj_heap_same (w := W0) (o := (.cells #[.int .i64 n, .int .i64 lo, .int .i64 hi, .slice av ss.length cv] 26 (0, 0))) (show (wq.heap.size + 1) < W0.heap.size by omega)
        have pB := below_putObj (o := (.cells #[.int .i64 n, .int .i64 lo, .int .i64 hi, .slice av ss.length cv] 26 (0, 0))) hB3 (show g7 ≤ (wq.heap.size + 1) by omega)
        refine wpAnyH_one (i := 4) (o := { dst := none, op := _, type := _, pos := _, after := _, guard := _ }) (by kernel_rfl) rfl (by rfl) (fun K1 hK1 => ?_)
        have HK1 := Lib.hid hK1; clear hK1
        refine oper_store_blk 26 (.tmp 10) (.tmp 57) rfl (wq.heap.size + 1) rfl (cells := #[.int .i64 n, .int .i64 lo, .int .i64 hi, .slice av ss.length cv]) rfl h1 size26 rfl rfl (by simp [Value.oneCell']) ?_
        refine HK1.out _ _ p7 ?_
        clear HK1 K1
        have hsP : W0.heap.size ≤ (W0.putObj (wq.heap.size + 1) (.cells #[.int .i64 n, .int .i64 lo, .int .i64 hi, .slice av ss.length cv] 26 (0, 0))).heap.size := by simp
        generalize World.putObj _ _ _ = W1 at *
        have q7 := (World.putObj_heap_other (w := W1) (o := (.cells #[.int .i64 n, .int .i64 lo, .int .i64 hi, .slice av ss.length cv] 26 (0, 0))) (show g7 ≠ wq.heap.size by omega)).trans p7
        have q10 := (World.putObj_heap_other (w := W1) (o := (.cells #[.int .i64 n, .int .i64 lo, .int .i64 hi, .slice av ss.length cv] 26 (0, 0))) (show (wq.heap.size + 1) ≠ wq.heap.size by omega)).trans p10
        have q11 := World.putObj_heap_same (w := W1) (o := (.cells #[.int .i64 n, .int .i64 lo, .int .i64 hi, .slice av ss.length cv] 26 (0, 0))) (show wq.heap.size < W1.heap.size by omega)
        have qB := below_putObj (o := (.cells #[.int .i64 n, .int .i64 lo, .int .i64 hi, .slice av ss.length cv] 26 (0, 0))) pB (show g7 ≤ wq.heap.size by omega)
        refine wpAnyH_one (i := 5) (o := { dst := none, op := _, type := _, pos := _, after := _, guard := _ }) (by kernel_rfl) rfl (by rfl) (fun K1 hK1 => ?_)
        have HK1 := Lib.hid hK1; clear hK1
        refine oper_store_blk 26 (.tmp 11) (.tmp 58) rfl wq.heap.size rfl (cells := #[.int .i64 n, .int .i64 lo, .int .i64 hi, .slice av ss.length cv]) rfl p11 size26 rfl rfl (by simp [Value.oneCell']) ?_
        refine HK1.out _ _ q7 ?_
        clear HK1 K1
        refine wpAnyH_done (by kernel_rfl) ?_ _
        simp only [Exit.then]
        refine HK.out _ _ ?_
        replace b7 := q7
        have b10 := q10
        have b11 := q11
        replace hB3 := qB
        have hd1 : g7 < (wq.heap.size + 1) ∧ g7 < wq.heap.size ∧ (wq.heap.size + 1) ≠ wq.heap.size := by omega
        clear p7 p10 p11 pB q7 q10 q11 qB h0 h1 hss hsP
        generalize World.putObj _ _ _ = w8 at *
        clear lq W1 W0
        generalize (wq.heap.size + 1) = g10 at *
        generalize wq.heap.size = g11 at *
        have FACT := And.intro b7 (And.intro b10 (And.intro b11 (And.intro hB3 hd1)))
        clear b7 b10 b11 hB3 hd1
        revert FACT
        revert w8
        revert g11
        revert g10
        exact FIN.out
      exact AllReadyH.nil
    case key9 =>
      intro g10 g11 w8 FACT
      obtain ⟨b7, b10, b11, hB3, hd1⟩ := FACT
      have c10 := cell_blk (i := 3) b10
      have c11 := cell_blk (i := 3) b11
      have f10 := free_blk (i := 3) b10
      simp only [List.getElem?_toArray, List.getElem?_cons_zero, List.getElem?_cons_succ] at c10 c11
      have m11 : (w8.setCell ⟨g10, 3, none⟩ (.slice none 0 0)).heap[g11]? = _ := (heap_set_other (by omega)).trans b11
      have m10 : (w8.setCell ⟨g10, 3, none⟩ (.slice none 0 0)).heap[g10]? = some (.cells #[.int .i64 n, .int .i64 lo, .int .i64 hi, .slice none 0 0] 26 (0, 0)) := (heap_set_blk b10).trans rfl
      have m7 : (w8.setCell ⟨g10, 3, none⟩ (.slice none 0 0)).heap[g7]? = _ := (heap_set_other (by omega)).trans b7
      have f11 := free_blk (i := 3) m11
      have e11 := cell_blk (i := 3) m11
      simp only [List.getElem?_toArray, List.getElem?_cons_zero, List.getElem?_cons_succ] at e11
      refine wp_seq_k (fun K hK => ?_)
      have HK := Lib.hid hK; clear hK
      go_wp2
      refine HK.out _ _ ?_; clear HK K
      replace b10 := (heap_set_other (b' := g11) (i := 3) (v := .slice none 0 0) (show g10 ≠ g11 by omega)).trans m10
      replace b7 := (heap_set_other (b' := g11) (i := 3) (v := .slice none 0 0) (show g7 ≠ g11 by omega)).trans m7
      replace b11 : ((w8.setCell ⟨g10, 3, none⟩ (.slice none 0 0)).setCell ⟨g11, 3, none⟩ (.slice none 0 0)).heap[g11]? = some (.cells #[.int .i64 n, .int .i64 lo, .int .i64 hi, .slice none 0 0] 26 (0, 0)) := (heap_set_blk m11).trans rfl
      replace hB3 := (hB3.setCell (p := ⟨g10, 3, none⟩) (show g7 ≤ g10 by omega) (.slice none 0 0)).setCell (p := ⟨g11, 3, none⟩) (show g7 ≤ g11 by omega) (.slice none 0 0)
      clear c10 c11 f10 f11 e11 m10 m11 m7
      generalize World.setCell (World.setCell _ _ _) _ _ = w9 at *
      have c1 := cell_blk (i := 1) b7
      have c2 := cell_blk (i := 2) b7
      simp only [List.getElem?_toArray, List.getElem?_cons_zero, List.getElem?_cons_succ] at c1 c2
      refine wp_seq_k (fun K hK => ?_)
      have HK := Lib.hid hK; clear hK
      go_wp2_with (first | (go_at_call 37; refine (span_any _ _ _).mono ?_; rintro e wv ⟨rfl, hbv⟩; have b11v := blk_keep b11 hbv; have hth : wv.there g11 1 2 := (fun i hi => by rcases (show i = 0 ∨ i = 1 by omega) with rfl | rfl; exact ⟨by rw [cell_blk b11v]; rfl, free_blk b11v⟩; exact ⟨by rw [cell_blk b11v]; rfl, free_blk b11v⟩)) | (refine wpList_store_mid rfl 23 _ _ rfl _ _ _ rfl rfl hth size23 (by simp [Value.oneCell']) ?_))
      refine HK.out _ _ ?_; clear HK K
      replace b10 := blk_keep b10 hbv
      replace b7 := blk_keep b7 hbv
      have lg7 := lt_blk b7
      have lg10 := lt_blk b10
      have lg11 := lt_blk b11v
      have szv := hbv.size
      replace hB3 : Below g7 w3 (wv.setCells g11 1 [.int .i64 (t * lo + more), .int .i64 (t * hi + more)]) := ((hB3.trans (hbv.mono (by have := lt_blk b11; omega))).setCell (p := ⟨g11, 1, none⟩) (show g7 ≤ g11 by omega) _).setCell (p := ⟨g11, 2, none⟩) (show g7 ≤ g11 by omega) _
      replace b10 : (wv.setCells g11 1 [.int .i64 (t * lo + more), .int .i64 (t * hi + more)]).heap[g10]? = _ := (heap_set_other (show g10 ≠ g11 by omega)).trans ((heap_set_other (show g10 ≠ g11 by omega)).trans b10)
      replace b7 : (wv.setCells g11 1 [.int .i64 (t * lo + more), .int .i64 (t * hi + more)]).heap[g7]? = _ := (heap_set_other (show g7 ≠ g11 by omega)).trans ((heap_set_other (show g7 ≠ g11 by omega)).trans b7)
      have m11 : (wv.setCell ⟨g11, 1, none⟩ (.int .i64 (t * lo + more))).heap[g11]? = some (.cells #[.int .i64 n, .int .i64 (t * lo + more), .int .i64 hi, .slice none 0 0] 26 (0, 0)) := (heap_set_blk b11v).trans rfl
      replace b11 : (wv.setCells g11 1 [.int .i64 (t * lo + more), .int .i64 (t * hi + more)]).heap[g11]? = some (.cells #[.int .i64 n, .int .i64 (t * lo + more), .int .i64 (t * hi + more), .slice none 0 0] 26 (0, 0)) := (heap_set_blk m11).trans rfl
      clear m11 b11v hth c1 c2 hbv szv
      generalize World.setCells _ _ _ _ = wb at *
      have lg7 := lt_blk b7
      have lg10 := lt_blk b10
      have lg11 := lt_blk b11
      obtain ⟨Bs, hBs⟩ : ∃ b, b = wb.heap.size := ⟨_, rfl⟩
      rw [← hBs] at lg7 lg10 lg11
      have hBs' : Bs ≤ wb.heap.size := Nat.le_of_eq hBs
      clear hBs
      obtain ⟨lF, hlF⟩ : ∃ l, l = t * lo + more := ⟨_, rfl⟩
      obtain ⟨hF, hhF⟩ : ∃ l, l = t * hi + more := ⟨_, rfl⟩
      rw [← hlF, ← hhF] at b11
      try rw [← hlF]
      try rw [← hhF]
      have HLF := Lib.hid (And.intro hlF hhF)
      have HTB := Lib.hid (And.intro hth0 (And.intro htl (And.intro hbig hhi)))
      clear k1 k3 k4 k5 hlF hhF hbig
      have hl15 : ss.length ≤ 15 := h15
      obtain ⟨i82, hi82, hz1, hz2, hz3⟩ := info_parts info82
      have HI2 := Lib.hid (And.intro hi82 (And.intro hz1 (And.intro hz2 hz3)))
      clear hi82 hz1 hz2 hz3
      have c3 := cell_blk (i := 3) b7
      simp only [List.getElem?_toArray, List.getElem?_cons_zero, List.getElem?_cons_succ] at c3
      refine wp_seq_k (fun K hK => ?_)
      have HK := Lib.hid hK; clear hK
      go_wp2
      clear c3
      go_loopw [82] (fun i wr => ∃ (k : Nat) (qf qb : Value), k ≤ ss.length ∧ i = .int .i64 k ∧ wr.heap[g7]? = some (.cells #[.int .i64 n, .int .i64 lo, .int .i64 hi, .slice av ss.length cv] 26 (0, 0)) ∧ wr.heap[g10]? = some (.cells #[.int .i64 n, .int .i64 lo, .int .i64 hi, qb] 26 (0, 0)) ∧ wr.heap[g11]? = some (.cells #[.int .i64 n, .int .i64 lF, .int .i64 hF, qf] 26 (0, 0)) ∧ wr.ownsRow Bs 82 3 qf k (((ss.take k).map (farS t more)).flatMap encS) ∧ wr.ownsRow Bs 82 3 qb k (((ss.take k).map (backS n)).flatMap encS) ∧ Hid (∀ b, qf.ownBlock = some b → qb.ownBlock ≠ some b) ∧ Hid (∀ s ∈ ss.take k, t * s.val + more ≤ 30000) ∧ Below g7 w3 wr ∧ Bs ≤ wr.heap.size) (fun i _ => ss.length - (intOf i).toNat)
      case atStart => exact ⟨0, _, _, Nat.zero_le _, rfl, b7, b10, b11, World.ownsRow_nil _ _ _ _, World.ownsRow_nil _ _ _ _, Lib.hid (fun b h => by simp [Value.ownBlock] at h), Lib.hid (fun s hs => by simp at hs), hB3, hBs'⟩
      case round =>
        clear b7 b10 b11 hB3 hBs'
        obtain ⟨k, qf, qb, hk, rfl, b7, b10, b11, rf, rb, HD, HVB, hB3, hBs⟩ := hrel
        by_cases hks : k < ss.length
        · have hksi : (k : Int) < (ss.length : Int) := by omega
          obtain ⟨ad, cap, e', -, -, hcc⟩ := HV.out
          injection e' with e1 e2 e3
          subst e1 e3
          obtain ⟨bv, ov, rfl, hltv, hcell⟩ := hcc (by omega)
          have hltv7 : bv < g7 := by rw [HG7.out]; exact hltv
          obtain ⟨q0, q1, q2⟩ := s_cells hcell (i := k) (n := k) hks rfl
          replace q0 := (hB3.cell (p := ⟨bv, ov + k * 3, none⟩) hltv7).trans q0
          replace q1 := (hB3.cell (p := ⟨bv, ov + k * 3 + 1, none⟩) hltv7).trans q1
          replace q2 := (hB3.cell (p := ⟨bv, ov + k * 3 + 2, none⟩) hltv7).trans q2
          have hok := HR.out.ok (at_ ss k) (by rw [at_lt hks]; exact List.getElem_mem hks)
          have hvl := HR.out.val.mem (at_ ss k) (by rw [at_lt hks]; exact List.getElem_mem hks)
          have htk : ss.take (k + 1) = ss.take k ++ [at_ ss k] := by rw [List.take_succ_eq_append_getElem hks, at_lt hks]
          obtain ⟨x, hx⟩ : ∃ x, x = at_ ss k := ⟨_, rfl⟩
          rw [← hx] at q0 q1 q2 hok hvl htk
          obtain ⟨x0, x1, x2⟩ := x
          simp only at q0 q1 q2 hok hvl
          have HTK := Lib.hid htk
          clear hx htk hcell hcc e2
          have hp1 : 0 ≤ t * x1 ∧ t * x1 ≤ 60000 := by rcases HT12.out with rfl | rfl <;> omega
          have hp2 : 0 ≤ t * x2 ∧ t * x2 ≤ 600 := by rcases HT12.out with rfl | rfl <;> omega
          have k1 := c33 (q := t * x1) (by omega)
          have k3 := c33 (q := t * x1 + more) (by omega)
          have k4 := c33 (q := t * x2) (by omega)
          have k5 := c33 (q := (n : Int) - 1) (by omega)
          have k6 := c33 (q := (n : Int) - 1 - x0) (by omega)
          by_cases hb2 : 30000 < t * x1 + more
          · have t1 : decide (30000 < t * x1 + more) = true := decide_eq_true hb2
            have B4 := B3.trans (hB3.mono (by omega))
            have lw4 : w.heap.size ≤ wr.heap.size := B4.size
            clear hb2
            go_wp2_with (go_at_call 13; refine (works_any _).mono ?_; rintro e wz ⟨rfl, hbz⟩)
            go_ret
            exact ⟨rfl, btr (B4.alloc B4.size _) hbz (Nat.le_refl _)⟩
          · have t1 : decide (30000 < t * x1 + more) = false := decide_eq_false hb2
            as_aux_lemma =>
              have hb1 : Below wr.heap.size wr (wr.alloc (.cells #[.int .i64 x0, .int .i64 x1, .int .i64 x2] 82)) := (Below.refl _ _).alloc (Nat.le_refl _) _
              have bx : (wr.alloc (.cells #[.int .i64 x0, .int .i64 x1, .int .i64 x2] 82)).heap[wr.heap.size]? = some (.cells #[.int .i64 x0, .int .i64 x1, .int .i64 x2] 82 (0, 0)) := heap_newI rfl
              have w7 := blk_keep b7 hb1
              have w10 := blk_keep b10 hb1
              have w11 := blk_keep b11 hb1
              have rfx := row_below rf hb1
              have rbx := row_below rb hb1
              have hBx := hB3.trans (hb1.mono (by omega))
              have hltf : ∀ e, qf.ownBlock = some e → e < wr.heap.size := fun e he => (rf.lt _ he).2
              have hltb : ∀ e, qb.ownBlock = some e → e < wr.heap.size := fun e he => (rb.lt _ he).2
              have hsx : (wr.alloc (.cells #[.int .i64 x0, .int .i64 x1, .int .i64 x2] 82)).heap.size = wr.heap.size + 1 := World.size_alloc ..
              have HSX := Lib.hid hsx
              clear hsx
              obtain ⟨aqf, cqf, rfl⟩ := form_of rf
              obtain ⟨aqb, cqb, rfl⟩ := form_of rb
              have e11 := cell_blk (i := 3) w11
              have e70 := cell_blk (i := 0) w7
              simp only [List.getElem?_toArray, List.getElem?_cons_zero, List.getElem?_cons_succ] at e11 e70
              have hN15 : k < 15 := by omega
              go_wp2_with (at_builtin; refine cutme ?_)
              refine ⟨?_⟩
              generalize hX : wr.alloc (.cells #[.int .i64 x0, .int .i64 x1, .int .i64 x2] 82) = X at *
              refine wpList_append_own_at _ rfl _ _ 24 rfl Bs 82 i82 (.agg #[.int .i64 0, .int .i64 0, .int .i64 0]) 3 24 Try.underlying24 HI2.out.1 HI2.out.2.1 HI2.out.2.2.1 HI2.out.2.2.2 rfl (by decide) _ _ _ rfl (rfx.alloc _) ⟨wr.heap.size + 1, 0, none⟩ 1 1 (encS ⟨x0, t * x1 + more, t * x2⟩) rfl rfl (cell_newL (xs := encS ⟨x0, t * x1 + more, t * x2⟩) HSX.out.symm) (by intro u hu; simp [encS] at hu; rcases hu with rfl | rfl | rfl <;> rfl) (Nat.le_trans (by omega : k + 1 ≤ 200) (by decide)) (by omega) (by rw [World.size_alloc, HSX.out]; omega) ?_
              intro v6 w6 r1 r2 _ r3
              obtain ⟨a6, c6, rfl⟩ := form_of r1
              obtain ⟨hk6, hs6, ee1, ee2, ee3⟩ := append_same1 rfx r2
              have nf : ∀ e, (Value.slice aqf k cqf).ownBlock = some e → e < X.heap.size := fun e he => by have := hltf e he; rw [HSX.out]; omega
              have u7 := (hk6 g7 (lt_blk w7) (own_ne rfx w7 (by decide))).trans w7
              have u10 := (hk6 g10 (lt_blk w10) (own_ne rfx w10 (by decide))).trans w10
              have u11 := (hk6 g11 (lt_blk w11) (own_ne rfx w11 (by decide))).trans w11
              have ux := (hk6 wr.heap.size (lt_blk bx) (fun e => by have := hltf _ e; omega)).trans bx
              have rb6 := row_same rbx (W' := w6) (fun g hg => hk6 g (rbx.lt _ hg).2 (fun e => HD.out g e hg))
              have hB6 : Below g7 w3 w6 := ⟨ee1.trans hBx.os, ee2.trans hBx.tape, ee3.trans hBx.output, by have := hBx.size; omega, fun b hb => (hk6 b (by have := lt_blk w7; omega) (fun e => by have := (rf.lt _ e).1; omega)).trans (hBx.block b hb)⟩
              have hs66 : wr.heap.size + 1 ≤ w6.heap.size := by have := HSX.out; omega
              have r3' : (Value.slice a6 (k + 1) c6).ownBlock = (Value.slice aqf k cqf).ownBlock ∨ ∃ g, (Value.slice a6 (k + 1) c6).ownBlock = some g ∧ wr.heap.size < g := by
                rcases r3 with h | h
                · exact .inl h
                · exact .inr ⟨_, h, by rw [World.size_alloc, HSX.out]; omega⟩
              have HD6 : Hid (∀ b, (Value.slice a6 (k + 1) c6).ownBlock = some b → (Value.slice aqb k cqb).ownBlock ≠ some b) := Lib.hid (fun b hb he => by
                rcases r3' with h | ⟨g, h, hg⟩
                · rw [h] at hb; exact HD.out b hb he
                · rw [h] at hb
                  injection hb with hb
                  have := hltb b he
                  omega)
              have c13 := cell_blk (i := 3) u11
              have f13 := free_blk (i := 3) u11
              have n11 : (w6.setCell ⟨g11, 3, none⟩ (.slice a6 (k + 1) c6)).heap[g11]? = some (.cells #[.int .i64 n, .int .i64 lF, .int .i64 hF, .slice a6 (k + 1) c6] 26 (0, 0)) := (heap_set_blk u11).trans rfl
              have n10 := (heap_set_other (W := w6) (v := (.slice a6 (k + 1) c6)) (b' := g11) (i := 3) (show g10 ≠ g11 by omega)).trans u10
              have n7 := (heap_set_other (W := w6) (v := (.slice a6 (k + 1) c6)) (b' := g11) (i := 3) (show g7 ≠ g11 by omega)).trans u7
              have nx := (heap_set_other (W := w6) (v := (.slice a6 (k + 1) c6)) (b' := g11) (i := 3) (show wr.heap.size ≠ g11 by omega)).trans ux
              have rf7 := row_set_other (b := g11) (i := 3) (x := (.slice a6 (k + 1) c6)) r1 (own_ne r1 u11 (by decide))
              have rb7 := row_set_other (b := g11) (i := 3) (x := (.slice a6 (k + 1) c6)) rb6 (own_ne rb6 u11 (by decide))
              have hB7 := hB6.setCell (p := ⟨g11, 3, none⟩) (show g7 ≤ g11 by omega) (.slice a6 (k + 1) c6)
              have hs7 : wr.heap.size + 1 ≤ (w6.setCell ⟨g11, 3, none⟩ (.slice a6 (k + 1) c6)).heap.size := by rw [World.size_setCell]; exact hs66
              have y0 := cell_blk (i := 0) nx
              have y1 := cell_blk (i := 1) nx
              have y2 := cell_blk (i := 2) nx
              have y3 := cell_blk (i := 3) n10
              have y4 := cell_blk (i := 0) n7
              simp only [List.getElem?_toArray, List.getElem?_cons_zero, List.getElem?_cons_succ] at c13 y0 y1 y2 y3 y4
              clear e11 e70 hk6 u7 u10 ux rb6 rbx rfx w7 w10 w11 bx hBx hB6 r2 hs66 hs6
              go_wp2_with (at_builtin; refine cutme ?_)
              refine ⟨?_⟩
              clear c13 f13 u11 y0 y1 y2 y3 y4 r1
              have HSY : Hid ((w6.setCell ⟨g11, 3, none⟩ (.slice a6 (k + 1) c6)).heap.size = w6.heap.size) := Lib.hid (World.size_setCell ..)
              generalize hY : w6.setCell ⟨g11, 3, none⟩ (.slice a6 (k + 1) c6) = Y at *
              refine wpList_append_own_at _ rfl _ _ 24 rfl Bs 82 i82 (.agg #[.int .i64 0, .int .i64 0, .int .i64 0]) 3 24 Try.underlying24 HI2.out.1 HI2.out.2.1 HI2.out.2.2.1 HI2.out.2.2.2 rfl (by decide) _ _ _ rfl (rb7.alloc _) ⟨w6.heap.size, 0, none⟩ 1 1 (encS ⟨(n : Int) - 1 - x0, x1, x2⟩) rfl rfl (cell_newL (xs := encS ⟨(n : Int) - 1 - x0, x1, x2⟩) HSY.out.symm) (by intro u hu; simp [encS] at hu; rcases hu with rfl | rfl | rfl <;> rfl) (Nat.le_trans (by omega : k + 1 ≤ 200) (by decide)) (by omega) (by rw [World.size_alloc]; omega) ?_
              intro v8 wz s1 s2 _ s3
              obtain ⟨a8, c8, rfl⟩ := form_of s1
              obtain ⟨hk8, hs8, ff1, ff2, ff3⟩ := append_same1 rb7 s2
              have u7 := (hk8 g7 (lt_blk n7) (own_ne rb7 n7 (by decide))).trans n7
              have u10 := (hk8 g10 (lt_blk n10) (own_ne rb7 n10 (by decide))).trans n10
              have u11 := (hk8 g11 (lt_blk n11) (own_ne rb7 n11 (by decide))).trans n11
              have rf8 := row_same rf7 (W' := wz) (fun g hg => hk8 g (rf7.lt _ hg).2 (fun e => HD6.out g hg e))
              have hB8 : Below g7 w3 wz := ⟨ff1.trans hB7.os, ff2.trans hB7.tape, ff3.trans hB7.output, by have := hB7.size; omega, fun b hb => (hk8 b (by have := lt_blk n7; omega) (fun e => by have := (rb7.lt _ e).1; omega)).trans (hB7.block b hb)⟩
              have HD8 : Hid (∀ b, (Value.slice a6 (k + 1) c6).ownBlock = some b → (Value.slice a8 (k + 1) c8).ownBlock ≠ some b) := Lib.hid (fun b hb he => by
                rcases s3 with h | h
                · rw [h] at he; exact HD6.out b hb he
                · rw [h] at he
                  injection he with he
                  have := (rf7.lt b hb).2
                  rw [World.size_alloc] at he
                  omega)
              have c13 := cell_blk (i := 3) u10
              have f13 := free_blk (i := 3) u10
              simp only [List.getElem?_toArray, List.getElem?_cons_zero, List.getElem?_cons_succ] at c13
              go_wp2
              have z10 : (wz.setCell ⟨g10, 3, none⟩ (.slice a8 (k + 1) c8)).heap[g10]? = some (.cells #[.int .i64 n, .int .i64 lo, .int .i64 hi, .slice a8 (k + 1) c8] 26 (0, 0)) := (heap_set_blk u10).trans rfl
              have z11 := (heap_set_other (W := wz) (v := (.slice a8 (k + 1) c8)) (b' := g10) (i := 3) (show g11 ≠ g10 by omega)).trans u11
              have z7 := (heap_set_other (W := wz) (v := (.slice a8 (k + 1) c8)) (b' := g10) (i := 3) (show g7 ≠ g10 by omega)).trans u7
              have zf := row_set_other (b := g10) (i := 3) (x := (.slice a8 (k + 1) c8)) rf8 (own_ne rf8 u10 (by decide))
              have zb := row_set_other (b := g10) (i := 3) (x := (.slice a8 (k + 1) c8)) s1 (own_ne s1 u10 (by decide))
              have zB := hB8.setCell (p := ⟨g10, 3, none⟩) (show g7 ≤ g10 by omega) (.slice a8 (k + 1) c8)
              have zs : Bs ≤ (wz.setCell ⟨g10, 3, none⟩ (.slice a8 (k + 1) c8)).heap.size := by rw [World.size_setCell]; omega
              have ef : ((ss.take (k + 1)).map (farS t more)).flatMap encS = ((ss.take k).map (farS t more)).flatMap encS ++ encS ⟨x0, t * x1 + more, t * x2⟩ := by
                rw [HTK.out, List.map_append, List.flatMap_append]; simp [farS]
              have eb : ((ss.take (k + 1)).map (backS n)).flatMap encS = ((ss.take k).map (backS n)).flatMap encS ++ encS ⟨(n : Int) - 1 - x0, x1, x2⟩ := by
                rw [HTK.out, List.map_append, List.flatMap_append]; simp [backS]
              rw [← ef] at zf
              rw [← eb] at zb
              have HVB2 : Hid (∀ s ∈ ss.take (k + 1), t * s.val + more ≤ 30000) := Lib.hid (fun s hs => by
                rw [HTK.out] at hs
                rcases List.mem_append.1 hs with h | h
                · exact HVB.out s h
                · have : s = ⟨x0, x1, x2⟩ := by simpa using h
                  subst this; omega)
              clear ef eb c13 f13 u7 u10 u11 rf8 s1 s2 s3 hk8 hB8 rf7 rb7 n7 n10 n11 nx hB7 r3 r3' HD HVB
              generalize World.setCell _ _ _ = wy at *
              go_roundw
              case rel => exact ⟨k + 1, _, _, by omega, by go_num, z7, z10, z11, zf, zb, HD8, HVB2, zB, zs⟩
              case measure => simp [intOf]; omega
        · have hkk : k = ss.length := by omega
          have hksi : ¬ (k : Int) < (ss.length : Int) := by omega
          rw [hkk, List.take_length] at rf rb HVB
          obtain ⟨aqf, cqf, rfl⟩ := form_of rf
          obtain ⟨aqb, cqb, rfl⟩ := form_of rb
          clear hkk HD
          go_wp2
          refine HK.out _ _ ?_; clear HK
          as_aux_lemma =>
            obtain ⟨w6, hw6⟩ : ∃ w6, w6 = wr := ⟨_, rfl⟩
            subst hw6
            have hA := turned_all HR.out HT12.out hmo.1 (by have := HTB.out.2.2.1; omega) HVB.out
            have hVF : Val n (t * lo + more) (t * hi + more) (ss.map (farS t more)) := val_of hA.posF
            have hNF : noB (lowAt (t * lo + more) (ss.map (farS t more))) (highAt (t * hi + more) (ss.map (farS t more))) n = true := no_of hA.posF
            have hb1 := cut_bd hA.pos HR.out.val (truth_noB HR.out.truth)
            have hb2 := fun (w : Nat) (hw : w < n) => known_bd HR.out.val (truth_noB HR.out.truth) hw
            have HF := Lib.hid (HV.out.below hB3 (Nat.le_of_eq HG7.out.symm))
            have HBK := Lib.hid (show SlS w6 (.slice aqb ss.length cqb) (ss.map (backS n)) from slG_own encS_len rb (by simp) (by simp; omega))
            have HFR := Lib.hid (show SlS w6 (.slice aqf ss.length cqf) (ss.map (farS t more)) from slG_own encS_len rf (by simp) (by simp; omega))
            have e1 : t * lo + more = lF := HLF.out.1.symm
            have e2 : t * hi + more = hF := HLF.out.2.symm
            obtain ⟨F, hF1⟩ : ∃ F, F = spanAt (lowAt lo ss) (highAt hi ss) n := ⟨_, rfl⟩
            obtain ⟨FB, hF2⟩ : ∃ F, F = spanAt (lowAt lo (ss.map (backS n))) (highAt hi (ss.map (backS n))) n := ⟨_, rfl⟩
            obtain ⟨FF, hF3⟩ : ∃ F, F = spanAt (lowAt (t * lo + more) (ss.map (farS t more))) (highAt (t * hi + more) (ss.map (farS t more))) n := ⟨_, rfl⟩
            have HE := Lib.hid hA.pos
            have HEB := Lib.hid hA.posB
            have HEF : Hid (posE n lF hF (ss.map (farS t more)) = 0) := Lib.hid (by rw [← e1, ← e2]; exact hA.posF)
            have AKN : Hid (knownL n lo hi ss = (List.range n).map F) := Lib.hid (by rw [hF1]; unfold knownL; rw [if_pos hA.pos]; rfl)
            have AKB : Hid (knownL n lo hi (ss.map (backS n)) = (List.range n).map FB) := Lib.hid (by rw [hF2]; unfold knownL; rw [if_pos hA.posB]; rfl)
            have AKF : Hid (knownL n lF hF (ss.map (farS t more)) = (List.range n).map FF) := Lib.hid (by rw [hF3, ← e1, ← e2]; unfold knownL; rw [if_pos hA.posF]; rfl)
            have A1 : Hid (∀ i, i < n → F i = FB (n - 1 - i)) := Lib.hid (by rw [hF1, hF2]; exact hA.kl)
            have A2 : Hid (∀ i, i < n → t * (F i).1 + more ≤ (FF i).1) := Lib.hid (by rw [hF1, hF3]; exact hA.ml)
            have A3 : Hid (∀ i, i < n → (FF i).2 ≤ t * (F i).2 + more) := Lib.hid (by rw [hF1, hF3]; exact hA.mh)
            have A4 : Hid (t = 1 → ∀ i, i < n → FF i = ((F i).1 + more, (F i).2 + more)) := Lib.hid (by rw [hF1, hF3]; exact hA.m1)
            have A5 : Hid (∀ i, i < n → (0 ≤ (F i).1 ∧ (F i).1 ≤ 30000) ∧ 0 ≤ (F i).2 ∧ (F i).2 ≤ 30000) := Lib.hid (by rw [hF1]; exact hb2)
            obtain ⟨pa, pl, hpl, hP1, hP2, hP3⟩ := hA.peaks
            rw [e1, e2] at hP3
            have HP1 := Lib.hid hP1
            have HP2 := Lib.hid hP2
            have HP3 := Lib.hid hP3
            obtain ⟨CV, hCV⟩ : ∃ c, c = cutV n lo hi ss := ⟨_, rfl⟩
            obtain ⟨CW, hCW⟩ : ∃ c, c = cutW n lo hi ss := ⟨_, rfl⟩
            obtain ⟨CF, hCF⟩ : ∃ c, c = cutV n (t * lo + more) (t * hi + more) (ss.map (farS t more)) := ⟨_, rfl⟩
            have hcB := hA.cutB
            have hcF := hA.cutF
            have hcL := hA.cutL
            have hcG := hA.cutG
            rw [← hCV] at hcB hcL hcG hb1
            rw [← hCF] at hcL hcG
            rw [← hCW] at hcF
            rw [e1, e2] at hcF hCF
            have HCV := Lib.hid hCV.symm
            have HCW := Lib.hid hCW.symm
            have HCF := Lib.hid hCF.symm
            have HCB := Lib.hid hcB
            have HCX := Lib.hid hcF
            obtain ⟨wB, hwB⟩ : ∃ c, c = cutW n lo hi (ss.map (backS n)) := ⟨_, rfl⟩
            have HWB := Lib.hid hwB.symm
            have HCC := Lib.hid (And.intro hb1 (And.intro hcL hcG))
            have B := B3.trans (hB3.mono (by omega))
            generalize ss.map (backS n) = SB at *
            generalize ss.map (farS t more) = SF at *
            clear hA hF1 hF2 hF3 hP1 hP2 hP3 hCV hCW hCF hcB hcF hcL hcG hb1 hb2 hVF hNF e1 e2 hwB rf rb hB3 B3 HVB HLF HV hBs
            have hc := known_any n lo hi _ ss _ HF.out
            rw [HE.out, AKN.out] at hc
            refine wp_seq_k (fun K hK => ?_)
            have HK := Lib.hid hK; clear hK
            go_wp2_with (first | (refine wpList_load_blk rfl 26 _ rfl _ rfl b7 Try.underlying26 rfl size26 rfl ?_) | (go_at_call 14; refine hc.mono ?_; rintro e wc ⟨v1, rfl, k1, hb⟩; obtain ⟨a1, c1, rfl, -, -, -⟩ := id k1; simp only [List.length_map, List.length_range] at k1))
            refine HK.out _ _ ?_; clear HK K
            replace b7 := blk_keep b7 hb
            replace b10 := blk_keep b10 hb
            replace b11 := blk_keep b11 hb
            replace HF := Lib.hid (HF.out.below hb (Nat.le_refl _))
            replace HBK := Lib.hid (HBK.out.below hb (Nat.le_refl _))
            replace HFR := Lib.hid (HFR.out.below hb (Nat.le_refl _))
            replace B := btr B hb (Nat.le_refl _)
            clear hb
            clear hc
            have HK1 := Lib.hid k1
            clear k1
            have hc := known_any n lo hi _ SB _ HBK.out
            rw [HEB.out, AKB.out] at hc
            refine wp_seq_k (fun K hK => ?_)
            have HK := Lib.hid hK; clear hK
            go_wp2_with (first | (refine wpList_load_blk rfl 26 _ rfl _ rfl b10 Try.underlying26 rfl size26 rfl ?_) | (go_at_call 14; refine hc.mono ?_; rintro e wc ⟨v2, rfl, k2, hb⟩; obtain ⟨a2, c2, rfl, -, -, -⟩ := id k2; simp only [List.length_map, List.length_range] at k2))
            refine HK.out _ _ ?_; clear HK K
            replace b7 := blk_keep b7 hb
            replace b10 := blk_keep b10 hb
            replace b11 := blk_keep b11 hb
            replace HF := Lib.hid (HF.out.below hb (Nat.le_refl _))
            replace HBK := Lib.hid (HBK.out.below hb (Nat.le_refl _))
            replace HFR := Lib.hid (HFR.out.below hb (Nat.le_refl _))
            replace HK1 := Lib.hid (HK1.out.below hb (Nat.le_refl _))
            replace B := btr B hb (Nat.le_refl _)
            clear hb
            clear hc
            have HK2 := Lib.hid k2
            clear k2
            have hc := known_any n lF hF _ SF _ HFR.out
            rw [HEF.out, AKF.out] at hc
            refine wp_seq_k (fun K hK => ?_)
            have HK := Lib.hid hK; clear hK
            go_wp2_with (first | (refine wpList_load_blk rfl 26 _ rfl _ rfl b11 Try.underlying26 rfl size26 rfl ?_) | (go_at_call 14; refine hc.mono ?_; rintro e wc ⟨v3, rfl, k3, hb⟩; obtain ⟨a3, c3, rfl, -, -, -⟩ := id k3; simp only [List.length_map, List.length_range] at k3))
            refine HK.out _ _ ?_; clear HK K
            replace b7 := blk_keep b7 hb
            replace b10 := blk_keep b10 hb
            replace b11 := blk_keep b11 hb
            replace HF := Lib.hid (HF.out.below hb (Nat.le_refl _))
            replace HBK := Lib.hid (HBK.out.below hb (Nat.le_refl _))
            replace HFR := Lib.hid (HFR.out.below hb (Nat.le_refl _))
            replace HK1 := Lib.hid (HK1.out.below hb (Nat.le_refl _))
            replace HK2 := Lib.hid (HK2.out.below hb (Nat.le_refl _))
            replace B := btr B hb (Nat.le_refl _)
            clear hb
            clear hc
            have HK3 := Lib.hid k3
            clear k3
            have hc := peaks_any n lo hi _ ss _ HF.out
            rw [HE.out, HP1.out] at hc
            refine wp_seq_k (fun K hK => ?_)
            have HK := Lib.hid hK; clear hK
            go_wp2_with (first | (refine wpList_load_blk rfl 26 _ rfl _ rfl b7 Try.underlying26 rfl size26 rfl ?_) | (go_at_call 24; refine hc.mono ?_; rintro e wc ⟨v4, rfl, k4, hb⟩; obtain ⟨a4, c4, rfl, -, -, -⟩ := id k4; simp only [List.length_map, List.length_range] at k4))
            refine HK.out _ _ ?_; clear HK K
            replace b7 := blk_keep b7 hb
            replace b10 := blk_keep b10 hb
            replace b11 := blk_keep b11 hb
            replace HF := Lib.hid (HF.out.below hb (Nat.le_refl _))
            replace HBK := Lib.hid (HBK.out.below hb (Nat.le_refl _))
            replace HFR := Lib.hid (HFR.out.below hb (Nat.le_refl _))
            replace HK1 := Lib.hid (HK1.out.below hb (Nat.le_refl _))
            replace HK2 := Lib.hid (HK2.out.below hb (Nat.le_refl _))
            replace HK3 := Lib.hid (HK3.out.below hb (Nat.le_refl _))
            replace B := btr B hb (Nat.le_refl _)
            clear hb
            clear hc
            have HK4 := Lib.hid k4
            clear k4
            have hc := peaks_any n lo hi _ SB _ HBK.out
            rw [HEB.out, HP2.out] at hc
            refine wp_seq_k (fun K hK => ?_)
            have HK := Lib.hid hK; clear hK
            go_wp2_with (first | (refine wpList_load_blk rfl 26 _ rfl _ rfl b10 Try.underlying26 rfl size26 rfl ?_) | (go_at_call 24; refine hc.mono ?_; rintro e wc ⟨v5, rfl, k5, hb⟩; obtain ⟨a5, c5, rfl, -, -, -⟩ := id k5; simp only [List.length_map, List.length_range] at k5))
            refine HK.out _ _ ?_; clear HK K
            replace b7 := blk_keep b7 hb
            replace b10 := blk_keep b10 hb
            replace b11 := blk_keep b11 hb
            replace HF := Lib.hid (HF.out.below hb (Nat.le_refl _))
            replace HBK := Lib.hid (HBK.out.below hb (Nat.le_refl _))
            replace HFR := Lib.hid (HFR.out.below hb (Nat.le_refl _))
            replace HK1 := Lib.hid (HK1.out.below hb (Nat.le_refl _))
            replace HK2 := Lib.hid (HK2.out.below hb (Nat.le_refl _))
            replace HK3 := Lib.hid (HK3.out.below hb (Nat.le_refl _))
            replace HK4 := Lib.hid (HK4.out.below hb (Nat.le_refl _))
            replace B := btr B hb (Nat.le_refl _)
            clear hb
            clear hc
            have HK5 := Lib.hid k5
            clear k5
            have hc := peaks_any n lF hF _ SF _ HFR.out
            rw [HEF.out, HP3.out] at hc
            refine wp_seq_k (fun K hK => ?_)
            have HK := Lib.hid hK; clear hK
            go_wp2_with (first | (refine wpList_load_blk rfl 26 _ rfl _ rfl b11 Try.underlying26 rfl size26 rfl ?_) | (go_at_call 24; refine hc.mono ?_; rintro e wc ⟨v6, rfl, k6, hb⟩; obtain ⟨a6, c6, rfl, -, -, -⟩ := id k6; simp only [List.length_map, List.length_range] at k6))
            refine HK.out _ _ ?_; clear HK K
            replace b7 := blk_keep b7 hb
            replace b10 := blk_keep b10 hb
            replace b11 := blk_keep b11 hb
            replace HF := Lib.hid (HF.out.below hb (Nat.le_refl _))
            replace HBK := Lib.hid (HBK.out.below hb (Nat.le_refl _))
            replace HFR := Lib.hid (HFR.out.below hb (Nat.le_refl _))
            replace HK1 := Lib.hid (HK1.out.below hb (Nat.le_refl _))
            replace HK2 := Lib.hid (HK2.out.below hb (Nat.le_refl _))
            replace HK3 := Lib.hid (HK3.out.below hb (Nat.le_refl _))
            replace HK4 := Lib.hid (HK4.out.below hb (Nat.le_refl _))
            replace HK5 := Lib.hid (HK5.out.below hb (Nat.le_refl _))
            replace B := btr B hb (Nat.le_refl _)
            clear hb
            clear hc
            have HK6 := Lib.hid k6
            clear k6
            refine wp_seq_k (fun K hK => ?_)
            have HK := Lib.hid hK; clear hK
            go_wp2
            refine HK.out _ _ ?_; clear HK K
            have hc := cut_any n lo hi _ ss _ HF.out
            rw [HE.out, HCW.out, HCV.out] at hc
            refine wp_seq_k (fun K hK => ?_)
            have HK := Lib.hid hK; clear hK
            go_wp2_with (first | (refine wpList_load_blk rfl 26 _ rfl _ rfl b7 Try.underlying26 rfl size26 rfl ?_) | (go_at_call 31; refine hc.mono ?_; rintro e wc ⟨rfl, hb⟩))
            refine HK.out _ _ ?_; clear HK K
            replace b7 := blk_keep b7 hb
            replace b10 := blk_keep b10 hb
            replace b11 := blk_keep b11 hb
            replace HF := Lib.hid (HF.out.below hb (Nat.le_refl _))
            replace HBK := Lib.hid (HBK.out.below hb (Nat.le_refl _))
            replace HFR := Lib.hid (HFR.out.below hb (Nat.le_refl _))
            replace HK1 := Lib.hid (HK1.out.below hb (Nat.le_refl _))
            replace HK2 := Lib.hid (HK2.out.below hb (Nat.le_refl _))
            replace HK3 := Lib.hid (HK3.out.below hb (Nat.le_refl _))
            replace HK4 := Lib.hid (HK4.out.below hb (Nat.le_refl _))
            replace HK5 := Lib.hid (HK5.out.below hb (Nat.le_refl _))
            replace HK6 := Lib.hid (HK6.out.below hb (Nat.le_refl _))
            replace B := btr B hb (Nat.le_refl _)
            clear hb
            clear hc
            have hc := cut_any n lo hi _ SB _ HBK.out
            rw [HEB.out, HWB.out, HCB.out] at hc
            refine wp_seq_k (fun K hK => ?_)
            have HK := Lib.hid hK; clear hK
            go_wp2_with (first | (refine wpList_load_blk rfl 26 _ rfl _ rfl b10 Try.underlying26 rfl size26 rfl ?_) | (go_at_call 31; refine hc.mono ?_; rintro e wc ⟨rfl, hb⟩))
            refine HK.out _ _ ?_; clear HK K
            replace b7 := blk_keep b7 hb
            replace b10 := blk_keep b10 hb
            replace b11 := blk_keep b11 hb
            replace HF := Lib.hid (HF.out.below hb (Nat.le_refl _))
            replace HBK := Lib.hid (HBK.out.below hb (Nat.le_refl _))
            replace HFR := Lib.hid (HFR.out.below hb (Nat.le_refl _))
            replace HK1 := Lib.hid (HK1.out.below hb (Nat.le_refl _))
            replace HK2 := Lib.hid (HK2.out.below hb (Nat.le_refl _))
            replace HK3 := Lib.hid (HK3.out.below hb (Nat.le_refl _))
            replace HK4 := Lib.hid (HK4.out.below hb (Nat.le_refl _))
            replace HK5 := Lib.hid (HK5.out.below hb (Nat.le_refl _))
            replace HK6 := Lib.hid (HK6.out.below hb (Nat.le_refl _))
            replace B := btr B hb (Nat.le_refl _)
            clear hb
            clear hc
            have hc := cut_any n lF hF _ SF _ HFR.out
            rw [HEF.out, HCX.out, HCF.out] at hc
            refine wp_seq_k (fun K hK => ?_)
            have HK := Lib.hid hK; clear hK
            go_wp2_with (first | (refine wpList_load_blk rfl 26 _ rfl _ rfl b11 Try.underlying26 rfl size26 rfl ?_) | (go_at_call 31; refine hc.mono ?_; rintro e wc ⟨rfl, hb⟩))
            refine HK.out _ _ ?_; clear HK K
            replace b7 := blk_keep b7 hb
            replace b10 := blk_keep b10 hb
            replace b11 := blk_keep b11 hb
            replace HF := Lib.hid (HF.out.below hb (Nat.le_refl _))
            replace HBK := Lib.hid (HBK.out.below hb (Nat.le_refl _))
            replace HFR := Lib.hid (HFR.out.below hb (Nat.le_refl _))
            replace HK1 := Lib.hid (HK1.out.below hb (Nat.le_refl _))
            replace HK2 := Lib.hid (HK2.out.below hb (Nat.le_refl _))
            replace HK3 := Lib.hid (HK3.out.below hb (Nat.le_refl _))
            replace HK4 := Lib.hid (HK4.out.below hb (Nat.le_refl _))
            replace HK5 := Lib.hid (HK5.out.below hb (Nat.le_refl _))
            replace HK6 := Lib.hid (HK6.out.below hb (Nat.le_refl _))
            replace B := btr B hb (Nat.le_refl _)
            clear hb
            clear hc
            have c0 := cell_blk (i := 0) b7
            simp only [List.getElem?_toArray, List.getElem?_cons_zero] at c0
            have h28 := numbers_any _ _ _ _ wc HK4.out HK6.out
            simp only [decide_true] at h28
            have hcc := HCC.out
            have hq1 : 0 ≤ t * CV ∧ t * CV ≤ 60000 := by rcases HT12.out with rfl | rfl <;> omega
            have hq2 : -2 ≤ t * (CV - 1) ∧ t * (CV - 1) ≤ 60000 := by rcases HT12.out with rfl | rfl <;> omega
            have k1 := c33 (q := t * CV) (by omega)
            have k3 := c33 (q := CV - 1) (by omega)
            have k4 := c33 (q := t * (CV - 1)) (by omega)
            have t1 : decide (t * CV < CF) = false := decide_eq_false (by omega)
            have t3 : decide (CF ≤ t * (CV - 1)) = false := decide_eq_false (by omega)
            clear hcc hq1 hq2
            refine wp_seq_k (fun K hK => ?_)
            have HK := Lib.hid hK; clear hK
            simp only [List.append_eq, List.cons_append, List.nil_append]
            go_wp2_with (go_at_call 28; refine h28.mono ?_; rintro e wd ⟨rfl, hb⟩)
            refine HK.out _ _ ?_; clear HK K
            clear h28 c0 k1 k3 k4 t1 t3
            replace b7 := blk_keep b7 hb
            replace b10 := blk_keep b10 hb
            replace b11 := blk_keep b11 hb
            replace HF := Lib.hid (HF.out.below hb (Nat.le_refl _))
            replace HBK := Lib.hid (HBK.out.below hb (Nat.le_refl _))
            replace HFR := Lib.hid (HFR.out.below hb (Nat.le_refl _))
            replace HK1 := Lib.hid (HK1.out.below hb (Nat.le_refl _))
            replace HK2 := Lib.hid (HK2.out.below hb (Nat.le_refl _))
            replace HK3 := Lib.hid (HK3.out.below hb (Nat.le_refl _))
            replace HK4 := Lib.hid (HK4.out.below hb (Nat.le_refl _))
            replace HK5 := Lib.hid (HK5.out.below hb (Nat.le_refl _))
            replace HK6 := Lib.hid (HK6.out.below hb (Nat.le_refl _))
            replace B := btr B hb (Nat.le_refl _)
            clear hb
            refine wp_seq_k (fun K hK => ?_)
            have HK := Lib.hid hK; clear hK
            go_wp2
            go_loopw [277] (fun i wr => ∃ j : Nat, j ≤ n ∧ i = .int .i64 j ∧ Below wd.heap.size wd wr) (fun i _ => n - (intOf i).toNat)
            case atStart => exact ⟨0, Nat.zero_le _, rfl, Below.refl _ _⟩
            case round =>
              obtain ⟨j, hj, rfl, hB⟩ := hrel
              by_cases hjn : j < n
              · have hji : (j : Int) < (n : Int) := by omega
                obtain ⟨bk, ok, rfl, hltk, hck⟩ := sr_cell HK1.out hn0
                obtain ⟨bl, ol, rfl, hltl, hcl⟩ := sr_cell HK2.out hn0
                obtain ⟨bm, om, rfl, hltm, hcm⟩ := sr_cell HK3.out hn0
                obtain ⟨jn, hjn2⟩ : ∃ jn : Nat, jn = n - 1 - j := ⟨_, rfl⟩
                have f1 := (hB.cell (p := ⟨bk, ok + j * 2, none⟩) hltk).trans (hck j hjn).1
                have f2 := (hB.cell (p := ⟨bk, ok + j * 2 + 1, none⟩) hltk).trans (hck j hjn).2
                have f3 := (hB.cell (p := ⟨bl, ol + jn * 2, none⟩) hltl).trans (hcl jn (by omega)).1
                have f4 := (hB.cell (p := ⟨bl, ol + jn * 2 + 1, none⟩) hltl).trans (hcl jn (by omega)).2
                have f5 := (hB.cell (p := ⟨bm, om + j * 2, none⟩) hltm).trans (hcm j hjn).1
                have f6 := (hB.cell (p := ⟨bm, om + j * 2 + 1, none⟩) hltm).trans (hcm j hjn).2
                have e7 := blk_keep b7 hB
                have c0 := cell_blk (i := 0) e7
                simp only [List.getElem?_toArray, List.getElem?_cons_zero] at c0
                have hA1 := A1.out j hjn
                rw [← hjn2] at hA1
                rw [← hA1] at f3 f4
                have hA2 := A2.out j hjn
                have hA3 := A3.out j hjn
                have hA4 := fun h => A4.out h j hjn
                have hA5 := A5.out j hjn
                have zk := Nat.lt_of_lt_of_le hltk hB.size
                have zl := Nat.lt_of_lt_of_le hltl hB.size
                have zm := Nat.lt_of_lt_of_le hltm hB.size
                have hAF : t = 1 → (FF j).1 = (F j).1 + more ∧ (FF j).2 = (F j).2 + more := fun h => by rw [hA4 h]; exact ⟨rfl, rfl⟩
                clear hck hcl hcm hA1 hA4
                generalize (F j).1 = y1 at *
                generalize (F j).2 = y2 at *
                generalize (FF j).1 = y3 at *
                generalize (FF j).2 = y4 at *
                have hp1 : 0 ≤ t * y1 ∧ t * y1 ≤ 60000 := by rcases HT12.out with rfl | rfl <;> omega
                have hp2 : 0 ≤ t * y2 ∧ t * y2 ≤ 60000 := by rcases HT12.out with rfl | rfl <;> omega
                have k1 := c33 (q := t * y1) (by omega)
                have k3 := c33 (q := t * y1 + more) (by omega)
                have k4 := c33 (q := t * y2) (by omega)
                have k5 := c33 (q := t * y2 + more) (by omega)
                have k6 := c33 (q := (n : Int) - 1) (by omega)
                have k7 : IntKind.i64.wrap ((n : Int) - 1 - (j : Int)) = (jn : Int) := by rw [c33 (by omega)]; omega
                have k8 := c33 (q := y1 + more) (by omega)
                have k9 := c33 (q := y2 + more) (by omega)
                have hjl : jn < n := by omega
                have hjli : (jn : Int) < (n : Int) := by omega
                have t2 : decide (y3 < t * y1 + more) = false := decide_eq_false (by omega)
                have t3 : decide (t * y2 + more < y4) = false := decide_eq_false (by omega)
                clear hA2 hA3 hA5 hjn2 hp1 hp2
                simp only [List.append_eq, List.cons_append, List.nil_append]
                have g1 := fun X : Ab wr.heap.size wr => (X.ok.cell (p := ⟨bk, ok + j * 2, none⟩) zk).trans f1
                have g2 := fun X : Ab wr.heap.size wr => (X.ok.cell (p := ⟨bk, ok + j * 2 + 1, none⟩) zk).trans f2
                have g3 := fun X : Ab wr.heap.size wr => (X.ok.cell (p := ⟨bl, ol + jn * 2, none⟩) zl).trans f3
                have g4 := fun X : Ab wr.heap.size wr => (X.ok.cell (p := ⟨bl, ol + jn * 2 + 1, none⟩) zl).trans f4
                have g5 := fun X : Ab wr.heap.size wr => (X.ok.cell (p := ⟨bm, om + j * 2, none⟩) zm).trans f5
                have g6 := fun X : Ab wr.heap.size wr => (X.ok.cell (p := ⟨bm, om + j * 2 + 1, none⟩) zm).trans f6
                have g0 := fun X : Ab wr.heap.size wr => (X.ok.cell (p := ⟨g7, 0, none⟩) (lt_blk e7)).trans c0
                have h37 := fun (X : Ab wr.heap.size wr) (a b : Int) => Calls.ab X (Nat.le_refl _) (span_any a b X.val)
                have H37 := Lib.hid h37
                clear f1 f2 f3 f4 f5 f6 c0 h37 zk zl zm
                by_cases ht1 : t = 1
                · have te : ((t : Int) == 1) = true := by simpa using ht1
                  obtain ⟨rfl, rfl⟩ := hAF ht1
                  have t4 : decide (y1 < t * y1) = false := decide_eq_false (by rw [ht1]; omega)
                  have t5 : decide (t * y2 < y2) = false := decide_eq_false (by rw [ht1]; omega)
                  clear ht1
                  as_aux_lemma =>
                    go_wp2
                    rename_i K0 hK0
                    have HK0 := Lib.hid hK0; clear hK0
                    refine wp_region_ab wr.heap.size wr (by kernel_rfl) (by kernel_rfl) (Below.refl _ _) ?_
                    unfold AbC at *
                    repeat go_big_quiet_step ((go_at_call 37; with_reducible exact H37.out _ _ _))
                    refine wpQuiet_nil ?_
                    rintro W' ⟨X0, rfl⟩
                    have hbv := X0.ok
                    generalize X0.val = wv at *
                    refine HK0.out _ _ ?_; clear HK0
                    go_wp2
                    go_roundw
                    case rel => exact ⟨j + 1, by omega, by go_num, btr hB hbv (Nat.le_refl _)⟩
                    case measure => simp [intOf]; omega
                · have te : ((t : Int) == 1) = false := by simpa using ht1
                  clear ht1 hAF
                  as_aux_lemma =>
                    go_wp2
                    rename_i K0 hK0
                    have HK0 := Lib.hid hK0; clear hK0
                    refine wp_region_ab wr.heap.size wr (by kernel_rfl) (by kernel_rfl) (Below.refl _ _) ?_
                    unfold AbC at *
                    repeat go_big_quiet_step (fail)
                    refine wpQuiet_nil ?_
                    rintro W' ⟨X0, rfl⟩
                    have hbv := X0.ok
                    generalize X0.val = wv at *
                    refine HK0.out _ _ ?_; clear HK0
                    go_wp2
                    go_roundw
                    case rel => exact ⟨j + 1, by omega, by go_num, btr hB hbv (Nat.le_refl _)⟩
                    case measure => simp [intOf]; omega
              · have hji : ¬ (j : Int) < (n : Int) := by omega
                go_wp2
                refine HK.out _ _ ?_; clear HK
                replace b7 := blk_keep b7 hB
                replace HK4 := Lib.hid (HK4.out.below hB (Nat.le_refl _))
                replace HK5 := Lib.hid (HK5.out.below hB (Nat.le_refl _))
                replace B := btr B hB (Nat.le_refl _)
                clear hB
                obtain ⟨we, hwe⟩ : ∃ we, we = wr := ⟨_, rfl⟩
                subst hwe
                clear hji hj
                refine wp_seq_k (fun K hK => ?_)
                have HK := Lib.hid hK; clear hK
                go_wp2
                go_loopw [360] (fun i wr => ∃ k : Nat, k ≤ pl ∧ i = .int .i64 k ∧ Below we.heap.size we wr) (fun i _ => pl - (intOf i).toNat)
                case atStart => exact ⟨0, Nat.zero_le _, rfl, Below.refl _ _⟩
                case round =>
                  obtain ⟨k, hk, rfl, hB⟩ := hrel
                  by_cases hkl : k < pl
                  · have hki : (k : Int) < (pl : Int) := by omega
                    obtain ⟨bk, ok, rfl, hltk, hck⟩ := sl_cell HK4.out (by omega)
                    obtain ⟨bl, ol, rfl, hltl, hcl⟩ := sl_cell HK5.out (by omega)
                    obtain ⟨kn, hkn⟩ : ∃ kn : Nat, kn = pl - 1 - k := ⟨_, rfl⟩
                    have q1 := (hB.cell (p := ⟨bk, ok + k, none⟩) hltk).trans (hck k hkl)
                    have q2 := (hB.cell (p := ⟨bl, ol + kn, none⟩) hltl).trans (hcl kn (by omega))
                    have e7 := blk_keep b7 hB
                    have c0 := cell_blk (i := 0) e7
                    simp only [List.getElem?_toArray, List.getElem?_cons_zero] at c0
                    have he : ((n - pa - pl + kn : Nat) : Int) = (n : Int) - 1 - ((pa + k : Nat) : Int) := by omega
                    rw [he] at q2
                    have k1 := c33 (q := (pl : Int) - 1) (by omega)
                    have k3 : IntKind.i64.wrap ((pl : Int) - 1 - (k : Int)) = (kn : Int) := by rw [c33 (by omega)]; omega
                    have k4 := c33 (q := (n : Int) - 1) (by omega)
                    have k5 := c33 (q := (n : Int) - 1 - ((pa + k : Nat) : Int)) (by omega)
                    have hkn1 : kn < pl := by omega
                    have hkn2 : (kn : Int) < (pl : Int) := by omega
                    have hk12 : k < 12 := by omega
                    generalize ((pa + k : Nat) : Int) = y at *
                    clear he hck hcl hkn
                    go_wp2
                    go_quiet (fail)
                    go_wp2
                    go_roundw
                    case rel => exact ⟨k + 1, by omega, by go_num, below_drewN hB _⟩
                    case measure => simp [intOf]; omega
                  · have hki : ¬ (k : Int) < (pl : Int) := by omega
                    have B2 := btr B hB (Nat.le_refl _)
                    go_wp2
                    refine HK.out _ _ ?_; clear HK
                    go_wp2_with (go_at_call 13; refine (works_any _).mono ?_; rintro e wz ⟨rfl, hbz⟩)
                    go_ret
                    exact ⟨rfl, btr B2 hbz (Nat.le_refl _)⟩
end Ytgnjeefanbcbkaa
end Go.Proofs
