/- For every crop, samples and weeks the law RipeProof returns true. -/
import Derived.Test.YtgnjeefanbcbkaaL7
import Derived.Test.YtgnjeefanbcbkaaL4
import Derived.Test.YtgnjeefanbcbkaaE5
open Go Go.RowKit Go.YtgnjeefanbcbkaaIt
namespace Go.Proofs
namespace Ytgnjeefanbcbkaa
set_option maxRecDepth 100000 in
set_option maxHeartbeats 8000000 in
theorem ripeproof_any (wk fs st ra rb : Int) (vf vs : Value) (falls : List Int) (sm : List B3) (vt : Value) (wr0 : List B3) (ya yb yc : Int) (w : World) (hwk : 0 ≤ wk ∧ wk < 256) (hfs : 0 ≤ fs ∧ fs < 256) (hst : 0 ≤ st ∧ st < 256) (hr0 : 0 ≤ ra ∧ ra < 256) (hr1 : 0 ≤ rb ∧ rb < 256) (hf : SlB w vf falls) (hs : SlT w vs sm) (ht : SlT w vt wr0) (hya : 0 ≤ ya ∧ ya < 256) (hyb : 0 ≤ yb ∧ yb < 256) (hyc : 0 ≤ yc ∧ yc < 256) :
    Calls Try.prog 9 #[.agg #[.int .u8 wk, .int .u8 fs, .int .u8 st, vf, .int .u8 ra, .int .u8 rb, vs], vt, .agg #[.int .u8 ya, .int .u8 yb, .int .u8 yc]] w fun e w' => e = .returned (.bool true) ∧ Below w.heap.size w w' := by
  have hm33 := fun (W : World) (h : Below w.heap.size w W) => made_own wk fs st ra rb vf vs falls sm W hwk hfs hst hr0 hr1 (hf.below h (Nat.le_refl _)) (hs.below h (Nat.le_refl _))
  obtain ⟨⟨af, cf, rfl, -, -⟩, -⟩ := hf
  obtain ⟨⟨sx, cx, rfl, -, -⟩, -⟩ := hs
  have HM33 := Lib.hid hm33
  clear hm33
  have HTW := Lib.hid ht
  obtain ⟨⟨tx, ux, rfl, -, -⟩, -⟩ := ht
  go_enter Try.func9, Try.ntmps9
  refine wp_seq_k (fun K hK => ?_)
  have HK := Lib.hid hK; clear hK
  go_wp2
  refine HK.out _ _ ?_; clear HK K
  generalize hw1 : World.alloc _ _ = w1
  obtain ⟨b2, b80, B, hs1⟩ := blk2 hw1
  clear hw1
  refine wp_seq_k (fun K hK => ?_)
  have HK := Lib.hid hK; clear hK
  go_wp2_with (first | (refine wpList_load_blk rfl 63 _ rfl _ rfl b2 Try.underlying63 rfl size63 rfl ?_) | (go_at_call 33; refine (HM33.out _ B).mono ?_; rintro e w3 ⟨n, lo, hi, v, ss, p, T, rfl, hv, -, hR, h15, hown, hb⟩; obtain ⟨av, cv, rfl, -, -, -⟩ := id hv))
  refine HK.out _ _ ?_; clear HK K
  clear HM33 b2
  have lw1 : w.heap.size + 2 ≤ w1.heap.size := by omega
  replace B := btr B hb (Nat.le_refl _)
  replace b80 := blk_keep b80 hb
  have lw3 := hb.size
  clear hb hv
  generalize hwn : World.alloc _ _ = wn
  obtain ⟨b7, hB5, hs5⟩ := blk1 hwn
  clear hwn
  have ro := row_lower (B := w.heap.size + 2) (row_below hown hB5) lw1
  replace B := btr B hB5 (Nat.le_refl _)
  replace b80 := blk_keep b80 hB5
  have lg5 : w.heap.size + 2 ≤ w3.heap.size := by omega
  clear hB5 hs5 hown lw1 lw3 hs1
  generalize w3.heap.size = g7 at *
  have hl1 : decide (30000 < hi) = false := decide_eq_false (by have := hR.hi0; omega)
  have hn1 : 1 ≤ n ∧ n ≤ 12 := ⟨hR.n1, hR.n12⟩
  have hV := hR.val
  have HVA := Lib.hid hV
  clear hR hV
  have c2 := cell_blk (i := 2) b7
  simp only [List.getElem?_toArray, List.getElem?_cons_zero, List.getElem?_cons_succ] at c2
  obtain ⟨i82, hi82, hz1, hz2, hz3⟩ := info_parts info82
  have HI2 := Lib.hid (And.intro hi82 (And.intro hz1 (And.intro hz2 hz3)))
  clear hi82 hz1 hz2 hz3
  obtain ⟨N, hN⟩ : ∃ N : Nat, N = min 3 wr0.length := ⟨_, rfl⟩
  have HNN := Lib.hid hN
  clear hN
  refine wp_seq_k (fun K hK => ?_)
  have HK := Lib.hid hK; clear hK
  go_wp2
  refine HK.out _ _ ?_; clear HK K
  clear c2 hl1
  refine wp_seq_k (fun K hK => ?_)
  have HK := Lib.hid hK; clear hK
  go_wp2
  go_loopw [9] (fun i wr => ∃ (k : Nat) (q : Value) (ex : List Smp), k ≤ N ∧ i = .int .i64 k ∧ Hid (ex.length = k ∧ ∀ s ∈ ex, (0 ≤ s.week ∧ s.week < n) ∧ (0 ≤ s.val ∧ s.val ≤ 30000) ∧ (0 ≤ s.off ∧ s.off ≤ 30000)) ∧ wr.heap[g7]? = some (.cells #[.int .i64 n, .int .i64 lo, .int .i64 hi, q] 26 (0, 0)) ∧ wr.heap[w.heap.size + 1]? = some (.cells #[.int .u8 ya, .int .u8 yb, .int .u8 yc] 80 (0, 0)) ∧ wr.ownsRow (w.heap.size + 2) 82 3 q (ss.length + k) ((ss ++ ex).flatMap encS) ∧ Below w.heap.size w wr ∧ w.heap.size + 2 ≤ wr.heap.size) (fun i _ => N - (intOf i).toNat)
  case atStart => exact ⟨0, _, [], Nat.zero_le _, rfl, Lib.hid ⟨rfl, fun s hs => by simp at hs⟩, b7, b80, by rw [List.append_nil]; exact ro, B, by have := lt_blk b7; omega⟩
  case round =>
    clear b7 b80 ro B
    obtain ⟨k, q, ex, hk, rfl, HEX, b7, b80, ro, B, hsz⟩ := hrel
    obtain ⟨aq, cq, rfl⟩ := form_of ro
    by_cases hkN : k < N
    · have hks : k < wr0.length := by have := HNN.out; omega
      have hk3 : (k : Int) < 3 := by have := HNN.out; omega
      have hksi : (k : Int) < (wr0.length : Int) := by omega
      obtain ⟨⟨sx', cx', e', -, hcs⟩, hok⟩ := HTW.out
      injection e' with e1 _ e3
      subst e1 e3
      obtain ⟨bs, os, rfl, hlts, hcells⟩ := hcs (by omega)
      have hx := hok _ (List.getElem_mem hks)
      have q0 := hcells k hks 0 _ rfl
      have q1 := hcells k hks 1 _ rfl
      have q2 := hcells k hks 2 _ rfl
      replace q0 := (B.cell (p := ⟨bs, os + k * 3, none⟩) hlts).trans q0
      replace q1 := (B.cell (p := ⟨bs, os + k * 3 + 1, none⟩) hlts).trans q1
      replace q2 := (B.cell (p := ⟨bs, os + k * 3 + 2, none⟩) hlts).trans q2
      generalize wr0[k] = x at *
      obtain ⟨xa, xb, xc⟩ := x
      simp only at q0 q1 q2
      unfold B3.ok at hx
      simp only at hx
      clear hcells hcs hok
      go_wp2
      rename_i K0 hK0 _
      have HK0 := Lib.hid hK0; clear hK0
      have k1 := c33 (q := xa) (by omega)
      have k2 := d33 hx.1.1 (n : Int)
      have k3 := c33 (q := xb) (by omega)
      have k4 := c33 (q := 40 * xb) (by omega)
      have k5 := c33 (q := 7000 + 40 * xb) (by omega)
      have k6 := c33 (q := xc) (by omega)
      have hm0 : ¬ (n : Int) = 0 := by omega
      have hm0' : ¬ n = 0 := by omega
      have d0 := cell_blk (i := 0) b7
      have d3 := cell_blk (i := 3) b7
      simp only [List.getElem?_toArray, List.getElem?_cons_zero, List.getElem?_cons_succ] at d0 d3
      have lg7 := lt_blk b7
      have lbs : bs < wr.heap.size := by omega
      have hS0 : (fun U : World => U.cell? ⟨g7, 3, none⟩ = some (.slice aq (ss.length + k) cq) ∧ U.cell? ⟨g7, 0, none⟩ = some (.int .i64 n) ∧ (U.cell? ⟨bs, os + k * 3, none⟩ = some (.int .u8 xa) ∧ U.cell? ⟨bs, os + k * 3 + 1, none⟩ = some (.int .u8 xb) ∧ U.cell? ⟨bs, os + k * 3 + 2, none⟩ = some (.int .u8 xc))) wr.drew := ⟨d3, d0, q0, q1, q2⟩
      replace b7 : wr.drew.heap[g7]? = _ := b7
      replace b80 : wr.drew.heap[w.heap.size + 1]? = _ := b80
      replace ro : wr.drew.ownsRow _ _ _ _ _ _ := ro
      replace B := B.drew
      replace hsz : w.heap.size + 2 ≤ wr.drew.heap.size := hsz
      replace lbs : bs < wr.drew.heap.size := lbs
      replace lg7 : g7 < wr.drew.heap.size := lg7
      clear d3 d0 q0 q1 q2
      refine wp_region_z (z := 29) (S := fun U : World => U.cell? ⟨g7, 3, none⟩ = some (.slice aq (ss.length + k) cq) ∧ U.cell? ⟨g7, 0, none⟩ = some (.int .i64 n) ∧ (U.cell? ⟨bs, os + k * 3, none⟩ = some (.int .u8 xa) ∧ U.cell? ⟨bs, os + k * 3 + 1, none⟩ = some (.int .u8 xb) ∧ U.cell? ⟨bs, os + k * 3 + 2, none⟩ = some (.int .u8 xc))) (by kernel_rfl) ?_
      change wpAnyZ _ _ _ _ _ _ _ _ _ (World.drew wr)
      generalize World.drew wr = wq at *
      clear wr
      refine wpAnyZ_take (i := 0) (oi := { dst := some 41, op := _, type := _, pos := _, after := _, guard := none }) (v := ?_) rfl (by kernel_rfl) (by kernel_rfl) (by kernel_rfl) (fun _ _ _ h => h) (Or.inl ⟨by rfl, ?_⟩) hS0 ?_
      rotate_left
      · intro U hU
        go_simp
        all_goals with_reducible rfl
      simp only [Act.put, List.setIfInBounds_toArray, List.set_cons_zero, List.set_cons_succ]
      refine wpAnyZ_take (i := 1) (oi := { dst := some 42, op := _, type := _, pos := _, after := _, guard := none }) (v := ?_) rfl (by kernel_rfl) (by kernel_rfl) (by kernel_rfl) (fun _ _ _ h => h) (Or.inl ⟨by rfl, ?_⟩) hS0 ?_
      rotate_left
      · intro U hU
        have hU0 := hU.1
        go_simp
        all_goals with_reducible rfl
      simp only [Act.put, List.setIfInBounds_toArray, List.set_cons_zero, List.set_cons_succ]
      refine wpAnyZ_take (i := 2) (oi := { dst := some 43, op := _, type := _, pos := _, after := _, guard := none }) (v := ?_) rfl (by kernel_rfl) (by kernel_rfl) (by kernel_rfl) (fun _ _ _ h => h) (Or.inl ⟨by rfl, ?_⟩) hS0 ?_
      rotate_left
      · intro U hU
        go_simp
        all_goals with_reducible rfl
      simp only [Act.put, List.setIfInBounds_toArray, List.set_cons_zero, List.set_cons_succ]
      refine wpAnyZ_take (i := 3) (oi := { dst := some 44, op := _, type := _, pos := _, after := _, guard := none }) (v := ?_) rfl (by kernel_rfl) (by kernel_rfl) (by kernel_rfl) (fun _ _ _ h => h) (Or.inl ⟨by rfl, ?_⟩) hS0 ?_
      rotate_left
      · intro U hU
        go_simp
        all_goals with_reducible rfl
      simp only [Act.put, List.setIfInBounds_toArray, List.set_cons_zero, List.set_cons_succ]
      refine wpAnyZ_take (i := 4) (oi := { dst := some 45, op := _, type := _, pos := _, after := _, guard := none }) (v := ?_) rfl (by kernel_rfl) (by kernel_rfl) (by kernel_rfl) (fun _ _ _ h => h) (Or.inl ⟨by rfl, ?_⟩) hS0 ?_
      rotate_left
      · intro U hU
        go_simp
        all_goals with_reducible rfl
      simp only [Act.put, List.setIfInBounds_toArray, List.set_cons_zero, List.set_cons_succ]
      refine wpAnyZ_take (i := 5) (oi := { dst := some 46, op := _, type := _, pos := _, after := _, guard := none }) (v := ?_) rfl (by kernel_rfl) (by kernel_rfl) (by kernel_rfl) (fun _ _ _ h => h) (Or.inl ⟨by rfl, ?_⟩) hS0 ?_
      rotate_left
      · intro U hU
        go_simp
        all_goals with_reducible rfl
      simp only [Act.put, List.setIfInBounds_toArray, List.set_cons_zero, List.set_cons_succ]
      refine wpAnyZ_take (i := 6) (oi := { dst := some 47, op := _, type := _, pos := _, after := _, guard := none }) (v := ?_) rfl (by kernel_rfl) (by kernel_rfl) (by kernel_rfl) (fun _ _ _ h => h) (Or.inl ⟨by rfl, ?_⟩) hS0 ?_
      rotate_left
      · intro U hU
        obtain ⟨u0, u1, u2⟩ := hU.2.2
        go_simp
        all_goals with_reducible rfl
      simp only [Act.put, List.setIfInBounds_toArray, List.set_cons_zero, List.set_cons_succ]
      refine wpAnyZ_take (i := 7) (oi := { dst := some 48, op := _, type := _, pos := _, after := _, guard := none }) (v := ?_) rfl (by kernel_rfl) (by kernel_rfl) (by kernel_rfl) (fun _ _ _ h => h) (Or.inl ⟨by rfl, ?_⟩) hS0 ?_
      rotate_left
      · intro U hU
        go_simp
        all_goals with_reducible rfl
      simp only [Act.put, List.setIfInBounds_toArray, List.set_cons_zero, List.set_cons_succ]
      refine wpAnyZ_take (i := 8) (oi := { dst := some 49, op := _, type := _, pos := _, after := _, guard := none }) (v := ?_) rfl (by kernel_rfl) (by kernel_rfl) (by kernel_rfl) (fun _ _ _ h => h) (Or.inl ⟨by rfl, ?_⟩) hS0 ?_
      rotate_left
      · intro U hU
        go_simp
        all_goals with_reducible rfl
      simp only [Act.put, List.setIfInBounds_toArray, List.set_cons_zero, List.set_cons_succ]
      refine wpAnyZ_take (i := 9) (oi := { dst := some 50, op := _, type := _, pos := _, after := _, guard := none }) (v := ?_) rfl (by kernel_rfl) (by kernel_rfl) (by kernel_rfl) (fun _ _ _ h => h) (Or.inl ⟨by rfl, ?_⟩) hS0 ?_
      rotate_left
      · intro U hU
        have hU0 := hU.2.1
        go_simp
        all_goals with_reducible rfl
      simp only [Act.put, List.setIfInBounds_toArray, List.set_cons_zero, List.set_cons_succ]
      refine wpAnyZ_take (i := 10) (oi := { dst := some 51, op := _, type := _, pos := _, after := _, guard := none }) (v := ?_) rfl (by kernel_rfl) (by kernel_rfl) (by kernel_rfl) (fun _ _ _ h => h) (Or.inl ⟨by rfl, ?_⟩) hS0 ?_
      rotate_left
      · intro U hU
        go_simp
        all_goals with_reducible rfl
      simp only [Act.put, List.setIfInBounds_toArray, List.set_cons_zero, List.set_cons_succ]
      refine wpAnyZ_take (i := 11) (oi := { dst := some 52, op := _, type := _, pos := _, after := _, guard := none }) (v := ?_) rfl (by kernel_rfl) (by kernel_rfl) (by kernel_rfl) (fun _ _ _ h => h) (Or.inl ⟨by rfl, ?_⟩) hS0 ?_
      rotate_left
      · intro U hU
        go_simp
        all_goals with_reducible rfl
      simp only [Act.put, List.setIfInBounds_toArray, List.set_cons_zero, List.set_cons_succ]
      refine wpAnyZ_take (i := 12) (oi := { dst := some 53, op := _, type := _, pos := _, after := _, guard := none }) (v := ?_) rfl (by kernel_rfl) (by kernel_rfl) (by kernel_rfl) (fun _ _ _ h => h) (Or.inl ⟨by rfl, ?_⟩) hS0 ?_
      rotate_left
      · intro U hU
        go_simp
        all_goals with_reducible rfl
      simp only [Act.put, List.setIfInBounds_toArray, List.set_cons_zero, List.set_cons_succ]
      refine wpAnyZ_take (i := 13) (oi := { dst := some 54, op := _, type := _, pos := _, after := _, guard := none }) (v := ?_) rfl (by kernel_rfl) (by kernel_rfl) (by kernel_rfl) (fun _ _ _ h => h) (Or.inl ⟨by rfl, ?_⟩) hS0 ?_
      rotate_left
      · intro U hU
        go_simp
        all_goals with_reducible rfl
      simp only [Act.put, List.setIfInBounds_toArray, List.set_cons_zero, List.set_cons_succ]
      refine wpAnyZ_take (i := 14) (oi := { dst := some 55, op := _, type := _, pos := _, after := _, guard := none }) (v := ?_) rfl (by kernel_rfl) (by kernel_rfl) (by kernel_rfl) (fun _ _ _ h => h) (Or.inl ⟨by rfl, ?_⟩) hS0 ?_
      rotate_left
      · intro U hU
        go_simp
        all_goals with_reducible rfl
      simp only [Act.put, List.setIfInBounds_toArray, List.set_cons_zero, List.set_cons_succ]
      refine wpAnyZ_take (i := 15) (oi := { dst := some 56, op := _, type := _, pos := _, after := _, guard := none }) (v := ?_) rfl (by kernel_rfl) (by kernel_rfl) (by kernel_rfl) (fun _ _ _ h => h) (Or.inl ⟨by rfl, ?_⟩) hS0 ?_
      rotate_left
      · intro U hU
        obtain ⟨u0, u1, u2⟩ := hU.2.2
        go_simp
        all_goals with_reducible rfl
      simp only [Act.put, List.setIfInBounds_toArray, List.set_cons_zero, List.set_cons_succ]
      refine wpAnyZ_take (i := 16) (oi := { dst := some 57, op := _, type := _, pos := _, after := _, guard := none }) (v := ?_) rfl (by kernel_rfl) (by kernel_rfl) (by kernel_rfl) (fun _ _ _ h => h) (Or.inl ⟨by rfl, ?_⟩) hS0 ?_
      rotate_left
      · intro U hU
        go_simp
        all_goals with_reducible rfl
      simp only [Act.put, List.setIfInBounds_toArray, List.set_cons_zero, List.set_cons_succ]
      refine wpAnyZ_take (i := 17) (oi := { dst := some 58, op := _, type := _, pos := _, after := _, guard := none }) (v := ?_) rfl (by kernel_rfl) (by kernel_rfl) (by kernel_rfl) (fun _ _ _ h => h) (Or.inl ⟨by rfl, ?_⟩) hS0 ?_
      rotate_left
      · intro U hU
        go_simp
        all_goals with_reducible rfl
      simp only [Act.put, List.setIfInBounds_toArray, List.set_cons_zero, List.set_cons_succ]
      refine wpAnyZ_take (i := 18) (oi := { dst := some 59, op := _, type := _, pos := _, after := _, guard := none }) (v := ?_) rfl (by kernel_rfl) (by kernel_rfl) (by kernel_rfl) (fun _ _ _ h => h) (Or.inl ⟨by rfl, ?_⟩) hS0 ?_
      rotate_left
      · intro U hU
        go_simp
        all_goals with_reducible rfl
      simp only [Act.put, List.setIfInBounds_toArray, List.set_cons_zero, List.set_cons_succ]
      refine wpAnyZ_take (i := 19) (oi := { dst := some 60, op := _, type := _, pos := _, after := _, guard := none }) (v := ?_) rfl (by kernel_rfl) (by kernel_rfl) (by kernel_rfl) (fun _ _ _ h => h) (Or.inl ⟨by rfl, ?_⟩) hS0 ?_
      rotate_left
      · intro U hU
        go_simp
        all_goals with_reducible rfl
      simp only [Act.put, List.setIfInBounds_toArray, List.set_cons_zero, List.set_cons_succ]
      refine wpAnyZ_take (i := 20) (oi := { dst := some 61, op := _, type := _, pos := _, after := _, guard := none }) (v := ?_) rfl (by kernel_rfl) (by kernel_rfl) (by kernel_rfl) (fun _ _ _ h => h) (Or.inl ⟨by rfl, ?_⟩) hS0 ?_
      rotate_left
      · intro U hU
        go_simp
        all_goals with_reducible rfl
      simp only [Act.put, List.setIfInBounds_toArray, List.set_cons_zero, List.set_cons_succ]
      refine wpAnyZ_take (i := 21) (oi := { dst := some 62, op := _, type := _, pos := _, after := _, guard := none }) (v := ?_) rfl (by kernel_rfl) (by kernel_rfl) (by kernel_rfl) (fun _ _ _ h => h) (Or.inl ⟨by rfl, ?_⟩) hS0 ?_
      rotate_left
      · intro U hU
        go_simp
        all_goals with_reducible rfl
      simp only [Act.put, List.setIfInBounds_toArray, List.set_cons_zero, List.set_cons_succ]
      refine wpAnyZ_take (i := 22) (oi := { dst := some 63, op := _, type := _, pos := _, after := _, guard := none }) (v := ?_) rfl (by kernel_rfl) (by kernel_rfl) (by kernel_rfl) (fun _ _ _ h => h) (Or.inl ⟨by rfl, ?_⟩) hS0 ?_
      rotate_left
      · intro U hU
        go_simp
        all_goals with_reducible rfl
      simp only [Act.put, List.setIfInBounds_toArray, List.set_cons_zero, List.set_cons_succ]
      refine wpAnyZ_take (i := 23) (oi := { dst := some 64, op := _, type := _, pos := _, after := _, guard := none }) (v := ?_) rfl (by kernel_rfl) (by kernel_rfl) (by kernel_rfl) (fun _ _ _ h => h) (Or.inl ⟨by rfl, ?_⟩) hS0 ?_
      rotate_left
      · intro U hU
        obtain ⟨u0, u1, u2⟩ := hU.2.2
        go_simp
        all_goals with_reducible rfl
      simp only [Act.put, List.setIfInBounds_toArray, List.set_cons_zero, List.set_cons_succ]
      refine wpAnyZ_take (i := 24) (oi := { dst := some 65, op := _, type := _, pos := _, after := _, guard := none }) (v := ?_) rfl (by kernel_rfl) (by kernel_rfl) (by kernel_rfl) (fun _ _ _ h => h) (Or.inl ⟨by rfl, ?_⟩) hS0 ?_
      rotate_left
      · intro U hU
        go_simp
        all_goals with_reducible rfl
      simp only [Act.put, List.setIfInBounds_toArray, List.set_cons_zero, List.set_cons_succ]
      refine wpAnyZ_take (i := 25) (oi := { dst := some 66, op := _, type := _, pos := _, after := _, guard := none }) (v := ?_) rfl (by kernel_rfl) (by kernel_rfl) (by kernel_rfl) (fun _ _ _ h => h) (Or.inl ⟨by rfl, ?_⟩) hS0 ?_
      rotate_left
      · intro U hU
        go_simp
        all_goals with_reducible rfl
      simp only [Act.put, List.setIfInBounds_toArray, List.set_cons_zero, List.set_cons_succ]
      obtain ⟨wn2, hwn⟩ : ∃ wn2 : Nat, (wn2 : Int) = xa % (n : Int) := ⟨(xa % (n : Int)).toNat, by have := Int.emod_nonneg xa (b := (n : Int)) (by omega); omega⟩
      have hwl : (wn2 : Int) < (n : Int) := by rw [hwn]; exact Int.emod_lt_of_pos _ (by omega)
      rw [← hwn]
      obtain ⟨val, hval⟩ : ∃ val : Int, val = 7000 + 40 * xb := ⟨_, rfl⟩
      rw [← hval]
      have HXX := Lib.hid (show (0 ≤ (wn2 : Int) ∧ (wn2 : Int) < n) ∧ (0 ≤ val ∧ val ≤ 30000) ∧ (0 ≤ xc ∧ xc ≤ 30000) by omega)
      clear hwn hval hwl k1 k2 k3 k4 k5 k6
      refine wpAnyZ_one (i := 26) (o := { dst := some 67, op := _, type := _, pos := _, after := _, guard := _ }) (by kernel_rfl) rfl (by rfl) (fun K1 hK1 => ?_)
      have HK1 := Lib.hid hK1; clear hK1
      go_simp
      have hcN := cell_newL (W := wq) (xs := encS ⟨wn2, val, xc⟩) (t := 82) rfl
      change ∀ j u, _ → (wq.alloc (.cells #[.int .i64 wn2, .int .i64 val, .int .i64 xc] 82)).cell? _ = _ at hcN
      have hBs := B.size
      have hSM : ∀ W' : World, (∀ j, j < wq.heap.size → (Value.slice aq (ss.length + k) cq).ownBlock ≠ some j → W'.heap[j]? = wq.heap[j]?) → (fun U : World => U.cell? ⟨g7, 3, none⟩ = some (.slice aq (ss.length + k) cq) ∧ U.cell? ⟨g7, 0, none⟩ = some (.int .i64 n) ∧ (U.cell? ⟨bs, os + k * 3, none⟩ = some (.int .u8 xa) ∧ U.cell? ⟨bs, os + k * 3 + 1, none⟩ = some (.int .u8 xb) ∧ U.cell? ⟨bs, os + k * 3 + 2, none⟩ = some (.int .u8 xc))) W' := fun W' hh => by
        have t1 : ∀ (p : Addr) (u : Value), p.block < wq.heap.size → (Value.slice aq (ss.length + k) cq).ownBlock ≠ some p.block → wq.cell? p = some u → W'.cell? p = some u := fun p u h1 h2 h3 => (World.cell?_of_block (w := wq) (a := p) (hh _ h1 h2)).trans h3
        have nb : (Value.slice aq (ss.length + k) cq).ownBlock ≠ some bs := fun e => by have := (ro.lt _ e).1; omega
        exact ⟨t1 ⟨g7, 3, none⟩ _ lg7 (own_ne ro b7 (by decide)) hS0.1, t1 ⟨g7, 0, none⟩ _ lg7 (own_ne ro b7 (by decide)) hS0.2.1, t1 ⟨bs, os + k * 3, none⟩ _ (by simp; omega) nb hS0.2.2.1, t1 ⟨bs, os + k * 3 + 1, none⟩ _ (by simp; omega) nb hS0.2.2.2.1, t1 ⟨bs, os + k * 3 + 2, none⟩ _ (by simp; omega) nb hS0.2.2.2.2⟩
      have hS1 := hSM (wq.alloc (.cells #[.int .i64 wn2, .int .i64 val, .int .i64 xc] 82)) (fun j hj _ => heap_oldI hj)
      refine HK1.out _ _ (fun _ => hS1) ?_
      clear HK1 K1
      try simp only [Act.put, List.setIfInBounds_toArray, List.set_cons_zero, List.set_cons_succ]
      refine wpAnyZ_one (i := 27) (o := { dst := some 68, op := _, type := _, pos := _, after := _, guard := _ }) (by kernel_rfl) rfl (by rfl) (fun K1 hK1 => ?_)
      have HK1 := Lib.hid hK1; clear hK1
      have hk3' : k < 3 := by have := HNN.out; omega
      refine oper_append_own _ _ 24 rfl (w.heap.size + 2) 82 i82 (.agg #[.int .i64 0, .int .i64 0, .int .i64 0]) 3 24 Try.underlying24 HI2.out.1 HI2.out.2.1 HI2.out.2.2.1 HI2.out.2.2.2 rfl (by decide) _ _ _ rfl (ro.alloc _) ⟨wq.heap.size, 0, none⟩ 1 1 (encS ⟨wn2, val, xc⟩) rfl rfl hcN (by intro u hu; simp [encS] at hu; rcases hu with rfl | rfl | rfl <;> rfl) (Nat.le_trans (by omega : ss.length + k + 1 ≤ 300) (by decide)) (by omega) (by rw [World.size_alloc]; omega) ?_
      intro v6 w6 r1 r2
      obtain ⟨a6, c6, rfl⟩ := form_of r1
      obtain ⟨hk6, hs6, ee1, ee2, ee3⟩ := append_same1 ro r2
      have hS6 := hSM w6 hk6
      have d7 := (hk6 g7 lg7 (own_ne ro b7 (by decide))).trans b7
      have d80 := (hk6 (w.heap.size + 1) (lt_blk b80) (own_ne ro b80 (by decide))).trans b80
      have hB6 : Below w.heap.size w w6 := ⟨ee1.trans B.os, ee2.trans B.tape, ee3.trans B.output, by omega, fun b hb => (hk6 b (by omega) (fun e => by have := (ro.lt _ e).1; omega)).trans (B.block b hb)⟩
      refine HK1.out _ _ (fun _ => hS6) ?_
      clear HK1 K1 hS0 hS1 hSM
      have hS0 := hS6
      clear hS6
      try simp only [Act.put, List.setIfInBounds_toArray, List.set_cons_zero, List.set_cons_succ]
      refine wpAnyZ_take (i := 28) (oi := { dst := some 69, op := _, type := _, pos := _, after := _, guard := none }) (v := ?_) rfl (by kernel_rfl) (by kernel_rfl) (by kernel_rfl) (fun _ _ _ h => h) (Or.inl ⟨by rfl, ?_⟩) hS0 ?_
      rotate_left
      · intro U hU
        go_simp
        all_goals with_reducible rfl
      simp only [Act.put, List.setIfInBounds_toArray, List.set_cons_zero, List.set_cons_succ]
      refine wpAnyZ_last (o := { dst := none, op := _, type := _, pos := _, after := _, guard := _ }) (by kernel_rfl) (by kernel_rfl) rfl (by rfl) (fun K1 hK1 => ?_)
      have HK1 := Lib.hid hK1; clear hK1
      have e1 := hS0.1
      have ef := free_blk (i := 3) d7
      go_simp
      refine HK1.out _ _ ?_
      clear HK1 K1
      simp only [Exit.then, Exit.inBlock]
      refine HK0.out _ _ ?_
      clear HK0
      have n7 : (w6.setCell ⟨g7, 3, none⟩ (.slice a6 (ss.length + k + 1) c6)).heap[g7]? = some (.cells #[.int .i64 n, .int .i64 lo, .int .i64 hi, .slice a6 (ss.length + k + 1) c6] 26 (0, 0)) := (heap_set_blk d7).trans rfl
      have n80 := (heap_set_other (v := (.slice a6 (ss.length + k + 1) c6)) (b' := g7) (i := 3) (show w.heap.size + 1 ≠ g7 by omega)).trans d80
      have nr := row_set_other (b := g7) (i := 3) (x := (.slice a6 (ss.length + k + 1) c6)) r1 (own_ne r1 d7 (by decide))
      have nB := hB6.setCell (p := ⟨g7, 3, none⟩) (show w.heap.size ≤ g7 by omega) (.slice a6 (ss.length + k + 1) c6)
      have nW : w.heap.size + 2 ≤ (w6.setCell ⟨g7, 3, none⟩ (.slice a6 (ss.length + k + 1) c6)).heap.size := by rw [World.size_setCell]; omega
      have e8 : (ss ++ (ex ++ [(⟨wn2, val, xc⟩ : Smp)])).flatMap encS = (ss ++ ex).flatMap encS ++ encS ⟨wn2, val, xc⟩ := by simp
      rw [← e8] at nr
      have HEX2 : Hid ((ex ++ [(⟨wn2, val, xc⟩ : Smp)]).length = k + 1 ∧ ∀ s ∈ ex ++ [(⟨wn2, val, xc⟩ : Smp)], (0 ≤ s.week ∧ s.week < n) ∧ (0 ≤ s.val ∧ s.val ≤ 30000) ∧ (0 ≤ s.off ∧ s.off ≤ 30000)) := Lib.hid (by
        refine ⟨by simp [HEX.out.1], fun s hs => ?_⟩
        rcases List.mem_append.1 hs with h | h
        · exact HEX.out.2 s h
        · have : s = ⟨wn2, val, xc⟩ := by simpa using h
          subst this
          exact HXX.out)
      clear hS0 e1 ef d7 d80 r1 r2 hk6 hB6 e8
      generalize World.setCell _ _ _ = w9 at *
      go_wp2
      go_roundw
      case rel => exact ⟨k + 1, _, _, by omega, by go_num, HEX2, n7, n80, nr, nB, nW⟩
      case measure => simp [intOf]; omega
    · have hkk : k = N := by omega
      have hVA2 := val_append HVA.out (ex := ex) (by rw [HEX.out.1]; have := HNN.out; omega) HEX.out.2
      have hV2 : SlS wr (.slice aq (ss.length + k) cq) (ss ++ ex) := slG_own encS_len ro (by rw [List.length_append, HEX.out.1]) (by rw [List.length_append, HEX.out.1]; have := HNN.out; omega)
      have HV := Lib.hid hV2
      have HVA2 := Lib.hid hVA2
      obtain ⟨m2, hm2⟩ : ∃ m2, m2 = ss.length + k := ⟨_, rfl⟩
      rw [← hm2] at b7 HV
      clear hV2 hVA2
      by_cases hkw : (k : Int) < (wr0.length : Int)
      · have hk3 : ¬ (k : Int) < 3 := by have := HNN.out; omega
        clear hm2 hkk
        go_wp2
        refine HK.out _ _ ?_; clear HK
        generalize ss ++ ex = S2 at *
        clear ro HEX
        obtain ⟨w5, hw5⟩ : ∃ w5, w5 = wr := ⟨_, rfl⟩
        subst hw5
        have d0 := cell_blk (i := 0) b7
        have y0 := cell_blk (i := 0) b80
        have y1 := cell_blk (i := 1) b80
        have y2 := cell_blk (i := 2) b80
        simp only [List.getElem?_toArray, List.getElem?_cons_zero, List.getElem?_cons_succ] at d0 y0 y1 y2
        have k1 := c33 (q := ya) (by omega)
        have k2 := d33 hya.1 (n : Int)
        have k3 := c33 (q := yb) (by omega)
        have k4 := d33 hyb.1 (n : Int)
        have k5 := c33 (q := yc) (by omega)
        have k6 := d33 hyc.1 (n : Int)
        have hm0 : ¬ (n : Int) = 0 := by omega
        have hm0' : ¬ n = 0 := by omega
        have f0 := fun X : Ab w5.heap.size w5 => (X.ok.cell (p := ⟨g7, 0, none⟩) (lt_blk b7)).trans d0
        have p0 := fun X : Ab w5.heap.size w5 => (X.ok.cell (p := ⟨w.heap.size + 1, 0, none⟩) (lt_blk b80)).trans y0
        have p1 := fun X : Ab w5.heap.size w5 => (X.ok.cell (p := ⟨w.heap.size + 1, 1, none⟩) (lt_blk b80)).trans y1
        have p2 := fun X : Ab w5.heap.size w5 => (X.ok.cell (p := ⟨w.heap.size + 1, 2, none⟩) (lt_blk b80)).trans y2
        clear d0 y0 y1 y2
        refine wp_seq_k (fun K hK => ?_)
        have HK := Lib.hid hK; clear hK
        refine wp_region_ab_tail 18 w5.heap.size w5 (by kernel_rfl) (by kernel_rfl) (Below.refl _ _) ?_
        simp only [List.take_succ_cons, List.take_zero, List.drop_succ_cons, List.drop_zero]
        unfold AbC at *
        repeat go_big_quiet_step (fail)
        refine wpQuiet_nil ?_
        rintro W' ⟨X, rfl⟩
        have hXok := X.ok
        generalize X.val = V at *
        replace b7 := blk_keep b7 hXok
        replace HV := Lib.hid (HV.out.below hXok (Nat.le_refl _))
        replace B := btr B hXok (Nat.le_refl _)
        have hxa : 0 ≤ ya % (n : Int) ∧ ya % (n : Int) < n := ⟨Int.emod_nonneg _ (by omega), Int.emod_lt_of_pos _ (by omega)⟩
        have hxb : 0 ≤ yb % (n : Int) ∧ yb % (n : Int) < n := ⟨Int.emod_nonneg _ (by omega), Int.emod_lt_of_pos _ (by omega)⟩
        have hxc : 0 ≤ yc % (n : Int) ∧ yc % (n : Int) < n := ⟨Int.emod_nonneg _ (by omega), Int.emod_lt_of_pos _ (by omega)⟩
        clear f0 p0 p1 p2 k1 k2 k3 k4 k5 k6 b80 hXok X
        generalize ya % (n : Int) = xa at *
        generalize yb % (n : Int) = xb at *
        generalize yc % (n : Int) = xc at *
        have hPC := proof_cases HVA2.out hxa hxb hxc
        have HPC := Lib.hid hPC
        clear hPC hxa hxb hxc
        go_wp2
        refine HK.out _ _ ?_; clear HK K
        generalize hw10 : World.alloc _ _ = w10
        have HX : Hid (SlI w10 (.slice (some ⟨V.heap.size, 0, none⟩) 3 3) [xa, xb, xc]) := Lib.hid (by rw [← hw10]; exact slI_new (xs := [xa, xb, xc]) (by simp) (Nat.le_refl _) (heap_newI rfl))
        obtain ⟨-, hb10, -⟩ := blk1 hw10
        clear hw10
        replace b7 := blk_keep b7 hb10
        replace HV := Lib.hid (HV.out.below hb10 (Nat.le_refl _))
        replace B := btr B hb10 (Nat.le_refl _)
        clear hb10
        rcases HPC.out with ⟨hcl, hp, hve⟩ | ⟨hcl, hp, hve | hve⟩
        · have HCL := Lib.hid hcl
          have HP := Lib.hid hp
          have HVE := Lib.hid hve
          clear hcl hp hve
          have hc := verify_any n lo hi _ _ S2 [xa, xb, xc] _ HV.out HX.out
          rw [HVE.out] at hc
          refine wp_seq_k (fun K hK => ?_)
          have HK := Lib.hid hK; clear hK
          go_wp2_with (first | (refine wpList_load_blk rfl 26 _ rfl _ rfl b7 Try.underlying26 rfl size26 rfl ?_) | (go_at_call 22; refine hc.mono ?_; rintro e wc ⟨rfl, hb⟩))
          refine HK.out _ _ ?_; clear HK K
          replace b7 := blk_keep b7 hb
          replace HV := Lib.hid (HV.out.below hb (Nat.le_refl _))
          replace B := btr B hb (Nat.le_refl _)
          clear hb
          clear hc
          have hc := clashF_any n lo hi _ S2 _ HV.out
          rw [HCL.out] at hc
          refine wp_seq_k (fun K hK => ?_)
          have HK := Lib.hid hK; clear hK
          go_wp2_with (first | (refine wpList_load_blk rfl 26 _ rfl _ rfl b7 Try.underlying26 rfl size26 rfl ?_) | (go_at_call 20; refine hc.mono ?_; rintro e wc ⟨q, rfl, hq, hb⟩; have hq2 : q = .slice none 0 0 := (by rcases hq with ⟨h, -⟩ | ⟨-, h⟩; exact absurd (h.symm.trans HCL.out) (by decide); exact h); subst hq2))
          refine HK.out _ _ ?_; clear HK K
          replace b7 := blk_keep b7 hb
          replace HV := Lib.hid (HV.out.below hb (Nat.le_refl _))
          replace B := btr B hb (Nat.le_refl _)
          clear hb
          clear hc
          have hc := known_any n lo hi _ S2 _ HV.out
          rw [HP.out] at hc
          refine wp_seq_k (fun K hK => ?_)
          have HK := Lib.hid hK; clear hK
          go_wp2_with (first | (refine wpList_load_blk rfl 26 _ rfl _ rfl b7 Try.underlying26 rfl size26 rfl ?_) | (go_at_call 14; refine hc.mono ?_; rintro e wc ⟨q1, rfl, -, hb⟩))
          refine HK.out _ _ ?_; clear HK K
          replace b7 := blk_keep b7 hb
          replace HV := Lib.hid (HV.out.below hb (Nat.le_refl _))
          replace B := btr B hb (Nat.le_refl _)
          clear hb
          clear hc
          have hc := peaks_any n lo hi _ S2 _ HV.out
          rw [HP.out] at hc
          refine wp_seq_k (fun K hK => ?_)
          have HK := Lib.hid hK; clear hK
          go_wp2_with (first | (refine wpList_load_blk rfl 26 _ rfl _ rfl b7 Try.underlying26 rfl size26 rfl ?_) | (go_at_call 24; refine hc.mono ?_; rintro e wc ⟨q2, rfl, -, hb⟩))
          refine HK.out _ _ ?_; clear HK K
          replace b7 := blk_keep b7 hb
          replace HV := Lib.hid (HV.out.below hb (Nat.le_refl _))
          replace B := btr B hb (Nat.le_refl _)
          clear hb
          clear hc
          have hc := cut_any n lo hi _ S2 _ HV.out
          rw [HP.out] at hc
          refine wp_seq_k (fun K hK => ?_)
          have HK := Lib.hid hK; clear hK
          go_wp2_with (first | (refine wpList_load_blk rfl 26 _ rfl _ rfl b7 Try.underlying26 rfl size26 rfl ?_) | (go_at_call 31; refine hc.mono ?_; rintro e wc ⟨rfl, hb⟩))
          refine HK.out _ _ ?_; clear HK K
          replace b7 := blk_keep b7 hb
          replace HV := Lib.hid (HV.out.below hb (Nat.le_refl _))
          replace B := btr B hb (Nat.le_refl _)
          clear hb
          clear hc
          go_wp2_with (go_at_call 13; refine (works_any _).mono ?_; rintro e w9 ⟨rfl, hb9⟩)
          go_ret
          exact ⟨rfl, btr B hb9 (Nat.le_refl _)⟩
        · have HCL := Lib.hid hcl
          have HP := Lib.hid hp
          have HVE := Lib.hid hve
          clear hcl hp hve
          have hc := verify_any n lo hi _ _ S2 [xa, xb, xc] _ HV.out HX.out
          rw [HVE.out] at hc
          refine wp_seq_k (fun K hK => ?_)
          have HK := Lib.hid hK; clear hK
          go_wp2_with (first | (refine wpList_load_blk rfl 26 _ rfl _ rfl b7 Try.underlying26 rfl size26 rfl ?_) | (go_at_call 22; refine hc.mono ?_; rintro e wc ⟨rfl, hb⟩))
          refine HK.out _ _ ?_; clear HK K
          replace b7 := blk_keep b7 hb
          replace HV := Lib.hid (HV.out.below hb (Nat.le_refl _))
          replace B := btr B hb (Nat.le_refl _)
          clear hb
          clear hc
          have hc := clashF_any n lo hi _ S2 _ HV.out
          rw [HCL.out] at hc
          refine wp_seq_k (fun K hK => ?_)
          have HK := Lib.hid hK; clear hK
          go_wp2_with (first | (refine wpList_load_blk rfl 26 _ rfl _ rfl b7 Try.underlying26 rfl size26 rfl ?_) | (go_at_call 20; refine hc.mono ?_; rintro e wc ⟨q, rfl, hq, hb⟩; obtain ⟨xs, hxs, -, hxv⟩ := clR_ver hq HCL.out; obtain ⟨ax, cx2, rfl, -, -, -⟩ := id hxs))
          refine HK.out _ _ ?_; clear HK K
          replace b7 := blk_keep b7 hb
          replace HV := Lib.hid (HV.out.below hb (Nat.le_refl _))
          replace B := btr B hb (Nat.le_refl _)
          clear hb
          clear hc
          have HXS := Lib.hid hxs
          have HXV := Lib.hid hxv
          clear hq hxs hxv
          have hc := known_any n lo hi _ S2 _ HV.out
          rw [HP.out] at hc
          refine wp_seq_k (fun K hK => ?_)
          have HK := Lib.hid hK; clear hK
          go_wp2_with (first | (refine wpList_load_blk rfl 26 _ rfl _ rfl b7 Try.underlying26 rfl size26 rfl ?_) | (go_at_call 14; refine hc.mono ?_; rintro e wc ⟨q1, rfl, -, hb⟩))
          refine HK.out _ _ ?_; clear HK K
          replace b7 := blk_keep b7 hb
          replace HV := Lib.hid (HV.out.below hb (Nat.le_refl _))
          replace HXS := Lib.hid (HXS.out.below hb (Nat.le_refl _))
          replace B := btr B hb (Nat.le_refl _)
          clear hb
          clear hc
          have hc := peaks_any n lo hi _ S2 _ HV.out
          rw [HP.out] at hc
          refine wp_seq_k (fun K hK => ?_)
          have HK := Lib.hid hK; clear hK
          go_wp2_with (first | (refine wpList_load_blk rfl 26 _ rfl _ rfl b7 Try.underlying26 rfl size26 rfl ?_) | (go_at_call 24; refine hc.mono ?_; rintro e wc ⟨q2, rfl, -, hb⟩))
          refine HK.out _ _ ?_; clear HK K
          replace b7 := blk_keep b7 hb
          replace HV := Lib.hid (HV.out.below hb (Nat.le_refl _))
          replace HXS := Lib.hid (HXS.out.below hb (Nat.le_refl _))
          replace B := btr B hb (Nat.le_refl _)
          clear hb
          clear hc
          have hc := cut_any n lo hi _ S2 _ HV.out
          rw [HP.out] at hc
          refine wp_seq_k (fun K hK => ?_)
          have HK := Lib.hid hK; clear hK
          go_wp2_with (first | (refine wpList_load_blk rfl 26 _ rfl _ rfl b7 Try.underlying26 rfl size26 rfl ?_) | (go_at_call 31; refine hc.mono ?_; rintro e wc ⟨rfl, hb⟩))
          refine HK.out _ _ ?_; clear HK K
          replace b7 := blk_keep b7 hb
          replace HV := Lib.hid (HV.out.below hb (Nat.le_refl _))
          replace HXS := Lib.hid (HXS.out.below hb (Nat.le_refl _))
          replace B := btr B hb (Nat.le_refl _)
          clear hb
          clear hc
          have hc := verify_any n lo hi _ _ S2 xs _ HV.out HXS.out
          rw [HXV.out] at hc
          refine wp_seq_k (fun K hK => ?_)
          have HK := Lib.hid hK; clear hK
          go_wp2
          refine HK.out _ _ ?_; clear HK K
          go_wp2_with (first | (refine wpList_load_blk rfl 26 _ rfl _ rfl b7 Try.underlying26 rfl size26 rfl ?_) | (go_at_call 22; refine hc.mono ?_; rintro e w8 ⟨rfl, hb8⟩) | (go_at_call 13; refine (works_any _).mono ?_; rintro e w9 ⟨rfl, hb9⟩))
          go_ret
          exact ⟨rfl, btr (btr B hb8 (Nat.le_refl _)) hb9 (Nat.le_refl _)⟩
        · have HCL := Lib.hid hcl
          have HP := Lib.hid hp
          have HVE := Lib.hid hve
          clear hcl hp hve
          have hc := verify_any n lo hi _ _ S2 [xa, xb, xc] _ HV.out HX.out
          rw [HVE.out] at hc
          refine wp_seq_k (fun K hK => ?_)
          have HK := Lib.hid hK; clear hK
          go_wp2_with (first | (refine wpList_load_blk rfl 26 _ rfl _ rfl b7 Try.underlying26 rfl size26 rfl ?_) | (go_at_call 22; refine hc.mono ?_; rintro e wc ⟨rfl, hb⟩))
          refine HK.out _ _ ?_; clear HK K
          replace b7 := blk_keep b7 hb
          replace HV := Lib.hid (HV.out.below hb (Nat.le_refl _))
          replace B := btr B hb (Nat.le_refl _)
          clear hb
          clear hc
          have hc := clashF_any n lo hi _ S2 _ HV.out
          rw [HCL.out] at hc
          refine wp_seq_k (fun K hK => ?_)
          have HK := Lib.hid hK; clear hK
          go_wp2_with (first | (refine wpList_load_blk rfl 26 _ rfl _ rfl b7 Try.underlying26 rfl size26 rfl ?_) | (go_at_call 20; refine hc.mono ?_; rintro e wc ⟨q, rfl, hq, hb⟩; obtain ⟨xs, hxs, -, hxv⟩ := clR_ver hq HCL.out; obtain ⟨ax, cx2, rfl, -, -, -⟩ := id hxs))
          refine HK.out _ _ ?_; clear HK K
          replace b7 := blk_keep b7 hb
          replace HV := Lib.hid (HV.out.below hb (Nat.le_refl _))
          replace B := btr B hb (Nat.le_refl _)
          clear hb
          clear hc
          have HXS := Lib.hid hxs
          have HXV := Lib.hid hxv
          clear hq hxs hxv
          have hc := known_any n lo hi _ S2 _ HV.out
          rw [HP.out] at hc
          refine wp_seq_k (fun K hK => ?_)
          have HK := Lib.hid hK; clear hK
          go_wp2_with (first | (refine wpList_load_blk rfl 26 _ rfl _ rfl b7 Try.underlying26 rfl size26 rfl ?_) | (go_at_call 14; refine hc.mono ?_; rintro e wc ⟨q1, rfl, -, hb⟩))
          refine HK.out _ _ ?_; clear HK K
          replace b7 := blk_keep b7 hb
          replace HV := Lib.hid (HV.out.below hb (Nat.le_refl _))
          replace HXS := Lib.hid (HXS.out.below hb (Nat.le_refl _))
          replace B := btr B hb (Nat.le_refl _)
          clear hb
          clear hc
          have hc := peaks_any n lo hi _ S2 _ HV.out
          rw [HP.out] at hc
          refine wp_seq_k (fun K hK => ?_)
          have HK := Lib.hid hK; clear hK
          go_wp2_with (first | (refine wpList_load_blk rfl 26 _ rfl _ rfl b7 Try.underlying26 rfl size26 rfl ?_) | (go_at_call 24; refine hc.mono ?_; rintro e wc ⟨q2, rfl, -, hb⟩))
          refine HK.out _ _ ?_; clear HK K
          replace b7 := blk_keep b7 hb
          replace HV := Lib.hid (HV.out.below hb (Nat.le_refl _))
          replace HXS := Lib.hid (HXS.out.below hb (Nat.le_refl _))
          replace B := btr B hb (Nat.le_refl _)
          clear hb
          clear hc
          have hc := cut_any n lo hi _ S2 _ HV.out
          rw [HP.out] at hc
          refine wp_seq_k (fun K hK => ?_)
          have HK := Lib.hid hK; clear hK
          go_wp2_with (first | (refine wpList_load_blk rfl 26 _ rfl _ rfl b7 Try.underlying26 rfl size26 rfl ?_) | (go_at_call 31; refine hc.mono ?_; rintro e wc ⟨rfl, hb⟩))
          refine HK.out _ _ ?_; clear HK K
          replace b7 := blk_keep b7 hb
          replace HV := Lib.hid (HV.out.below hb (Nat.le_refl _))
          replace HXS := Lib.hid (HXS.out.below hb (Nat.le_refl _))
          replace B := btr B hb (Nat.le_refl _)
          clear hb
          clear hc
          have hc := verify_any n lo hi _ _ S2 xs _ HV.out HXS.out
          rw [HXV.out] at hc
          refine wp_seq_k (fun K hK => ?_)
          have HK := Lib.hid hK; clear hK
          go_wp2
          refine HK.out _ _ ?_; clear HK K
          go_wp2_with (first | (refine wpList_load_blk rfl 26 _ rfl _ rfl b7 Try.underlying26 rfl size26 rfl ?_) | (go_at_call 22; refine hc.mono ?_; rintro e w8 ⟨rfl, hb8⟩) | (go_at_call 13; refine (works_any _).mono ?_; rintro e w9 ⟨rfl, hb9⟩))
          go_ret
          exact ⟨rfl, btr (btr B hb8 (Nat.le_refl _)) hb9 (Nat.le_refl _)⟩
      · clear hm2 hkk
        go_wp2
        refine HK.out _ _ ?_; clear HK
        generalize ss ++ ex = S2 at *
        clear ro HEX
        obtain ⟨w5, hw5⟩ : ∃ w5, w5 = wr := ⟨_, rfl⟩
        subst hw5
        have d0 := cell_blk (i := 0) b7
        have y0 := cell_blk (i := 0) b80
        have y1 := cell_blk (i := 1) b80
        have y2 := cell_blk (i := 2) b80
        simp only [List.getElem?_toArray, List.getElem?_cons_zero, List.getElem?_cons_succ] at d0 y0 y1 y2
        have k1 := c33 (q := ya) (by omega)
        have k2 := d33 hya.1 (n : Int)
        have k3 := c33 (q := yb) (by omega)
        have k4 := d33 hyb.1 (n : Int)
        have k5 := c33 (q := yc) (by omega)
        have k6 := d33 hyc.1 (n : Int)
        have hm0 : ¬ (n : Int) = 0 := by omega
        have hm0' : ¬ n = 0 := by omega
        have f0 := fun X : Ab w5.heap.size w5 => (X.ok.cell (p := ⟨g7, 0, none⟩) (lt_blk b7)).trans d0
        have p0 := fun X : Ab w5.heap.size w5 => (X.ok.cell (p := ⟨w.heap.size + 1, 0, none⟩) (lt_blk b80)).trans y0
        have p1 := fun X : Ab w5.heap.size w5 => (X.ok.cell (p := ⟨w.heap.size + 1, 1, none⟩) (lt_blk b80)).trans y1
        have p2 := fun X : Ab w5.heap.size w5 => (X.ok.cell (p := ⟨w.heap.size + 1, 2, none⟩) (lt_blk b80)).trans y2
        clear d0 y0 y1 y2
        refine wp_seq_k (fun K hK => ?_)
        have HK := Lib.hid hK; clear hK
        refine wp_region_ab_tail 18 w5.heap.size w5 (by kernel_rfl) (by kernel_rfl) (Below.refl _ _) ?_
        simp only [List.take_succ_cons, List.take_zero, List.drop_succ_cons, List.drop_zero]
        unfold AbC at *
        repeat go_big_quiet_step (fail)
        refine wpQuiet_nil ?_
        rintro W' ⟨X, rfl⟩
        have hXok := X.ok
        generalize X.val = V at *
        replace b7 := blk_keep b7 hXok
        replace HV := Lib.hid (HV.out.below hXok (Nat.le_refl _))
        replace B := btr B hXok (Nat.le_refl _)
        have hxa : 0 ≤ ya % (n : Int) ∧ ya % (n : Int) < n := ⟨Int.emod_nonneg _ (by omega), Int.emod_lt_of_pos _ (by omega)⟩
        have hxb : 0 ≤ yb % (n : Int) ∧ yb % (n : Int) < n := ⟨Int.emod_nonneg _ (by omega), Int.emod_lt_of_pos _ (by omega)⟩
        have hxc : 0 ≤ yc % (n : Int) ∧ yc % (n : Int) < n := ⟨Int.emod_nonneg _ (by omega), Int.emod_lt_of_pos _ (by omega)⟩
        clear f0 p0 p1 p2 k1 k2 k3 k4 k5 k6 b80 hXok X
        generalize ya % (n : Int) = xa at *
        generalize yb % (n : Int) = xb at *
        generalize yc % (n : Int) = xc at *
        have hPC := proof_cases HVA2.out hxa hxb hxc
        have HPC := Lib.hid hPC
        clear hPC hxa hxb hxc
        go_wp2
        refine HK.out _ _ ?_; clear HK K
        generalize hw10 : World.alloc _ _ = w10
        have HX : Hid (SlI w10 (.slice (some ⟨V.heap.size, 0, none⟩) 3 3) [xa, xb, xc]) := Lib.hid (by rw [← hw10]; exact slI_new (xs := [xa, xb, xc]) (by simp) (Nat.le_refl _) (heap_newI rfl))
        obtain ⟨-, hb10, -⟩ := blk1 hw10
        clear hw10
        replace b7 := blk_keep b7 hb10
        replace HV := Lib.hid (HV.out.below hb10 (Nat.le_refl _))
        replace B := btr B hb10 (Nat.le_refl _)
        clear hb10
        rcases HPC.out with ⟨hcl, hp, hve⟩ | ⟨hcl, hp, hve | hve⟩
        · have HCL := Lib.hid hcl
          have HP := Lib.hid hp
          have HVE := Lib.hid hve
          clear hcl hp hve
          have hc := verify_any n lo hi _ _ S2 [xa, xb, xc] _ HV.out HX.out
          rw [HVE.out] at hc
          refine wp_seq_k (fun K hK => ?_)
          have HK := Lib.hid hK; clear hK
          go_wp2_with (first | (refine wpList_load_blk rfl 26 _ rfl _ rfl b7 Try.underlying26 rfl size26 rfl ?_) | (go_at_call 22; refine hc.mono ?_; rintro e wc ⟨rfl, hb⟩))
          refine HK.out _ _ ?_; clear HK K
          replace b7 := blk_keep b7 hb
          replace HV := Lib.hid (HV.out.below hb (Nat.le_refl _))
          replace B := btr B hb (Nat.le_refl _)
          clear hb
          clear hc
          have hc := clashF_any n lo hi _ S2 _ HV.out
          rw [HCL.out] at hc
          refine wp_seq_k (fun K hK => ?_)
          have HK := Lib.hid hK; clear hK
          go_wp2_with (first | (refine wpList_load_blk rfl 26 _ rfl _ rfl b7 Try.underlying26 rfl size26 rfl ?_) | (go_at_call 20; refine hc.mono ?_; rintro e wc ⟨q, rfl, hq, hb⟩; have hq2 : q = .slice none 0 0 := (by rcases hq with ⟨h, -⟩ | ⟨-, h⟩; exact absurd (h.symm.trans HCL.out) (by decide); exact h); subst hq2))
          refine HK.out _ _ ?_; clear HK K
          replace b7 := blk_keep b7 hb
          replace HV := Lib.hid (HV.out.below hb (Nat.le_refl _))
          replace B := btr B hb (Nat.le_refl _)
          clear hb
          clear hc
          have hc := known_any n lo hi _ S2 _ HV.out
          rw [HP.out] at hc
          refine wp_seq_k (fun K hK => ?_)
          have HK := Lib.hid hK; clear hK
          go_wp2_with (first | (refine wpList_load_blk rfl 26 _ rfl _ rfl b7 Try.underlying26 rfl size26 rfl ?_) | (go_at_call 14; refine hc.mono ?_; rintro e wc ⟨q1, rfl, -, hb⟩))
          refine HK.out _ _ ?_; clear HK K
          replace b7 := blk_keep b7 hb
          replace HV := Lib.hid (HV.out.below hb (Nat.le_refl _))
          replace B := btr B hb (Nat.le_refl _)
          clear hb
          clear hc
          have hc := peaks_any n lo hi _ S2 _ HV.out
          rw [HP.out] at hc
          refine wp_seq_k (fun K hK => ?_)
          have HK := Lib.hid hK; clear hK
          go_wp2_with (first | (refine wpList_load_blk rfl 26 _ rfl _ rfl b7 Try.underlying26 rfl size26 rfl ?_) | (go_at_call 24; refine hc.mono ?_; rintro e wc ⟨q2, rfl, -, hb⟩))
          refine HK.out _ _ ?_; clear HK K
          replace b7 := blk_keep b7 hb
          replace HV := Lib.hid (HV.out.below hb (Nat.le_refl _))
          replace B := btr B hb (Nat.le_refl _)
          clear hb
          clear hc
          have hc := cut_any n lo hi _ S2 _ HV.out
          rw [HP.out] at hc
          refine wp_seq_k (fun K hK => ?_)
          have HK := Lib.hid hK; clear hK
          go_wp2_with (first | (refine wpList_load_blk rfl 26 _ rfl _ rfl b7 Try.underlying26 rfl size26 rfl ?_) | (go_at_call 31; refine hc.mono ?_; rintro e wc ⟨rfl, hb⟩))
          refine HK.out _ _ ?_; clear HK K
          replace b7 := blk_keep b7 hb
          replace HV := Lib.hid (HV.out.below hb (Nat.le_refl _))
          replace B := btr B hb (Nat.le_refl _)
          clear hb
          clear hc
          go_wp2_with (go_at_call 13; refine (works_any _).mono ?_; rintro e w9 ⟨rfl, hb9⟩)
          go_ret
          exact ⟨rfl, btr B hb9 (Nat.le_refl _)⟩
        · have HCL := Lib.hid hcl
          have HP := Lib.hid hp
          have HVE := Lib.hid hve
          clear hcl hp hve
          have hc := verify_any n lo hi _ _ S2 [xa, xb, xc] _ HV.out HX.out
          rw [HVE.out] at hc
          refine wp_seq_k (fun K hK => ?_)
          have HK := Lib.hid hK; clear hK
          go_wp2_with (first | (refine wpList_load_blk rfl 26 _ rfl _ rfl b7 Try.underlying26 rfl size26 rfl ?_) | (go_at_call 22; refine hc.mono ?_; rintro e wc ⟨rfl, hb⟩))
          refine HK.out _ _ ?_; clear HK K
          replace b7 := blk_keep b7 hb
          replace HV := Lib.hid (HV.out.below hb (Nat.le_refl _))
          replace B := btr B hb (Nat.le_refl _)
          clear hb
          clear hc
          have hc := clashF_any n lo hi _ S2 _ HV.out
          rw [HCL.out] at hc
          refine wp_seq_k (fun K hK => ?_)
          have HK := Lib.hid hK; clear hK
          go_wp2_with (first | (refine wpList_load_blk rfl 26 _ rfl _ rfl b7 Try.underlying26 rfl size26 rfl ?_) | (go_at_call 20; refine hc.mono ?_; rintro e wc ⟨q, rfl, hq, hb⟩; obtain ⟨xs, hxs, -, hxv⟩ := clR_ver hq HCL.out; obtain ⟨ax, cx2, rfl, -, -, -⟩ := id hxs))
          refine HK.out _ _ ?_; clear HK K
          replace b7 := blk_keep b7 hb
          replace HV := Lib.hid (HV.out.below hb (Nat.le_refl _))
          replace B := btr B hb (Nat.le_refl _)
          clear hb
          clear hc
          have HXS := Lib.hid hxs
          have HXV := Lib.hid hxv
          clear hq hxs hxv
          have hc := known_any n lo hi _ S2 _ HV.out
          rw [HP.out] at hc
          refine wp_seq_k (fun K hK => ?_)
          have HK := Lib.hid hK; clear hK
          go_wp2_with (first | (refine wpList_load_blk rfl 26 _ rfl _ rfl b7 Try.underlying26 rfl size26 rfl ?_) | (go_at_call 14; refine hc.mono ?_; rintro e wc ⟨q1, rfl, -, hb⟩))
          refine HK.out _ _ ?_; clear HK K
          replace b7 := blk_keep b7 hb
          replace HV := Lib.hid (HV.out.below hb (Nat.le_refl _))
          replace HXS := Lib.hid (HXS.out.below hb (Nat.le_refl _))
          replace B := btr B hb (Nat.le_refl _)
          clear hb
          clear hc
          have hc := peaks_any n lo hi _ S2 _ HV.out
          rw [HP.out] at hc
          refine wp_seq_k (fun K hK => ?_)
          have HK := Lib.hid hK; clear hK
          go_wp2_with (first | (refine wpList_load_blk rfl 26 _ rfl _ rfl b7 Try.underlying26 rfl size26 rfl ?_) | (go_at_call 24; refine hc.mono ?_; rintro e wc ⟨q2, rfl, -, hb⟩))
          refine HK.out _ _ ?_; clear HK K
          replace b7 := blk_keep b7 hb
          replace HV := Lib.hid (HV.out.below hb (Nat.le_refl _))
          replace HXS := Lib.hid (HXS.out.below hb (Nat.le_refl _))
          replace B := btr B hb (Nat.le_refl _)
          clear hb
          clear hc
          have hc := cut_any n lo hi _ S2 _ HV.out
          rw [HP.out] at hc
          refine wp_seq_k (fun K hK => ?_)
          have HK := Lib.hid hK; clear hK
          go_wp2_with (first | (refine wpList_load_blk rfl 26 _ rfl _ rfl b7 Try.underlying26 rfl size26 rfl ?_) | (go_at_call 31; refine hc.mono ?_; rintro e wc ⟨rfl, hb⟩))
          refine HK.out _ _ ?_; clear HK K
          replace b7 := blk_keep b7 hb
          replace HV := Lib.hid (HV.out.below hb (Nat.le_refl _))
          replace HXS := Lib.hid (HXS.out.below hb (Nat.le_refl _))
          replace B := btr B hb (Nat.le_refl _)
          clear hb
          clear hc
          have hc := verify_any n lo hi _ _ S2 xs _ HV.out HXS.out
          rw [HXV.out] at hc
          refine wp_seq_k (fun K hK => ?_)
          have HK := Lib.hid hK; clear hK
          go_wp2
          refine HK.out _ _ ?_; clear HK K
          go_wp2_with (first | (refine wpList_load_blk rfl 26 _ rfl _ rfl b7 Try.underlying26 rfl size26 rfl ?_) | (go_at_call 22; refine hc.mono ?_; rintro e w8 ⟨rfl, hb8⟩) | (go_at_call 13; refine (works_any _).mono ?_; rintro e w9 ⟨rfl, hb9⟩))
          go_ret
          exact ⟨rfl, btr (btr B hb8 (Nat.le_refl _)) hb9 (Nat.le_refl _)⟩
        · have HCL := Lib.hid hcl
          have HP := Lib.hid hp
          have HVE := Lib.hid hve
          clear hcl hp hve
          have hc := verify_any n lo hi _ _ S2 [xa, xb, xc] _ HV.out HX.out
          rw [HVE.out] at hc
          refine wp_seq_k (fun K hK => ?_)
          have HK := Lib.hid hK; clear hK
          go_wp2_with (first | (refine wpList_load_blk rfl 26 _ rfl _ rfl b7 Try.underlying26 rfl size26 rfl ?_) | (go_at_call 22; refine hc.mono ?_; rintro e wc ⟨rfl, hb⟩))
          refine HK.out _ _ ?_; clear HK K
          replace b7 := blk_keep b7 hb
          replace HV := Lib.hid (HV.out.below hb (Nat.le_refl _))
          replace B := btr B hb (Nat.le_refl _)
          clear hb
          clear hc
          have hc := clashF_any n lo hi _ S2 _ HV.out
          rw [HCL.out] at hc
          refine wp_seq_k (fun K hK => ?_)
          have HK := Lib.hid hK; clear hK
          go_wp2_with (first | (refine wpList_load_blk rfl 26 _ rfl _ rfl b7 Try.underlying26 rfl size26 rfl ?_) | (go_at_call 20; refine hc.mono ?_; rintro e wc ⟨q, rfl, hq, hb⟩; obtain ⟨xs, hxs, -, hxv⟩ := clR_ver hq HCL.out; obtain ⟨ax, cx2, rfl, -, -, -⟩ := id hxs))
          refine HK.out _ _ ?_; clear HK K
          replace b7 := blk_keep b7 hb
          replace HV := Lib.hid (HV.out.below hb (Nat.le_refl _))
          replace B := btr B hb (Nat.le_refl _)
          clear hb
          clear hc
          have HXS := Lib.hid hxs
          have HXV := Lib.hid hxv
          clear hq hxs hxv
          have hc := known_any n lo hi _ S2 _ HV.out
          rw [HP.out] at hc
          refine wp_seq_k (fun K hK => ?_)
          have HK := Lib.hid hK; clear hK
          go_wp2_with (first | (refine wpList_load_blk rfl 26 _ rfl _ rfl b7 Try.underlying26 rfl size26 rfl ?_) | (go_at_call 14; refine hc.mono ?_; rintro e wc ⟨q1, rfl, -, hb⟩))
          refine HK.out _ _ ?_; clear HK K
          replace b7 := blk_keep b7 hb
          replace HV := Lib.hid (HV.out.below hb (Nat.le_refl _))
          replace HXS := Lib.hid (HXS.out.below hb (Nat.le_refl _))
          replace B := btr B hb (Nat.le_refl _)
          clear hb
          clear hc
          have hc := peaks_any n lo hi _ S2 _ HV.out
          rw [HP.out] at hc
          refine wp_seq_k (fun K hK => ?_)
          have HK := Lib.hid hK; clear hK
          go_wp2_with (first | (refine wpList_load_blk rfl 26 _ rfl _ rfl b7 Try.underlying26 rfl size26 rfl ?_) | (go_at_call 24; refine hc.mono ?_; rintro e wc ⟨q2, rfl, -, hb⟩))
          refine HK.out _ _ ?_; clear HK K
          replace b7 := blk_keep b7 hb
          replace HV := Lib.hid (HV.out.below hb (Nat.le_refl _))
          replace HXS := Lib.hid (HXS.out.below hb (Nat.le_refl _))
          replace B := btr B hb (Nat.le_refl _)
          clear hb
          clear hc
          have hc := cut_any n lo hi _ S2 _ HV.out
          rw [HP.out] at hc
          refine wp_seq_k (fun K hK => ?_)
          have HK := Lib.hid hK; clear hK
          go_wp2_with (first | (refine wpList_load_blk rfl 26 _ rfl _ rfl b7 Try.underlying26 rfl size26 rfl ?_) | (go_at_call 31; refine hc.mono ?_; rintro e wc ⟨rfl, hb⟩))
          refine HK.out _ _ ?_; clear HK K
          replace b7 := blk_keep b7 hb
          replace HV := Lib.hid (HV.out.below hb (Nat.le_refl _))
          replace HXS := Lib.hid (HXS.out.below hb (Nat.le_refl _))
          replace B := btr B hb (Nat.le_refl _)
          clear hb
          clear hc
          have hc := verify_any n lo hi _ _ S2 xs _ HV.out HXS.out
          rw [HXV.out] at hc
          refine wp_seq_k (fun K hK => ?_)
          have HK := Lib.hid hK; clear hK
          go_wp2
          refine HK.out _ _ ?_; clear HK K
          go_wp2_with (first | (refine wpList_load_blk rfl 26 _ rfl _ rfl b7 Try.underlying26 rfl size26 rfl ?_) | (go_at_call 22; refine hc.mono ?_; rintro e w8 ⟨rfl, hb8⟩) | (go_at_call 13; refine (works_any _).mono ?_; rintro e w9 ⟨rfl, hb9⟩))
          go_ret
          exact ⟨rfl, btr (btr B hb8 (Nat.le_refl _)) hb9 (Nat.le_refl _)⟩
end Ytgnjeefanbcbkaa
end Go.Proofs
