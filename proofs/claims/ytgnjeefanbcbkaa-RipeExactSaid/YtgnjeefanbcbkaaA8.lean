/- Fields: the greatest sweetness of a week, by loops over the bounds. -/
import Derived.Test.YtgnjeefanbcbkaaA7
open Go Go.RowKit Go.YtgnjeefanbcbkaaIt
namespace Go.Proofs
namespace Ytgnjeefanbcbkaa
theorem linesU_bd {n : Nat} {L H : Nat → Int} (hb : Bds n L H) {w : Nat} (hw : w < n) : ∀ y ∈ linesU L H n w, Bd 2000000 29 y := by
  intro y hy
  obtain ⟨i, j, h1, h2, rfl⟩ := mem_linesU.1 hy
  exact up_bd hb hw h1 (by omega) (by omega)
theorem upper_bd {n : Nat} {L H : Nat → Int} (hb : Bds n L H) {w : Nat} (hw : w < n) : Bd 2000000 29 (upperF L H n w) := small_all (whole_bd (hb.hi w hw)) (linesU_bd hb hw)
/-- The bounds by i highs' lows, and c of those of the next one. -/
def upPre (L H : Nat → Int) (x i c : Nat) : Fr := small ((List.range i).flatMap (upRow L H x) ++ (List.range c).map fun j => upT L H x i (min i x + 1 + j)) (whole (H x))
theorem upPre_step (L H : Nat → Int) (x i c : Nat) : upPre L H x i (c + 1) = least (upPre L H x i c) (upT L H x i (min i x + 1 + c)) := by
  unfold upPre
  rw [List.range_succ, List.map_append, ← List.append_assoc, List.map_singleton, small_app]
theorem upPre_row (L H : Nat → Int) (x i : Nat) : upPre L H x i (max i x - (min i x + 1)) = upPre L H x (i + 1) 0 := by
  unfold upPre
  rw [List.range_succ, List.flatMap_append]
  simp [upRow]
theorem upPre_end (L H : Nat → Int) (x n : Nat) : upPre L H x n 0 = upperF L H n x := by unfold upPre upperF linesU; simp
theorem upPre_bd {n : Nat} {L H : Nat → Int} (hb : Bds n L H) {x i c : Nat} (hx : x < n) (hi : i < n) (hc : c ≤ max i x - (min i x + 1)) : Bd 2000000 29 (upPre L H x i c) := by
  refine small_all (whole_bd (hb.hi x hx)) fun y hy => ?_
  rcases List.mem_append.1 hy with hy | hy
  · obtain ⟨a, ha, hy⟩ := List.mem_flatMap.1 hy
    exact linesU_bd hb hx y (List.mem_flatMap.2 ⟨a, by simp at ha ⊢; omega, hy⟩)
  · obtain ⟨j, hj, rfl⟩ := List.mem_map.1 hy
    have := List.mem_range.1 hj
    exact up_bd hb hx hi (by omega) (by omega)
/-- What the loops hold. -/
structure UpG (w : World) (b x p5 : Nat) (z : Fr) (W : World) : Prop where
  p2 : W.heap[w.heap.size]? = some (.cells #[.pointer (some ⟨b, 0, none⟩)] 89 (0, 0))
  p3 : W.heap[w.heap.size + 1]? = some (.cells #[.int .i64 (x : Int)] 3 (0, 0))
  p4 : W.heap[w.heap.size + 2]? = some (.cells #[.int .i64 0, .int .i64 0] 93 (0, 0))
  p5 : W.heap[p5]? = some (.cells #[.int .i64 z.o, .int .i64 z.u] 93 (0, 0))
  bl : Below w.heap.size w W
theorem UpG.bm {w W W' : World} {b x p5 : Nat} {z z' : Fr} (h : UpG w b x p5 z W) (hl : w.heap.size + 3 ≤ p5) (h5 : W'.heap[p5]? = some (.cells #[.int .i64 z'.o, .int .i64 z'.u] 93 (0, 0))) (hb : Bm p5 W.heap.size W W') : UpG w b x p5 z' W' :=
  ⟨(hb.block _ (lt_blk h.p2) (by omega)).trans h.p2, (hb.block _ (lt_blk h.p3) (by omega)).trans h.p3, (hb.block _ (lt_blk h.p4) (by omega)).trans h.p4, h5, by
    have := h.bl
    exact ⟨hb.os.trans this.os, hb.tape.trans this.tape, hb.output.trans this.output, Nat.le_trans this.size hb.size, fun k hk => (hb.block k (Nat.lt_of_lt_of_le hk this.size) (by omega)).trans (this.block k hk)⟩⟩
def fr43 (b x s p5 : Nat) (h : Int) : Act :=
  { tmps := #[.pointer (some ⟨b, 0, none⟩), .int .i64 x, .pointer (some ⟨s, 0, none⟩), .pointer (some ⟨s + 1, 0, none⟩), .pointer (some ⟨s + 2, 0, none⟩), .pointer (some ⟨p5, 0, none⟩), undef, undef, undef, .pointer (some ⟨b, 0, none⟩), .int .i64 x, .pointer (some ⟨b, 0, none⟩), .pointer (some ⟨b, 31, none⟩), .pointer (some ⟨b, 31 + x, none⟩), .int .i64 h, enc (whole h),
      undef, undef, undef, undef, undef, undef, undef, undef, undef, undef, undef, undef, undef, undef, undef, undef, undef, undef, undef, undef, undef, undef, undef, undef, undef], defers := [] }
set_option maxRecDepth 100000 in
set_option maxHeartbeats 8000000 in
theorem upper_any {b n : Nat} {L H : Nat → Int} {x : Nat} {w : World} (hb : Bds n L H) (hx : x < n) (hy : Yr w b n L H) :
    Calls Try.prog 43 #[.pointer (some ⟨b, 0, none⟩), .int .i64 (x : Int)] w fun e w' => e = .returned (enc (upperF L H n x)) ∧ Below w.heap.size w w' := by
  have hn30 := hb.n30
  have hx30 : (x : Int) < 30 := by omega
  have hx0 : (0 : Int) ≤ (x : Int) := by omega
  have h59 := fun W => whole_any (H x) W
  have H59 := Lib.hid h59
  have HBS := Lib.hid hb
  have HY := Lib.hid hy
  clear h59 hb hy
  go_enter Try.func43, Try.ntmps43
  refine wp_seq_k (fun K hK => ?_)
  have HK := Lib.hid hK; clear hK
  go_wp2
  refine HK.out _ _ ?_; clear HK K
  generalize hw1 : World.alloc _ _ = w1
  obtain ⟨b2, b3, b4, hB, hs1⟩ := blk3 hw1
  clear hw1
  have hy1 := HY.out.keep hB
  refine wp_seq_k (fun K hK => ?_)
  have HK := Lib.hid hK; clear hK
  have tail : ∀ (p5 : Nat) (W : World), W.heap[p5]? = some (.cells #[.int .i64 (whole (H x)).o, .int .i64 (whole (H x)).u] 93 (0, 0)) → w1.heap.size ≤ p5 → Below w1.heap.size w1 W → K (fr43 b x w.heap.size p5 (H x)) W := by
    intro p5 W hp hp0 hBW
    have b22 := blk_keep b2 hBW
    have b33 := blk_keep b3 hBW
    have b44 := blk_keep b4 hBW
    have hBB := btr hB hBW (Nat.le_refl _)
    have hyW := HY.out.keep hBB
    have hmf : ∀ (fn : Fn) (first cap : Array Value) (w : World), (Instr.makeFunc fn first cap).run Try.prog w = .ok (.func fn first cap) w := fun _ _ _ _ => rfl
    refine HK.out _ _ ?_
    clear HK b2 b3 b4 hB hBW hy1
    unfold fr43
    have e0 := cell_blk (i := 0) b22
    have e1 := hyW.wk
    simp only [List.getElem?_toArray, List.getElem?_cons_zero] at e0
    go_wp2
    have hG : UpG w b x p5 (upPre L H x 0 0) W := ⟨b22, b33, b44, by rw [show upPre L H x 0 0 = whole (H x) by simp [upPre, small]]; exact hp, hBB⟩
    have hl5 : w.heap.size + 3 ≤ p5 := by omega
    have hn0 : n ≤ 30 := hn30
    clear b22 b33 b44 hBB hyW hp hp0 e0 e1 H59 hs1
    go_loopw [21] (fun i wr => ∃ k : Nat, k ≤ n ∧ i = .int .i64 k ∧ UpG w b x p5 (upPre L H x k 0) wr) (fun i _ => n - (intOf i).toNat)
    case atStart => exact ⟨0, Nat.zero_le _, rfl, hG⟩
    case round =>
      clear hG
      obtain ⟨k, hk, rfl, hG⟩ := hrel
      by_cases hkn : k < n
      · have e3 := cell_blk (i := 0) hG.p3
        simp only [List.getElem?_toArray, List.getElem?_cons_zero] at e3
        have hmin : (min (k : Int) (x : Int)) = ((min k x : Nat) : Int) := by omega
        have hw1 : IntKind.i64.wrap (((min k x : Nat) : Int) + 1) = ((min k x + 1 : Nat) : Int) := by rw [IntKind.wrap_i64]; omega
        obtain ⟨lo, hlo⟩ : ∃ lo, lo = min k x + 1 := ⟨_, rfl⟩
        have hlo1 : lo ≤ 30 := by omega
        rw [← hlo] at hw1
        have HLO := Lib.hid hlo
        clear hlo
        go_wp2_with (refine wpList_min rfl (.tmp 24) (.tmp 25) _ rfl rfl rfl ?_; rw [hmin])
        clear e3 hmin hw1
        have hz0 : lo + 0 = lo := rfl
        go_loopw [8] (fun i wr => ∃ c q : Nat, c ≤ max k x - lo ∧ Hid (q = lo + c) ∧ i = .int .i64 q ∧ UpG w b x p5 (upPre L H x k c) wr) (fun i _ => max k x - (intOf i).toNat)
        case atStart => exact ⟨0, lo, Nat.zero_le _, Lib.hid rfl, rfl, hG⟩
        case round =>
          clear hG
          obtain ⟨c, q, hc, HQ, rfl, hG⟩ := hrel
          have e3 := cell_blk (i := 0) hG.p3
          simp only [List.getElem?_toArray, List.getElem?_cons_zero] at e3
          have hmax : (max (k : Int) (x : Int)) = ((max k x : Nat) : Int) := by omega
          obtain ⟨mx, hmx⟩ : ∃ mx, mx = max k x := ⟨_, rfl⟩
          have HMX := Lib.hid hmx
          rw [← hmx] at hmax hc
          by_cases hcn : c < mx - lo
          · have hq := HQ.out
            have hlo := HLO.out
            have hmx30 : mx ≤ n := by omega
            have hqn : q < n := by omega
            have hqk : k ≠ q := by omega
            have hqm : (q : Int) < mx := by omega
            have h74 := bound_any (i := k) (j := q) HBS.out hx hkn hqn hqk (toBig (upPre_bd HBS.out hx hkn (by omega))) (HY.out.keep hG.bl) hG.p2 hG.p3 hG.p5
            have hst := upPre_step L H x k c
            rw [← hlo, ← hq] at hst
            rw [← hst] at h74
            have H74 := Lib.hid h74
            have hgm := fun W' h5 (hbm : Bm p5 wr.heap.size wr W') => hG.bm (z' := upPre L H x k (c + 1)) hl5 h5 hbm
            have HGM := Lib.hid hgm
            have hq1 : IntKind.i64.wrap ((q : Int) + 1) = ((q + 1 : Nat) : Int) := by rw [IntKind.wrap_i64]; omega
            clear h74 hst hgm hq hlo hmx hG
            go_wp2_with (first | (refine wpList_max rfl (.tmp 29) (.tmp 30) _ rfl rfl rfl ?_; rw [hmax]) | (go_at_call 74; refine H74.out.mono ?_; rintro e w2 ⟨⟨v, rfl⟩, h5, hbm⟩))
            replace hG := HGM.out _ h5 hbm
            clear e3 h5 hbm HGM H74 hmax
            go_wp2
            go_roundw
            case rel => exact ⟨c + 1, q + 1, by have := HMX.out; omega, Lib.hid (by have := HQ.out; omega), by go_num, hG⟩
            case measure => simp [intOf]; have := HMX.out; omega
          · have hce : c = mx - lo := by omega
            have hq := HQ.out
            have hlo := HLO.out
            have hqm : ¬ (q : Int) < mx := by omega
            have hrow := upPre_row L H x k
            rw [← hlo, ← hmx, ← hce] at hrow
            rw [hrow] at hG
            clear hrow hce hq hlo hmx hc hcn
            go_wp2_with (refine wpList_max rfl (.tmp 29) (.tmp 30) _ rfl rfl rfl ?_; rw [hmax])
            go_roundw
            case rel => exact ⟨k + 1, by omega, by go_num, hG⟩
            case measure => simp [intOf]; omega
      · have hke : k = n := by omega
        subst hke
        rw [upPre_end] at hG
        have g4 := hG.p4
        have g5 := hG.p5
        have gb := hG.bl
        clear hG
        go_wp2_with (first | (refine wpList_load_blk rfl 93 _ rfl _ rfl g5 Try.underlying93 rfl size93 rfl ?_) | (refine wpList_store_blk rfl 93 _ _ rfl _ rfl rfl g4 size93 rfl rfl (oneFr _) ?_))
        exact bodyPost_ret (results_blk rfl _ _ _ rfl (World.putObj_heap_same (lt_blk g4)) Try.underlying93 rfl size93 rfl) rfl ⟨rfl, below_putObj gb (by omega)⟩
  have TAIL := Lib.hid tail
  clear tail HK
  have hS0 : Below w1.heap.size w1 w1.drew := (Below.refl _ _).drew
  refine wp_region_z (S := fun U => Below w1.heap.size w1 U) (z := 8) (by kernel_rfl) ?_
  change wpAnyZ _ _ _ _ _ _ _ _ _ (World.drew w1)
  have hBw := hS0
  have hs0 : w1.heap.size = w1.drew.heap.size := rfl
  generalize hwq : World.drew w1 = wq at *
  have hBwq := hBw
  have q2 := cell_blk (i := 0) b2
  have q3 := cell_blk (i := 0) b3
  have q4 := hy1.hi x hx
  have ql := lt_blk b2
  have ql3 := lt_blk b3
  have qy := hy1.lt
  simp only [List.getElem?_toArray, List.getElem?_cons_zero] at q2 q3
  refine wpAnyZ_take (i := 0) (oi := { dst := some 9, op := _, type := _, pos := _, after := _, guard := none }) (v := ?_) rfl (by kernel_rfl) (by kernel_rfl) (by kernel_rfl) (fun _ _ _ h => h) (Or.inl ⟨by rfl, ?_⟩) (by first | exact hS0 | assumption) ?_
  rotate_left
  · intro U hU
    have u2 := (hU.cell (p := ⟨w.heap.size, 0, none⟩) ql).trans q2
    go_simp
    all_goals with_reducible rfl
  simp only [Act.put, List.setIfInBounds_toArray, List.set_cons_zero, List.set_cons_succ]
  refine wpAnyZ_take (i := 1) (oi := { dst := some 10, op := _, type := _, pos := _, after := _, guard := none }) (v := ?_) rfl (by kernel_rfl) (by kernel_rfl) (by kernel_rfl) (fun _ _ _ h => h) (Or.inl ⟨by rfl, ?_⟩) (by first | exact hS0 | assumption) ?_
  rotate_left
  · intro U hU
    have u3 := (hU.cell (p := ⟨w.heap.size + 1, 0, none⟩) ql3).trans q3
    go_simp
    all_goals with_reducible rfl
  simp only [Act.put, List.setIfInBounds_toArray, List.set_cons_zero, List.set_cons_succ]
  refine wpAnyZ_take (i := 2) (oi := { dst := some 11, op := _, type := _, pos := _, after := _, guard := none }) (v := ?_) rfl (by kernel_rfl) (by kernel_rfl) (by kernel_rfl) (fun _ _ _ h => h) (Or.inl ⟨by rfl, ?_⟩) (by first | exact hS0 | assumption) ?_
  rotate_left
  · intro U hU
    go_simp
    all_goals with_reducible rfl
  simp only [Act.put, List.setIfInBounds_toArray, List.set_cons_zero, List.set_cons_succ]
  refine wpAnyZ_take (i := 3) (oi := { dst := some 12, op := _, type := _, pos := _, after := _, guard := none }) (v := ?_) rfl (by kernel_rfl) (by kernel_rfl) (by kernel_rfl) (fun _ _ _ h => h) (Or.inl ⟨by rfl, ?_⟩) (by first | exact hS0 | assumption) ?_
  rotate_left
  · intro U hU
    go_simp
    all_goals with_reducible rfl
  simp only [Act.put, List.setIfInBounds_toArray, List.set_cons_zero, List.set_cons_succ]
  refine wpAnyZ_take (i := 4) (oi := { dst := some 13, op := _, type := _, pos := _, after := _, guard := none }) (v := ?_) rfl (by kernel_rfl) (by kernel_rfl) (by kernel_rfl) (fun _ _ _ h => h) (Or.inl ⟨by rfl, ?_⟩) (by first | exact hS0 | assumption) ?_
  rotate_left
  · intro U hU
    go_simp
    all_goals with_reducible rfl
  simp only [Act.put, List.setIfInBounds_toArray, List.set_cons_zero, List.set_cons_succ]
  refine wpAnyZ_take (i := 5) (oi := { dst := some 14, op := _, type := _, pos := _, after := _, guard := none }) (v := ?_) rfl (by kernel_rfl) (by kernel_rfl) (by kernel_rfl) (fun _ _ _ h => h) (Or.inl ⟨by rfl, ?_⟩) (by first | exact hS0 | assumption) ?_
  rotate_left
  · intro U hU
    have u4 := (hU.cell (p := ⟨b, 31 + x, none⟩) qy).trans q4
    go_simp
    all_goals with_reducible rfl
  simp only [Act.put, List.setIfInBounds_toArray, List.set_cons_zero, List.set_cons_succ]
  refine wpAnyZ_ready (rs := [6, 7]) (by kernel_rfl) (by simp) ?_
  refine AllReadyZ.cons (o := { dst := some 15, op := _, type := _, pos := _, after := _, guard := none }) rfl (by rfl) (fun K1 hK1 => ?_) ?_
  · have HK1 := Lib.hid hK1; clear hK1
    refine oper_call (f := 59) (xs := #[.tmp 14]) (ts := _) rfl (enters_of Try.func59 (by kernel_rfl) rfl) rfl (H59.out _) ?_
    intro wv1 hbwv1
    have hBwv1 := btr hBwq hbwv1 (Nat.le_refl _)
    refine HK1.out _ _ (fun _ => hBwv1) ?_
    clear HK1 K1
    try simp only [Act.put, List.setIfInBounds_toArray, List.set_cons_zero, List.set_cons_succ]
    refine wpAnyZ_one (i := 7) (o := { dst := some 5, op := _, type := _, pos := _, after := _, guard := none }) (by kernel_rfl) rfl (by rfl) (fun K1 hK1 => ?_)
    have HK1 := Lib.hid hK1; clear hK1
    go_simp
    refine HK1.out _ _ (fun _ => hBwv1.alloc hBwv1.size _) ?_
    clear HK1 K1
    try simp only [Act.put, List.setIfInBounds_toArray, List.set_cons_zero, List.set_cons_succ]
    obtain ⟨wv2, ewv2⟩ : ∃ v, v = wv1.alloc (.cells #[.int .i64 0, .int .i64 0] 93) := ⟨_, rfl⟩
    rw [← ewv2]
    obtain ⟨hpwv2, hcwv2, -⟩ := blk1 ewv2.symm
    have hBwv2 := btr hBwv1 hcwv2 (Nat.le_refl _)
    have hqwv2 : w1.heap.size ≤ wv1.heap.size := hBwv1.size
    clear ewv2 hcwv2
    refine wpAnyZ_last (o := { dst := none, op := _, type := _, pos := _, after := _, guard := none }) (by kernel_rfl) (by kernel_rfl) rfl (by rfl) (fun K1 hK1 => ?_)
    have HK1 := Lib.hid hK1; clear hK1
    refine oper_store_blk 93 (.tmp 5) (.tmp 15) rfl _ rfl rfl hpwv2 size93 rfl rfl (oneFr _) ?_
    refine HK1.out _ _ ?_
    clear HK1 K1
    try simp only [Act.put]
    exact TAIL.out (wv1.heap.size) _ (World.putObj_heap_same (lt_blk hpwv2)) (by first | exact Nat.le_refl _ | omega | (simp only [← hs0] at *; omega)) (below_putObj hBwv2 (by first | exact Nat.le_refl _ | omega))
  refine AllReadyZ.cons (o := { dst := some 5, op := _, type := _, pos := _, after := _, guard := none }) rfl (by rfl) (fun K1 hK1 => ?_) ?_
  · have HK1 := Lib.hid hK1; clear hK1
    go_simp
    refine HK1.out _ _ (fun _ => hBwq.alloc hBwq.size _) ?_
    clear HK1 K1
    try simp only [Act.put, List.setIfInBounds_toArray, List.set_cons_zero, List.set_cons_succ]
    obtain ⟨wv3, ewv3⟩ : ∃ v, v = wq.alloc (.cells #[.int .i64 0, .int .i64 0] 93) := ⟨_, rfl⟩
    rw [← ewv3]
    obtain ⟨hpwv3, hcwv3, -⟩ := blk1 ewv3.symm
    have hBwv3 := btr hBwq hcwv3 (Nat.le_refl _)
    have hqwv3 : w1.heap.size ≤ wq.heap.size := hBwq.size
    clear ewv3 hcwv3
    refine wpAnyZ_one (i := 6) (o := { dst := some 15, op := _, type := _, pos := _, after := _, guard := none }) (by kernel_rfl) rfl (by rfl) (fun K1 hK1 => ?_)
    have HK1 := Lib.hid hK1; clear hK1
    refine oper_call (f := 59) (xs := #[.tmp 14]) (ts := _) rfl (enters_of Try.func59 (by kernel_rfl) rfl) rfl (H59.out _) ?_
    intro wv4 hbwv4
    have hBwv4 := btr hBwv3 hbwv4 (Nat.le_refl _)
    refine HK1.out _ _ (fun _ => hBwv4) ?_
    clear HK1 K1
    try simp only [Act.put, List.setIfInBounds_toArray, List.set_cons_zero, List.set_cons_succ]
    have hpwv4 := blk_keep hpwv3 hbwv4
    refine wpAnyZ_last (o := { dst := none, op := _, type := _, pos := _, after := _, guard := none }) (by kernel_rfl) (by kernel_rfl) rfl (by rfl) (fun K1 hK1 => ?_)
    have HK1 := Lib.hid hK1; clear hK1
    refine oper_store_blk 93 (.tmp 5) (.tmp 15) rfl _ rfl rfl hpwv4 size93 rfl rfl (oneFr _) ?_
    refine HK1.out _ _ ?_
    clear HK1 K1
    try simp only [Act.put]
    exact TAIL.out (wq.heap.size) _ (World.putObj_heap_same (lt_blk hpwv4)) (by first | exact Nat.le_refl _ | omega | (simp only [← hs0] at *; omega)) (below_putObj hBwv4 (by first | exact Nat.le_refl _ | omega))
  exact AllReadyZ.nil
end Ytgnjeefanbcbkaa
end Go.Proofs
