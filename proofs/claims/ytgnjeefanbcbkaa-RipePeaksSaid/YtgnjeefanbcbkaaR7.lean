/- Fields: the reference's greatest sweetness of a week. -/
import Derived.Test.YtgnjeefanbcbkaaR6
open Go Go.RowKit Go.YtgnjeefanbcbkaaIt
namespace Go.Proofs
namespace Ytgnjeefanbcbkaa
set_option maxRecDepth 100000 in
set_option maxHeartbeats 8000000 in
theorem rupper_any {p p' : Value} {n : Nat} {L H : Nat → Int} {x : Nat} {w : World} (hb : Bds n L H) (hx : x < n) (hp : SlN w p n L) (hp' : SlN w p' n H) :
    Calls Try.prog 50 #[p, p', .int .i64 (x : Int)] w fun e w' => e = .returned (enc (upperF L H n x)) ∧ Below w.heap.size w w' := by
  have hn30 := hb.n30
  obtain ⟨b1, o1, cap1, rfl, hl1, hc1⟩ := slN_cells hp (by omega)
  obtain ⟨b2, o2, cap2, rfl, hl2, hc2⟩ := slN_cells hp' (by omega)
  have HBS := Lib.hid hb
  have HC := Lib.hid hc1
  have HD := Lib.hid hc2
  have cx := hc2 x hx
  clear hb hp hp' hc1 hc2
  have hxi : (x : Int) < (n : Int) := by omega
  go_enter Try.func50, Try.ntmps50
  refine wp_seq_k (fun K hK => ?_)
  have HK := Lib.hid hK; clear hK
  go_wp2
  refine HK.out _ _ ?_; clear HK K
  generalize hw1 : World.alloc _ _ = w1
  obtain ⟨b4, hB, hs1⟩ := blk1 hw1
  clear hw1
  have cx1 := (hB.cell (p := ⟨b2, o2 + x, none⟩) hl2).trans cx
  have h65 := rwhole_any (H x) w1
  refine wp_seq_k (fun K hK => ?_)
  have HK := Lib.hid hK; clear hK
  go_wp2_with (go_at_call 65; refine h65.mono ?_; rintro e w2 ⟨rfl, hb2⟩)
  refine HK.out _ _ ?_; clear HK K h65 cx cx1
  replace b4 := blk_keep b4 hb2
  have hl5 : w.heap.size + 1 ≤ w2.heap.size := Nat.le_trans hs1 hb2.size
  replace hB := btr hB hb2 (Nat.le_refl _)
  generalize hw3 : World.alloc _ _ = w3
  obtain ⟨b5, hB3, hs3⟩ := blk1 hw3
  clear hw3
  replace b4 := blk_keep b4 hB3
  replace hB := btr hB hB3 (Nat.le_refl _)
  generalize hp5 : w2.heap.size = p5 at *
  clear hb2 hB3 hs1 hp5 hs3 w1 w2
  have hG : RlG w p5 w.heap.size (upPre L H x 0 0) w3 := ⟨b4, by rw [show upPre L H x 0 0 = whole (H x) by simp [upPre, small]]; exact b5, hB⟩
  clear b4 b5 hB
  go_wp2
  go_loopw [8] (fun i wr => ∃ k : Nat, k ≤ n ∧ i = .int .i64 k ∧ RlG w p5 w.heap.size (upPre L H x k 0) wr) (fun i _ => n - (intOf i).toNat)
  case atStart => exact ⟨0, Nat.zero_le _, rfl, hG⟩
  case round =>
    clear hG
    obtain ⟨k, hk, rfl, hG⟩ := hrel
    by_cases hkn : k < n
    · have hki : (k : Int) < (n : Int) := by omega
      have hmin : (min (k : Int) (x : Int)) = ((min k x : Nat) : Int) := by omega
      have hw1 : IntKind.i64.wrap (((min k x : Nat) : Int) + 1) = ((min k x + 1 : Nat) : Int) := by rw [IntKind.wrap_i64]; omega
      obtain ⟨lo, hlo⟩ : ∃ lo, lo = min k x + 1 := ⟨_, rfl⟩
      have hlo1 : lo ≤ 30 := by omega
      rw [← hlo] at hw1
      have HLO := Lib.hid hlo
      clear hlo
      go_wp2_with (refine wpList_min rfl (.tmp 21) (.tmp 22) _ rfl rfl rfl ?_; rw [hmin])
      clear hmin hw1
      go_loopw [9] (fun i wr => ∃ c q : Nat, c ≤ max k x - lo ∧ Hid (q = lo + c) ∧ i = .int .i64 q ∧ RlG w p5 w.heap.size (upPre L H x k c) wr) (fun i _ => max k x - (intOf i).toNat)
      case atStart => exact ⟨0, lo, Nat.zero_le _, Lib.hid rfl, rfl, hG⟩
      case round =>
        clear hG
        obtain ⟨c, q, hc, HQ, rfl, hG⟩ := hrel
        have hmax : (max (k : Int) (x : Int)) = ((max k x : Nat) : Int) := by omega
        obtain ⟨mx, hmx⟩ : ∃ mx, mx = max k x := ⟨_, rfl⟩
        have HMX := Lib.hid hmx
        rw [← hmx] at hmax hc
        by_cases hcn : c < mx - lo
        · have hmx30 : mx ≤ n := by omega
          have hqn : q < n := by have := HQ.out; omega
          have hqk : k ≠ q := by have := HQ.out; have := HLO.out; omega
          have hqi : (q : Int) < (n : Int) := by omega
          have hqm : (q : Int) < (mx : Int) := by have := HQ.out; omega
          have hq1 : IntKind.i64.wrap ((q : Int) + 1) = ((q + 1 : Nat) : Int) := by rw [IntKind.wrap_i64]; omega
          have hst := upPre_step L H x k c
          rw [← HLO.out, ← HQ.out] at hst
          have hbz := toBig (upPre_bd HBS.out hx hkn (c := c) (by have := HLO.out; omega))
          have hby : Big (upT L H x k q) := toBig (up_bd HBS.out hx hkn hqn hqk)
          have hlh := lineH_ww (i := k) (k := q) (w := x) (by omega) (by omega) (by omega) hqk (HBS.out.lo k (by omega)) (HBS.out.hi q hqn)
          have hls := line_same k (L k) q (H q) x
          have c1 := (hG.bl.cell (p := ⟨b1, o1 + k, none⟩) hl1).trans (HC.out k hkn)
          have c2 := (hG.bl.cell (p := ⟨b2, o2 + q, none⟩) hl2).trans (HD.out q hqn)
          have hlb : b1 < wr.heap.size := Nat.lt_of_lt_of_le hl1 hG.bl.size
          have hlb2 : b2 < wr.heap.size := Nat.lt_of_lt_of_le hl2 hG.bl.size
          have h78 := fun (X : Ab wr.heap.size wr) => Calls.ab X (Nat.le_refl _) (rline_any (k : Int) (whole (L k)) (q : Int) (whole (H q)) (x : Int) X.val hlh)
          rw [← hls] at h78
          change ∀ X : Ab wr.heap.size wr, Calls Try.prog 78 _ X.val fun e w' => e = .returned (enc (upT L H x k q)) ∧ _ at h78
          generalize upT L H x k q = y at *
          have hb5 := hG.p5
          have HG := Lib.hid hG
          generalize hzz : upPre L H x k c = z at *
          have h79 := fun (X : Ab wr.heap.size wr) => Calls.ab X (Nat.le_refl _) (least_any z y X.val hbz hby)
          have h65 := fun (X : Ab wr.heap.size wr) (t : Int) => Calls.ab X (Nat.le_refl _) (rwhole_any t X.val)
          have H65 := Lib.hid h65
          have H79 := Lib.hid h79
          have H78 := Lib.hid h78
          have HST := Lib.hid hst
          clear hbz hby hlh hls h65 h79 h78 hst hzz hG hmx
          go_wp2_with (refine wpList_max rfl (.tmp 26) (.tmp 27) _ rfl rfl rfl ?_; rw [hmax])
          rename_i K2 hK2
          have HK2 := Lib.hid hK2; clear hK2
          have e1 := fun X : Ab wr.heap.size wr => (X.ok.cell (p := ⟨b1, o1 + k, none⟩) hlb).trans c1
          have e2 := fun X : Ab wr.heap.size wr => (X.ok.cell (p := ⟨b2, o2 + q, none⟩) hlb2).trans c2
          have B5 : ∀ W, AbC wr.heap.size wr W → W.heap[p5]? = _ := fun W ⟨X, hX⟩ => hX ▸ blk_keep hb5 X.ok
          clear c1 c2 hmax
          refine wp_region_ab_tail 16 wr.heap.size wr (by kernel_rfl) (by kernel_rfl) (Below.refl _ _) ?_
          simp only [List.take_succ_cons, List.take_zero, List.drop_succ_cons, List.drop_zero]
          unfold AbC at *
          repeat (first | (refine wpQuiet_load_blk rfl 101 _ rfl _ rfl B5 Try.underlying101 rfl size101 rfl ?_; simp only [Act.put, List.setIfInBounds_toArray, List.set_cons_succ, List.set_cons_zero]) | go_big_quiet_step (first | (go_at_call 65; with_reducible exact H65.out _ _) | (go_at_call 78; with_reducible exact H78.out _) | (go_at_call 79; with_reducible exact H79.out _)))
          refine wpQuiet_nil ?_
          rintro W' ⟨X, rfl⟩
          have hXok := X.ok
          generalize X.val = V at *
          have b5V := blk_keep hb5 hXok
          have hne : w.heap.size ≠ p5 := by omega
          have hGn : RlG w p5 w.heap.size (upPre L H x k (c + 1)) (V.putObj p5 (.cells #[.int .i64 (least z y).o, .int .i64 (least z y).u] 101 (0, 0))) := ⟨(World.putObj_heap_other hne).trans (blk_keep HG.out.p4 hXok), by rw [HST.out]; exact World.putObj_heap_same (lt_blk b5V), below_putObj (btr HG.out.bl hXok (Nat.le_refl _)) (by omega)⟩
          clear H65 H79 H78 HST HG e1 e2 B5 hb5 hXok X
          refine wpList_store_blk rfl 101 _ _ rfl _ rfl rfl b5V size101 rfl rfl (oneFr _) ?_
          refine wpList_nil ?_
          show K2 _ _
          refine HK2.out _ _ ?_; clear HK2 K2 b5V
          go_wp2
          go_roundw
          case rel => exact ⟨c + 1, q + 1, by have := HMX.out; omega, Lib.hid (by have := HQ.out; omega), by go_num, hGn⟩
          case measure => simp [intOf]; have := HMX.out; omega
        · have hce : c = mx - lo := by omega
          have hqm : ¬ ((q : Int) < (mx : Int)) := by have := HQ.out; omega
          have hG2 : RlG w p5 w.heap.size (upPre L H x (k + 1) 0) wr := by rw [← upPre_row, ← HLO.out, ← HMX.out, ← hce]; exact hG
          clear hce hG hmx hcn hc
          go_wp2_with (refine wpList_max rfl (.tmp 26) (.tmp 27) _ rfl rfl rfl ?_; rw [hmax])
          go_roundw
          case rel => exact ⟨k + 1, by omega, by go_num, hG2⟩
          case measure => simp [intOf]; omega
    · have hke : k = n := by omega
      have hki : ¬ ((k : Int) < (n : Int)) := by omega
      subst hke
      rw [upPre_end] at hG
      have g4 := hG.p4
      have g5 := hG.p5
      have gb := hG.bl
      clear hG
      go_wp2_with (first | (refine wpList_load_blk rfl 101 _ rfl _ rfl g5 Try.underlying101 rfl size101 rfl ?_) | (refine wpList_store_blk rfl 101 _ _ rfl _ rfl rfl g4 size101 rfl rfl (oneFr _) ?_))
      exact bodyPost_ret (results_blk rfl _ _ _ rfl (World.putObj_heap_same (lt_blk g4)) Try.underlying101 rfl size101 rfl) rfl ⟨rfl, below_putObj gb (by omega)⟩
end Ytgnjeefanbcbkaa
end Go.Proofs
