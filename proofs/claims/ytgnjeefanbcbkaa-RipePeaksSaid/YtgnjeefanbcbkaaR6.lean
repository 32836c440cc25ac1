/- Fields: the reference's least sweetness of a week. -/
import Derived.Test.YtgnjeefanbcbkaaR4
import Derived.Test.YtgnjeefanbcbkaaA8
open Go Go.RowKit Go.YtgnjeefanbcbkaaIt
namespace Go.Proofs
namespace Ytgnjeefanbcbkaa
/-- The lines by i lows' rows, and c of those of the next one. -/
def lowPre (L : Nat → Int) (n x i c : Nat) : Fr := big ((List.range i).flatMap (lowRow L n x) ++ (List.range c).map fun j => lowT L x i (x + 1 + j)) (whole (L x))
theorem lowPre_step (L : Nat → Int) (n x i c : Nat) : lowPre L n x i (c + 1) = most (lowPre L n x i c) (lowT L x i (x + 1 + c)) := by
  unfold lowPre
  rw [List.range_succ, List.map_append, ← List.append_assoc, List.map_singleton, big_app]
theorem lowPre_row (L : Nat → Int) (n x i : Nat) : lowPre L n x i (n - (x + 1)) = lowPre L n x (i + 1) 0 := by
  unfold lowPre
  rw [List.range_succ, List.flatMap_append]
  simp [lowRow]
theorem lowPre_end (L : Nat → Int) (n x : Nat) : lowPre L n x x 0 = lowerF L n x := by unfold lowPre lowerF linesL; simp
theorem lowPre_bd {n : Nat} {L H : Nat → Int} (hb : Bds n L H) {x i c : Nat} (hx : x < n) (hi : i < x) (hc : c ≤ n - (x + 1)) : Bd 2000000 29 (lowPre L n x i c) := by
  refine big_all (whole_bd (hb.lo x hx)) fun y hy => ?_
  rcases List.mem_append.1 hy with hy | hy
  · obtain ⟨a, ha, hy⟩ := List.mem_flatMap.1 hy
    exact lines_bd hb hx y (List.mem_flatMap.2 ⟨a, by simp at ha ⊢; omega, hy⟩)
  · obtain ⟨j, hj, rfl⟩ := List.mem_map.1 hy
    have := List.mem_range.1 hj
    have := hb.n30
    exact lineW_bd (by omega) (by omega) (by omega) (by omega) (hb.lo i (by omega)) (hb.lo _ (by omega))
/-- What the loops hold. -/
structure RlG (w : World) (p5 s : Nat) (z : Fr) (W : World) : Prop where
  p4 : W.heap[s]? = some (.cells #[.int .i64 0, .int .i64 0] 101 (0, 0))
  p5 : W.heap[p5]? = some (.cells #[.int .i64 z.o, .int .i64 z.u] 101 (0, 0))
  bl : Below w.heap.size w W
set_option maxRecDepth 100000 in
set_option maxHeartbeats 8000000 in
theorem rlower_any {p : Value} {n : Nat} {L H : Nat → Int} {x : Nat} {w : World} (hb : Bds n L H) (hx : x < n) (hp : SlN w p n L) :
    Calls Try.prog 48 #[p, .int .i64 (x : Int)] w fun e w' => e = .returned (enc (lowerF L n x)) ∧ Below w.heap.size w w' := by
  have hn30 := hb.n30
  obtain ⟨b1, o1, cap1, rfl, hl1, hc1⟩ := slN_cells hp (by omega)
  have HBS := Lib.hid hb
  have HC := Lib.hid hc1
  have cx := hc1 x hx
  clear hb hp hc1
  have hxi : (x : Int) < (n : Int) := by omega
  go_enter Try.func48, Try.ntmps48
  refine wp_seq_k (fun K hK => ?_)
  have HK := Lib.hid hK; clear hK
  go_wp2
  refine HK.out _ _ ?_; clear HK K
  generalize hw1 : World.alloc _ _ = w1
  obtain ⟨b4, hB, hs1⟩ := blk1 hw1
  clear hw1
  have cx1 := (hB.cell (p := ⟨b1, o1 + x, none⟩) hl1).trans cx
  have h65 := rwhole_any (L x) w1
  refine wp_seq_k (fun K hK => ?_)
  have HK := Lib.hid hK; clear hK
  go_wp2_with (go_at_call 65; refine h65.mono ?_; rintro e w2 ⟨rfl, hb2⟩)
  refine HK.out _ _ ?_; clear HK K h65 cx cx1
  replace b4 := blk_keep b4 hb2
  have hl5 : w.heap.size + 1 ≤ w2.heap.size := Nat.le_trans hs1 hb2.size
  replace hB := btr hB hb2 (Nat.le_refl _)
  generalize hw3 : World.alloc _ _ = w3
  obtain ⟨b5, hB3, hs3⟩ := blk1 hw3
  clear hw3
  replace b4 := blk_keep b4 hB3
  replace hB := btr hB hB3 (Nat.le_refl _)
  generalize hp5 : w2.heap.size = p5 at *
  clear hb2 hB3 hs1 hp5 hs3 w1 w2
  have hG : RlG w p5 w.heap.size (lowPre L n x 0 0) w3 := ⟨b4, by rw [show lowPre L n x 0 0 = whole (L x) by simp [lowPre, big]]; exact b5, hB⟩
  clear b4 b5 hB
  go_wp2
  go_loopw [6] (fun i wr => ∃ k : Nat, k ≤ x ∧ i = .int .i64 k ∧ RlG w p5 w.heap.size (lowPre L n x k 0) wr) (fun i _ => x - (intOf i).toNat)
  case atStart => exact ⟨0, Nat.zero_le _, rfl, hG⟩
  case round =>
    clear hG
    obtain ⟨k, hk, rfl, hG⟩ := hrel
    by_cases hkx : k < x
    · have hki : (k : Int) < (x : Int) := by omega
      have hw1 : IntKind.i64.wrap ((x : Int) + 1) = ((x + 1 : Nat) : Int) := by rw [IntKind.wrap_i64]; omega
      go_wp2
      clear hw1
      go_loopw [7] (fun i wr => ∃ c q : Nat, c ≤ n - (x + 1) ∧ Hid (q = x + 1 + c) ∧ i = .int .i64 q ∧ RlG w p5 w.heap.size (lowPre L n x k c) wr) (fun i _ => n - (intOf i).toNat)
      case atStart => exact ⟨0, x + 1, Nat.zero_le _, Lib.hid rfl, rfl, hG⟩
      case round =>
        clear hG
        obtain ⟨c, q, hc, HQ, rfl, hG⟩ := hrel
        have hqb : q ≤ n := by have := HQ.out; omega
        by_cases hqn : q < n
        · have hqi : (q : Int) < (n : Int) := by omega
          have hkn : (k : Int) < (n : Int) := by omega
          have hkn' : k < n := by omega
          have hq1 : IntKind.i64.wrap ((q : Int) + 1) = ((q + 1 : Nat) : Int) := by rw [IntKind.wrap_i64]; omega
          have hst := lowPre_step L n x k c
          rw [← HQ.out] at hst
          have hbz := toBig (lowPre_bd HBS.out hx hkx hc)
          have hby : Big (lowT L x k q) := toBig (lineW_bd (by omega) (by omega) (by omega) (by have := HQ.out; omega) (HBS.out.lo k (by omega)) (HBS.out.lo q hqn))
          have hlh := lineH_ww (i := k) (k := q) (w := x) (by omega) (by omega) (by omega) (by have := HQ.out; omega) (HBS.out.lo k (by omega)) (HBS.out.lo q hqn)
          have hls := line_same k (L k) q (L q) x
          have c1 := (hG.bl.cell (p := ⟨b1, o1 + k, none⟩) hl1).trans (HC.out k (by omega))
          have c2 := (hG.bl.cell (p := ⟨b1, o1 + q, none⟩) hl1).trans (HC.out q hqn)
          have hlb : b1 < wr.heap.size := Nat.lt_of_lt_of_le hl1 hG.bl.size
          have h78 := fun (X : Ab wr.heap.size wr) => Calls.ab X (Nat.le_refl _) (rline_any (k : Int) (whole (L k)) (q : Int) (whole (L q)) (x : Int) X.val hlh)
          rw [← hls] at h78
          change ∀ X : Ab wr.heap.size wr, Calls Try.prog 78 _ X.val fun e w' => e = .returned (enc (lowT L x k q)) ∧ _ at h78
          generalize lowT L x k q = y at *
          have hb5 := hG.p5
          have HG := Lib.hid hG
          generalize hzz : lowPre L n x k c = z at *
          have h77 := fun (X : Ab wr.heap.size wr) => Calls.ab X (Nat.le_refl _) (most_any z y X.val hbz hby)
          have h65 := fun (X : Ab wr.heap.size wr) (t : Int) => Calls.ab X (Nat.le_refl _) (rwhole_any t X.val)
          have H65 := Lib.hid h65
          have H77 := Lib.hid h77
          have H78 := Lib.hid h78
          have HST := Lib.hid hst
          clear hbz hby hlh hls h65 h77 h78 hst hzz hG
          go_wp2
          rename_i K2 hK2
          have HK2 := Lib.hid hK2; clear hK2
          have e1 := fun X : Ab wr.heap.size wr => (X.ok.cell (p := ⟨b1, o1 + k, none⟩) hlb).trans c1
          have e2 := fun X : Ab wr.heap.size wr => (X.ok.cell (p := ⟨b1, o1 + q, none⟩) hlb).trans c2
          have B5 : ∀ W, AbC wr.heap.size wr W → W.heap[p5]? = _ := fun W ⟨X, hX⟩ => hX ▸ blk_keep hb5 X.ok
          clear c1 c2
          refine wp_region_ab_tail 16 wr.heap.size wr (by kernel_rfl) (by kernel_rfl) (Below.refl _ _) ?_
          simp only [List.take_succ_cons, List.take_zero, List.drop_succ_cons, List.drop_zero]
          unfold AbC at *
          repeat (first | (refine wpQuiet_load_blk rfl 101 _ rfl _ rfl B5 Try.underlying101 rfl size101 rfl ?_; simp only [Act.put, List.setIfInBounds_toArray, List.set_cons_succ, List.set_cons_zero]) | go_big_quiet_step (first | (go_at_call 65; with_reducible exact H65.out _ _) | (go_at_call 78; with_reducible exact H78.out _) | (go_at_call 77; with_reducible exact H77.out _)))
          refine wpQuiet_nil ?_
          rintro W' ⟨X, rfl⟩
          have hXok := X.ok
          generalize X.val = V at *
          have b5V := blk_keep hb5 hXok
          have hne : w.heap.size ≠ p5 := by omega
          have hGn : RlG w p5 w.heap.size (lowPre L n x k (c + 1)) (V.putObj p5 (.cells #[.int .i64 (most z y).o, .int .i64 (most z y).u] 101 (0, 0))) := ⟨(World.putObj_heap_other hne).trans (blk_keep HG.out.p4 hXok), by rw [HST.out]; exact World.putObj_heap_same (lt_blk b5V), below_putObj (btr HG.out.bl hXok (Nat.le_refl _)) (by omega)⟩
          clear H65 H77 H78 HST HG e1 e2 B5 hb5 hXok X
          refine wpList_store_blk rfl 101 _ _ rfl _ rfl rfl b5V size101 rfl rfl (oneFr _) ?_
          refine wpList_nil ?_
          show K2 _ _
          refine HK2.out _ _ ?_; clear HK2 K2 b5V
          go_wp2
          go_roundw
          case rel => exact ⟨c + 1, q + 1, by have := HQ.out; omega, Lib.hid (by have := HQ.out; omega), by go_num, hGn⟩
          case measure => simp [intOf]; omega
        · have hce : c = n - (x + 1) := by have := HQ.out; omega
          have hqi : ¬ ((q : Int) < (n : Int)) := by omega
          have hG2 : RlG w p5 w.heap.size (lowPre L n x (k + 1) 0) wr := by rw [← lowPre_row, ← hce]; exact hG
          clear hce hG
          go_wp2
          go_roundw
          case rel => exact ⟨k + 1, by omega, by go_num, hG2⟩
          case measure => simp [intOf]; omega
    · have hke : k = x := by omega
      have hki : ¬ ((k : Int) < (x : Int)) := by omega
      subst hke
      rw [lowPre_end] at hG
      have g4 := hG.p4
      have g5 := hG.p5
      have gb := hG.bl
      clear hG
      go_wp2_with (first | (refine wpList_load_blk rfl 101 _ rfl _ rfl g5 Try.underlying101 rfl size101 rfl ?_) | (refine wpList_store_blk rfl 101 _ _ rfl _ rfl rfl g4 size101 rfl rfl (oneFr _) ?_))
      exact bodyPost_ret (results_blk rfl _ _ _ rfl (World.putObj_heap_same (lt_blk g4)) Try.underlying101 rfl size101 rfl) rfl ⟨rfl, below_putObj gb (by omega)⟩
end Ytgnjeefanbcbkaa
end Go.Proofs
