/- Fields: the reference's regret of a week. -/
import Derived.Test.YtgnjeefanbcbkaaR8
open Go Go.RowKit Go.YtgnjeefanbcbkaaIt
namespace Go.Proofs
namespace Ytgnjeefanbcbkaa
def rrgL (L H : Nat → Int) (n x k : Nat) : Fr := (upperF L H n k).minus (givR L n x k (upperF L H n k))
def rrgPre (L H : Nat → Int) (n x c : Nat) : Fr := big ((List.range c).map (rrgL L H n x)) (whole 0)
theorem rrgPre_step (L H : Nat → Int) (n x c : Nat) : rrgPre L H n x (c + 1) = most (rrgPre L H n x c) (rrgL L H n x c) := by
  unfold rrgPre; rw [List.range_succ, List.map_append, List.map_singleton, big_app]
theorem rrgPre_end (L H : Nat → Int) (n x : Nat) : rrgPre L H n x n = regR L H n x := rfl
theorem rrgL_bd {n : Nat} {L H : Nat → Int} (hb : Bds n L H) {x k : Nat} (hx : x < n) (hk : k < n) : Big (rrgL L H n x k) := (minus_bd (upper_bd hb hk) (rgiv_bd hb hx hk (upper_bd hb hk))).1
theorem rrgPre_bd {n : Nat} {L H : Nat → Int} (hb : Bds n L H) {x c : Nat} (hx : x < n) (hc : c ≤ n) : Big (rrgPre L H n x c) := by
  refine big_all (toBig (whole_bd (by decide))) fun y hy => ?_
  obtain ⟨k, hk, rfl⟩ := List.mem_map.1 hy
  have := List.mem_range.1 hk
  exact rrgL_bd hb hx (by omega)
theorem regR_bd {n : Nat} {L H : Nat → Int} (hb : Bds n L H) {x : Nat} (hx : x < n) : Big (regR L H n x) := by rw [← rrgPre_end]; exact rrgPre_bd hb hx (Nat.le_refl _)
set_option maxRecDepth 100000 in
set_option maxHeartbeats 8000000 in
theorem rregret_any {p p' : Value} {n : Nat} {L H : Nat → Int} {x : Nat} {w : World} (hb : Bds n L H) (hx : x < n) (hp : SlN w p n L) (hp' : SlN w p' n H) :
    Calls Try.prog 70 #[p, p', .int .i64 (x : Int)] w fun e w' => e = .returned (enc (regR L H n x)) ∧ Below w.heap.size w w' := by
  have hn30 := hb.n30
  have HPP := Lib.hid hp
  have HQQ := Lib.hid hp'
  obtain ⟨b1, o1, cap1, rfl, hl1, -⟩ := slN_cells hp (by omega)
  obtain ⟨b2, o2, cap2, rfl, hl2, -⟩ := slN_cells hp' (by omega)
  have HBS := Lib.hid hb
  clear hb hp hp'
  go_enter Try.func70, Try.ntmps70
  refine wp_seq_k (fun K hK => ?_)
  have HK := Lib.hid hK; clear hK
  go_wp2
  refine HK.out _ _ ?_; clear HK K
  generalize hw1 : World.alloc _ _ = w1
  obtain ⟨b6, hB, hs1⟩ := blk1 hw1
  clear hw1
  have h65 := rwhole_any 0 w1
  refine wp_seq_k (fun K hK => ?_)
  have HK := Lib.hid hK; clear hK
  go_wp2_with (go_at_call 65; refine h65.mono ?_; rintro e w2 ⟨rfl, hb2⟩)
  refine HK.out _ _ ?_; clear HK K h65
  replace b6 := blk_keep b6 hb2
  have hl7 : w.heap.size + 1 ≤ w2.heap.size := Nat.le_trans hs1 hb2.size
  replace hB := btr hB hb2 (Nat.le_refl _)
  generalize hw3 : World.alloc _ _ = w3
  obtain ⟨b7, hB3, hs3⟩ := blk1 hw3
  clear hw3
  replace b6 := blk_keep b6 hB3
  replace hB := btr hB hB3 (Nat.le_refl _)
  generalize hp7 : w2.heap.size = p7 at *
  clear hb2 hB3 hs1 hp7 hs3 w1 w2
  have hG : RlG w p7 w.heap.size (rrgPre L H n x 0) w3 := ⟨b6, b7, hB⟩
  clear b6 b7 hB
  go_wp2
  go_loopw [8] (fun i wr => ∃ k : Nat, k ≤ n ∧ i = .int .i64 k ∧ RlG w p7 w.heap.size (rrgPre L H n x k) wr) (fun i _ => n - (intOf i).toNat)
  case atStart => exact ⟨0, Nat.zero_le _, rfl, hG⟩
  case round =>
    clear hG
    obtain ⟨k, hk, rfl, hG⟩ := hrel
    by_cases hkn : k < n
    · have hki : (k : Int) < (n : Int) := by omega
      have h50 := rupper_any HBS.out hkn (HPP.out.below hG.bl (Nat.le_refl _)) (HQQ.out.below hG.bl (Nat.le_refl _))
      have hub := upper_bd HBS.out hkn
      have hgb := rgiv_bd HBS.out hx hkn hub
      have hmb := minus_bd hub hgb
      have hst := rrgPre_step L H n x k
      have hbz := rrgPre_bd HBS.out hx hk
      unfold rrgL at hst
      generalize upperF L H n k = t at *
      have h83 := fun W' (hW : Below w.heap.size w W') => rgiven_any HBS.out hx hkn hub (HPP.out.below hW (Nat.le_refl _))
      generalize givR L n x k t = gv at *
      obtain ⟨hmy, m1, m2, m3, m4⟩ := hmb
      have hyv : t.minus gv = ⟨t.o * gv.u - gv.o * t.u, t.u * gv.u⟩ := rfl
      generalize t.minus gv = y at *
      generalize rrgPre L H n x k = z at *
      have h77 := fun W' => most_any z y W' hbz hmy
      rw [hyv] at h77
      have HST := Lib.hid hst
      have HYV := Lib.hid hyv
      have H50 := Lib.hid h50
      have H83 := Lib.hid h83
      have H77 := Lib.hid h77
      clear hyv hub hgb hst hbz h50 h83 h77 hmy
      have b6 := hG.p4
      have b7 := hG.p5
      have bl := hG.bl
      clear hG
      refine wp_seq_k (fun K hK => ?_)
      have HK := Lib.hid hK; clear hK
      go_wp2
      refine HK.out _ _ ?_; clear HK K
      refine wp_seq_k (fun K hK => ?_)
      have HK := Lib.hid hK; clear hK
      go_wp2_with (go_at_call 50; refine H50.out.mono ?_; rintro e w4 ⟨rfl, hb4⟩)
      clear H50
      generalize hw5 : World.alloc _ _ = w5
      obtain ⟨b9, hB5, hs5⟩ := blk1 hw5
      clear hw5
      replace hB5 := btr hb4 hB5 (Nat.le_refl _)
      have l7 : p7 < w4.heap.size := Nat.lt_of_lt_of_le (lt_blk b7) hb4.size
      have hl9 : w.heap.size < w4.heap.size := by omega
      replace b7 := blk_keep b7 hB5
      replace b6 := blk_keep b6 hB5
      replace bl := btr bl hB5 (Nat.le_refl _)
      generalize hp9 : w4.heap.size = p9 at *
      clear hb4 hp9 w4 hB5
      refine (H83.out _ bl).mono ?_; rintro e w6 ⟨rfl, hb6⟩
      clear H83
      rename_i Q K1 hK1 K2 hK2
      have HK1 := Lib.hid hK1; clear hK1
      go_wp2
      refine HK1.out _ _ ?_; clear HK1 K1
      generalize hw7 : World.alloc _ _ = w7
      obtain ⟨b10, hB7, hs7⟩ := blk1 hw7
      clear hw7
      replace hB7 := btr hb6 hB7 (Nat.le_refl _)
      replace b7 := blk_keep b7 hB7
      replace b6 := blk_keep b6 hB7
      replace b9 := blk_keep b9 hB7
      replace bl := btr bl hB7 (Nat.le_refl _)
      generalize hp10 : w6.heap.size = p10 at *
      clear hb6 hp10 hB7
      have f9a := cell_blk (i := 0) b9
      have f9b := cell_blk (i := 1) b9
      have f10a := cell_blk (i := 0) b10
      have f10b := cell_blk (i := 1) b10
      clear b9 b10 hs7
      go_wp2_with (first | (refine wpList_store_blk rfl 101 _ _ rfl _ rfl rfl b8 size101 rfl rfl (oneFr _) ?_) | (refine wpList_load_blk rfl 101 _ rfl _ rfl b7 Try.underlying101 rfl size101 rfl ?_) | (go_at_call 77; refine (H77.out _).mono ?_; rintro e w8 ⟨rfl, hb8⟩; have b8 := blk_keep b7 hb8))
      refine HK.out _ _ ?_; clear HK K
      have hne : w.heap.size ≠ p7 := by omega
      have hGn : RlG w p7 w.heap.size (rrgPre L H n x (k + 1)) (w8.putObj p7 (.cells #[.int .i64 (most z ⟨t.o * gv.u - gv.o * t.u, t.u * gv.u⟩).o, .int .i64 (most z ⟨t.o * gv.u - gv.o * t.u, t.u * gv.u⟩).u] 101 (0, 0))) := ⟨(World.putObj_heap_other hne).trans (blk_keep b6 hb8), by rw [HST.out, HYV.out]; exact World.putObj_heap_same (lt_blk b8), below_putObj (btr bl hb8 (Nat.le_refl _)) (by omega)⟩
      clear H77 HST HYV b6 b7 b8 f9a f9b f10a f10b
      have hq1 : IntKind.i64.wrap ((k : Int) + 1) = ((k + 1 : Nat) : Int) := by rw [IntKind.wrap_i64]; omega
      go_wp2
      go_roundw
      case rel => exact ⟨k + 1, by omega, by go_num, hGn⟩
      case measure => simp [intOf]; omega
    · have hke : k = n := by omega
      have hki : ¬ ((k : Int) < (n : Int)) := by omega
      subst hke
      rw [rrgPre_end] at hG
      have b4 := hG.p4
      have b5 := hG.p5
      have bb := hG.bl
      clear hG
      go_wp2_with (first | (refine wpList_load_blk rfl 101 _ rfl _ rfl b5 Try.underlying101 rfl size101 rfl ?_) | (refine wpList_store_blk rfl 101 _ _ rfl _ rfl rfl b4 size101 rfl rfl (oneFr _) ?_))
      exact bodyPost_ret (results_blk rfl _ _ _ rfl (World.putObj_heap_same (lt_blk b4)) Try.underlying101 rfl size101 rfl) rfl ⟨rfl, below_putObj bb (by omega)⟩
end Ytgnjeefanbcbkaa
end Go.Proofs
