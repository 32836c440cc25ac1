/- Pans: periods in lowest terms. -/
import Derived.Test.YteileadcmekkoaaQ1
import Derived.StillTailTactics
open Go Go.RowKit Go.YteileadcmekkoaaIt
namespace Go.Proofs
namespace Yteileadcmekkoaa
theorem size26 : (Try.prog.info? 26).map (·.size) = some 2 := by kernel_rfl
set_option maxRecDepth 100000 in
set_option maxHeartbeats 4000000 in
theorem low_any (num den : Nat) (w : World) (hn : num ≤ 1000000000) (hd : 1 ≤ den ∧ den ≤ 1000000) : Calls Try.prog 77 #[.agg #[.int .i64 num, .int .i64 den]] w fun e w' => e = .returned (.agg #[.int .i64 ((num / Nat.gcd num den : Nat) : Int), .int .i64 ((den / Nat.gcd num den : Nat) : Int)]) ∧ Below w.heap.size w w' := by
  obtain ⟨G, hG⟩ : ∃ G, G = Nat.gcd num den := ⟨_, rfl⟩
  rw [← hG]
  have hG0 : 1 ≤ G := by rw [hG]; exact Nat.gcd_pos_of_pos_right _ (by omega)
  have hGd : G ≤ den := by rw [hG]; exact Nat.gcd_le_right _ (by omega)
  have HG := Lib.hid hG
  clear hG
  go_enter Try.func77, Try.ntmps77
  refine wp_seq_k (fun K hK => ?_)
  have HK := Lib.hid hK; clear hK
  go_wp2
  refine HK.out _ _ ?_; clear HK K
  generalize hw1 : World.alloc _ _ = w1
  obtain ⟨b1, b2, hB, hs1⟩ := blk2 hw1
  clear hw1
  have c0 := cell_blk (i := 0) b1
  have c1 := cell_blk (i := 1) b1
  simp only [List.getElem?_toArray, List.getElem?_cons_zero, List.getElem?_cons_succ] at c0 c1
  refine wp_seq_k (fun K hK => ?_)
  have HK := Lib.hid hK; clear hK
  go_quiet (fail)
  refine HK.out _ _ ?_; clear HK K
  generalize hw2 : World.drewN _ _ = w2
  have hb2 : Below w1.heap.size w1 w2 := by rw [← hw2]; exact below_drewN (Below.refl _ _) _
  clear hw2 c0 c1
  go_wp2
  go_loopw [3, 4] (fun a b wr => ∃ x y : Nat, a = .int .i64 x ∧ b = .int .i64 y ∧ Nat.gcd x y = G ∧ x ≤ 1000000000 ∧ y ≤ 1000000000 ∧ Below w1.heap.size w1 wr) (fun _ b _ => (intOf b).toNat)
  case atStart => exact ⟨num, den, rfl, rfl, HG.out.symm, hn, by omega, hb2⟩
  case round =>
    clear hb2
    obtain ⟨x, y, rfl, rfl, hg, hx, hy, hb2⟩ := hrel
    have HX := Lib.hid hg
    clear hg
    by_cases hy0 : y = 0
    · subst hy0
      have hxG : x = G := by have := HX.out; simpa using this
      subst hxG
      go_wp2
      rename_i K hK
      have HK := Lib.hid hK; clear hK
      have hL1 := hB.trans (hb2.mono hB.size)
      have b1r := blk_keep b1 hb2
      have b2r := blk_keep b2 hb2
      have e0 := cell_blk (i := 0) b1r
      have e1 := cell_blk (i := 1) b1r
      simp only [List.getElem?_toArray, List.getElem?_cons_zero, List.getElem?_cons_succ] at e0 e1
      refine wp_region_still_tail 9 (by kernel_rfl) (by kernel_rfl) ?_
      simp only [List.take_succ_cons, List.take_zero, List.drop_succ_cons, List.drop_zero]
      change wpStill _ _ (World.drew wr) _ _ _
      have hx0 : ¬ x = 0 := by omega
      have n1 := Nat.div_le_self num x
      have n2 := Nat.div_le_self den x
      have q1 : IntKind.i64.wrap ((num : Int) / (x : Int)) = ((num / x : Nat) : Int) := by rw [← Int.natCast_ediv]; generalize num / x = D at *; rw [IntKind.wrap_i64]; omega
      have q2 : IntKind.i64.wrap ((den : Int) / (x : Int)) = ((den / x : Nat) : Int) := by rw [← Int.natCast_ediv]; generalize den / x = D at *; rw [IntKind.wrap_i64]; omega
      repeat still_step
      refine wpStill_nil ?_
      change wpList _ _ _ _ _ (World.drew wr)
      have b2d : (World.drew wr).heap[w.heap.size + 1]? = some (.cells #[.int .i64 0, .int .i64 0] 26 (0, 0)) := b2r
      have hBd : Below w.heap.size w (World.drew wr) := hL1.drew
      have hl2 := lt_blk b2d
      generalize World.drew wr = w5 at *
      refine wpList_store_blk rfl 26 _ _ rfl _ rfl rfl b2d size26 rfl rfl (by simp [Value.oneCell']) ?_
      go_wp2
      refine HK.out _ _ ?_
      go_wp2
      refine bodyPost_ret (results_blk rfl _ _ _ rfl (World.putObj_heap_same hl2) Try.underlying26 rfl size26 rfl) rfl ⟨by simp, below_putObj hBd (by omega)⟩
    · have hyz : ((y : Int) != 0) = true := by simp; omega
      have hyn : ¬ ((y : Int) = 0) := by omega
      have htm : (x : Int).tmod y = ((x % y : Nat) : Int) := by rw [Int.tmod_eq_emod_of_nonneg (by omega)]; simp
      have hlt : x % y < y := Nat.mod_lt _ (by omega)
      have hgm : Nat.gcd y (x % y) = G := by rw [← HX.out]; exact (Nat.gcd_comm y (x % y)).trans ((Nat.gcd_rec y x).symm.trans (Nat.gcd_comm y x))
      have HGM := Lib.hid hgm
      clear hgm
      go_wp2
      go_quiet (fail)
      go_wp2
      go_roundw
      case rel => exact ⟨y, x % y, rfl, by simp, HGM.out, hy, by omega, below_drewN hb2 _⟩
      case measure => simp [intOf]; omega
theorem size36 : (Try.prog.info? 36).map (·.size) = some 2 := by kernel_rfl
set_option maxRecDepth 100000 in
set_option maxHeartbeats 4000000 in
theorem low6_any (num den : Nat) (w : World) (hn : num ≤ 1000000000) (hd : 1 ≤ den ∧ den ≤ 1000000) : Calls Try.prog 66 #[.agg #[.int .i64 num, .int .i64 den]] w fun e w' => e = .returned (.agg #[.int .i64 ((num / Nat.gcd num den : Nat) : Int), .int .i64 ((den / Nat.gcd num den : Nat) : Int)]) ∧ Below w.heap.size w w' := by
  obtain ⟨G, hG⟩ : ∃ G, G = Nat.gcd num den := ⟨_, rfl⟩
  rw [← hG]
  have hG0 : 1 ≤ G := by rw [hG]; exact Nat.gcd_pos_of_pos_right _ (by omega)
  have hGd : G ≤ den := by rw [hG]; exact Nat.gcd_le_right _ (by omega)
  have HG := Lib.hid hG
  clear hG
  go_enter Try.func66, Try.ntmps66
  refine wp_seq_k (fun K hK => ?_)
  have HK := Lib.hid hK; clear hK
  go_wp2
  refine HK.out _ _ ?_; clear HK K
  generalize hw1 : World.alloc _ _ = w1
  obtain ⟨b1, b2, hB, hs1⟩ := blk2 hw1
  clear hw1
  have c0 := cell_blk (i := 0) b1
  have c1 := cell_blk (i := 1) b1
  simp only [List.getElem?_toArray, List.getElem?_cons_zero, List.getElem?_cons_succ] at c0 c1
  refine wp_seq_k (fun K hK => ?_)
  have HK := Lib.hid hK; clear hK
  go_quiet (fail)
  refine HK.out _ _ ?_; clear HK K
  generalize hw2 : World.drewN _ _ = w2
  have hb2 : Below w1.heap.size w1 w2 := by rw [← hw2]; exact below_drewN (Below.refl _ _) _
  clear hw2 c0 c1
  go_wp2
  go_loopw [3, 4] (fun a b wr => ∃ x y : Nat, a = .int .i64 x ∧ b = .int .i64 y ∧ Nat.gcd x y = G ∧ x ≤ 1000000000 ∧ y ≤ 1000000000 ∧ Below w1.heap.size w1 wr) (fun _ b _ => (intOf b).toNat)
  case atStart => exact ⟨num, den, rfl, rfl, HG.out.symm, hn, by omega, hb2⟩
  case round =>
    clear hb2
    obtain ⟨x, y, rfl, rfl, hg, hx, hy, hb2⟩ := hrel
    have HX := Lib.hid hg
    clear hg
    by_cases hy0 : y = 0
    · subst hy0
      have hxG : x = G := by have := HX.out; simpa using this
      subst hxG
      go_wp2
      rename_i K hK
      have HK := Lib.hid hK; clear hK
      have hL1 := hB.trans (hb2.mono hB.size)
      have b1r := blk_keep b1 hb2
      have b2r := blk_keep b2 hb2
      have e0 := cell_blk (i := 0) b1r
      have e1 := cell_blk (i := 1) b1r
      simp only [List.getElem?_toArray, List.getElem?_cons_zero, List.getElem?_cons_succ] at e0 e1
      refine wp_region_still_tail 9 (by kernel_rfl) (by kernel_rfl) ?_
      simp only [List.take_succ_cons, List.take_zero, List.drop_succ_cons, List.drop_zero]
      change wpStill _ _ (World.drew wr) _ _ _
      have hx0 : ¬ x = 0 := by omega
      have n1 := Nat.div_le_self num x
      have n2 := Nat.div_le_self den x
      have q1 : IntKind.i64.wrap ((num : Int) / (x : Int)) = ((num / x : Nat) : Int) := by rw [← Int.natCast_ediv]; generalize num / x = D at *; rw [IntKind.wrap_i64]; omega
      have q2 : IntKind.i64.wrap ((den : Int) / (x : Int)) = ((den / x : Nat) : Int) := by rw [← Int.natCast_ediv]; generalize den / x = D at *; rw [IntKind.wrap_i64]; omega
      repeat still_step
      refine wpStill_nil ?_
      change wpList _ _ _ _ _ (World.drew wr)
      have b2d : (World.drew wr).heap[w.heap.size + 1]? = some (.cells #[.int .i64 0, .int .i64 0] 36 (0, 0)) := b2r
      have hBd : Below w.heap.size w (World.drew wr) := hL1.drew
      have hl2 := lt_blk b2d
      generalize World.drew wr = w5 at *
      refine wpList_store_blk rfl 36 _ _ rfl _ rfl rfl b2d size36 rfl rfl (by simp [Value.oneCell']) ?_
      go_wp2
      refine HK.out _ _ ?_
      go_wp2
      refine bodyPost_ret (results_blk rfl _ _ _ rfl (World.putObj_heap_same hl2) Try.underlying36 rfl size36 rfl) rfl ⟨by simp, below_putObj hBd (by omega)⟩
    · have hyz : ((y : Int) != 0) = true := by simp; omega
      have hyn : ¬ ((y : Int) = 0) := by omega
      have htm : (x : Int).tmod y = ((x % y : Nat) : Int) := by rw [Int.tmod_eq_emod_of_nonneg (by omega)]; simp
      have hlt : x % y < y := Nat.mod_lt _ (by omega)
      have hgm : Nat.gcd y (x % y) = G := by rw [← HX.out]; exact (Nat.gcd_comm y (x % y)).trans ((Nat.gcd_rec y x).symm.trans (Nat.gcd_comm y x))
      have HGM := Lib.hid hgm
      clear hgm
      go_wp2
      go_quiet (fail)
      go_wp2
      go_roundw
      case rel => exact ⟨y, x % y, rfl, by simp, HGM.out, hy, by omega, below_drewN hb2 _⟩
      case measure => simp [intOf]; omega
end Yteileadcmekkoaa
end Go.Proofs
