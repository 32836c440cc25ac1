/- The law YardOrders returns true. -/
import Derived.Test.YtndmjginmomfiaaGiv
open Go Go.RowKit Go.YtndmjginmomfiaaIt
namespace Go.Proofs
namespace Ytndmjginmomfiaa
def ordQ (y : Yd) (s m d : Int) : List Int := if ordE y s m d = 0 then ordK y (d - 1).toNat s.toNat m.toNat else []
theorem orders_u (y : Yd) (v : Value) (s m d : Int) (w : World) (hw : SlW w v y.ws) :
    Calls Try.prog 25 #[.agg (encY y v), .int .i64 s, .int .i64 m, .int .i64 d] w fun e w' => ∃ u, e = .returned (.tuple #[u, .int .i64 (ordE y s m d)]) ∧ SlI w' u (ordQ y s m d) ∧ Below w.heap.size w w' := by
  refine (ordersX_any y v s m d w hw).mono ?_
  rintro e w' ⟨hb, ⟨h, rfl⟩ | ⟨h, u, rfl, hu⟩⟩
  · exact ⟨_, rfl, by unfold ordQ; rw [if_neg h]; exact slI_nil _, hb⟩
  · exact ⟨u, by rw [h], by unfold ordQ; rw [if_pos h]; exact hu, hb⟩
theorem rorders_u (y : Yd) (v : Value) (s m d : Int) (w : World) (hw : SlW w v y.ws) :
    Calls Try.prog 26 #[.agg (encY y v), .int .i64 s, .int .i64 m, .int .i64 d] w fun e w' => ∃ u, e = .returned (.tuple #[u, .int .i64 (ordE y s m d)]) ∧ SlI w' u (ordQ y s m d) ∧ Below w.heap.size w w' := by
  refine (rorders_any y v s m d w hw).mono ?_
  rintro e w' ⟨hb, ⟨h, rfl⟩ | ⟨h, u, rfl, hu⟩⟩
  · exact ⟨_, rfl, by unfold ordQ; rw [if_neg h]; exact slI_nil _, hb⟩
  · exact ⟨u, by rw [h], by unfold ordQ; rw [if_pos h]; exact hu, hb⟩
theorem not_large {y : Yd} (h : largeB y = false) : y.ws.length ≤ 20 := by
  unfold largeB at h
  simp at h
  omega
set_option maxRecDepth 100000 in
set_option maxHeartbeats 2000000 in
theorem yardOrders_any (y : Yd) (v : Value) (s m d : Int) (w : World) (hw : SlW w v y.ws) :
    Calls Try.prog 4 #[.agg (encY y v), .int .i64 s, .int .i64 m, .int .i64 d] w fun e w' => e = .returned (.bool true) ∧ Below w.heap.size w w' := by
  have hy4 : (encY y v).size = 4 := rfl
  have H13 := Lib.hid (fun W (hW : Below w.heap.size w W) => large_any y v W (hw.below hW (Nat.le_refl _)))
  have H25 := Lib.hid (fun W (hW : Below w.heap.size w W) => orders_u y v s m d W (hw.below hW (Nat.le_refl _)))
  have H15 := Lib.hid (fun W (hl : y.ws.length ≤ 20) (hW : Below w.heap.size w W) => given_any y v W (hw.below hW (Nat.le_refl _)) hl)
  have H26 := Lib.hid (fun u W (hu : SlW W u y.ws) => rorders_u y u s m d W hu)
  have HNL := Lib.hid (fun h => not_large (y := y) h)
  generalize largeB y = lb at *
  generalize ordQ y s m d = L at *
  generalize ordE y s m d = E at *
  clear hw
  go_enter Try.func4, Try.ntmps4
  refine wp_seq_k (fun K hK => ?_)
  have HK := Lib.hid hK; clear hK
  go_wp2
  refine HK.out _ _ ?_; clear HK K
  generalize hw1 : World.alloc _ _ = w1
  obtain ⟨b1, hB, hs1⟩ := blk1 hw1
  clear hw1
  have h13 := H13.out w1 hB
  cases lb
  rotate_left
  · go_wp2_with (first | (refine wpList_load_blk rfl 24 _ rfl _ rfl b1 Try.underlying24 rfl size24 hy4 ?_) | (go_at_call 13; refine h13.mono ?_; rintro e w2 ⟨rfl, hb2⟩) | (go_at_call 14; refine (works_any _).mono ?_; rintro e w3 ⟨rfl, hb3⟩))
    go_ret
    exact ⟨rfl, btr (btr hB hb2 (Nat.le_refl _)) hb3 (Nat.le_refl _)⟩
  have hl := HNL.out rfl
  refine wp_seq_k (fun K hK => ?_)
  have HK := Lib.hid hK; clear hK
  go_wp2_with (first | (refine wpList_load_blk rfl 24 _ rfl _ rfl b1 Try.underlying24 rfl size24 hy4 ?_) | (go_at_call 13; refine h13.mono ?_; rintro e w2 ⟨rfl, hb2⟩))
  refine HK.out _ _ ?_; clear HK K
  replace b1 := blk_keep b1 hb2
  replace hB := btr hB hb2 (Nat.le_refl _)
  clear hb2 h13 hs1
  have h25 := H25.out w2 hB
  refine wp_seq_k (fun K hK => ?_)
  have HK := Lib.hid hK; clear hK
  go_wp2_with (first | (refine wpList_load_blk rfl 24 _ rfl _ rfl b1 Try.underlying24 rfl size24 hy4 ?_) | (go_at_call 25; refine h25.mono ?_; rintro e w3 ⟨u1, rfl, hu1, hb3⟩))
  refine HK.out _ _ ?_; clear HK K
  replace b1 := blk_keep b1 hb3
  replace hB := btr hB hb3 (Nat.le_refl _)
  clear hb3 h25
  have h15 := H15.out w3 hl hB
  refine wp_seq_k (fun K hK => ?_)
  have HK := Lib.hid hK; clear hK
  go_wp2_with (first | (refine wpList_load_blk rfl 24 _ rfl _ rfl b1 Try.underlying24 rfl size24 hy4 ?_) | (go_at_call 15; refine h15.mono ?_; rintro e w4 ⟨vg, rfl, hg, hb4⟩) | (go_at_call 26; refine (H26.out _ _ hg).mono ?_; rintro e w5 ⟨u2, rfl, hu2, hb5⟩))
  refine HK.out _ _ ?_; clear HK K
  replace hu1 := (hu1.below hb4 (Nat.le_refl _)).below hb5 (Nat.le_refl _)
  replace hB := btr (btr hB hb4 (Nat.le_refl _)) hb5 (Nat.le_refl _)
  clear hb4 hb5 h15 hg b1
  have h27 := numbers_any u1 u2 L L w5 hu1 hu2
  rw [show decide (L = L) = true by simp] at h27
  have hEE : (E == E) = true := by simp
  go_wp2_with (first | (go_at_call 27; refine h27.mono ?_; rintro e w6 ⟨rfl, hb6⟩) | (go_at_call 14; refine (works_any _).mono ?_; rintro e w7 ⟨rfl, hb7⟩))
  go_ret
  exact ⟨rfl, btr (btr hB hb6 (Nat.le_refl _)) hb7 (Nat.le_refl _)⟩
end Ytndmjginmomfiaa
end Go.Proofs
