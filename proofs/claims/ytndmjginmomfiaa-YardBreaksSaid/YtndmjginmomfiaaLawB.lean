/- The law YardBreaks returns true. -/
import Derived.Test.YtndmjginmomfiaaLawO
import Derived.Test.YtndmjginmomfiaaR6
open Go Go.RowKit Go.YtndmjginmomfiaaIt
namespace Go.Proofs
namespace Ytndmjginmomfiaa
set_option maxRecDepth 100000 in
set_option maxHeartbeats 2000000 in
theorem yardBreaks_any (y : Yd) (v : Value) (s m o d : Int) (w : World) (hw : SlW w v y.ws) :
    Calls Try.prog 5 #[.agg (encY y v), .int .i64 s, .int .i64 m, .int .i64 o, .int .i64 d] w fun e w' => e = .returned (.bool true) ∧ Below w.heap.size w w' := by
  have hy4 : (encY y v).size = 4 := rfl
  have H13 := Lib.hid (fun W (hW : Below w.heap.size w W) => large_any y v W (hw.below hW (Nat.le_refl _)))
  have H28 := Lib.hid (fun W (hW : Below w.heap.size w W) => break_any y v s m o d W (hw.below hW (Nat.le_refl _)))
  have H15 := Lib.hid (fun W (hl : y.ws.length ≤ 20) (hW : Below w.heap.size w W) => given_any y v W (hw.below hW (Nat.le_refl _)) hl)
  have H29 := Lib.hid (fun u W (hu : SlW W u y.ws) => rbreak_any y u s m o d W hu)
  have HNL := Lib.hid (fun h => not_large (y := y) h)
  generalize largeB y = lb at *
  generalize brE y s m o d = E at *
  generalize brM y s m o d = M at *
  generalize brC y s m o d = C at *
  clear hw
  go_enter Try.func5, Try.ntmps5
  refine wp_seq_k (fun K hK => ?_)
  have HK := Lib.hid hK; clear hK
  go_wp2
  refine HK.out _ _ ?_; clear HK K
  generalize hw1 : World.alloc _ _ = w1
  obtain ⟨b1, hB, hs1⟩ := blk1 hw1
  clear hw1
  have h13 := H13.out w1 hB
  cases lb
  rotate_left
  · go_wp2_with (first | (refine wpList_load_blk rfl 24 _ rfl _ rfl b1 Try.underlying24 rfl size24 hy4 ?_) | (go_at_call 13; refine h13.mono ?_; rintro e w2 ⟨rfl, hb2⟩) | (go_at_call 14; refine (works_any _).mono ?_; rintro e w3 ⟨rfl, hb3⟩))
    go_ret
    exact ⟨rfl, btr (btr hB hb2 (Nat.le_refl _)) hb3 (Nat.le_refl _)⟩
  have hl := HNL.out rfl
  refine wp_seq_k (fun K hK => ?_)
  have HK := Lib.hid hK; clear hK
  go_wp2_with (first | (refine wpList_load_blk rfl 24 _ rfl _ rfl b1 Try.underlying24 rfl size24 hy4 ?_) | (go_at_call 13; refine h13.mono ?_; rintro e w2 ⟨rfl, hb2⟩))
  refine HK.out _ _ ?_; clear HK K
  replace b1 := blk_keep b1 hb2
  replace hB := btr hB hb2 (Nat.le_refl _)
  clear hb2 h13 hs1
  have h28 := H28.out w2 hB
  refine wp_seq_k (fun K hK => ?_)
  have HK := Lib.hid hK; clear hK
  go_wp2_with (first | (refine wpList_load_blk rfl 24 _ rfl _ rfl b1 Try.underlying24 rfl size24 hy4 ?_) | (go_at_call 28; refine h28.mono ?_; rintro e w3 ⟨hb3, rfl⟩))
  refine HK.out _ _ ?_; clear HK K
  replace b1 := blk_keep b1 hb3
  replace hB := btr hB hb3 (Nat.le_refl _)
  clear hb3 h28
  have h15 := H15.out w3 hl hB
  refine wp_seq_k (fun K hK => ?_)
  have HK := Lib.hid hK; clear hK
  go_wp2_with (first | (refine wpList_load_blk rfl 24 _ rfl _ rfl b1 Try.underlying24 rfl size24 hy4 ?_) | (go_at_call 15; refine h15.mono ?_; rintro e w4 ⟨vg, rfl, hg, hb4⟩) | (go_at_call 29; refine (H29.out _ _ hg).mono ?_; rintro e w5 ⟨hb5, rfl⟩))
  refine HK.out _ _ ?_; clear HK K
  replace hB := btr (btr hB hb4 (Nat.le_refl _)) hb5 (Nat.le_refl _)
  clear hb4 hb5 h15 hg b1
  go_wp2_with (go_at_call 14; refine (works_any _).mono ?_; rintro e w7 ⟨rfl, hb7⟩)
  go_ret
  exact ⟨rfl, btr hB hb7 (Nat.le_refl _)⟩
end Ytndmjginmomfiaa
end Go.Proofs
