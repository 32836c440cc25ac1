/- Laws of rotation: rules are as stated. -/
import Derived.Test.YtnjgglnpmhjmiaaRw
import Derived.Test.YtnjgglnpmhjmiaaWk
open Go Go.RowKit Go.YtnjgglnpmhjmiaaIt
open Rest
namespace Go.Proofs
namespace Ytnjgglnpmhjmiaa
set_option maxRecDepth 100000 in
set_option maxHeartbeats 2000000 in
theorem restMade_any (crops crop years : Int) (w0 : World) : Calls Try.prog 3 #[.int .i64 crops, .int .i64 crop, .int .i64 years] w0 fun e w' => e = .returned (.bool true) ∧ Below w0.heap.size w0 w' := by
  have h1 := fun W => rest15_any crops crop years W
  have h2 := fun W => rrest_any crops crop years W
  have h3 := fun W => within17_any crops crop years W
  have h4 := fun W => rwithin_any crops crop years W
  obtain ⟨E1, hE1⟩ : ∃ q, q = madeE crops crop 0 years := ⟨_, rfl⟩
  obtain ⟨E2, hE2⟩ : ∃ q, q = madeE crops crop 1 years := ⟨_, rfl⟩
  rw [← hE1] at h1 h2
  rw [← hE2] at h3 h4
  obtain ⟨M1, hM1⟩ : ∃ q, q = resL (restL crops crop years) E1 := ⟨_, rfl⟩
  obtain ⟨M2, hM2⟩ : ∃ q, q = resL (withinL crops crop years) E2 := ⟨_, rfl⟩
  rw [← hM1] at h1 h2
  rw [← hM2] at h3 h4
  have H1 := Lib.hid h1
  have H2 := Lib.hid h2
  have H3 := Lib.hid h3
  have H4 := Lib.hid h4
  have HWK := Lib.hid works_any
  have B0 := Lib.hid (Below.refl w0.heap.size w0)
  clear hE1 hE2 hM1 hM2 h1 h2 h3 h4
  go_enter Try.func3, Try.ntmps3
  refine wp_seq_k (fun K hK => ?_)
  have HK := Lib.hid hK; clear hK
  go_wp2
  refine HK.out _ _ ?_; clear HK
  refine wp_seq_k (fun K hK => ?_)
  have HK := Lib.hid hK; clear hK
  have HR := Lib.hid (H1.out w0)
  go_wp2_with (first | (go_at_call 15; refine HR.out.mono ?_; rintro e w1a ⟨vn1, vg1, rfl, hl, hb⟩; have HL := Lib.hid (hl.now); have HB := Lib.hid hb; clear hl hb) | (refine wpList_store_blk rfl 25 _ _ rfl _ rfl rfl (heap_newI rfl) size25 rfl rfl HL.out.one ?_))
  refine HK.out _ _ ?_; clear HK
  generalize hw : World.putObj _ _ _ = w1
  obtain ⟨hx, hb⟩ := storedT HL.out hw
  obtain ⟨g1, hg⟩ : ∃ g, g = w1a.heap.size := ⟨_, rfl⟩
  rw [← hg] at hx ⊢
  have h1 := btr HB.out hb (Nat.le_refl _)
  have X1 := Lib.hid hx
  have B1 := Lib.hid (btr B0.out h1 (Nat.le_refl _))
  clear hx hb hw hg h1 HL HB HR
  refine wp_seq_k (fun K hK => ?_)
  have HK := Lib.hid hK; clear hK
  have HR := Lib.hid (H2.out w1)
  go_wp2_with (first | (go_at_call 16; refine HR.out.mono ?_; rintro e w2a ⟨vn2, vg2, rfl, hl, hb⟩; have HL := Lib.hid (hl); have HB := Lib.hid hb; clear hl hb) | (refine wpList_store_blk rfl 29 _ _ rfl _ rfl rfl (heap_newI rfl) size29 rfl rfl HL.out.one ?_))
  refine HK.out _ _ ?_; clear HK
  generalize hw : World.putObj _ _ _ = w2
  obtain ⟨hx, hb⟩ := storedT HL.out hw
  obtain ⟨g2, hg⟩ : ∃ g, g = w2a.heap.size := ⟨_, rfl⟩
  rw [← hg] at hx ⊢
  have h2 := btr HB.out hb (Nat.le_refl _)
  have X2 := Lib.hid hx
  have B2 := Lib.hid (btr B1.out h2 (Nat.le_refl _))
  have X1q := Lib.hid (X1.out.below h2)
  clear X1
  have X1 := X1q
  clear X1q
  clear hx hb hw hg h2 HL HB HR
  refine wp_seq_k (fun K hK => ?_)
  have HK := Lib.hid hK; clear hK
  have HR := Lib.hid (H3.out w2)
  go_wp2_with (first | (go_at_call 17; refine HR.out.mono ?_; rintro e w3a ⟨vn3, vg3, rfl, hl, hb⟩; have HL := Lib.hid (hl.now); have HB := Lib.hid hb; clear hl hb) | (refine wpList_store_blk rfl 25 _ _ rfl _ rfl rfl (heap_newI rfl) size25 rfl rfl HL.out.one ?_))
  refine HK.out _ _ ?_; clear HK
  generalize hw : World.putObj _ _ _ = w3
  obtain ⟨hx, hb⟩ := storedT HL.out hw
  obtain ⟨g3, hg⟩ : ∃ g, g = w3a.heap.size := ⟨_, rfl⟩
  rw [← hg] at hx ⊢
  have h3 := btr HB.out hb (Nat.le_refl _)
  have X3 := Lib.hid hx
  have B3 := Lib.hid (btr B2.out h3 (Nat.le_refl _))
  have X1q := Lib.hid (X1.out.below h3)
  clear X1
  have X1 := X1q
  clear X1q
  have X2q := Lib.hid (X2.out.below h3)
  clear X2
  have X2 := X2q
  clear X2q
  clear hx hb hw hg h3 HL HB HR
  refine wp_seq_k (fun K hK => ?_)
  have HK := Lib.hid hK; clear hK
  have HR := Lib.hid (H4.out w3)
  go_wp2_with (first | (go_at_call 18; refine HR.out.mono ?_; rintro e w4a ⟨vn4, vg4, rfl, hl, hb⟩; have HL := Lib.hid (hl); have HB := Lib.hid hb; clear hl hb) | (refine wpList_store_blk rfl 29 _ _ rfl _ rfl rfl (heap_newI rfl) size29 rfl rfl HL.out.one ?_))
  refine HK.out _ _ ?_; clear HK
  generalize hw : World.putObj _ _ _ = w4
  obtain ⟨hx, hb⟩ := storedT HL.out hw
  obtain ⟨g4, hg⟩ : ∃ g, g = w4a.heap.size := ⟨_, rfl⟩
  rw [← hg] at hx ⊢
  have h4 := btr HB.out hb (Nat.le_refl _)
  have X4 := Lib.hid hx
  have B4 := Lib.hid (btr B3.out h4 (Nat.le_refl _))
  have X1q := Lib.hid (X1.out.below h4)
  clear X1
  have X1 := X1q
  clear X1q
  have X2q := Lib.hid (X2.out.below h4)
  clear X2
  have X2 := X2q
  clear X2q
  have X3q := Lib.hid (X3.out.below h4)
  clear X3
  have X3 := X3q
  clear X3q
  clear hx hb hw hg h4 HL HB HR
  have hEE1 : (E1 == E1) = true := beq_self_eq_true E1
  have hEE2 : (E2 == E2) = true := beq_self_eq_true E2
  go_wp2_with (first
    | (have _m := hd2; go_at_call 20; refine (HWK.out _).mono ?_; rintro e w7 ⟨rfl, hb7⟩)
    | (refine wpList_load_blk rfl 25 (.tmp 7) rfl _ rfl X1.out.blk Try.underlying25 rfl size25 rfl ?_)
    | (refine wpList_load_blk rfl 29 (.tmp 9) rfl _ rfl X2.out.blk Try.underlying29 rfl size29 rfl ?_)
    | (have _m := hd1; refine wpList_load_blk rfl 25 (.tmp 11) rfl _ rfl (blk_keep X3.out.blk D1.out) Try.underlying25 rfl size25 rfl ?_)
    | (have _m := hd1; refine wpList_load_blk rfl 29 (.tmp 13) rfl _ rfl (blk_keep X4.out.blk D1.out) Try.underlying29 rfl size29 rfl ?_)
    | (have _m := hd1; go_at_call 19; refine (same_any (X3.out.below D1.out).law (X4.out.below D1.out).law).mono ?_; rintro e w6 ⟨rfl, hb6⟩; rw [same_true]; have D2 := Lib.hid (btr D1.out hb6 (Nat.le_refl _)); have hd2 : True := trivial; clear hb6)
    | (go_at_call 19; refine (same_any X1.out.law X2.out.law).mono ?_; rintro e w5 ⟨rfl, hb5⟩; rw [same_true]; have D1 := Lib.hid hb5; have hd1 : True := trivial; clear hb5))
  go_ret
  exact ⟨rfl, btr B4.out (btr D2.out hb7 (Nat.le_refl _)) (Nat.le_refl _)⟩
end Ytnjgglnpmhjmiaa
end Go.Proofs
