/- Fields: the chapter's examples hold: works. -/
import Derived.Test.YtgnjeefanbcbkaaC3
open Go Go.RowKit Go.YtgnjeefanbcbkaaIt
namespace Go.Proofs
namespace Ytgnjeefanbcbkaa
theorem F2_any (w : World) : Calls Try.prog 38 #[] w fun e w' => ∃ v, e = .returned (.agg #[.int .i64 5, .int .i64 0, .int .i64 2000, v]) ∧ SlS w' v exF ∧ Below w.heap.size w w' := by
  refine (F_any w).mono ?_
  rintro e w' ⟨g, rfl, hg, hb, -⟩
  exact ⟨_, rfl, slS_blk (ss := exF) (cap := 3) hg (by decide) (by decide), hb⟩
theorem Z2_any (w : World) : Calls Try.prog 39 #[] w fun e w' => ∃ v, e = .returned (.agg #[.int .i64 5, .int .i64 0, .int .i64 2000, v]) ∧ SlS w' v exZ ∧ Below w.heap.size w w' := by
  refine (Z_any w).mono ?_
  rintro e w' ⟨g, rfl, hg, hb, -⟩
  exact ⟨_, rfl, slS_blk (ss := exZ) (cap := 3) hg (by decide) (by decide), hb⟩
def kF : List (Int × Int) := [(980, 1020), (1180, 1545), (1380, 1420), (1275, 1640), (1170, 1230)]
theorem x14F (v : Value) (w : World) (h : SlS w v exF) : Calls Try.prog 14 #[.agg #[.int .i64 5, .int .i64 0, .int .i64 2000, v]] w fun e w' => ∃ p, e = .returned (.tuple #[p, .int .i64 0]) ∧ SlR w' p kF ∧ Below w.heap.size w w' := by
  refine (known_any 5 0 2000 v exF w h).mono ?_
  rintro e w' ⟨p, rfl, h1, h2⟩
  rw [known_F] at h1
  exact ⟨p, by rw [pos_F], h1, h2⟩
theorem x14Z (v : Value) (w : World) (h : SlS w v exZ) : Calls Try.prog 14 #[.agg #[.int .i64 5, .int .i64 0, .int .i64 2000, v]] w fun e w' => ∃ p, e = .returned (.tuple #[p, .int .i64 12]) ∧ Below w.heap.size w w' := by
  refine (known_any 5 0 2000 v exZ w h).mono ?_
  rintro e w' ⟨p, rfl, h1, h2⟩
  exact ⟨p, by rw [pos_Z], h2⟩
theorem x20Z (v : Value) (w : World) (h : SlS w v exZ) : Calls Try.prog 20 #[.agg #[.int .i64 5, .int .i64 0, .int .i64 2000, v]] w fun e w' => ∃ p, e = .returned (.tuple #[p, .int .i64 0]) ∧ (∃ xs, SlI w' p xs ∧ verE 5 0 2000 exZ xs = 0) ∧ Below w.heap.size w w' := by
  refine (clashF_any 5 0 2000 v exZ w h).mono ?_
  rintro e w' ⟨p, rfl, h1, h2⟩
  refine ⟨p, by rw [cl_Z], ?_, h2⟩
  rcases h1 with ⟨-, m, i, j, k, hm, hi, hj, hk, hh, hs⟩ | ⟨h, -⟩
  · have : m = 5 := by omega
    subst this
    exact ⟨_, hs, ver_any hi hj hk hh⟩
  · exact absurd cl_Z h
theorem x24F (v : Value) (w : World) (h : SlS w v exF) : Calls Try.prog 24 #[.agg #[.int .i64 5, .int .i64 0, .int .i64 2000, v]] w fun e w' => ∃ p, e = .returned (.tuple #[p, .int .i64 0]) ∧ SlI w' p [1, 2, 3] ∧ Below w.heap.size w w' := by
  refine (peaks_any 5 0 2000 v exF w h).mono ?_
  rintro e w' ⟨p, rfl, h1, h2⟩
  rw [peaks_F] at h1
  exact ⟨p, by rw [pos_F], h1, h2⟩
theorem x26F (v : Value) (w : World) (h : SlS w v exF) : Calls Try.prog 26 #[.agg #[.int .i64 5, .int .i64 0, .int .i64 2000, v], .int .i64 1300] w fun e w' => ∃ p q, e = .returned (.tuple #[p, q, .int .i64 0]) ∧ SlI w' p [2] ∧ SlI w' q [1, 2, 3] ∧ Below w.heap.size w w' := by
  refine (ripe_any 5 0 2000 v exF 1300 w h).mono ?_
  rintro e w' ⟨p, q, rfl, h1, h2, h3⟩
  rw [surely_F] at h1
  rw [perhaps_F] at h2
  exact ⟨p, q, by rw [pos_F], h1, h2, h3⟩
theorem x22Z (v u : Value) (xs : List Int) (w : World) (h : SlS w v exZ) (hx : SlI w u xs) (hv : verE 5 0 2000 exZ xs = 0) : Calls Try.prog 22 #[.agg #[.int .i64 5, .int .i64 0, .int .i64 2000, v], u] w fun e w' => e = .returned (.int .i64 0) ∧ Below w.heap.size w w' := by
  have := verify_any 5 0 2000 v u exZ xs w h hx
  rwa [hv] at this
theorem x22F (v u : Value) (w : World) (h : SlS w v exF) (hx : SlI w u [0, 2, 4]) : Calls Try.prog 22 #[.agg #[.int .i64 5, .int .i64 0, .int .i64 2000, v], u] w fun e w' => e = .returned (.int .i64 11) ∧ Below w.heap.size w w' := by
  have := verify_any 5 0 2000 v u exF [0, 2, 4] w h hx
  rwa [ver_F] at this
theorem x29F (v : Value) (w : World) (h : SlS w v exF) : Calls Try.prog 29 #[.agg #[.int .i64 5, .int .i64 0, .int .i64 2000, v], .int .i64 3] w fun e w' => e = .returned (.tuple #[.int .i64 250, .int .i64 0]) ∧ Below w.heap.size w w' := by
  have := regretF_any 5 0 2000 v exF 3 w h
  rwa [reg_F, regE_F] at this
theorem x31F (v : Value) (w : World) (h : SlS w v exF) : Calls Try.prog 31 #[.agg #[.int .i64 5, .int .i64 0, .int .i64 2000, v]] w fun e w' => e = .returned (.tuple #[.int .i64 2, .int .i64 220, .int .i64 0]) ∧ Below w.heap.size w w' := by
  have := cut_any 5 0 2000 v exF w h
  rwa [cutW_F, cutV_F, pos_F] at this
theorem n28 (v u : Value) (xs : List Int) (w : World) (h : SlI w v xs) (h2 : SlI w u xs) : Calls Try.prog 28 #[v, u] w fun e w' => e = .returned (.bool true) ∧ Below w.heap.size w w' := by
  have := numbers_any v u xs xs w h h2
  simpa using this
theorem n17 (v u : Value) (xs : List (Int × Int)) (w : World) (h : SlR w v xs) (h2 : SlR w u xs) : Calls Try.prog 17 #[v, u] w fun e w' => e = .returned (.bool true) ∧ Below w.heap.size w w' := by
  have := spans_any v u xs xs w h h2
  simpa using this
set_option maxRecDepth 100000 in
set_option maxHeartbeats 8000000 in
theorem works_any (w : World) : Calls Try.prog 13 #[] w fun e w' => e = .returned (.bool true) ∧ Below w.heap.size w w' := by
  have hal : Hid (∀ (W : World) (o : Obj), Below W.heap.size W (W.alloc o)) := Lib.hid fun W o => (blk1 rfl).2.1
  have hlit1 : Hid (∀ (W : World) (a : Int), SlI (W.alloc (.cells #[.int .i64 a] 3)) (.slice (some ⟨W.heap.size, 0, none⟩) 1 1) [a]) := Lib.hid fun W a => slI_new (xs := [a]) (by simp) (Nat.le_refl _) (heap_newI rfl)
  have hlit3 : Hid (∀ (W : World) (a b c : Int), SlI (W.alloc (.cells #[.int .i64 a, .int .i64 b, .int .i64 c] 3)) (.slice (some ⟨W.heap.size, 0, none⟩) 3 3) [a, b, c]) := Lib.hid fun W a b c => slI_new (xs := [a, b, c]) (by simp) (Nat.le_refl _) (heap_newI rfl)
  have hlit5 : Hid (∀ (W : World), SlR (W.alloc (.cells (kF.flatMap encR).toArray 23)) (.slice (some ⟨W.heap.size, 0, none⟩) 5 5) kF) := Lib.hid fun W => slG_new encR_len (xs := kF) (by decide) (by decide) (heap_newI rfl)
  go_enter Try.func13, Try.ntmps13
  refine wp_seq_k (fun K hK => ?_)
  have HK := Lib.hid hK; clear hK
  go_wp2
  refine HK.out _ _ ?_; clear HK K
  have B0 : Below w.heap.size w w := Below.refl _ _
  refine wp_seq_k (fun K hK => ?_)
  have HK := Lib.hid hK; clear hK
  go_wp2_with (first | (go_at_call 38; refine (F2_any _).mono ?_; rintro e wa ⟨va, rfl, ha, hba⟩) | (go_at_call 14; refine (x14F _ _ ha).mono ?_; rintro e w1 ⟨kv, rfl, hk, hbc⟩))
  refine HK.out _ _ ?_; clear HK K
  replace B0 := btr (btr B0 hba (Nat.le_refl _)) hbc (Nat.le_refl _)
  clear hba hbc ha wa
  refine wp_seq_k (fun K hK => ?_)
  have HK := Lib.hid hK; clear hK
  go_wp2_with (first | (go_at_call 39; refine (Z2_any _).mono ?_; rintro e wa ⟨va, rfl, ha, hba⟩) | (go_at_call 14; refine (x14Z _ _ ha).mono ?_; rintro e w2 ⟨zv, rfl, hbc⟩))
  refine HK.out _ _ ?_; clear HK K
  have hb2 := btr hba hbc (Nat.le_refl _)
  replace B0 := btr B0 hb2 (Nat.le_refl _)
  replace hk := hk.below hb2 (Nat.le_refl _)
  clear hba hbc ha hb2 wa
  refine wp_seq_k (fun K hK => ?_)
  have HK := Lib.hid hK; clear hK
  go_wp2_with (first | (go_at_call 39; refine (Z2_any _).mono ?_; rintro e wa ⟨va, rfl, ha, hba⟩) | (go_at_call 20; refine (x20Z _ _ ha).mono ?_; rintro e w3 ⟨cv, rfl, ⟨cl, hcv, hcl⟩, hbc⟩))
  refine HK.out _ _ ?_; clear HK K
  have hb2 := btr hba hbc (Nat.le_refl _)
  replace B0 := btr B0 hb2 (Nat.le_refl _)
  replace hk := hk.below hb2 (Nat.le_refl _)
  clear hba hbc ha hb2 wa
  have HCL := Lib.hid hcl
  clear hcl
  refine wp_seq_k (fun K hK => ?_)
  have HK := Lib.hid hK; clear hK
  go_wp2_with (first | (go_at_call 38; refine (F2_any _).mono ?_; rintro e wa ⟨va, rfl, ha, hba⟩) | (go_at_call 24; refine (x24F _ _ ha).mono ?_; rintro e w4 ⟨pv, rfl, hp, hbc⟩))
  refine HK.out _ _ ?_; clear HK K
  have hb2 := btr hba hbc (Nat.le_refl _)
  replace B0 := btr B0 hb2 (Nat.le_refl _)
  replace hk := hk.below hb2 (Nat.le_refl _)
  replace hcv := hcv.below hb2 (Nat.le_refl _)
  clear hba hbc ha hb2 wa
  refine wp_seq_k (fun K hK => ?_)
  have HK := Lib.hid hK; clear hK
  go_wp2_with (first | (go_at_call 38; refine (F2_any _).mono ?_; rintro e wa ⟨va, rfl, ha, hba⟩) | (go_at_call 26; refine (x26F _ _ ha).mono ?_; rintro e w5 ⟨sv, qv, rfl, hs, hq, hbc⟩))
  refine HK.out _ _ ?_; clear HK K
  have hb2 := btr hba hbc (Nat.le_refl _)
  replace B0 := btr B0 hb2 (Nat.le_refl _)
  replace hk := hk.below hb2 (Nat.le_refl _)
  replace hcv := hcv.below hb2 (Nat.le_refl _)
  replace hp := hp.below hb2 (Nat.le_refl _)
  clear hba hbc ha hb2 wa
  have HKV := Lib.hid hk
  have HCV := Lib.hid hcv
  have HP := Lib.hid hp
  have HS := Lib.hid hs
  have HQ := Lib.hid hq
  clear hk hcv hp hs hq
  have B5 : Below w5.heap.size w5 w5 := Below.refl _ _
  refine wp_seq_k (fun K hK => ?_)
  have HK := Lib.hid hK; clear hK
  go_wp2_with (first
    | (go_at_call 22; have := mk5; refine (x22F _ _ _ (ha.below (hal.out _ _) (Nat.le_refl _)) (hlit3.out _ 0 2 4)).mono ?_; rintro e wa ⟨rfl, hb⟩; replace B5 := btr (B5.alloc B5.size _) hb (Nat.le_refl _))
    | (go_at_call 38; refine (F2_any _).mono ?_; rintro e wa ⟨va, rfl, ha, hb⟩; replace B5 := btr B5 hb (Nat.le_refl _); have mk5 : True := trivial)
    | (go_at_call 22; have := mk3; refine (x22Z _ _ _ _ (ha.below (hal.out _ _) (Nat.le_refl _)) (hlit3.out _ 0 2 4) ver_Z).mono ?_; rintro e wa ⟨rfl, hb⟩; replace B5 := btr (B5.alloc B5.size _) hb (Nat.le_refl _))
    | (go_at_call 39; have := mk2; refine (Z2_any _).mono ?_; rintro e wa ⟨va, rfl, ha, hb⟩; replace B5 := btr B5 hb (Nat.le_refl _); have mk3 : True := trivial)
    | (go_at_call 22; have := mk1; refine (x22Z _ _ _ _ ha (HCV.out.below B5 (Nat.le_refl _)) HCL.out).mono ?_; rintro e wa ⟨rfl, hb⟩; replace B5 := btr B5 hb (Nat.le_refl _); have mk2 : True := trivial)
    | (go_at_call 39; refine (Z2_any _).mono ?_; rintro e wa ⟨va, rfl, ha, hb⟩; replace B5 := btr B5 hb (Nat.le_refl _); have mk1 : True := trivial)
    | (go_at_call 17; refine (n17 _ _ kF _ (HKV.out.below (B5.alloc B5.size _) (Nat.le_refl _)) (hlit5.out _)).mono ?_; rintro e wa ⟨rfl, hb⟩; replace B5 := btr (B5.alloc B5.size _) hb (Nat.le_refl _))
    | (go_at_call 37; refine (span_any _ _ _).mono ?_; rintro e wa ⟨rfl, hb⟩; replace B5 := btr B5 hb (Nat.le_refl _)))
  refine HK.out _ _ ?_; clear HK K
  replace B0 := btr B0 B5 (Nat.le_refl _)
  replace HP := Lib.hid (HP.out.below B5 (Nat.le_refl _))
  replace HS := Lib.hid (HS.out.below B5 (Nat.le_refl _))
  replace HQ := Lib.hid (HQ.out.below B5 (Nat.le_refl _))
  clear HKV HCV HCL B5 hb mk1 mk2 mk3 mk5 ha
  refine wp_seq_k (fun K hK => ?_)
  have HK := Lib.hid hK; clear hK
  go_wp2_with (first | (go_at_call 38; refine (F2_any _).mono ?_; rintro e wb ⟨va, rfl, ha, hba⟩) | (go_at_call 29; refine (x29F _ _ ha).mono ?_; rintro e w6 ⟨rfl, hbc⟩))
  refine HK.out _ _ ?_; clear HK K
  have hb2 := btr hba hbc (Nat.le_refl _)
  replace B0 := btr B0 hb2 (Nat.le_refl _)
  replace HP := Lib.hid (HP.out.below hb2 (Nat.le_refl _))
  replace HS := Lib.hid (HS.out.below hb2 (Nat.le_refl _))
  replace HQ := Lib.hid (HQ.out.below hb2 (Nat.le_refl _))
  clear hba hbc ha hb2 wb
  refine wp_seq_k (fun K hK => ?_)
  have HK := Lib.hid hK; clear hK
  go_wp2_with (first | (go_at_call 38; refine (F2_any _).mono ?_; rintro e wb ⟨va, rfl, ha, hba⟩) | (go_at_call 31; refine (x31F _ _ ha).mono ?_; rintro e w7 ⟨rfl, hbc⟩))
  refine HK.out _ _ ?_; clear HK K
  have hb2 := btr hba hbc (Nat.le_refl _)
  replace B0 := btr B0 hb2 (Nat.le_refl _)
  replace HP := Lib.hid (HP.out.below hb2 (Nat.le_refl _))
  replace HS := Lib.hid (HS.out.below hb2 (Nat.le_refl _))
  replace HQ := Lib.hid (HQ.out.below hb2 (Nat.le_refl _))
  clear hba hbc ha hb2 wb
  have B7 : Below w7.heap.size w7 w7 := Below.refl _ _
  go_wp2_with (first
    | (go_at_call 28; have := mk2; refine (n28 _ _ _ _ (HQ.out.below (B7.alloc B7.size _) (Nat.le_refl _)) (hlit3.out _ 1 2 3)).mono ?_; rintro e wb ⟨rfl, hb⟩; replace B7 := btr (B7.alloc B7.size _) hb (Nat.le_refl _))
    | (go_at_call 28; have := mk1; refine (n28 _ _ _ _ (HS.out.below (B7.alloc B7.size _) (Nat.le_refl _)) (hlit1.out _ 2)).mono ?_; rintro e wb ⟨rfl, hb⟩; replace B7 := btr (B7.alloc B7.size _) hb (Nat.le_refl _); have mk2 : True := trivial)
    | (go_at_call 28; refine (n28 _ _ _ _ (HP.out.below (B7.alloc B7.size _) (Nat.le_refl _)) (hlit3.out _ 1 2 3)).mono ?_; rintro e wb ⟨rfl, hb⟩; replace B7 := btr (B7.alloc B7.size _) hb (Nat.le_refl _); have mk1 : True := trivial))
  go_ret
  exact ⟨rfl, btr B0 B7 (Nat.le_refl _)⟩
end Ytgnjeefanbcbkaa
end Go.Proofs
