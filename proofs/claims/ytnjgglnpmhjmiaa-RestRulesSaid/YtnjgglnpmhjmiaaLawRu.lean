/- Laws of rotation: what rules allow is what their words say. -/
import Derived.Test.YtnjgglnpmhjmiaaD13
open Go Go.RowKit Go.YtnjgglnpmhjmiaaIt
open Rest
namespace Go.Proofs
namespace Ytnjgglnpmhjmiaa
theorem both_s {va vb : Value} {a b : Lw} {w : World} {n m : Nat} (ha : LawA w va a) (hb : LawA w vb b) (ta : Tw a n) (tb : Tw b m) (h40 : (joinT a b (fun a b => a && b)).st.length ≤ 40) : Calls Try.prog 42 #[va, vb] w fun e w' => ∃ vn vg, e = .returned (.tuple #[.agg #[vn, vg], .int .i64 0]) ∧ LawA w' (.agg #[vn, vg]) (andL a b) ∧ Below w.heap.size w w' := by
 have h1 := both42_any ha hb
 unfold bothE at h1
 rw [(join_small ta tb h40).2.2] at h1
 exact h1.mono (by rintro e w' ⟨vn, vg, h1, h2, h3⟩; exact ⟨vn, vg, h1, h2.now, h3⟩)
set_option maxRecDepth 100000 in
set_option maxHeartbeats 8000000 in
theorem restRules_any {cr yr ot : Int} {w : World} (h1 : 0 ≤ cr ∧ cr < 256) (h2 : 0 ≤ yr ∧ yr < 256) (h3 : 0 ≤ ot ∧ ot < 256) : Calls Try.prog 6 #[.int .u8 cr, .int .u8 yr, .int .u8 ot] w fun e w' => e = .returned (.bool true) ∧ Below w.heap.size w w' := by
 obtain ⟨c, hc⟩ : ∃ c : Nat, cr.tmod 2 = (c : Int) ∧ c < 2 := ⟨(cr.tmod 2).toNat, by rw [Int.tmod_eq_emod_of_nonneg (by omega)]; omega⟩
 obtain ⟨n, hn⟩ : ∃ n : Nat, yr.tmod 6 = (n : Int) ∧ n < 6 := ⟨(yr.tmod 6).toNat, by rw [Int.tmod_eq_emod_of_nonneg (by omega)]; omega⟩
 obtain ⟨o4, ho⟩ : ∃ k : Nat, ot.tmod 4 = (k : Int) ∧ k < 4 := ⟨(ot.tmod 4).toNat, by rw [Int.tmod_eq_emod_of_nonneg (by omega)]; omega⟩
 obtain ⟨cr, rfl⟩ : ∃ m : Nat, cr = (m : Int) := ⟨cr.toNat, by omega⟩
 obtain ⟨yr, rfl⟩ : ∃ m : Nat, yr = (m : Int) := ⟨yr.toNat, by omega⟩
 obtain ⟨ot, rfl⟩ : ∃ m : Nat, ot = (m : Int) := ⟨ot.toNat, by omega⟩
 obtain ⟨hc, hc2⟩ := hc
 obtain ⟨hn, hn6⟩ := hn
 obtain ⟨ho, ho4⟩ := ho
 obtain ⟨m, hm⟩ : ∃ m : Nat, m = n + o4 := ⟨_, rfl⟩
 have hmi : (n : Int) + (o4 : Int) = (m : Int) := by omega
 have HM := Lib.hid (show n ≤ m ∧ m ≤ 9 by omega)
 have hm9 : m ≤ 9 := by omega
 obtain ⟨LA, hLA⟩ : ∃ q, q = restL 2 c n := ⟨_, rfl⟩
 obtain ⟨LB, hLB⟩ : ∃ q, q = restL 2 c m := ⟨_, rfl⟩
 obtain ⟨LP, hLP⟩ : ∃ q, q = withinL 2 c ((n + 1 : Nat) : Int) := ⟨_, rfl⟩
 obtain ⟨LQ, hLQ⟩ : ∃ q, q = withinL 2 c ((m + 1 : Nat) : Int) := ⟨_, rfl⟩
 have TA := Lib.hid (show Tw LA (n + 2) by rw [hLA]; exact (rest_tw (by omega)).1)
 have TB := Lib.hid (show Tw LB (m + 2) by rw [hLB]; exact (rest_tw (by omega)).1)
 have TP := Lib.hid (show Tw LP (n + 2) by rw [hLP]; exact (within_tw (by omega) (by omega)).1)
 have TQ := Lib.hid (show Tw LQ (m + 2) by rw [hLQ]; exact (within_tw (by omega) (by omega)).1)
 have WA := Lib.hid (show ∀ w, Wd 2 w → Wl LA w = restB c n (nI w) 0 (-1) by rw [hLA]; exact fun w hw => rest_is (by omega) hw)
 have WB := Lib.hid (show ∀ w, Wd 2 w → Wl LB w = restB c m (nI w) 0 (-1) by rw [hLB]; exact fun w hw => rest_is (by omega) hw)
 have WP := Lib.hid (show ∀ w, Wd 2 w → Wl LP w = winB c (n + 1) (nI w) by rw [hLP]; exact fun w hw => win_is (by omega) (by omega) (by omega) hw)
 have WQ := Lib.hid (show ∀ w, Wd 2 w → Wl LQ w = winB c (m + 1) (nI w) by rw [hLQ]; exact fun w hw => win_is (by omega) (by omega) (by omega) hw)
 have CA := Lib.hid (show ∀ W, Calls Try.prog 15 #[.int .i64 2, .int .i64 c, .int .i64 n] W fun e w' => ∃ vn vg, e = .returned (.tuple #[.agg #[vn, vg], .int .i64 0]) ∧ LawA w' (.agg #[vn, vg]) LA ∧ Below W.heap.size W w' by rw [hLA]; exact fun W => rest_c hc2 (by omega) W)
 have CB := Lib.hid (show ∀ W, Calls Try.prog 15 #[.int .i64 2, .int .i64 c, .int .i64 m] W fun e w' => ∃ vn vg, e = .returned (.tuple #[.agg #[vn, vg], .int .i64 0]) ∧ LawA w' (.agg #[vn, vg]) LB ∧ Below W.heap.size W w' by rw [hLB]; exact fun W => rest_c hc2 (by omega) W)
 have CP := Lib.hid (show ∀ W, Calls Try.prog 17 #[.int .i64 2, .int .i64 c, .int .i64 ((n : Int) + 1)] W fun e w' => ∃ vn vg, e = .returned (.tuple #[.agg #[vn, vg], .int .i64 0]) ∧ LawA w' (.agg #[vn, vg]) LP ∧ Below W.heap.size W w' by rw [hLP]; exact fun W => within_c hc2 (by omega) (by omega) (by omega) W)
 have CQ := Lib.hid (show ∀ W, Calls Try.prog 17 #[.int .i64 2, .int .i64 c, .int .i64 ((m : Int) + 1)] W fun e w' => ∃ vn vg, e = .returned (.tuple #[.agg #[vn, vg], .int .i64 0]) ∧ LawA w' (.agg #[vn, vg]) LQ ∧ Below W.heap.size W w' by rw [hLQ]; exact fun W => within_c hc2 (by omega) (by omega) (by omega) W)
 obtain ⟨LR, hLR⟩ : ∃ q, q = withinL 2 c (n : Int) := ⟨_, rfl⟩
 have HRR := Lib.hid (show 1 ≤ n → Tw LR (n + 1) ∧ (∀ w, Wd 2 w → Wl LR w = winB c n (nI w)) ∧ (∀ W, Calls Try.prog 17 #[.int .i64 2, .int .i64 c, .int .i64 n] W fun e w' => ∃ vn vg, e = .returned (.tuple #[.agg #[vn, vg], .int .i64 0]) ∧ LawA w' (.agg #[vn, vg]) LR ∧ Below W.heap.size W w') ∧ (joinT LA LR (fun a b => a && b)).st.length ≤ 40 from fun h => by
  rw [hLA, hLR]
  exact ⟨(within_tw h (by omega)).1, fun w hw => win_is h (by omega) (by omega) hw, fun W => within_c hc2 h (by omega) rfl W, rules_small h (by omega)⟩)
 have HC2 := Lib.hid hc2
 have HBw := Lib.hid (Below.refl w.heap.size w)
 clear hm ho4 hLA hLB hLP hLQ hLR hc2
 go_enter Try.func6, Try.ntmps6
 refine wp_seq_k (fun K hK => ?_)
 have HK := Lib.hid hK; clear hK
 go_wp2
 refine HK.out _ _ ?_; clear HK
 refine wp_seq_k (fun K hK => ?_)
 have HK := Lib.hid hK; clear hK
 go_wp2
 refine HK.out _ _ ?_; clear HK
 refine wp_seq_k (fun K hK => ?_)
 have HK := Lib.hid hK; clear hK
 go_wp2
 refine HK.out _ _ ?_; clear HK
 clear hmi ho hn hc
 refine wp_seq_k (fun K hK => ?_)
 have HK := Lib.hid hK; clear hK
 go_wp2_with (first | (go_at_call 15; refine (CA.out _).mono ?_; rintro e wc10 ⟨un10, ug10, rfl, hl, hb⟩; have HL := Lib.hid hl; have HC := Lib.hid hb; clear hl hb) | (refine wpList_store_blk rfl 25 _ _ rfl _ rfl rfl (heap_newI rfl) size25 rfl rfl HL.out.one ?_))
 refine HK.out _ _ ?_; clear HK
 generalize hw : World.putObj _ _ _ = ws10
 obtain ⟨hx, hb⟩ := storedA HL.out hw
 obtain ⟨gb10, hg⟩ : ∃ g, g = wc10.heap.size := ⟨_, rfl⟩
 rw [← hg] at hx ⊢
 have HN10 := Lib.hid hx
 have HD := Lib.hid (btr HC.out hb (Nat.le_refl _))
 clear hx hb hw hg HL HC
 replace HBw := Lib.hid (btr HBw.out HD.out (Nat.le_refl _))
 clear HD
 refine wp_seq_k (fun K hK => ?_)
 have HK := Lib.hid hK; clear hK
 go_wp2_with (first | (go_at_call 15; refine (CB.out _).mono ?_; rintro e wc12 ⟨un12, ug12, rfl, hl, hb⟩; have HL := Lib.hid hl; have HC := Lib.hid hb; clear hl hb) | (refine wpList_store_blk rfl 25 _ _ rfl _ rfl rfl (heap_newI rfl) size25 rfl rfl HL.out.one ?_))
 refine HK.out _ _ ?_; clear HK
 generalize hw : World.putObj _ _ _ = ws12
 obtain ⟨hx, hb⟩ := storedA HL.out hw
 obtain ⟨gb12, hg⟩ : ∃ g, g = wc12.heap.size := ⟨_, rfl⟩
 rw [← hg] at hx ⊢
 have HN12 := Lib.hid hx
 have HD := Lib.hid (btr HC.out hb (Nat.le_refl _))
 clear hx hb hw hg HL HC
 replace HN10 := Lib.hid (HN10.out.below HD.out)
 replace HBw := Lib.hid (btr HBw.out HD.out (Nat.le_refl _))
 clear HD
 refine wp_seq_k (fun K hK => ?_)
 have HK := Lib.hid hK; clear hK
 go_wp2_with (first | (go_at_call 17; refine (CP.out _).mono ?_; rintro e wc14 ⟨un14, ug14, rfl, hl, hb⟩; have HL := Lib.hid hl; have HC := Lib.hid hb; clear hl hb) | (refine wpList_store_blk rfl 25 _ _ rfl _ rfl rfl (heap_newI rfl) size25 rfl rfl HL.out.one ?_))
 refine HK.out _ _ ?_; clear HK
 generalize hw : World.putObj _ _ _ = ws14
 obtain ⟨hx, hb⟩ := storedA HL.out hw
 obtain ⟨gb14, hg⟩ : ∃ g, g = wc14.heap.size := ⟨_, rfl⟩
 rw [← hg] at hx ⊢
 have HN14 := Lib.hid hx
 have HD := Lib.hid (btr HC.out hb (Nat.le_refl _))
 clear hx hb hw hg HL HC
 replace HN10 := Lib.hid (HN10.out.below HD.out)
 replace HN12 := Lib.hid (HN12.out.below HD.out)
 replace HBw := Lib.hid (btr HBw.out HD.out (Nat.le_refl _))
 clear HD
 refine wp_seq_k (fun K hK => ?_)
 have HK := Lib.hid hK; clear hK
 go_wp2_with (first | (go_at_call 17; refine (CQ.out _).mono ?_; rintro e wc16 ⟨un16, ug16, rfl, hl, hb⟩; have HL := Lib.hid hl; have HC := Lib.hid hb; clear hl hb) | (refine wpList_store_blk rfl 25 _ _ rfl _ rfl rfl (heap_newI rfl) size25 rfl rfl HL.out.one ?_))
 refine HK.out _ _ ?_; clear HK
 generalize hw : World.putObj _ _ _ = ws16
 obtain ⟨hx, hb⟩ := storedA HL.out hw
 obtain ⟨gb16, hg⟩ : ∃ g, g = wc16.heap.size := ⟨_, rfl⟩
 rw [← hg] at hx ⊢
 have HN16 := Lib.hid hx
 have HD := Lib.hid (btr HC.out hb (Nat.le_refl _))
 clear hx hb hw hg HL HC
 replace HN10 := Lib.hid (HN10.out.below HD.out)
 replace HN12 := Lib.hid (HN12.out.below HD.out)
 replace HN14 := Lib.hid (HN14.out.below HD.out)
 replace HBw := Lib.hid (btr HBw.out HD.out (Nat.le_refl _))
 clear HD
 clear CA CB CP CQ
 refine wp_seq_k (fun K hK => ?_)
 have HK := Lib.hid hK; clear hK
 go_wp2_with (first | (have _m := HV3; go_at_call 36; refine (valid_c (HN16.out.below HV3.out).law TQ.out).mono ?_; rintro e wv4 ⟨rfl, hb⟩; have HV4 := Lib.hid (btr HV3.out hb (Nat.le_refl _)); clear hb) | (have _m := HV3; refine wpList_load_blk rfl 25 (.tmp 16) rfl _ rfl (show _ from blk_keep HN16.out.blk HV3.out) Try.underlying25 rfl size25 rfl ?_) | (have _m := HV2; go_at_call 36; refine (valid_c (HN14.out.below HV2.out).law TP.out).mono ?_; rintro e wv3 ⟨rfl, hb⟩; have HV3 := Lib.hid (btr HV2.out hb (Nat.le_refl _)); clear hb) | (have _m := HV2; refine wpList_load_blk rfl 25 (.tmp 14) rfl _ rfl (show _ from blk_keep HN14.out.blk HV2.out) Try.underlying25 rfl size25 rfl ?_) | (have _m := HV1; go_at_call 36; refine (valid_c (HN12.out.below HV1.out).law TB.out).mono ?_; rintro e wv2 ⟨rfl, hb⟩; have HV2 := Lib.hid (btr HV1.out hb (Nat.le_refl _)); clear hb) | (have _m := HV1; refine wpList_load_blk rfl 25 (.tmp 12) rfl _ rfl (show _ from blk_keep HN12.out.blk HV1.out) Try.underlying25 rfl size25 rfl ?_) | (go_at_call 36; refine (valid_c (HN10.out.below (Below.refl _ _)).law TA.out).mono ?_; rintro e wv1 ⟨rfl, hb⟩; have HV1 := Lib.hid (hb); clear hb) | (refine wpList_load_blk rfl 25 (.tmp 10) rfl _ rfl (show _ from blk_keep HN10.out.blk (Below.refl _ _)) Try.underlying25 rfl size25 rfl ?_))
 refine HK.out _ _ ?_; clear HK
 replace HN10 := Lib.hid (HN10.out.below HV4.out)
 replace HN12 := Lib.hid (HN12.out.below HV4.out)
 replace HN14 := Lib.hid (HN14.out.below HV4.out)
 replace HN16 := Lib.hid (HN16.out.below HV4.out)
 replace HBw := Lib.hid (btr HBw.out HV4.out (Nat.le_refl _))
 clear HV1 HV2 HV3 HV4
 obtain ⟨LS, hLS⟩ : ∃ q, q = allL 8 := ⟨_, rfl⟩
 have H37 := Lib.hid (fun W => all_any 8 (by decide) W)
 rw [← hLS] at H37
 have HWD := Lib.hid (show (∀ l ∈ LS, l.length ≤ 8 ∧ ∀ c ∈ l, 0 ≤ c ∧ c < 2) ∧ LS.length ≤ 1000 by rw [hLS]; exact ⟨fun l hl => allL_wd 8 l hl, by rw [allL_len]; decide⟩)
 clear hLS
 refine wp_seq_k (fun K hK => ?_)
 have HK := Lib.hid hK; clear hK
 go_wp2_with (go_at_call 37; refine (H37.out _).mono ?_; rintro e w8 ⟨vl, rfl, hs, hb⟩; have HC := Lib.hid hb; obtain ⟨al, cl, e, -⟩ := slII_form hs; subst e; have HS := Lib.hid hs; clear hs hb)
 replace HN10 := Lib.hid (HN10.out.below HC.out)
 replace HN12 := Lib.hid (HN12.out.below HC.out)
 replace HN14 := Lib.hid (HN14.out.below HC.out)
 replace HN16 := Lib.hid (HN16.out.below HC.out)
 replace HBw := Lib.hid (btr HBw.out HC.out (Nat.le_refl _))
 clear HC
 go_loopw [102] (fun i wr => ∃ k : Nat, k ≤ LS.length ∧ i = .int .i64 k ∧ Hid (Below w8.heap.size w8 wr)) (fun i _ => LS.length - (intOf i).toNat)
 case atStart => exact ⟨0, Nat.zero_le _, rfl, Lib.hid (Below.refl _ _)⟩
 case round =>
  obtain ⟨k, hk, rfl, HR⟩ := hrel
  obtain ⟨wo, rfl⟩ : ∃ q, q = wr := ⟨_, rfl⟩
  by_cases hkn : k < LS.length
  rotate_left
  ·have hki : ¬ (k : Int) < (LS.length : Int) := by omega
   replace HN10 := Lib.hid (HN10.out.below HR.out)
   replace HN12 := Lib.hid (HN12.out.below HR.out)
   replace HN14 := Lib.hid (HN14.out.below HR.out)
   replace HN16 := Lib.hid (HN16.out.below HR.out)
   replace HBw := Lib.hid (btr HBw.out HR.out (Nat.le_refl _))
   clear HR
   go_wp2
   refine HK.out _ _ ?_; clear HK
   by_cases hn0 : n = 0
   ·have hq : ((n : Int) == 0) = true := by simpa using hn0
    clear hn0
    go_wp2_with (go_at_call 20; refine (works_any _).mono ?_; rintro e wz ⟨rfl, hb⟩; have HZ := Lib.hid hb; clear hb)
    go_ret
    exact ⟨rfl, btr HBw.out HZ.out (Nat.le_refl _)⟩
   have hq : ((n : Int) == 0) = false := by simpa using hn0
   have hn1 : 1 ≤ n := by omega
   obtain ⟨tR, wR, cR, h40⟩ := HRR.out hn1
   have TR := Lib.hid tR
   have WR := Lib.hid wR
   have CR := Lib.hid cR
   have H40 := Lib.hid h40
   have HN1 := Lib.hid hn1
   clear HRR hn0 hn1 tR wR cR h40
   refine wp_seq_k (fun K hK => ?_)
   have HK := Lib.hid hK; clear hK
   go_wp2
   refine HK.out _ _ ?_; clear HK
   clear hq
   refine wp_seq_k (fun K hK => ?_)
   have HK := Lib.hid hK; clear hK
   go_wp2_with (first | (go_at_call 17; refine (CR.out _).mono ?_; rintro e wc22 ⟨un22, ug22, rfl, hl, hb⟩; have HL := Lib.hid hl; have HC := Lib.hid hb; clear hl hb) | (refine wpList_store_blk rfl 25 _ _ rfl _ rfl rfl (heap_newI rfl) size25 rfl rfl HL.out.one ?_))
   refine HK.out _ _ ?_; clear HK
   generalize hw : World.putObj _ _ _ = ws22
   obtain ⟨hx, hb⟩ := storedA HL.out hw
   obtain ⟨gb22, hg⟩ : ∃ g, g = wc22.heap.size := ⟨_, rfl⟩
   rw [← hg] at hx ⊢
   have HN22 := Lib.hid hx
   have HD := Lib.hid (btr HC.out hb (Nat.le_refl _))
   clear hx hb hw hg HL HC
   replace HN10 := Lib.hid (HN10.out.below HD.out)
   replace HN12 := Lib.hid (HN12.out.below HD.out)
   replace HN14 := Lib.hid (HN14.out.below HD.out)
   replace HN16 := Lib.hid (HN16.out.below HD.out)
   replace HBw := Lib.hid (btr HBw.out HD.out (Nat.le_refl _))
   clear HD
   refine wp_seq_k (fun K hK => ?_)
   have HK := Lib.hid hK; clear hK
   go_wp2_with (first | (refine wpList_load_blk rfl 25 (.tmp 10) rfl _ rfl (show _ from blk_keep HN10.out.blk (Below.refl _ _)) Try.underlying25 rfl size25 rfl ?_) | (refine wpList_load_blk rfl 25 (.tmp 12) rfl _ rfl (show _ from blk_keep HN12.out.blk (Below.refl _ _)) Try.underlying25 rfl size25 rfl ?_) | (refine wpList_load_blk rfl 25 (.tmp 14) rfl _ rfl (show _ from blk_keep HN14.out.blk (Below.refl _ _)) Try.underlying25 rfl size25 rfl ?_) | (refine wpList_load_blk rfl 25 (.tmp 16) rfl _ rfl (show _ from blk_keep HN16.out.blk (Below.refl _ _)) Try.underlying25 rfl size25 rfl ?_) | (refine wpList_load_blk rfl 25 (.tmp 22) rfl _ rfl (show _ from blk_keep HN22.out.blk (Below.refl _ _)) Try.underlying25 rfl size25 rfl ?_) | (go_at_call 42; refine (both_s HN10.out.law HN22.out.law TA.out TR.out H40.out).mono ?_; rintro e wc23 ⟨un23, ug23, rfl, hl, hb⟩; have HL := Lib.hid hl; have HC := Lib.hid hb; clear hl hb) | (refine wpList_store_blk rfl 25 _ _ rfl _ rfl rfl (heap_newI rfl) size25 rfl rfl HL.out.one ?_))
   refine HK.out _ _ ?_; clear HK
   generalize hw : World.putObj _ _ _ = ws23
   obtain ⟨hx, hb⟩ := storedA HL.out hw
   obtain ⟨gb23, hg⟩ : ∃ g, g = wc23.heap.size := ⟨_, rfl⟩
   rw [← hg] at hx ⊢
   have HN23 := Lib.hid hx
   have HD := Lib.hid (btr HC.out hb (Nat.le_refl _))
   clear hx hb hw hg HL HC
   replace HN10 := Lib.hid (HN10.out.below HD.out)
   replace HN12 := Lib.hid (HN12.out.below HD.out)
   replace HN14 := Lib.hid (HN14.out.below HD.out)
   replace HN16 := Lib.hid (HN16.out.below HD.out)
   replace HN22 := Lib.hid (HN22.out.below HD.out)
   replace HBw := Lib.hid (btr HBw.out HD.out (Nat.le_refl _))
   clear HD
   have TX := Lib.hid (join_small TA.out TR.out H40.out).1
   refine wp_seq_k (fun K hK => ?_)
   have HK := Lib.hid hK; clear hK
   go_wp2_with (first | (go_at_call 36; refine (valid_c (HN23.out.below (Below.refl _ _)).law TX.out).mono ?_; rintro e wv1 ⟨rfl, hb⟩; have HV1 := Lib.hid (hb); clear hb) | (refine wpList_load_blk rfl 25 (.tmp 23) rfl _ rfl (show _ from blk_keep HN23.out.blk (Below.refl _ _)) Try.underlying25 rfl size25 rfl ?_))
   refine HK.out _ _ ?_; clear HK
   replace HN10 := Lib.hid (HN10.out.below HV1.out)
   replace HN12 := Lib.hid (HN12.out.below HV1.out)
   replace HN14 := Lib.hid (HN14.out.below HV1.out)
   replace HN16 := Lib.hid (HN16.out.below HV1.out)
   replace HN22 := Lib.hid (HN22.out.below HV1.out)
   replace HN23 := Lib.hid (HN23.out.below HV1.out)
   replace HBw := Lib.hid (btr HBw.out HV1.out (Nat.le_refl _))
   clear HV1
   refine wp_seq_k (fun K hK => ?_)
   have HK := Lib.hid hK; clear hK
   go_wp2_with (go_at_call 37; refine (H37.out _).mono ?_; rintro e w9 ⟨vl, rfl, hs, hb⟩; have HC := Lib.hid hb; obtain ⟨al2, cl2, e, -⟩ := slII_form hs; subst e; have HS2 := Lib.hid hs; clear hs hb)
   replace HN10 := Lib.hid (HN10.out.below HC.out)
   replace HN12 := Lib.hid (HN12.out.below HC.out)
   replace HN14 := Lib.hid (HN14.out.below HC.out)
   replace HN16 := Lib.hid (HN16.out.below HC.out)
   replace HN22 := Lib.hid (HN22.out.below HC.out)
   replace HN23 := Lib.hid (HN23.out.below HC.out)
   replace HBw := Lib.hid (btr HBw.out HC.out (Nat.le_refl _))
   clear HC H37
   go_loopw [186] (fun i wr => ∃ k : Nat, k ≤ LS.length ∧ i = .int .i64 k ∧ Hid (Below w9.heap.size w9 wr)) (fun i _ => LS.length - (intOf i).toNat)
   case atStart => exact ⟨0, Nat.zero_le _, rfl, Lib.hid (Below.refl _ _)⟩
   case round =>
    obtain ⟨k, hk, rfl, HR⟩ := hrel
    obtain ⟨wo, rfl⟩ : ∃ q, q = wr := ⟨_, rfl⟩
    by_cases hkn : k < LS.length
    rotate_left
    ·have hki : ¬ (k : Int) < (LS.length : Int) := by omega
     replace HBw := Lib.hid (btr HBw.out HR.out (Nat.le_refl _))
     clear HR
     go_wp2
     refine HK.out _ _ ?_; clear HK
     go_wp2_with (go_at_call 20; refine (works_any _).mono ?_; rintro e wz ⟨rfl, hb⟩; have HZ := Lib.hid hb; clear hb)
     go_ret
     exact ⟨rfl, btr HBw.out HZ.out (Nat.le_refl _)⟩
    ·have hki : (k : Int) < (LS.length : Int) := by omega
     replace HN10 := Lib.hid (HN10.out.below HR.out)
     replace HN12 := Lib.hid (HN12.out.below HR.out)
     replace HN14 := Lib.hid (HN14.out.below HR.out)
     replace HN16 := Lib.hid (HN16.out.below HR.out)
     replace HN22 := Lib.hid (HN22.out.below HR.out)
     replace HN23 := Lib.hid (HN23.out.below HR.out)
     have HBo := Lib.hid (btr HBw.out HR.out (Nat.le_refl _))
     obtain ⟨b, off, au, cu, rfl, hbl, hcell, hrow⟩ := (HS2.out.below HR.out (Nat.le_refl _)).row hkn
     obtain ⟨ys, hys⟩ : ∃ ys, ys = LS[k] := ⟨_, rfl⟩
     have HYS := Lib.hid (show ys.length ≤ 8 ∧ ∀ c ∈ ys, 0 ≤ c ∧ c < 2 by rw [hys]; exact HWD.out.1 _ (List.getElem_mem hkn))
     rw [← hys] at hcell hrow
     have HSL := Lib.hid hrow
     have HWY := Lib.hid (toW_wd HYS.out.2)
     have HNI := Lib.hid (nI_toW HYS.out.2)
     clear hys hrow hbl
     obtain ⟨ad2, cap2, e2, -, -, hcc⟩ := HSL.out
     injection e2 with e3 e4 e5
     subst e3
     have HCC := Lib.hid hcc
     have hE5 : 1 < ys.count (c : Int) → Wl (andL LA LR) (toW ys) = false := fun h => by
      have h1 := (join_small TA.out TR.out H40.out).2.1 _ HWY.out
      show Wl (tabL (joinT LA LR fun a b => a && b)) (toW ys) = false
      rw [h1, WA.out _ HWY.out, WR.out _ HWY.out, HNI.out]
      cases e1 : restB c n ys 0 (-1) with
      | false => rfl
      | true =>
       cases e2 : winB c n ys with
       | false => rfl
       | true => have := once_all HN1.out ys 0 (by omega) e1 e2; omega
     have HE5 := Lib.hid hE5
     have hyl : ys.length ≤ 8 := HYS.out.1
     clear hE5 hcc e4 e5
     go_wp2
     go_loopw [26, 192] (fun f26 i wr => ∃ j : Nat, j ≤ ys.length ∧ i = .int .i64 j ∧ f26 = .int .i64 (((ys.take j).count (c : Int) : Nat) : Int) ∧ wo = wr) (fun _ i _ => ys.length - (intOf i).toNat)
     case atStart => exact ⟨0, Nat.zero_le _, rfl, rfl, rfl⟩
     case round =>
      obtain ⟨j, hj, rfl, rfl, rfl⟩ := hrel
      by_cases hjn : j < ys.length
      ·have hji : (j : Int) < (ys.length : Int) := by omega
       obtain ⟨bq, oq, hq0, hbq, hcellq⟩ := HCC.out (by omega)
       subst hq0
       have hcq := hcellq j hjn
       rw [at0_lt hjn] at hcq
       have hst : (ys.take (j + 1)).count (c : Int) = (ys.take j).count (c : Int) + (if (ys[j] == (c : Int)) = true then 1 else 0) := by
        rw [List.take_succ_eq_append_getElem hjn, List.count_append, List.count_singleton]
       obtain ⟨y, hy⟩ : ∃ y, y = ys[j] := ⟨_, rfl⟩
       obtain ⟨CN, hCN⟩ : ∃ q, q = (ys.take j).count (c : Int) := ⟨_, rfl⟩
       have hCB : CN ≤ 8 := by rw [hCN]; exact Nat.le_trans List.count_le_length (by rw [List.length_take]; omega)
       rw [← hy] at hcq hst
       rw [← hCN] at hst ⊢
       have HST := Lib.hid hst
       clear hst hy hCN hcellq hbq
       by_cases hyc : y = (c : Int)
       ·have hq : (y == (c : Int)) = true := by simpa using hyc
        have HS3 := Lib.hid (HST.out.trans (by rw [hq]; rfl : _ = CN + 1))
        clear hyc HST
        go_wp2
        exact ⟨⟨j + 1, by omega, by go_num, by rw [HS3.out]; go_num, trivial⟩, by simp only [intOf]; omega⟩
       ·have hq : (y == (c : Int)) = false := by simpa using hyc
        have HS3 := Lib.hid (HST.out.trans (by rw [hq]; rfl : _ = CN))
        clear hyc HST
        go_wp2
        exact ⟨⟨j + 1, by omega, by go_num, by rw [HS3.out], trivial⟩, by simp only [intOf]; omega⟩
      ·have hji : ¬ (j : Int) < (ys.length : Int) := by omega
       have hje : ys.take j = ys := List.take_of_length_le (by omega)
       rw [hje]
       obtain ⟨CT, hCT⟩ : ∃ q, q = ys.count (c : Int) := ⟨_, rfl⟩
       rw [← hCT] at HE5 ⊢
       clear hCT hje HCC
       by_cases hgt : 1 < CT
       ·have hgi : (1 : Int) < (CT : Int) := by omega
        have E5 := Lib.hid (HE5.out hgt)
        clear HE5
        go_wp2_with (first | (go_at_call 40; refine (allow_cb E5.out (HN23.out.below ((Below.refl wo.heap.size wo).alloc (Below.refl wo.heap.size wo).size (.cells #[.slice au ys.length cu] 40))).law TX.out (slII_one (HSL.out.below (Below.refl wo.heap.size wo) (Nat.le_refl _))) HYS.out.2).mono ?_; rintro e wv1 ⟨rfl, hb⟩; have HV1 := Lib.hid (btr ((Below.refl wo.heap.size wo).alloc (Below.refl wo.heap.size wo).size (.cells #[.slice au ys.length cu] 40)) hb (Nat.le_refl _)); clear hb) | (guard_target =~ wpList _ _ _ (⟨_, Op.load _ _, _, _, _, _⟩ :: _) _ _; refine wpList_load_blk rfl 25 (.tmp 23) rfl _ rfl (show _ from blk_keep HN23.out.blk (Below.refl wo.heap.size wo)) Try.underlying25 rfl size25 rfl ?_))
        exact ⟨⟨k + 1, hkn, loop_v HWD.out.2 hkn, Lib.hid (btr HR.out HV1.out (Nat.le_refl _))⟩, loop_m HWD.out.2 hkn⟩
       ·have hgi : ¬ (1 : Int) < (CT : Int) := by omega
        go_wp2
        exact ⟨⟨k + 1, hkn, loop_v HWD.out.2 hkn, HR⟩, loop_m HWD.out.2 hkn⟩
  ·have hki : (k : Int) < (LS.length : Int) := by omega
   replace HN10 := Lib.hid (HN10.out.below HR.out)
   replace HN12 := Lib.hid (HN12.out.below HR.out)
   replace HN14 := Lib.hid (HN14.out.below HR.out)
   replace HN16 := Lib.hid (HN16.out.below HR.out)
   have HBo := Lib.hid (btr HBw.out HR.out (Nat.le_refl _))
   obtain ⟨b, off, au, cu, rfl, hbl, hcell, hrow⟩ := (HS.out.below HR.out (Nat.le_refl _)).row hkn
   obtain ⟨ys, hys⟩ : ∃ ys, ys = LS[k] := ⟨_, rfl⟩
   have HYS := Lib.hid (show ys.length ≤ 8 ∧ ∀ c ∈ ys, 0 ≤ c ∧ c < 2 by rw [hys]; exact HWD.out.1 _ (List.getElem_mem hkn))
   rw [← hys] at hcell hrow
   have HSL := Lib.hid hrow
   have HWY := Lib.hid (toW_wd HYS.out.2)
   have HNI := Lib.hid (nI_toW HYS.out.2)
   clear hys hrow hbl
   obtain ⟨b1, hb1⟩ : ∃ q, q = restB c n ys 0 (-1) := ⟨_, rfl⟩
   obtain ⟨b2, hb2⟩ : ∃ q, q = Wl LB (toW ys) := ⟨_, rfl⟩
   obtain ⟨b3, hb3⟩ : ∃ q, q = winB c (n + 1) ys := ⟨_, rfl⟩
   obtain ⟨b4, hb4⟩ : ∃ q, q = Wl LQ (toW ys) := ⟨_, rfl⟩
   have E1 := Lib.hid (show Wl LA (toW ys) = b1 by rw [WA.out _ HWY.out, HNI.out, hb1])
   have E3 := Lib.hid (show Wl LP (toW ys) = b3 by rw [WP.out _ HWY.out, HNI.out, hb3])
   have E2 := Lib.hid hb2.symm
   have E4 := Lib.hid hb4.symm
   have hi12 : b2 = true → b1 = true := fun h => by rw [hb1]; rw [hb2, WB.out _ HWY.out, HNI.out] at h; exact restB_mono (by have := HM.out.1; omega) ys 0 (-1) h
   have hi34 : b3 = true → b4 = true := fun h => by rw [hb4, WQ.out _ HWY.out, HNI.out]; rw [hb3] at h; exact winB_mono (by have := HM.out.1; omega) ys h
   have F1 := Lib.hid (show ∀ W u, SlI W u ys → Calls Try.prog 39 #[u, .int .i64 c, .int .i64 n] W fun e w' => e = .returned (.bool b1) ∧ Below W.heap.size W w' from fun W u hu => by rw [hb1]; exact rested39_any hu (by have := HYS.out.1; omega) (by omega))
   have F3 := Lib.hid (show ∀ W u, SlI W u ys → Calls Try.prog 41 #[u, .int .i64 c, .int .i64 ((n : Int) + 1)] W fun e w' => e = .returned (.bool b3) ∧ Below W.heap.size W w' from fun W u hu => by rw [hb3]; exact within41_any (n := n + 1) hu (by have := HYS.out.1; omega) (by omega) (by omega))
   clear hb1 hb2 hb3 hb4
   cases b1 <;> cases b2 <;> first | exact absurd (hi12 rfl) (by decide) | (clear hi12; cases b3 <;> cases b4 <;> first | exact absurd (hi34 rfl) (by decide) | clear hi34)
   all_goals go_wp2_with (first | (have _m := HV6; go_at_call 40; refine (allow_cb E4.out (HN16.out.below (HV6.out.alloc HV6.out.size (.cells #[.slice au ys.length cu] 40))).law TQ.out (slII_one (HSL.out.below HV6.out (Nat.le_refl _))) HYS.out.2).mono ?_; rintro e wv7 ⟨rfl, hb⟩; have HV7 := Lib.hid (btr (HV6.out.alloc HV6.out.size (.cells #[.slice au ys.length cu] 40)) hb (Nat.le_refl _)); clear hb) | (have _m := HV5; go_at_call 40; refine (allow_cb E3.out (HN14.out.below (HV5.out.alloc HV5.out.size (.cells #[.slice au ys.length cu] 40))).law TP.out (slII_one (HSL.out.below HV5.out (Nat.le_refl _))) HYS.out.2).mono ?_; rintro e wv6 ⟨rfl, hb⟩; have HV6 := Lib.hid (btr (HV5.out.alloc HV5.out.size (.cells #[.slice au ys.length cu] 40)) hb (Nat.le_refl _)); have k0 := cell_blk (i := 0) (blk_keep HN16.out.blk HV6.out); have k1 := cell_blk (i := 1) (blk_keep HN16.out.blk HV6.out); simp only [List.getElem?_toArray, List.getElem?_cons_zero, List.getElem?_cons_succ] at k0 k1; clear hb) | (have _m := HV5; guard_target =~ wpList _ _ _ (⟨_, Op.load _ _, _, _, _, _⟩ :: _) _ _; refine wpList_load_blk rfl 25 (.tmp 14) rfl _ rfl (show _ from blk_keep HN14.out.blk HV5.out) Try.underlying25 rfl size25 rfl ?_) | (have _m := HV4; go_at_call 41; refine (F3.out _ _ (HSL.out.below HV4.out (Nat.le_refl _))).mono ?_; rintro e wv5 ⟨rfl, hb⟩; have HV5 := Lib.hid (btr HV4.out hb (Nat.le_refl _)); clear hb) | (have _m := HV3; go_at_call 40; refine (allow_cb E3.out (HN14.out.below (HV3.out.alloc HV3.out.size (.cells #[.slice au ys.length cu] 40))).law TP.out (slII_one (HSL.out.below HV3.out (Nat.le_refl _))) HYS.out.2).mono ?_; rintro e wv4 ⟨rfl, hb⟩; have HV4 := Lib.hid (btr (HV3.out.alloc HV3.out.size (.cells #[.slice au ys.length cu] 40)) hb (Nat.le_refl _)); clear hb) | (have _m := HV3; guard_target =~ wpList _ _ _ (⟨_, Op.load _ _, _, _, _, _⟩ :: _) _ _; refine wpList_load_blk rfl 25 (.tmp 14) rfl _ rfl (show _ from blk_keep HN14.out.blk HV3.out) Try.underlying25 rfl size25 rfl ?_) | (have _m := HV2; go_at_call 40; refine (allow_cb E2.out (HN12.out.below (HV2.out.alloc HV2.out.size (.cells #[.slice au ys.length cu] 40))).law TB.out (slII_one (HSL.out.below HV2.out (Nat.le_refl _))) HYS.out.2).mono ?_; rintro e wv3 ⟨rfl, hb⟩; have HV3 := Lib.hid (btr (HV2.out.alloc HV2.out.size (.cells #[.slice au ys.length cu] 40)) hb (Nat.le_refl _)); clear hb) | (have _m := HV2; guard_target =~ wpList _ _ _ (⟨_, Op.load _ _, _, _, _, _⟩ :: _) _ _; refine wpList_load_blk rfl 25 (.tmp 12) rfl _ rfl (show _ from blk_keep HN12.out.blk HV2.out) Try.underlying25 rfl size25 rfl ?_) | (have _m := HV1; go_at_call 39; refine (F1.out _ _ (HSL.out.below HV1.out (Nat.le_refl _))).mono ?_; rintro e wv2 ⟨rfl, hb⟩; have HV2 := Lib.hid (btr HV1.out hb (Nat.le_refl _)); clear hb) | (go_at_call 38; refine (allows_cc E1.out (HN10.out.below (Below.refl wo.heap.size wo)).law TA.out (HSL.out.below (Below.refl wo.heap.size wo) (Nat.le_refl _)) (by have := HYS.out.1; omega) HYS.out.2).mono ?_; rintro e wv1 ⟨rfl, hb⟩; have HV1 := Lib.hid (hb); clear hb) | (guard_target =~ wpList _ _ _ (⟨_, Op.load _ _, _, _, _, _⟩ :: _) _ _; refine wpList_load_blk rfl 25 (.tmp 10) rfl _ rfl (show _ from blk_keep HN10.out.blk (Below.refl wo.heap.size wo)) Try.underlying25 rfl size25 rfl ?_))
   all_goals first | exact ⟨⟨k + 1, hkn, loop_v HWD.out.2 hkn, Lib.hid (btr HR.out HV7.out (Nat.le_refl _))⟩, loop_m HWD.out.2 hkn⟩ | exact ⟨⟨k + 1, hkn, loop_v HWD.out.2 hkn, Lib.hid (btr HR.out HV6.out (Nat.le_refl _))⟩, loop_m HWD.out.2 hkn⟩
end Ytnjgglnpmhjmiaa
end Go.Proofs
