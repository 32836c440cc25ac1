/- Laws of rotation: as many lists are counted as there are. -/
import Derived.Test.YtnjgglnpmhjmiaaD9
import Derived.Test.YtnjgglnpmhjmiaaD6
import Derived.Deep.MidRow
open Go Go.RowKit Go.YtnjgglnpmhjmiaaIt
open Rest
namespace Go.Proofs
namespace Ytnjgglnpmhjmiaa
theorem count_c {v : Value} {l : Lw} {w : World} {n k : Nat} (h : LawA w v l) (t : Tw l n) (hk : k ≤ 25) : Calls Try.prog 23 #[v, .int .i64 k] w fun e w' => e = .returned (.tuple #[.int .i64 (cntG k (Wl l)), .int .i64 0]) ∧ Below w.heap.size w w' := by
 have h1 := count23_any (n := (k : Int)) h
 rw [countE_tw t hk] at h1
 exact h1
def cntP (l : Lw) (k : Nat) (ys : List Int) : Bool := decide (ys.length = k) && Wl l (toW ys)
theorem cntP_take {l : Lw} {k j : Nat} {ls : List (List Int)} (h : j < ls.length) : (ls.take (j + 1)).countP (cntP l k) = (ls.take j).countP (cntP l k) + (if cntP l k ls[j] = true then 1 else 0) := by
 rw [List.take_succ_eq_append_getElem h, List.countP_append, List.countP_singleton]
theorem cntP_le {l : Lw} {k j : Nat} {ls : List (List Int)} : (ls.take j).countP (cntP l k) ≤ ls.length := Nat.le_trans List.countP_le_length (by rw [List.length_take]; omega)
theorem lawX_form {W : World} {g t : Nat} {l : Lw} {vn vg : Value} (h : LawX W g t l vn vg) : ∃ an cn ag cg, vn = .slice an l.nx.length cn ∧ vg = .slice ag l.gd.length cg := by
 obtain ⟨an, cn, e, -⟩ := slII_form h.nx
 obtain ⟨ag, cg, e2, -⟩ := h.gd
 rw [List.length_map] at e2
 exact ⟨an, cn, ag, cg, e, e2⟩
theorem Tw.up {l : Lw} {n m : Nat} (h : Tw l n) (hm : n ≤ m) : Tw l m := ⟨h.ok, h.k2, Nat.le_trans h.len hm⟩
noncomputable def lwf (a b : Lw) : Nat → Lw
 | 0 => a
 | 1 => b
 | 2 => notL a
 | 3 => andL a b
 | _ => orL a b
theorem inc_v {n : Nat} (h : n ≤ 1000) : Value.int .i64 (wrap64 ((n : Int) + 1)) = Value.int .i64 ((n + 1 : Nat) : Int) := congrArg _ (IntWalk.wrap64_in _ (by omega))
set_option maxRecDepth 100000 in
set_option maxHeartbeats 8000000 in
theorem restCounts_any {vx vy : Value} {xs ys : List T3} {t : Int} {w : World} (hxx : (∀ q ∈ xs, q.ok) ∧ SlT3 w vx xs) (hyy : (∀ q ∈ ys, q.ok) ∧ SlT3 w vy ys) (ht : 0 ≤ t ∧ t < 256) : Calls Try.prog 8 #[vx, vy, .int .u8 t] w fun e w' => e = .returned (.bool true) ∧ Below w.heap.size w w' := by
 obtain ⟨hqx, hx⟩ := hxx
 obtain ⟨hqy, hy⟩ := hyy
 obtain ⟨la, hla⟩ : ∃ q, q = madeL xs := ⟨_, rfl⟩
 obtain ⟨lb, hlb⟩ : ∃ q, q = madeL ys := ⟨_, rfl⟩
 have TA := Lib.hid (show Tw la 5 by rw [hla]; exact ⟨(made_ok hqx).1, (made_ok hqx).2.1, by rw [(made_ok hqx).2.2]; exact (mkN_bd xs).2⟩)
 have TB := Lib.hid (show Tw lb 5 by rw [hlb]; exact ⟨(made_ok hqy).1, (made_ok hqy).2.1, by rw [(made_ok hqy).2.2]; exact (mkN_bd ys).2⟩)
 have MA := Lib.hid (fun W (hW : Below w.heap.size w W) => made_any (hx.below hW (Nat.le_refl _)) hqx)
 have MB := Lib.hid (fun W (hW : Below w.heap.size w W) => made_any (hy.below hW (Nat.le_refl _)) hqy)
 rw [← hla] at MA
 rw [← hlb] at MB
 obtain ⟨ax, cx, rfl, -, -⟩ := id hx
 obtain ⟨ay, cy, rfl, -, -⟩ := id hy
 clear hx hy hqx hqy hla hlb
 go_enter Try.func8, Try.ntmps8
 refine wp_seq_k (fun K hK => ?_)
 have HK := Lib.hid hK; clear hK
 go_wp2
 refine HK.out _ _ ?_; clear HK
 refine wp_seq_k (fun K hK => ?_)
 have HK := Lib.hid hK; clear hK
 go_wp2_with (first | (have _m := HA1; go_at_call 48; refine (MB.out _ HA2.out).mono ?_; rintro e wb ⟨bn, bg, rfl, hl, hb⟩; have HB1 := Lib.hid hl; have HB2 := Lib.hid hb; clear hl hb) | (go_at_call 48; refine (MA.out _ (Below.refl _ _)).mono ?_; rintro e wa ⟨an, ag, rfl, hl, hb⟩; have HA1 := Lib.hid hl; have HA2 := Lib.hid hb; clear hl hb) | (refine wpList_store_blk rfl 25 (.tmp 7) _ rfl _ rfl rfl (blkE2 rfl).1 size25 rfl rfl HA1.out.one ?_) | (refine wpList_store_blk rfl 25 (.tmp 8) _ rfl _ rfl rfl (show _ from (World.putObj_heap_other (by omega)).trans (blkE2 rfl).2.1) size25 rfl rfl HB1.out.one ?_))
 refine HK.out _ _ ?_; clear HK
 generalize hw : World.putObj _ _ _ = w1
 obtain ⟨hxa, hxb, hb1⟩ := stored2 (HA1.out.below HB2.out (Nat.le_refl _)) HB1.out hw
 obtain ⟨g5, hg5⟩ : ∃ g, g = wb.heap.size := ⟨_, rfl⟩
 obtain ⟨g6, hg6⟩ : ∃ g, g = g5 + 1 := ⟨_, rfl⟩
 rw [← hg5] at hxa hxb ⊢
 rw [← hg6] at hxb ⊢
 have HXA := Lib.hid hxa
 have HXB := Lib.hid hxb
 have HBw := Lib.hid (btr (btr HA2.out HB2.out (Nat.le_refl _)) hb1 (Nat.le_refl _))
 clear hxa hxb hb1 hw hg5 hg6 HA1 HA2 HB1 HB2 MA MB
 obtain ⟨t, rfl⟩ : ∃ m : Nat, t = (m : Int) := ⟨t.toNat, by omega⟩
 obtain ⟨k1, hk1⟩ : ∃ q, q = t % 8 := ⟨_, rfl⟩
 obtain ⟨k2, hk2⟩ : ∃ q, q = t % 26 := ⟨_, rfl⟩
 have ht1 : (t : Int).tmod 8 = (k1 : Int) := by rw [hk1, Int.tmod_eq_emod_of_nonneg (by omega)]; omega
 have ht2 : (t : Int).tmod 26 = (k2 : Int) := by rw [hk2, Int.tmod_eq_emod_of_nonneg (by omega)]; omega
 have hk18 : k1 ≤ 7 := by omega
 have hk225 : k2 ≤ 25 := by omega
 have HT2 := Lib.hid ht2
 have HBK := Lib.hid (And.intro hk18 hk225)
 clear hk1 hk2 ht2
 refine wp_seq_k (fun K hK => ?_)
 have HK := Lib.hid hK; clear hK
 go_wp2
 refine HK.out _ _ ?_; clear HK
 clear ht1
 have HC1 := Lib.hid (count_all TA.out k1)
 obtain ⟨C1, hC1⟩ : ∃ q, q = cntG k1 (Wl la) := ⟨_, rfl⟩
 have HCC := Lib.hid (show ∀ W v, LawA W v la → Calls Try.prog 23 #[v, .int .i64 k1] W fun e w' => e = .returned (.tuple #[.int .i64 C1, .int .i64 0]) ∧ Below W.heap.size W w' by
  intro W v h; rw [hC1]; exact count_c h TA.out (by omega))
 rw [count_tw TA.out k1, ← hC1] at HC1
 clear hC1
 refine wp_seq_k (fun K hK => ?_)
 have HK := Lib.hid hK; clear hK
 go_wp2_with (first | (refine wpList_load_blk rfl 25 (.tmp 7) rfl _ rfl (show _ from blk_keep HXA.out.blk (Below.refl _ _)) Try.underlying25 rfl size25 rfl ?_) | (refine wpList_load_blk rfl 25 (.tmp 8) rfl _ rfl (show _ from blk_keep HXB.out.blk (Below.refl _ _)) Try.underlying25 rfl size25 rfl ?_) | (go_at_call 23; refine (HCC.out _ _ HXA.out.law).mono ?_; rintro e wk1 ⟨rfl, hb⟩; have HC := Lib.hid hb; clear hb))
 refine HK.out _ _ ?_; clear HK
 replace HXA := Lib.hid (HXA.out.below HC.out)
 replace HXB := Lib.hid (HXB.out.below HC.out)
 replace HBw := Lib.hid (btr HBw.out HC.out (Nat.le_refl _))
 clear HC HCC
 obtain ⟨LS, hLS⟩ : ∃ q, q = allL k1 := ⟨_, rfl⟩
 have H37 := Lib.hid (fun W => all_any k1 (by omega) W)
 rw [← hLS] at H37
 have HWD := Lib.hid (show (∀ l ∈ LS, ∀ c ∈ l, 0 ≤ c ∧ c < 2) ∧ LS.length ≤ 1000 by rw [hLS]; exact ⟨fun l hl => (allL_wd k1 l hl).2, by rw [allL_len]; have := Nat.pow_le_pow_right (n := 2) (by decide) (show k1 + 1 ≤ 8 by omega); omega⟩)
 have HCL := Lib.hid (show ((LS.countP (cntP la k1) : Nat) : Int) = C1 by rw [hLS]; exact HC1.out)
 clear hLS HC1
 refine wp_seq_k (fun K hK => ?_)
 have HK := Lib.hid hK; clear hK
 go_wp2
 refine HK.out _ _ ?_; clear HK
 refine wp_seq_k (fun K hK => ?_)
 have HK := Lib.hid hK; clear hK
 go_wp2_with (go_at_call 37; refine (H37.out _).mono ?_; rintro e w8 ⟨vl, rfl, hs, hb⟩; have HC := Lib.hid hb; obtain ⟨al, cl, e, -⟩ := slII_form hs; subst e; have HS := Lib.hid hs; clear hs hb)
 replace HXA := Lib.hid (HXA.out.below HC.out)
 replace HXB := Lib.hid (HXB.out.below HC.out)
 replace HBw := Lib.hid (btr HBw.out HC.out (Nat.le_refl _))
 clear HC H37
 go_loopw [12, 39] (fun f12 i wr => ∃ k : Nat, k ≤ LS.length ∧ i = .int .i64 k ∧ f12 = .int .i64 (((LS.take k).countP (cntP la k1) : Nat) : Int) ∧ Hid (Below w8.heap.size w8 wr)) (fun _ i _ => LS.length - (intOf i).toNat)
 case atStart => exact ⟨0, Nat.zero_le _, rfl, rfl, Lib.hid (Below.refl _ _)⟩
 case round =>
  obtain ⟨k, hk, rfl, rfl, HR⟩ := hrel
  obtain ⟨wo, rfl⟩ : ∃ q, q = wr := ⟨_, rfl⟩
  by_cases hkn : k < LS.length
  ·have hki : (k : Int) < (LS.length : Int) := by omega
   replace HXA := Lib.hid (HXA.out.below HR.out)
   replace HXB := Lib.hid (HXB.out.below HR.out)
   have HBo := Lib.hid (btr HBw.out HR.out (Nat.le_refl _))
   obtain ⟨b, off, au, cu, rfl, hbl, hcell, hrow⟩ := (HS.out.below HR.out (Nat.le_refl _)).row hkn
   obtain ⟨ys, hys⟩ : ∃ ys, ys = LS[k] := ⟨_, rfl⟩
   have HYS := Lib.hid (show ∀ c ∈ ys, 0 ≤ c ∧ c < 2 by rw [hys]; exact HWD.out.1 _ (List.getElem_mem hkn))
   rw [← hys] at hcell hrow
   have HSL := Lib.hid hrow
   obtain ⟨b1, hb1⟩ : ∃ q, q = Wl la (toW ys) := ⟨_, rfl⟩
   have b1E := Lib.hid hb1.symm
   have HCT := Lib.hid (cntP_take (l := la) (k := k1) hkn)
   obtain ⟨CN, hCN⟩ : ∃ q, q = (LS.take k).countP (cntP la k1) := ⟨_, rfl⟩
   have HCB := Lib.hid (show CN ≤ 1000 by rw [hCN]; exact Nat.le_trans cntP_le HWD.out.2)
   rw [← hys, ← hCN] at HCT
   rw [← hCN]
   have HP := Lib.hid (show cntP la k1 ys = (decide (ys.length = k1) && b1) by rw [hb1]; rfl)
   clear hb1 hys hrow hbl hCN
   by_cases hlen : ys.length = k1
   ·have hq : ((ys.length : Int) == (k1 : Int)) = true := by simp; omega
    have HLE := Lib.hid hlen
    clear hlen
    cases b1 with
    | true =>
     have hCT : (LS.take (k + 1)).countP (cntP la k1) = CN + 1 := by rw [HCT.out, HP.out, decide_eq_true HLE.out]; rfl
     have HCT2 := Lib.hid hCT
     clear hCT
     go_wp2_with (first | (go_at_call 40; refine (allow_cb b1E.out (HXA.out.below ((Below.refl wo.heap.size wo).alloc (Nat.le_refl _) (.cells #[.slice au ys.length cu] 40))).law TA.out (slII_one (HSL.out.below (Below.refl _ _) (Nat.le_refl _))) HYS.out).mono ?_; rintro e wp1 ⟨rfl, hb⟩; have HV1 := Lib.hid (btr ((Below.refl wo.heap.size wo).alloc (Nat.le_refl _) (.cells #[.slice au ys.length cu] 40)) hb (Nat.le_refl _)); clear hb) | (refine wpList_load_blk rfl 25 (.tmp 7) rfl _ rfl (show _ from blk_keep HXA.out.blk (Below.refl wo.heap.size wo)) Try.underlying25 rfl size25 rfl ?_))
     exact ⟨⟨k + 1, hkn, loop_v HWD.out.2 hkn, by rw [HCT2.out]; exact inc_v HCB.out, Lib.hid (btr HR.out HV1.out (Nat.le_refl _))⟩, loop_m HWD.out.2 hkn⟩
    | false =>
     have hCT : (LS.take (k + 1)).countP (cntP la k1) = CN := by rw [HCT.out, HP.out, Bool.and_false]; rfl
     have HCT2 := Lib.hid hCT
     clear hCT
     go_wp2_with (first | (go_at_call 40; refine (allow_cb b1E.out (HXA.out.below ((Below.refl wo.heap.size wo).alloc (Nat.le_refl _) (.cells #[.slice au ys.length cu] 40))).law TA.out (slII_one (HSL.out.below (Below.refl _ _) (Nat.le_refl _))) HYS.out).mono ?_; rintro e wp1 ⟨rfl, hb⟩; have HV1 := Lib.hid (btr ((Below.refl wo.heap.size wo).alloc (Nat.le_refl _) (.cells #[.slice au ys.length cu] 40)) hb (Nat.le_refl _)); clear hb) | (refine wpList_load_blk rfl 25 (.tmp 7) rfl _ rfl (show _ from blk_keep HXA.out.blk (Below.refl wo.heap.size wo)) Try.underlying25 rfl size25 rfl ?_))
     exact ⟨⟨k + 1, hkn, loop_v HWD.out.2 hkn, by rw [HCT2.out], Lib.hid (btr HR.out HV1.out (Nat.le_refl _))⟩, loop_m HWD.out.2 hkn⟩
   ·have hq : ((ys.length : Int) == (k1 : Int)) = false := by simp; omega
    have hCT : (LS.take (k + 1)).countP (cntP la k1) = CN := by rw [HCT.out, HP.out, decide_eq_false hlen]; rfl
    have HCT2 := Lib.hid hCT
    clear hCT hlen
    go_wp2
    exact ⟨⟨k + 1, hkn, loop_v HWD.out.2 hkn, by rw [HCT2.out], HR⟩, loop_m HWD.out.2 hkn⟩
  ·have hki : ¬ (k : Int) < (LS.length : Int) := by omega
   have hke : LS.take k = LS := List.take_of_length_le (by omega)
   rw [hke, HCL.out]
   replace HXA := Lib.hid (HXA.out.below HR.out)
   replace HXB := Lib.hid (HXB.out.below HR.out)
   replace HBw := Lib.hid (btr HBw.out HR.out (Nat.le_refl _))
   clear HR hke
   have hcc : (C1 != C1) = false := by simp
   go_wp2
   refine HK.out _ _ ?_; clear HK
   refine wp_seq_k (fun K hK => ?_)
   have HK := Lib.hid hK; clear hK
   go_wp2
   refine HK.out _ _ ?_; clear HK
   clear hcc
   have HTM := HT2
   have ht2 := HT2.out
   refine wp_seq_k (fun K hK => ?_)
   have HK := Lib.hid hK; clear hK
   go_wp2
   refine HK.out _ _ ?_; clear HK
   clear ht2
   have TN := Lib.hid (notL_tw TA.out)
   have TP := Lib.hid (joinT_tw TA.out TB.out (by decide) (fun a b => a && b))
   have TQ := Lib.hid (joinT_tw TA.out TB.out (by decide) (fun a b => a || b))
   refine wp_seq_k (fun K hK => ?_)
   have HK := Lib.hid hK; clear hK
   go_wp2_with (first | (refine wpList_load_blk rfl 25 (.tmp 7) rfl _ rfl (show _ from blk_keep HXA.out.blk (Below.refl _ _)) Try.underlying25 rfl size25 rfl ?_) | (refine wpList_load_blk rfl 25 (.tmp 8) rfl _ rfl (show _ from blk_keep HXB.out.blk (Below.refl _ _)) Try.underlying25 rfl size25 rfl ?_) | (go_at_call 43; refine (not_c HXA.out.law TA.out).mono ?_; rintro e wc15 ⟨un15, ug15, rfl, hl, hb⟩; have HL := Lib.hid hl; have HC := Lib.hid hb; clear hl hb) | (refine wpList_store_blk rfl 25 _ _ rfl _ rfl rfl (heap_newI rfl) size25 rfl rfl HL.out.one ?_))
   refine HK.out _ _ ?_; clear HK
   generalize hw : World.putObj _ _ _ = ws15
   obtain ⟨hx, hb⟩ := storedA HL.out hw
   obtain ⟨gb15, hg⟩ : ∃ g, g = wc15.heap.size := ⟨_, rfl⟩
   rw [← hg] at hx ⊢
   have HN15 := Lib.hid hx
   have HD := Lib.hid (btr HC.out hb (Nat.le_refl _))
   clear hx hb hw hg HL HC
   replace HXA := Lib.hid (HXA.out.below HD.out)
   replace HXB := Lib.hid (HXB.out.below HD.out)
   replace HBw := Lib.hid (btr HBw.out HD.out (Nat.le_refl _))
   clear HD
   refine wp_seq_k (fun K hK => ?_)
   have HK := Lib.hid hK; clear hK
   go_wp2_with (first | (refine wpList_load_blk rfl 25 (.tmp 7) rfl _ rfl (show _ from blk_keep HXA.out.blk (Below.refl _ _)) Try.underlying25 rfl size25 rfl ?_) | (refine wpList_load_blk rfl 25 (.tmp 8) rfl _ rfl (show _ from blk_keep HXB.out.blk (Below.refl _ _)) Try.underlying25 rfl size25 rfl ?_) | (refine wpList_load_blk rfl 25 (.tmp 15) rfl _ rfl (show _ from blk_keep HN15.out.blk (Below.refl _ _)) Try.underlying25 rfl size25 rfl ?_) | (go_at_call 42; refine (both_c HXA.out.law HXB.out.law TA.out TB.out (by decide)).mono ?_; rintro e wc16 ⟨un16, ug16, rfl, hl, hb⟩; have HL := Lib.hid hl; have HC := Lib.hid hb; clear hl hb) | (refine wpList_store_blk rfl 25 _ _ rfl _ rfl rfl (heap_newI rfl) size25 rfl rfl HL.out.one ?_))
   refine HK.out _ _ ?_; clear HK
   generalize hw : World.putObj _ _ _ = ws16
   obtain ⟨hx, hb⟩ := storedA HL.out hw
   obtain ⟨gb16, hg⟩ : ∃ g, g = wc16.heap.size := ⟨_, rfl⟩
   rw [← hg] at hx ⊢
   have HN16 := Lib.hid hx
   have HD := Lib.hid (btr HC.out hb (Nat.le_refl _))
   clear hx hb hw hg HL HC
   replace HXA := Lib.hid (HXA.out.below HD.out)
   replace HXB := Lib.hid (HXB.out.below HD.out)
   replace HN15 := Lib.hid (HN15.out.below HD.out)
   replace HBw := Lib.hid (btr HBw.out HD.out (Nat.le_refl _))
   clear HD
   refine wp_seq_k (fun K hK => ?_)
   have HK := Lib.hid hK; clear hK
   go_wp2_with (first | (refine wpList_load_blk rfl 25 (.tmp 7) rfl _ rfl (show _ from blk_keep HXA.out.blk (Below.refl _ _)) Try.underlying25 rfl size25 rfl ?_) | (refine wpList_load_blk rfl 25 (.tmp 8) rfl _ rfl (show _ from blk_keep HXB.out.blk (Below.refl _ _)) Try.underlying25 rfl size25 rfl ?_) | (refine wpList_load_blk rfl 25 (.tmp 15) rfl _ rfl (show _ from blk_keep HN15.out.blk (Below.refl _ _)) Try.underlying25 rfl size25 rfl ?_) | (refine wpList_load_blk rfl 25 (.tmp 16) rfl _ rfl (show _ from blk_keep HN16.out.blk (Below.refl _ _)) Try.underlying25 rfl size25 rfl ?_) | (go_at_call 46; refine (either_c HXA.out.law HXB.out.law TA.out TB.out (by decide)).mono ?_; rintro e wc18 ⟨un18, ug18, rfl, hl, hb⟩; have HL := Lib.hid hl; have HC := Lib.hid hb; clear hl hb) | (refine wpList_store_blk rfl 25 _ _ rfl _ rfl rfl (heap_newI rfl) size25 rfl rfl HL.out.one ?_))
   refine HK.out _ _ ?_; clear HK
   generalize hw : World.putObj _ _ _ = ws18
   obtain ⟨hx, hb⟩ := storedA HL.out hw
   obtain ⟨gb18, hg⟩ : ∃ g, g = wc18.heap.size := ⟨_, rfl⟩
   rw [← hg] at hx ⊢
   have HN18 := Lib.hid hx
   have HD := Lib.hid (btr HC.out hb (Nat.le_refl _))
   clear hx hb hw hg HL HC
   replace HXA := Lib.hid (HXA.out.below HD.out)
   replace HXB := Lib.hid (HXB.out.below HD.out)
   replace HN15 := Lib.hid (HN15.out.below HD.out)
   replace HN16 := Lib.hid (HN16.out.below HD.out)
   replace HBw := Lib.hid (btr HBw.out HD.out (Nat.le_refl _))
   clear HD
   refine wp_seq_k (fun K hK => ?_)
   have HK := Lib.hid hK; clear hK
   go_wp2
   refine HK.out _ _ ?_; clear HK
   refine wp_seq_k (fun K hK => ?_)
   have HK := Lib.hid hK; clear hK
   go_wp2
   refine HK.out _ _ ?_; clear HK
   obtain ⟨pa7, pc7, pb7, pd7, e1, e2⟩ := lawX_form HXA.out
   obtain ⟨nn7, hnn⟩ : ∃ q, q = la.nx.length := ⟨_, rfl⟩
   obtain ⟨ng7, hng⟩ : ∃ q, q = la.gd.length := ⟨_, rfl⟩
   rw [← hnn] at e1
   rw [← hng] at e2
   subst e1 e2
   clear hnn hng
   obtain ⟨pa8, pc8, pb8, pd8, e1, e2⟩ := lawX_form HXB.out
   obtain ⟨nn8, hnn⟩ : ∃ q, q = lb.nx.length := ⟨_, rfl⟩
   obtain ⟨ng8, hng⟩ : ∃ q, q = lb.gd.length := ⟨_, rfl⟩
   rw [← hnn] at e1
   rw [← hng] at e2
   subst e1 e2
   clear hnn hng
   obtain ⟨pa15, pc15, pb15, pd15, e1, e2⟩ := lawX_form HN15.out
   obtain ⟨nn15, hnn⟩ : ∃ q, q = (notL la).nx.length := ⟨_, rfl⟩
   obtain ⟨ng15, hng⟩ : ∃ q, q = (notL la).gd.length := ⟨_, rfl⟩
   rw [← hnn] at e1
   rw [← hng] at e2
   subst e1 e2
   clear hnn hng
   obtain ⟨pa16, pc16, pb16, pd16, e1, e2⟩ := lawX_form HN16.out
   obtain ⟨nn16, hnn⟩ : ∃ q, q = (andL la lb).nx.length := ⟨_, rfl⟩
   obtain ⟨ng16, hng⟩ : ∃ q, q = (andL la lb).gd.length := ⟨_, rfl⟩
   rw [← hnn] at e1
   rw [← hng] at e2
   subst e1 e2
   clear hnn hng
   obtain ⟨pa18, pc18, pb18, pd18, e1, e2⟩ := lawX_form HN18.out
   obtain ⟨nn18, hnn⟩ : ∃ q, q = (orL la lb).nx.length := ⟨_, rfl⟩
   obtain ⟨ng18, hng⟩ : ∃ q, q = (orL la lb).gd.length := ⟨_, rfl⟩
   rw [← hnn] at e1
   rw [← hng] at e2
   subst e1 e2
   clear hnn hng
   obtain ⟨w20, hw20⟩ : ∃ q, q = ws18.alloc (.cells #[.int .i64 0, .int .i64 0, .int .i64 0, .int .i64 0, .int .i64 0] 70) := ⟨_, rfl⟩
   have hB20 : Below ws18.heap.size ws18 w20 := by rw [hw20]; exact (Below.refl _ _).alloc (Nat.le_refl _) _
   have cS : w20.heap[ws18.heap.size]? = some (.cells (rowX 5 (fun q => if q < 0 then (fun q => cntG k2 (Wl (lwf la lb q))) q else 0)).toArray 70 (0, 0)) := by rw [hw20]; exact heap_newI rfl
   rw [← hw20]
   obtain ⟨gs, hgs⟩ : ∃ q, q = ws18.heap.size := ⟨_, rfl⟩
   rw [← hgs] at cS ⊢
   have HG := Lib.hid hgs
   have HB20 := Lib.hid hB20
   obtain ⟨w21, hw21⟩ : ∃ q, q = w20.alloc (.cells #[.slice pa7 nn7 pc7, .slice pb7 ng7 pd7, .slice pa8 nn8 pc8, .slice pb8 ng8 pd8, .slice pa15 nn15 pc15, .slice pb15 ng15 pd15, .slice pa16 nn16 pc16, .slice pb16 ng16 pd16, .slice pa18 nn18 pc18, .slice pb18 ng18 pd18] 25) := ⟨_, rfl⟩
   have hB21 : Below w20.heap.size w20 w21 := by rw [hw21]; exact (Below.refl _ _).alloc (Nat.le_refl _) _
   have cB : w21.heap[w20.heap.size]? = some (.cells #[.slice pa7 nn7 pc7, .slice pb7 ng7 pd7, .slice pa8 nn8 pc8, .slice pb8 ng8 pd8, .slice pa15 nn15 pc15, .slice pb15 ng15 pd15, .slice pa16 nn16 pc16, .slice pb16 ng16 pd16, .slice pa18 nn18 pc18, .slice pb18 ng18 pd18] 25 (0, 0)) := by rw [hw21]; exact heap_newI rfl
   obtain ⟨gB, hgB⟩ : ∃ q, q = w20.heap.size := ⟨_, rfl⟩
   rw [← hgB] at cB
   have HBG := Lib.hid (show gs ≠ gB by have := lt_blk cS; omega)
   have HREL := Lib.hid (show Below ws18.heap.size ws18 w21 ∧ w21.heap[gs]? = some (.cells (rowX 5 (fun q => if q < 0 then (fun q => cntG k2 (Wl (lwf la lb q))) q else 0)).toArray 70 (0, 0)) ∧ w21.heap[gB]? = some (.cells #[.slice pa7 nn7 pc7, .slice pb7 ng7 pd7, .slice pa8 nn8 pc8, .slice pb8 ng8 pd8, .slice pa15 nn15 pc15, .slice pb15 ng15 pd15, .slice pa16 nn16 pc16, .slice pb16 ng16 pd16, .slice pa18 nn18 pc18, .slice pb18 ng18 pd18] 25 (0, 0)) from ⟨btr hB20 hB21 (Nat.le_refl _), blk_keep cS hB21, cB⟩)
   have HW21 := Lib.hid (And.intro hw21 hgB)
   have HLS : Hid (∀ q, q < 5 → ∃ vn vg, ([.slice pa7 nn7 pc7, .slice pb7 ng7 pd7, .slice pa8 nn8 pc8, .slice pb8 ng8 pd8, .slice pa15 nn15 pc15, .slice pb15 ng15 pd15, .slice pa16 nn16 pc16, .slice pb16 ng16 pd16, .slice pa18 nn18 pc18, .slice pb18 ng18 pd18] : List Value)[q * 2]? = some vn ∧ ([.slice pa7 nn7 pc7, .slice pb7 ng7 pd7, .slice pa8 nn8 pc8, .slice pb8 ng8 pd8, .slice pa15 nn15 pc15, .slice pb15 ng15 pd15, .slice pa16 nn16 pc16, .slice pb16 ng16 pd16, .slice pa18 nn18 pc18, .slice pb18 ng18 pd18] : List Value)[q * 2 + 1]? = some vg ∧ (∀ U, Below ws18.heap.size ws18 U → LawA U (.agg #[vn, vg]) (lwf la lb q)) ∧ Tw (lwf la lb q) 25) := Lib.hid (fun q hq => by
    match q, hq with
    | 0, _ => exact ⟨_, _, rfl, rfl, fun U hU => (HXA.out.below hU).law, TA.out.up (by decide)⟩
    | 1, _ => exact ⟨_, _, rfl, rfl, fun U hU => (HXB.out.below hU).law, TB.out.up (by decide)⟩
    | 2, _ => exact ⟨_, _, rfl, rfl, fun U hU => (HN15.out.below hU).law, TN.out.1.up (by decide)⟩
    | 3, _ => exact ⟨_, _, rfl, rfl, fun U hU => (HN16.out.below hU).law, TP.out.1⟩
    | 4, _ => exact ⟨_, _, rfl, rfl, fun U hU => (HN18.out.below hU).law, TQ.out.1⟩)
   replace HXA := Lib.hid (HXA.out.below HB20.out)
   replace HXB := Lib.hid (HXB.out.below HB20.out)
   replace HN15 := Lib.hid (HN15.out.below HB20.out)
   replace HN16 := Lib.hid (HN16.out.below HB20.out)
   replace HN18 := Lib.hid (HN18.out.below HB20.out)
   have HBz := Lib.hid (btr HBw.out HB20.out (Nat.le_refl _))
   clear hw20 hB20 cS hgs hw21 hB21 cB hgB HB20
   refine wp_seq_k (fun K hK => ?_)
   have HK := Lib.hid hK; clear hK
   go_wp2_with (guard_target =~ wpList _ _ _ (⟨_, Op.load _ _, _, _, _, _⟩ :: _) _ _; first | (refine wpList_load_blk rfl 25 (.tmp 7) rfl _ rfl (show _ from blk_keep HXA.out.blk (Below.refl _ _)) Try.underlying25 rfl size25 rfl ?_) | (refine wpList_load_blk rfl 25 (.tmp 8) rfl _ rfl (show _ from blk_keep HXB.out.blk (Below.refl _ _)) Try.underlying25 rfl size25 rfl ?_) | (refine wpList_load_blk rfl 25 (.tmp 15) rfl _ rfl (show _ from blk_keep HN15.out.blk (Below.refl _ _)) Try.underlying25 rfl size25 rfl ?_) | (refine wpList_load_blk rfl 25 (.tmp 16) rfl _ rfl (show _ from blk_keep HN16.out.blk (Below.refl _ _)) Try.underlying25 rfl size25 rfl ?_) | (refine wpList_load_blk rfl 25 (.tmp 18) rfl _ rfl (show _ from blk_keep HN18.out.blk (Below.refl _ _)) Try.underlying25 rfl size25 rfl ?_))
   rw [← HW21.out.1, ← HW21.out.2]
   go_loopw [100] (fun i wr => ∃ j : Nat, j ≤ 5 ∧ i = .int .i64 j ∧ Hid (Below ws18.heap.size ws18 wr ∧ wr.heap[gs]? = some (.cells (rowX 5 (fun q => if q < j then (fun q => cntG k2 (Wl (lwf la lb q))) q else 0)).toArray 70 (0, 0)) ∧ wr.heap[gB]? = some (.cells #[.slice pa7 nn7 pc7, .slice pb7 ng7 pd7, .slice pa8 nn8 pc8, .slice pb8 ng8 pd8, .slice pa15 nn15 pc15, .slice pb15 ng15 pd15, .slice pa16 nn16 pc16, .slice pb16 ng16 pd16, .slice pa18 nn18 pc18, .slice pb18 ng18 pd18] 25 (0, 0)))) (fun i _ => 5 - (intOf i).toNat)
   case atStart => exact ⟨0, by decide, rfl, HREL⟩
   case round =>
    clear HREL
    obtain ⟨j, hj, rfl, HR⟩ := hrel
    obtain ⟨wo, rfl⟩ : ∃ q, q = wr := ⟨_, rfl⟩
    by_cases hj5 : j < 5
    ·have hji : (j : Int) < 5 := by omega
     obtain ⟨vn, vg, e1, e2, hla, htw⟩ := HLS.out j hj5
     obtain ⟨CJ, hCJ⟩ : ∃ q, q = (cntG k2 (Wl (lwf la lb j))) := ⟨_, rfl⟩
     have HCJ := Lib.hid (show ∀ W v, LawA W v (lwf la lb j) → Calls Try.prog 23 #[v, .int .i64 k2] W fun e w' => e = .returned (.tuple #[.int .i64 CJ, .int .i64 0]) ∧ Below W.heap.size W w' by
      intro W v h; rw [hCJ]; exact count_c h htw HBK.out.2)
     have HLA := Lib.hid (hla wo HR.out.1)
     obtain ⟨n1, c1, n2, c2, e3, -, -⟩ := LawA.form (hla wo HR.out.1)
     have HRG : Hid (wo.rangeAt gB (j * 2) [vn, vg]) := Lib.hid (fun q v hv => by
      match q, hv with
      | 0, hv => simp only [List.getElem?_cons_zero, Option.some.injEq] at hv; subst hv; rw [cell_blk HR.out.2.2, List.getElem?_toArray]; exact e1
      | 1, hv => simp only [List.getElem?_cons_succ, List.getElem?_cons_zero, Option.some.injEq] at hv; subst hv; rw [cell_blk HR.out.2.2, List.getElem?_toArray]; exact e2
      | q + 2, hv => simp at hv)
     have HCQ := Lib.hid hCJ
     clear hla htw hCJ e1 e2 e3
     go_wp2_with (first | (guard_target =~ wpList _ _ _ (⟨_, Op.load _ _, _, _, _, _⟩ :: _) _ _; first | (refine wpList_load_mid rfl 25 (.tmp 103) rfl gB (j * 2) rfl [vn, vg] _ HRG.out Try.underlying25 rfl size25 ?_) | (refine wpList_load_blk rfl 25 (.tmp 22) rfl _ rfl (storedA HLA.out rfl).1.blk Try.underlying25 rfl size25 rfl ?_)) | (refine wpList_store_blk rfl 25 _ _ rfl _ rfl rfl (heap_newI rfl) size25 rfl rfl HLA.out.one ?_) | (go_at_call 23; refine (HCJ.out _ _ (storedA HLA.out rfl).1.law).mono ?_; rintro e wz ⟨rfl, hb⟩; have HZ := Lib.hid (btr (storedA HLA.out rfl).2 hb (Nat.le_refl _)); have yj := (cell_blk (i := j) (blk_keep HR.out.2.1 HZ.out)).trans ((List.getElem?_toArray ..).trans (rowX_get _ hj5)); have fj := free_blk (i := j) (blk_keep HR.out.2.1 HZ.out); clear hb))
     have hz1 : (wz.setCell ⟨gs, j, none⟩ (.int .i64 CJ)).heap[gs]? = some (.cells (rowX 5 (fun q => if q < j + 1 then (cntG k2 (Wl (lwf la lb q))) else 0)).toArray 70 (0, 0)) := by
      rw [heap_set_blk (blk_keep HR.out.2.1 HZ.out), rowX_set (fun q => if q < j then (cntG k2 (Wl (lwf la lb q))) else 0) (fun q => if q < j + 1 then (cntG k2 (Wl (lwf la lb q))) else 0) CJ (fun v _ => by
       by_cases h1 : v = j
       ·subst h1; rw [if_pos rfl, if_pos (by omega), HCQ.out]
       ·rw [if_neg h1]
        by_cases h2 : v < j
        ·rw [if_pos (by omega), if_pos h2]
        ·rw [if_neg (by omega), if_neg h2])]
     have hz2 := (heap_set_other (i := j) (v := .int .i64 CJ) (Ne.symm HBG.out)).trans (blk_keep HR.out.2.2 HZ.out)
     have hz3 := (btr HR.out.1 HZ.out (Nat.le_refl _)).setCell (p := ⟨gs, j, none⟩) (Nat.le_of_eq HG.out.symm) (.int .i64 CJ)
     exact ⟨⟨j + 1, hj5, by go_num, Lib.hid ⟨hz3, hz1, hz2⟩⟩, by simp only [intOf]; omega⟩
    ·have hji : ¬ (j : Int) < 5 := by omega
     have hje : j = 5 := by omega
     subst hje
     clear hj hj5
     go_wp2
     refine HK.out _ _ ?_; clear HK
     obtain ⟨s0, h0⟩ : ∃ q, q = cntG k2 (Wl la) := ⟨_, rfl⟩
     obtain ⟨s1, h1⟩ : ∃ q, q = cntG k2 (Wl lb) := ⟨_, rfl⟩
     obtain ⟨s2, h2⟩ : ∃ q, q = cntG k2 (Wl (notL la)) := ⟨_, rfl⟩
     obtain ⟨s3, h3⟩ : ∃ q, q = cntG k2 (Wl (andL la lb)) := ⟨_, rfl⟩
     obtain ⟨s4, h4⟩ : ∃ q, q = cntG k2 (Wl (orL la lb)) := ⟨_, rfl⟩
     have HBB := Lib.hid (And.intro (cntG_bd k2 (Wl la)) (And.intro (cntG_bd k2 (Wl lb)) (And.intro (cntG_bd k2 (Wl (notL la))) (And.intro (cntG_bd k2 (Wl (andL la lb))) (cntG_bd k2 (Wl (orL la lb)))))))
     have HS1 := Lib.hid (show s0 + s2 = ((2 ^ k2 : Nat) : Int) by
      rw [h0, h2, ← cntG_not k2 (Wl la)]
      congr 1
      exact cntG_congr k2 fun w hw => TN.out.2 w hw)
     have HS2 := Lib.hid (show s0 + s1 = s3 + s4 by
      rw [h0, h1, h3, h4, cntG_two k2 (Wl la) (Wl lb)]
      congr 1
      ·exact cntG_congr k2 fun w hw => (TP.out.2.1 w hw).symm
      ·exact cntG_congr k2 fun w hw => (TQ.out.2.1 w hw).symm)
     have hcs : wo.heap[gs]? = some (.cells #[.int .i64 s0, .int .i64 s1, .int .i64 s2, .int .i64 s3, .int .i64 s4] 70 (0, 0)) := by
      rw [HR.out.2.1, h0, h1, h2, h3, h4]
      rfl
     rw [← h0, ← h1, ← h2, ← h3, ← h4] at HBB
     have hPw : ((2 ^ k2 : Nat) : Int) ≤ 33554432 := by
      have := Nat.pow_le_pow_right (n := 2) (by decide) (show k2 ≤ 25 from HBK.out.2)
      omega
     have HPW := Lib.hid hPw
     have HCS := Lib.hid hcs
     have hq1 : (IntKind.i64.wrap (s0 + s2) == IntKind.i64.wrap (2 ^ k2)) = true := by rw [HS1.out]; simp
     have hq2 : (IntKind.i64.wrap (s0 + s1) == IntKind.i64.wrap (s3 + s4)) = true := by rw [HS2.out]; exact beq_self_eq_true _
     clear h0 h1 h2 h3 h4 hPw hcs
     refine wp_seq_k (fun K hK => ?_)
     have HK := Lib.hid hK; clear hK
     refine wp_region_x (R := fun U => Below wo.heap.size wo U) (S := fun _ => True) (z := 999) rfl ?_
     change wpAnyX _ _ _ _ _ _ _ _ _ _ wo.drew
     have Hq0 := Lib.hid (show Below wo.heap.size wo wo.drew from (Below.refl _ _).drew)
     obtain ⟨wq0, hwq⟩ : ∃ q, q = wo.drew := ⟨_, rfl⟩
     rw [← hwq] at Hq0 ⊢
     clear hwq
     refine wpX_kp (i := 0) (oi := ⟨some 116, _, _, _, _, none⟩) (v := ?_) rfl (fun _ _ _ h => h) ?_ ⟨(by first | exact Hq4.out | exact Hq3.out | exact Hq2.out | exact Hq1.out | exact Hq0.out), fun _ => trivial⟩ ?_
     rotate_left
     ·intro U hU
      go_simp
      all_goals with_reducible rfl
     simp only [putE]
     refine wpX_kp (i := 1) (oi := ⟨some 117, _, _, _, _, none⟩) (v := ?_) rfl (fun _ _ _ h => h) ?_ ⟨(by first | exact Hq4.out | exact Hq3.out | exact Hq2.out | exact Hq1.out | exact Hq0.out), fun _ => trivial⟩ ?_
     rotate_left
     ·intro U hU
      have u0 := cell_blk (i := 0) (blk_keep HCS.out hU)
      simp only [List.getElem?_toArray, List.getElem?_cons_zero] at u0
      go_simp
      all_goals with_reducible rfl
     simp only [putE]
     refine wpX_kp (i := 2) (oi := ⟨some 118, _, _, _, _, none⟩) (v := ?_) rfl (fun _ _ _ h => h) ?_ ⟨(by first | exact Hq4.out | exact Hq3.out | exact Hq2.out | exact Hq1.out | exact Hq0.out), fun _ => trivial⟩ ?_
     rotate_left
     ·intro U hU
      go_simp
      all_goals with_reducible rfl
     simp only [putE]
     refine wpX_kp (i := 3) (oi := ⟨some 119, _, _, _, _, none⟩) (v := ?_) rfl (fun _ _ _ h => h) ?_ ⟨(by first | exact Hq4.out | exact Hq3.out | exact Hq2.out | exact Hq1.out | exact Hq0.out), fun _ => trivial⟩ ?_
     rotate_left
     ·intro U hU
      have u0 := cell_blk (i := 2) (blk_keep HCS.out hU)
      simp only [List.getElem?_toArray, List.getElem?_cons_zero, List.getElem?_cons_succ] at u0
      go_simp
      all_goals with_reducible rfl
     simp only [putE]
     refine wpX_kp (i := 4) (oi := ⟨some 120, _, _, _, _, none⟩) (v := ?_) rfl (fun _ _ _ h => h) ?_ ⟨(by first | exact Hq4.out | exact Hq3.out | exact Hq2.out | exact Hq1.out | exact Hq0.out), fun _ => trivial⟩ ?_
     rotate_left
     ·intro U hU
      go_simp
      all_goals with_reducible rfl
     simp only [putE]
     refine wpX_kp (i := 5) (oi := ⟨some 121, _, _, _, _, none⟩) (v := ?_) rfl (fun _ _ _ h => h) ?_ ⟨(by first | exact Hq4.out | exact Hq3.out | exact Hq2.out | exact Hq1.out | exact Hq0.out), fun _ => trivial⟩ ?_
     rotate_left
     ·intro U hU
      go_simp
      all_goals with_reducible rfl
     simp only [putE]
     refine wpX_kp (i := 6) (oi := ⟨some 122, _, _, _, _, none⟩) (v := ?_) rfl (fun _ _ _ h => h) ?_ ⟨(by first | exact Hq4.out | exact Hq3.out | exact Hq2.out | exact Hq1.out | exact Hq0.out), fun _ => trivial⟩ ?_
     rotate_left
     ·intro U hU
      go_simp
      all_goals with_reducible rfl
     simp only [putE]
     refine wpX_kp (i := 7) (oi := ⟨some 123, _, _, _, _, none⟩) (v := ?_) rfl (fun _ _ _ h => h) ?_ ⟨(by first | exact Hq4.out | exact Hq3.out | exact Hq2.out | exact Hq1.out | exact Hq0.out), fun _ => trivial⟩ ?_
     rotate_left
     ·intro U hU
      go_simp
      all_goals with_reducible rfl
     simp only [putE]
     refine wpX_kp (i := 8) (oi := ⟨some 124, _, _, _, _, none⟩) (v := ?_) rfl (fun _ _ _ h => h) ?_ ⟨(by first | exact Hq4.out | exact Hq3.out | exact Hq2.out | exact Hq1.out | exact Hq0.out), fun _ => trivial⟩ ?_
     rotate_left
     ·intro U hU
      go_simp
      all_goals with_reducible rfl
     simp only [putE]
     refine wpX_kp (i := 9) (oi := ⟨some 125, _, _, _, _, some (8, true)⟩) (v := ?_) rfl (fun _ _ _ h => h) ?_ ⟨(by first | exact Hq4.out | exact Hq3.out | exact Hq2.out | exact Hq1.out | exact Hq0.out), fun _ => trivial⟩ ?_
     rotate_left
     ·intro U hU
      go_simp
      all_goals with_reducible rfl
     simp only [putE]
     refine wpX_kp (i := 10) (oi := ⟨some 126, _, _, _, _, some (8, true)⟩) (v := ?_) rfl (fun _ _ _ h => h) ?_ ⟨(by first | exact Hq4.out | exact Hq3.out | exact Hq2.out | exact Hq1.out | exact Hq0.out), fun _ => trivial⟩ ?_
     rotate_left
     ·intro U hU
      have u0 := cell_blk (i := 0) (blk_keep HCS.out hU)
      simp only [List.getElem?_toArray, List.getElem?_cons_zero] at u0
      go_simp
      all_goals with_reducible rfl
     simp only [putE]
     refine wpX_kp (i := 11) (oi := ⟨some 127, _, _, _, _, some (8, true)⟩) (v := ?_) rfl (fun _ _ _ h => h) ?_ ⟨(by first | exact Hq4.out | exact Hq3.out | exact Hq2.out | exact Hq1.out | exact Hq0.out), fun _ => trivial⟩ ?_
     rotate_left
     ·intro U hU
      go_simp
      all_goals with_reducible rfl
     simp only [putE]
     refine wpX_kp (i := 12) (oi := ⟨some 128, _, _, _, _, some (8, true)⟩) (v := ?_) rfl (fun _ _ _ h => h) ?_ ⟨(by first | exact Hq4.out | exact Hq3.out | exact Hq2.out | exact Hq1.out | exact Hq0.out), fun _ => trivial⟩ ?_
     rotate_left
     ·intro U hU
      have u0 := cell_blk (i := 1) (blk_keep HCS.out hU)
      simp only [List.getElem?_toArray, List.getElem?_cons_zero, List.getElem?_cons_succ] at u0
      go_simp
      all_goals with_reducible rfl
     simp only [putE]
     refine wpX_kp (i := 13) (oi := ⟨some 129, _, _, _, _, some (8, true)⟩) (v := ?_) rfl (fun _ _ _ h => h) ?_ ⟨(by first | exact Hq4.out | exact Hq3.out | exact Hq2.out | exact Hq1.out | exact Hq0.out), fun _ => trivial⟩ ?_
     rotate_left
     ·intro U hU
      go_simp
      all_goals with_reducible rfl
     simp only [putE]
     refine wpX_kp (i := 14) (oi := ⟨some 130, _, _, _, _, some (8, true)⟩) (v := ?_) rfl (fun _ _ _ h => h) ?_ ⟨(by first | exact Hq4.out | exact Hq3.out | exact Hq2.out | exact Hq1.out | exact Hq0.out), fun _ => trivial⟩ ?_
     rotate_left
     ·intro U hU
      go_simp
      all_goals with_reducible rfl
     simp only [putE]
     refine wpX_kp (i := 15) (oi := ⟨some 131, _, _, _, _, some (8, true)⟩) (v := ?_) rfl (fun _ _ _ h => h) ?_ ⟨(by first | exact Hq4.out | exact Hq3.out | exact Hq2.out | exact Hq1.out | exact Hq0.out), fun _ => trivial⟩ ?_
     rotate_left
     ·intro U hU
      have u0 := cell_blk (i := 3) (blk_keep HCS.out hU)
      simp only [List.getElem?_toArray, List.getElem?_cons_zero, List.getElem?_cons_succ] at u0
      go_simp
      all_goals with_reducible rfl
     simp only [putE]
     refine wpX_kp (i := 16) (oi := ⟨some 132, _, _, _, _, some (8, true)⟩) (v := ?_) rfl (fun _ _ _ h => h) ?_ ⟨(by first | exact Hq4.out | exact Hq3.out | exact Hq2.out | exact Hq1.out | exact Hq0.out), fun _ => trivial⟩ ?_
     rotate_left
     ·intro U hU
      go_simp
      all_goals with_reducible rfl
     simp only [putE]
     refine wpX_kp (i := 17) (oi := ⟨some 133, _, _, _, _, some (8, true)⟩) (v := ?_) rfl (fun _ _ _ h => h) ?_ ⟨(by first | exact Hq4.out | exact Hq3.out | exact Hq2.out | exact Hq1.out | exact Hq0.out), fun _ => trivial⟩ ?_
     rotate_left
     ·intro U hU
      have u0 := cell_blk (i := 4) (blk_keep HCS.out hU)
      simp only [List.getElem?_toArray, List.getElem?_cons_zero, List.getElem?_cons_succ] at u0
      go_simp
      all_goals with_reducible rfl
     simp only [putE]
     refine wpX_kp (i := 18) (oi := ⟨some 134, _, _, _, _, some (8, true)⟩) (v := ?_) rfl (fun _ _ _ h => h) ?_ ⟨(by first | exact Hq4.out | exact Hq3.out | exact Hq2.out | exact Hq1.out | exact Hq0.out), fun _ => trivial⟩ ?_
     rotate_left
     ·intro U hU
      go_simp
      all_goals with_reducible rfl
     simp only [putE]
     refine wpX_kp (i := 19) (oi := ⟨some 135, _, _, _, _, some (8, true)⟩) (v := ?_) rfl (fun _ _ _ h => h) ?_ ⟨(by first | exact Hq4.out | exact Hq3.out | exact Hq2.out | exact Hq1.out | exact Hq0.out), fun _ => trivial⟩ ?_
     rotate_left
     ·intro U hU
      go_simp
      all_goals with_reducible rfl
     simp only [putE]
     refine wpX_kp (i := 20) (oi := ⟨some 136, _, _, _, _, none⟩) (v := ?_) rfl (fun _ _ _ h => h) ?_ ⟨(by first | exact Hq4.out | exact Hq3.out | exact Hq2.out | exact Hq1.out | exact Hq0.out), fun _ => trivial⟩ ?_
     rotate_left
     ·intro U hU
      go_simp
      all_goals with_reducible rfl
     simp only [putE]
     refine wpX_kp (i := 21) (oi := ⟨some 137, _, _, _, _, none⟩) (v := ?_) rfl (fun _ _ _ h => h) ?_ ⟨(by first | exact Hq4.out | exact Hq3.out | exact Hq2.out | exact Hq1.out | exact Hq0.out), fun _ => trivial⟩ ?_
     rotate_left
     ·intro U hU
      go_simp
      all_goals with_reducible rfl
     simp only [putE]
     refine wpAnyX_one (i := 22) (o := ⟨some 138, _, _, _, _, some (21, true)⟩) (by kernel_rfl) rfl (by rfl) (fun K1 hK1 => ?_)
     have HK1 := Lib.hid hK1; clear hK1
     refine oper_call (ts := _) (xs := #[]) (f := 20) rfl (enters_of Try.func20 (by kernel_rfl) rfl) rfl (R := fun w' => Below wq0.heap.size wq0 w') (v := .bool true) ((works_any _).mono (by rintro e w' ⟨rfl, h⟩; exact ⟨rfl, h⟩)) ?_
     rintro wq1 hbwq1
     have Hq1 := Lib.hid (btr Hq0.out hbwq1 (Nat.le_refl _))
     refine HK1.out _ _ ⟨Hq1.out, fun _ => trivial⟩ ?_
     clear HK1
     try simp only [putE]
     refine wpX_kp (i := 23) (oi := ⟨some 139, _, _, _, _, none⟩) (v := ?_) rfl (fun _ _ _ h => h) ?_ ⟨(by first | exact Hq4.out | exact Hq3.out | exact Hq2.out | exact Hq1.out | exact Hq0.out), fun _ => trivial⟩ ?_
     rotate_left
     ·intro U hU
      go_simp
      all_goals with_reducible rfl
     simp only [putE]
     refine wpX_kp (i := 24) (oi := ⟨some 6, _, _, _, _, none⟩) (v := ?_) rfl (fun _ _ _ h => h) ?_ ⟨(by first | exact Hq4.out | exact Hq3.out | exact Hq2.out | exact Hq1.out | exact Hq0.out), fun _ => trivial⟩ ?_
     rotate_left
     ·intro U hU
      go_simp
      all_goals with_reducible rfl
     simp only [putE]
     refine wpAnyX_done (by kernel_rfl) ?_ _
     refine HK.out _ _ ?_; clear HK
     go_wp2
     go_ret
     exact ⟨rfl, btr (btr HBw.out HR.out.1 (Nat.le_refl _)) Hq1.out (Nat.le_refl _)⟩
end Ytnjgglnpmhjmiaa
end Go.Proofs
