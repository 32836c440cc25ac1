/- Laws of rotation: the list by which laws differ is the first one. -/
import Derived.Test.YtnjgglnpmhjmiaaD9
import Derived.Test.YtnjgglnpmhjmiaaD10
open Go Go.RowKit Go.YtnjgglnpmhjmiaaIt
open Rest
namespace Go.Proofs
namespace Ytnjgglnpmhjmiaa
set_option maxRecDepth 100000 in
set_option maxHeartbeats 8000000 in
theorem restDiffer_any {vx vy : Value} {xs ys : List T3} {w : World} (hxx : (∀ q ∈ xs, q.ok) ∧ SlT3 w vx xs) (hyy : (∀ q ∈ ys, q.ok) ∧ SlT3 w vy ys) : Calls Try.prog 12 #[vx, vy] w fun e w' => e = .returned (.bool true) ∧ Below w.heap.size w w' := by
 obtain ⟨hqx, hx⟩ := hxx
 obtain ⟨hqy, hy⟩ := hyy
 obtain ⟨la, hla⟩ : ∃ q, q = madeL xs := ⟨_, rfl⟩
 obtain ⟨lb, hlb⟩ : ∃ q, q = madeL ys := ⟨_, rfl⟩
 have TA := Lib.hid (show Tw la 5 by rw [hla]; exact ⟨(made_ok hqx).1, (made_ok hqx).2.1, by rw [(made_ok hqx).2.2]; exact (mkN_bd xs).2⟩)
 have TB := Lib.hid (show Tw lb 5 by rw [hlb]; exact ⟨(made_ok hqy).1, (made_ok hqy).2.1, by rw [(made_ok hqy).2.2]; exact (mkN_bd ys).2⟩)
 have MA := Lib.hid (fun W (hW : Below w.heap.size w W) => made_any (hx.below hW (Nat.le_refl _)) hqx)
 have MB := Lib.hid (fun W (hW : Below w.heap.size w W) => made_any (hy.below hW (Nat.le_refl _)) hqy)
 rw [← hla] at MA
 rw [← hlb] at MB
 obtain ⟨ax, cx, rfl, -, -⟩ := id hx
 obtain ⟨ay, cy, rfl, -, -⟩ := id hy
 clear hx hy hqx hqy hla hlb
 go_enter Try.func12, Try.ntmps12
 refine wp_seq_k (fun K hK => ?_)
 have HK := Lib.hid hK; clear hK
 go_wp2
 refine HK.out _ _ ?_; clear HK
 refine wp_seq_k (fun K hK => ?_)
 have HK := Lib.hid hK; clear hK
 go_wp2_with (first | (have _m := HA1; go_at_call 48; refine (MB.out _ HA2.out).mono ?_; rintro e wb ⟨bn, bg, rfl, hl, hb⟩; have HB1 := Lib.hid hl; have HB2 := Lib.hid hb; clear hl hb) | (go_at_call 48; refine (MA.out _ (Below.refl _ _)).mono ?_; rintro e wa ⟨an, ag, rfl, hl, hb⟩; have HA1 := Lib.hid hl; have HA2 := Lib.hid hb; clear hl hb) | (refine wpList_store_blk rfl 25 (.tmp 5) _ rfl _ rfl rfl (blkE2 rfl).1 size25 rfl rfl HA1.out.one ?_) | (refine wpList_store_blk rfl 25 (.tmp 6) _ rfl _ rfl rfl (show _ from (World.putObj_heap_other (by omega)).trans (blkE2 rfl).2.1) size25 rfl rfl HB1.out.one ?_))
 refine HK.out _ _ ?_; clear HK
 generalize hw : World.putObj _ _ _ = w1
 obtain ⟨hxa, hxb, hb1⟩ := stored2 (HA1.out.below HB2.out (Nat.le_refl _)) HB1.out hw
 obtain ⟨g5, hg5⟩ : ∃ g, g = wb.heap.size := ⟨_, rfl⟩
 obtain ⟨g6, hg6⟩ : ∃ g, g = g5 + 1 := ⟨_, rfl⟩
 rw [← hg5] at hxa hxb ⊢
 rw [← hg6] at hxb ⊢
 have HXA := Lib.hid hxa
 have HXB := Lib.hid hxb
 have HBw := Lib.hid (btr (btr HA2.out HB2.out (Nat.le_refl _)) hb1 (Nat.le_refl _))
 clear hxa hxb hb1 hw hg5 hg6 HA1 HA2 HB1 HB2 MA MB
 obtain ⟨LS, hLS⟩ : ∃ q, q = allL 8 := ⟨_, rfl⟩
 have H37 := Lib.hid (fun W => all_any 8 (by decide) W)
 rw [← hLS] at H37
 have HWD := Lib.hid (show (∀ l ∈ LS, ∀ c ∈ l, 0 ≤ c ∧ c < 2) ∧ LS.length ≤ 1000 by rw [hLS]; exact ⟨fun l hl => (allL_wd 8 l hl).2, by rw [allL_len]; decide⟩)
 obtain ⟨DO, hDO⟩ : ∃ q, q = firstO (diffS la lb (0, 0)) := ⟨_, rfl⟩
 have HDO := Lib.hid hDO.symm
 have HDO2 := Lib.hid ((dF_symm TA.out TB.out).trans hDO.symm)
 obtain ⟨FO, hFO⟩ : ∃ q, q = firstO (sysL la) := ⟨_, rfl⟩
 have HFO := Lib.hid hFO.symm
 have HL := Lib.hid hLS
 have HD1 := Lib.hid (show ∀ i (hi : i < LS.length), Wl la (toW LS[i]) ≠ Wl lb (toW LS[i]) → (∀ j (h : j < i), Wl la (toW (LS[j]'(by omega))) = Wl lb (toW (LS[j]'(by omega)))) → DO = some (toW LS[i]) ∧ (toW LS[i]).length + 2 ≤ la.nx.length + lb.nx.length by
  rw [hDO, hLS]; exact fun i hi hg hm => diff_at TA.out.self TB.out.self hi hg hm)
 have HF1 := Lib.hid (show ∀ i (hi : i < LS.length), Wl la (toW LS[i]) = true → (∀ j (h : j < i), Wl la (toW (LS[j]'(by omega))) = false) → FO = some (toW LS[i]) by
  rw [hFO, hLS]; exact fun i hi hg hm => first_at TA.out hi hg hm)
 have HE1 := Lib.hid (show (∀ i (hi : i < LS.length), Wl la (toW LS[i]) = Wl lb (toW LS[i])) → DO = none ∧ leastL la = leastL lb by
  rw [hDO, hLS]; exact fun h => by
   have h2 := diff_all TA.out.self TB.out.self (by have := TA.out.len; have := TB.out.len; omega) h
   exact ⟨dF_none TA.out TB.out h2, leastL_ext TA.out TB.out h2⟩)
 have HE2 := Lib.hid (show (∀ i (hi : i < LS.length), Wl la (toW LS[i]) = false) → FO = none by
  rw [hFO, hLS]; exact fun h => first_all TA.out (by decide) h)
 have HN := Lib.hid (And.intro TA.out.len TB.out.len)
 clear hLS hDO hFO HL
 obtain ⟨E1, hE1⟩ : ∃ q, q = oE DO := ⟨_, rfl⟩
 obtain ⟨E3, hE3⟩ : ∃ q, q = oE FO := ⟨_, rfl⟩
 obtain ⟨DL, hDL⟩ : ∃ q, q = (nI (oY DO)).length := ⟨_, rfl⟩
 obtain ⟨OL, hOL⟩ : ∃ q, q = (nI (oY FO)).length := ⟨_, rfl⟩
 have HEE := Lib.hid (And.intro (And.intro hE1 hE3) (And.intro hDL hOL))
 clear hE1 hE3 hDL hOL
 refine wp_seq_k (fun K hK => ?_)
 have HK := Lib.hid hK; clear hK
 go_wp2_with (first | (refine wpList_load_blk rfl 25 (.tmp 5) rfl _ rfl (show _ from blk_keep HXA.out.blk (Below.refl _ _)) Try.underlying25 rfl size25 rfl ?_) | (refine wpList_load_blk rfl 25 (.tmp 6) rfl _ rfl (show _ from blk_keep HXB.out.blk (Below.refl _ _)) Try.underlying25 rfl size25 rfl ?_) | (go_at_call 27; refine (differ_c HDO.out HEE.out.1.1.symm HXA.out.law HXB.out.law TA.out TB.out).mono ?_; rintro e wk1 ⟨vy, rfl, hs, hb⟩; have HC := Lib.hid hb; obtain ⟨ad1, cd1, e⟩ := slI_form hs; rw [← HEE.out.2.1] at e; subst e; have HSD := Lib.hid hs; clear hs hb))
 refine HK.out _ _ ?_; clear HK
 replace HXA := Lib.hid (HXA.out.below HC.out)
 replace HXB := Lib.hid (HXB.out.below HC.out)
 replace HBw := Lib.hid (btr HBw.out HC.out (Nat.le_refl _))
 clear HC
 refine wp_seq_k (fun K hK => ?_)
 have HK := Lib.hid hK; clear hK
 go_wp2_with (first | (refine wpList_load_blk rfl 25 (.tmp 5) rfl _ rfl (show _ from blk_keep HXA.out.blk (Below.refl _ _)) Try.underlying25 rfl size25 rfl ?_) | (refine wpList_load_blk rfl 25 (.tmp 6) rfl _ rfl (show _ from blk_keep HXB.out.blk (Below.refl _ _)) Try.underlying25 rfl size25 rfl ?_) | (go_at_call 27; refine (differ_c HDO2.out HEE.out.1.1.symm HXB.out.law HXA.out.law TB.out TA.out).mono ?_; rintro e wk2 ⟨vy, rfl, hs, hb⟩; have HC := Lib.hid hb; obtain ⟨ad2, cd2, e⟩ := slI_form hs; rw [← HEE.out.2.1] at e; subst e; have HSO := Lib.hid hs; clear hs hb))
 refine HK.out _ _ ?_; clear HK
 replace HXA := Lib.hid (HXA.out.below HC.out)
 replace HXB := Lib.hid (HXB.out.below HC.out)
 replace HSD := Lib.hid (HSD.out.below HC.out (Nat.le_refl _))
 replace HBw := Lib.hid (btr HBw.out HC.out (Nat.le_refl _))
 clear HC
 refine wp_seq_k (fun K hK => ?_)
 have HK := Lib.hid hK; clear hK
 go_wp2_with (first | (refine wpList_load_blk rfl 25 (.tmp 5) rfl _ rfl (show _ from blk_keep HXA.out.blk (Below.refl _ _)) Try.underlying25 rfl size25 rfl ?_) | (refine wpList_load_blk rfl 25 (.tmp 6) rfl _ rfl (show _ from blk_keep HXB.out.blk (Below.refl _ _)) Try.underlying25 rfl size25 rfl ?_) | (go_at_call 25; refine (first_c HFO.out HEE.out.1.2.symm HXA.out.law TA.out).mono ?_; rintro e wk3 ⟨vy, rfl, hs, hb⟩; have HC := Lib.hid hb; obtain ⟨ad3, cd3, e⟩ := slI_form hs; rw [← HEE.out.2.2] at e; subst e; have HSF := Lib.hid hs; clear hs hb))
 refine HK.out _ _ ?_; clear HK
 replace HXA := Lib.hid (HXA.out.below HC.out)
 replace HXB := Lib.hid (HXB.out.below HC.out)
 replace HSD := Lib.hid (HSD.out.below HC.out (Nat.le_refl _))
 replace HSO := Lib.hid (HSO.out.below HC.out (Nat.le_refl _))
 replace HBw := Lib.hid (btr HBw.out HC.out (Nat.le_refl _))
 clear HC
 have he1 : (E1 != E1) = false := by simp
 refine wp_seq_k (fun K hK => ?_)
 have HK := Lib.hid hK; clear hK
 go_wp2_with (go_at_call 29; refine (numbers_eq HSD.out HSO.out).mono ?_; rintro e wn ⟨rfl, hb⟩; have HC := Lib.hid hb; clear hb)
 refine HK.out _ _ ?_; clear HK
 clear he1
 replace HXA := Lib.hid (HXA.out.below HC.out)
 replace HXB := Lib.hid (HXB.out.below HC.out)
 replace HSD := Lib.hid (HSD.out.below HC.out (Nat.le_refl _))
 replace HSO := Lib.hid (HSO.out.below HC.out (Nat.le_refl _))
 replace HSF := Lib.hid (HSF.out.below HC.out (Nat.le_refl _))
 replace HBw := Lib.hid (btr HBw.out HC.out (Nat.le_refl _))
 clear HC
 refine wp_seq_k (fun K hK => ?_)
 have HK := Lib.hid hK; clear hK
 go_wp2
 refine HK.out _ _ ?_; clear HK
 refine wp_seq_k (fun K hK => ?_)
 have HK := Lib.hid hK; clear hK
 go_wp2_with (go_at_call 37; refine (H37.out _).mono ?_; rintro e w8 ⟨vl, rfl, hs, hb⟩; have HC := Lib.hid hb; obtain ⟨al, cl, e, -⟩ := slII_form hs; subst e; have HS := Lib.hid hs; clear hs hb)
 replace HXA := Lib.hid (HXA.out.below HC.out)
 replace HXB := Lib.hid (HXB.out.below HC.out)
 replace HSD := Lib.hid (HSD.out.below HC.out (Nat.le_refl _))
 replace HSO := Lib.hid (HSO.out.below HC.out (Nat.le_refl _))
 replace HSF := Lib.hid (HSF.out.below HC.out (Nat.le_refl _))
 replace HBw := Lib.hid (btr HBw.out HC.out (Nat.le_refl _))
 clear HC H37
 go_loopw [13, 14, 53] (fun f13 f14 i wr => ∃ k : Nat, k ≤ LS.length ∧ i = .int .i64 k ∧ f13 = .bool ((LS.take k).any (fun ys => Wl la (toW ys) != Wl lb (toW ys))) ∧ f14 = .bool ((LS.take k).any (fun ys => Wl la (toW ys))) ∧ Hid (Below w8.heap.size w8 wr)) (fun _ _ i _ => LS.length - (intOf i).toNat)
 case atStart => exact ⟨0, Nat.zero_le _, rfl, rfl, rfl, Lib.hid (Below.refl _ _)⟩
 case round =>
  obtain ⟨k, hk, rfl, rfl, rfl, HR⟩ := hrel
  obtain ⟨wo, rfl⟩ : ∃ q, q = wr := ⟨_, rfl⟩
  by_cases hkn : k < LS.length
  rotate_left
  ·have hki : ¬ (k : Int) < (LS.length : Int) := by omega
   have hke : LS.take k = LS := List.take_of_length_le (by omega)
   rw [hke]
   replace HXA := Lib.hid (HXA.out.below HR.out)
   replace HXB := Lib.hid (HXB.out.below HR.out)
   replace HSD := Lib.hid (HSD.out.below HR.out (Nat.le_refl _))
   replace HSO := Lib.hid (HSO.out.below HR.out (Nat.le_refl _))
   replace HSF := Lib.hid (HSF.out.below HR.out (Nat.le_refl _))
   replace HBw := Lib.hid (btr HBw.out HR.out (Nat.le_refl _))
   clear HR hke
   obtain ⟨F, hF⟩ : ∃ q, q = LS.any (fun ys => Wl la (toW ys) != Wl lb (toW ys)) := ⟨_, rfl⟩
   obtain ⟨S, hS⟩ : ∃ q, q = LS.any (fun ys => Wl la (toW ys)) := ⟨_, rfl⟩
   rw [← hF, ← hS]
   have HX1 := Lib.hid (show F = false → E1 = 5 ∧ DL = 0 ∧ sameL (leastL la) (leastL lb) = true by
    intro h
    rw [hF, List.any_eq_false] at h
    obtain ⟨h1, h2⟩ := HE1.out fun i hi => by have := h _ (List.getElem_mem hi); simpa using this
    rw [HEE.out.1.1, HEE.out.2.1, h1, h2]
    exact ⟨rfl, rfl, same_true _⟩)
   have HX2 := Lib.hid (show F = true → sameL (leastL la) (leastL lb) = false by
    intro h
    rw [hF, List.any_eq_true] at h
    obtain ⟨z, -, hz⟩ := h
    have := least_ne TA.out TB.out (w := toW z) (by simpa using hz)
    cases e : sameL (leastL la) (leastL lb) with
    | false => rfl
    | true => exact absurd (sameL_iff.1 e) this)
   have HX3 := Lib.hid (show S = false → E3 = 5 ∧ OL = 0 by
    intro h
    rw [hS, List.any_eq_false] at h
    have h1 := HE2.out fun i hi => by have := h _ (List.getElem_mem hi); simpa using this
    rw [HEE.out.1.2, HEE.out.2.2, h1]
    exact ⟨rfl, rfl⟩)
   clear hF hS HD1 HF1 HE1 HE2
   go_wp2
   refine HK.out _ _ ?_; clear HK
   refine wp_seq_k (fun K hK => ?_)
   have HK := Lib.hid hK; clear hK
   go_wp2_with (first | (refine wpList_load_blk rfl 25 (.tmp 5) rfl _ rfl (show _ from blk_keep HXA.out.blk (Below.refl _ _)) Try.underlying25 rfl size25 rfl ?_) | (refine wpList_load_blk rfl 25 (.tmp 6) rfl _ rfl (show _ from blk_keep HXB.out.blk (Below.refl _ _)) Try.underlying25 rfl size25 rfl ?_) | (go_at_call 50; refine (least_c HXA.out.law TA.out).mono ?_; rintro e wc17 ⟨un17, ug17, rfl, hl, hb⟩; have HL := Lib.hid hl; have HC := Lib.hid hb; clear hl hb) | (refine wpList_store_blk rfl 25 _ _ rfl _ rfl rfl (heap_newI rfl) size25 rfl rfl HL.out.one ?_))
   refine HK.out _ _ ?_; clear HK
   generalize hw : World.putObj _ _ _ = ws17
   obtain ⟨hx, hb⟩ := storedA HL.out hw
   obtain ⟨gb17, hg⟩ : ∃ g, g = wc17.heap.size := ⟨_, rfl⟩
   rw [← hg] at hx ⊢
   have HN17 := Lib.hid hx
   have HD := Lib.hid (btr HC.out hb (Nat.le_refl _))
   clear hx hb hw hg HL HC
   replace HXA := Lib.hid (HXA.out.below HD.out)
   replace HXB := Lib.hid (HXB.out.below HD.out)
   replace HSD := Lib.hid (HSD.out.below HD.out (Nat.le_refl _))
   replace HSO := Lib.hid (HSO.out.below HD.out (Nat.le_refl _))
   replace HSF := Lib.hid (HSF.out.below HD.out (Nat.le_refl _))
   replace HBw := Lib.hid (btr HBw.out HD.out (Nat.le_refl _))
   clear HD
   refine wp_seq_k (fun K hK => ?_)
   have HK := Lib.hid hK; clear hK
   go_wp2_with (first | (refine wpList_load_blk rfl 25 (.tmp 5) rfl _ rfl (show _ from blk_keep HXA.out.blk (Below.refl _ _)) Try.underlying25 rfl size25 rfl ?_) | (refine wpList_load_blk rfl 25 (.tmp 6) rfl _ rfl (show _ from blk_keep HXB.out.blk (Below.refl _ _)) Try.underlying25 rfl size25 rfl ?_) | (refine wpList_load_blk rfl 25 (.tmp 17) rfl _ rfl (show _ from blk_keep HN17.out.blk (Below.refl _ _)) Try.underlying25 rfl size25 rfl ?_) | (go_at_call 50; refine (least_c HXB.out.law TB.out).mono ?_; rintro e wc19 ⟨un19, ug19, rfl, hl, hb⟩; have HL := Lib.hid hl; have HC := Lib.hid hb; clear hl hb) | (refine wpList_store_blk rfl 25 _ _ rfl _ rfl rfl (heap_newI rfl) size25 rfl rfl HL.out.one ?_))
   refine HK.out _ _ ?_; clear HK
   generalize hw : World.putObj _ _ _ = ws19
   obtain ⟨hx, hb⟩ := storedA HL.out hw
   obtain ⟨gb19, hg⟩ : ∃ g, g = wc19.heap.size := ⟨_, rfl⟩
   rw [← hg] at hx ⊢
   have HN19 := Lib.hid hx
   have HD := Lib.hid (btr HC.out hb (Nat.le_refl _))
   clear hx hb hw hg HL HC
   replace HXA := Lib.hid (HXA.out.below HD.out)
   replace HXB := Lib.hid (HXB.out.below HD.out)
   replace HN17 := Lib.hid (HN17.out.below HD.out)
   replace HSD := Lib.hid (HSD.out.below HD.out (Nat.le_refl _))
   replace HSO := Lib.hid (HSO.out.below HD.out (Nat.le_refl _))
   replace HSF := Lib.hid (HSF.out.below HD.out (Nat.le_refl _))
   replace HBw := Lib.hid (btr HBw.out HD.out (Nat.le_refl _))
   clear HD
   cases F with
   | false =>
    cases S with
    | false =>
     have HSM := Lib.hid (show sameL (leastL la) (leastL lb) = true from (HX1.out rfl).2.2)
     obtain ⟨hE1, hDL, -⟩ := HX1.out rfl
     have he5 : (E1 == 5) = true := by rw [hE1]; rfl
     have hd0 : ((DL : Int) == 0) = true := by rw [hDL]; rfl
     clear hE1 hDL
     obtain ⟨hE3, hOL⟩ := HX3.out rfl
     have he3 : (E3 != 5) = false := by rw [hE3]; rfl
     have ho1 : ¬ ((0 : Int) < (OL : Int)) := by omega
     have ho2 : ¬ (0 < OL) := by omega
     clear hE3 hOL
     clear HX1 HX2 HX3
     go_wp2_with (first | (have _m := HY1; go_at_call 20; refine (works_any _).mono ?_; rintro e wy2 ⟨rfl, hb⟩; have HY2 := Lib.hid (btr HY1.out hb (Nat.le_refl _)); clear hb) | (go_at_call 54; refine (laws_cb HSM.out (HN17.out.below (Below.refl _ _)).law (HN19.out.below (Below.refl _ _)).law).mono ?_; rintro e wy1 ⟨rfl, hb⟩; have HY1 := Lib.hid (hb); clear hb) | (refine wpList_load_blk rfl 25 (.tmp 17) rfl _ rfl (show _ from blk_keep HN17.out.blk (Below.refl _ _)) Try.underlying25 rfl size25 rfl ?_) | (refine wpList_load_blk rfl 25 (.tmp 19) rfl _ rfl (show _ from blk_keep HN19.out.blk (Below.refl _ _)) Try.underlying25 rfl size25 rfl ?_))
     go_ret
     exact ⟨rfl, btr HBw.out HY2.out (Nat.le_refl _)⟩
    | true =>
     have HSM := Lib.hid (show sameL (leastL la) (leastL lb) = true from (HX1.out rfl).2.2)
     obtain ⟨hE1, hDL, -⟩ := HX1.out rfl
     have he5 : (E1 == 5) = true := by rw [hE1]; rfl
     have hd0 : ((DL : Int) == 0) = true := by rw [hDL]; rfl
     clear hE1 hDL
     clear HX1 HX2 HX3
     go_wp2_with (first | (have _m := HY1; go_at_call 20; refine (works_any _).mono ?_; rintro e wy2 ⟨rfl, hb⟩; have HY2 := Lib.hid (btr HY1.out hb (Nat.le_refl _)); clear hb) | (go_at_call 54; refine (laws_cb HSM.out (HN17.out.below (Below.refl _ _)).law (HN19.out.below (Below.refl _ _)).law).mono ?_; rintro e wy1 ⟨rfl, hb⟩; have HY1 := Lib.hid (hb); clear hb) | (refine wpList_load_blk rfl 25 (.tmp 17) rfl _ rfl (show _ from blk_keep HN17.out.blk (Below.refl _ _)) Try.underlying25 rfl size25 rfl ?_) | (refine wpList_load_blk rfl 25 (.tmp 19) rfl _ rfl (show _ from blk_keep HN19.out.blk (Below.refl _ _)) Try.underlying25 rfl size25 rfl ?_))
     go_ret
     exact ⟨rfl, btr HBw.out HY2.out (Nat.le_refl _)⟩
   | true =>
    cases S with
    | false =>
     have HSM := Lib.hid (show sameL (leastL la) (leastL lb) = false from HX2.out rfl)
     obtain ⟨hE3, hOL⟩ := HX3.out rfl
     have he3 : (E3 != 5) = false := by rw [hE3]; rfl
     have ho1 : ¬ ((0 : Int) < (OL : Int)) := by omega
     have ho2 : ¬ (0 < OL) := by omega
     clear hE3 hOL
     clear HX1 HX2 HX3
     go_wp2_with (first | (have _m := HY1; go_at_call 20; refine (works_any _).mono ?_; rintro e wy2 ⟨rfl, hb⟩; have HY2 := Lib.hid (btr HY1.out hb (Nat.le_refl _)); clear hb) | (go_at_call 54; refine (laws_cb HSM.out (HN17.out.below (Below.refl _ _)).law (HN19.out.below (Below.refl _ _)).law).mono ?_; rintro e wy1 ⟨rfl, hb⟩; have HY1 := Lib.hid (hb); clear hb) | (refine wpList_load_blk rfl 25 (.tmp 17) rfl _ rfl (show _ from blk_keep HN17.out.blk (Below.refl _ _)) Try.underlying25 rfl size25 rfl ?_) | (refine wpList_load_blk rfl 25 (.tmp 19) rfl _ rfl (show _ from blk_keep HN19.out.blk (Below.refl _ _)) Try.underlying25 rfl size25 rfl ?_))
     go_ret
     exact ⟨rfl, btr HBw.out HY2.out (Nat.le_refl _)⟩
    | true =>
     have HSM := Lib.hid (show sameL (leastL la) (leastL lb) = false from HX2.out rfl)
     clear HX1 HX2 HX3
     go_wp2_with (first | (have _m := HY1; go_at_call 20; refine (works_any _).mono ?_; rintro e wy2 ⟨rfl, hb⟩; have HY2 := Lib.hid (btr HY1.out hb (Nat.le_refl _)); clear hb) | (go_at_call 54; refine (laws_cb HSM.out (HN17.out.below (Below.refl _ _)).law (HN19.out.below (Below.refl _ _)).law).mono ?_; rintro e wy1 ⟨rfl, hb⟩; have HY1 := Lib.hid (hb); clear hb) | (refine wpList_load_blk rfl 25 (.tmp 17) rfl _ rfl (show _ from blk_keep HN17.out.blk (Below.refl _ _)) Try.underlying25 rfl size25 rfl ?_) | (refine wpList_load_blk rfl 25 (.tmp 19) rfl _ rfl (show _ from blk_keep HN19.out.blk (Below.refl _ _)) Try.underlying25 rfl size25 rfl ?_))
     go_ret
     exact ⟨rfl, btr HBw.out HY2.out (Nat.le_refl _)⟩
  ·have hki : (k : Int) < (LS.length : Int) := by omega
   replace HXA := Lib.hid (HXA.out.below HR.out)
   replace HXB := Lib.hid (HXB.out.below HR.out)
   replace HSD := Lib.hid (HSD.out.below HR.out (Nat.le_refl _))
   replace HSO := Lib.hid (HSO.out.below HR.out (Nat.le_refl _))
   replace HSF := Lib.hid (HSF.out.below HR.out (Nat.le_refl _))
   have HBo := Lib.hid (btr HBw.out HR.out (Nat.le_refl _))
   obtain ⟨b, off, au, cu, rfl, hbl, hcell, hrow⟩ := (HS.out.below HR.out (Nat.le_refl _)).row hkn
   obtain ⟨ys, hys⟩ : ∃ ys, ys = LS[k] := ⟨_, rfl⟩
   have HYS := Lib.hid (show ∀ c ∈ ys, 0 ≤ c ∧ c < 2 by rw [hys]; exact HWD.out.1 _ (List.getElem_mem hkn))
   rw [← hys] at hcell hrow
   have HSL := Lib.hid hrow
   obtain ⟨b1, hb1⟩ : ∃ q, q = Wl la (toW ys) := ⟨_, rfl⟩
   obtain ⟨b2, hb2⟩ : ∃ q, q = Wl lb (toW ys) := ⟨_, rfl⟩
   obtain ⟨bS, hbS⟩ : ∃ q, q = (LS.take k).any (fun ys => Wl la (toW ys)) := ⟨_, rfl⟩
   obtain ⟨bF, hbF⟩ : ∃ q, q = (LS.take k).any (fun ys => Wl la (toW ys) != Wl lb (toW ys)) := ⟨_, rfl⟩
   have b1E := Lib.hid hb1.symm
   have b2E := Lib.hid hb2.symm
   have HA1 := Lib.hid (show (LS.take (k + 1)).any (fun ys => Wl la (toW ys)) = (bS || b1) by rw [any_take hkn, ← hys, ← hb1, ← hbS])
   have HA2 := Lib.hid (show (LS.take (k + 1)).any (fun ys => Wl la (toW ys) != Wl lb (toW ys)) = (bF || (b1 != b2)) by rw [any_take hkn, ← hys, ← hb1, ← hb2, ← hbF])
   have HAF := Lib.hid (show bS = false → b1 = true → E3 = 0 ∧ nI (oY FO) = ys by
    intro h1 h2
    rw [hbS, List.any_eq_false] at h1
    have := HF1.out k hkn (by rw [← hys, ← hb1]; exact h2) fun j hj => by
     have := h1 (LS[j]'(by omega)) (List.mem_take_iff_getElem.2 ⟨j, by omega, rfl⟩)
     simpa using this
    rw [HEE.out.1.2, this, ← hys]
    exact ⟨rfl, nI_toW HYS.out⟩)
   have HAD := Lib.hid (show bF = false → (b1 != b2) = true → E1 = 0 ∧ nI (oY DO) = ys ∧ (DL : Nat) + 2 ≤ la.nx.length + lb.nx.length by
    intro h1 h2
    rw [hbF, List.any_eq_false] at h1
    obtain ⟨h3, h4⟩ := HD1.out k hkn (by rw [← hys, ← hb1, ← hb2]; simpa using h2) fun j hj => by
     have := h1 (LS[j]'(by omega)) (List.mem_take_iff_getElem.2 ⟨j, by omega, rfl⟩)
     simpa using this
    have h5 : nI (oY DO) = ys := by rw [h3, ← hys]; exact nI_toW HYS.out
    have h6 : DL = (toW LS[k]).length := by rw [HEE.out.2.1, h3]; simp [oY, nI]
    rw [HEE.out.1.1]
    exact ⟨by rw [h3]; rfl, h5, by rw [h6]; exact h4⟩)
   rw [← hbS, ← hbF]
   clear hb1 hb2 hys hrow hbl hbS hbF
   have HSL0 := HSL
   cases bS with
   | true =>
    obtain ⟨c1, hc1⟩ : ∃ q, q = b1 := ⟨_, rfl⟩
    have c1F := Lib.hid (b1E.out.trans hc1.symm)
    have HA1F := Lib.hid (show (LS.take (k + 1)).any (fun ys => Wl la (toW ys)) = true by rw [HA1.out, Bool.true_or])
    rw [← hc1] at HAD HA2
    clear hc1
    have b2F := b2E
    go_wp2
    clear hcell
    obtain ⟨wp, hwp⟩ : ∃ q, q = wo := ⟨_, rfl⟩
    have HB5 := Lib.hid (show Below wo.heap.size wo wp by rw [hwp]; exact Below.refl _ _)
    rw [← hwp]
    have HXA5 := Lib.hid (HXA.out.below HB5.out)
    have HXB5 := Lib.hid (HXB.out.below HB5.out)
    have HSL5 := Lib.hid (HSL.out.below HB5.out (Nat.le_refl _))
    clear hwp
    cases bF with
    | true =>
     refine wp_region_x (R := fun U => Below wp.heap.size wp U) (S := fun _ => True) (z := 999) rfl ?_
     change wpAnyX _ _ _ _ _ _ _ _ _ _ wp.drew
     have Hq0 := Lib.hid (show Below wp.heap.size wp wp.drew from (Below.refl _ _).drew)
     obtain ⟨wq0, hwq⟩ : ∃ q, q = wp.drew := ⟨_, rfl⟩
     rw [← hwq] at Hq0 ⊢
     clear hwq
     refine wpX_kp (i := 0) (oi := ⟨some 73, _, _, _, _, none⟩) (v := ?_) rfl (fun _ _ _ h => h) ?_ ⟨(by first | exact Hq4.out | exact Hq3.out | exact Hq2.out | exact Hq1.out | exact Hq0.out), fun _ => trivial⟩ ?_
     rotate_left
     ·intro U hU
      go_simp
      all_goals with_reducible rfl
     simp only [putE]
     refine wpX_kp (i := 1) (oi := ⟨some 74, _, _, _, _, none⟩) (v := ?_) rfl (fun _ _ _ h => h) ?_ ⟨(by first | exact Hq4.out | exact Hq3.out | exact Hq2.out | exact Hq1.out | exact Hq0.out), fun _ => trivial⟩ ?_
     rotate_left
     ·intro U hU
      go_simp
      all_goals with_reducible rfl
     simp only [putE]
     refine wpX_kp (i := 2) (oi := ⟨some 75, _, _, _, _, none⟩) (v := ?_) rfl (fun _ _ _ h => h) ?_ ⟨(by first | exact Hq4.out | exact Hq3.out | exact Hq2.out | exact Hq1.out | exact Hq0.out), fun _ => trivial⟩ ?_
     rotate_left
     ·intro U hU
      go_simp
      all_goals with_reducible rfl
     simp only [putE]
     refine wpAnyX_keep (i := 3) (oi := ⟨some 76, _, _, _, _, some (2, true)⟩) (v := undef) rfl (by kernel_rfl) (by kernel_rfl) (by kernel_rfl) (fun _ _ _ h => h) (Or.inr ⟨by rfl, rfl⟩) ⟨(by first | exact Hq4.out | exact Hq3.out | exact Hq2.out | exact Hq1.out | exact Hq0.out), fun _ => trivial⟩ ?_
     simp only [putE]
     refine wpAnyX_keep (i := 4) (oi := ⟨some 77, _, _, _, _, some (2, true)⟩) (v := undef) rfl (by kernel_rfl) (by kernel_rfl) (by kernel_rfl) (fun _ _ _ h => h) (Or.inr ⟨by rfl, rfl⟩) ⟨(by first | exact Hq4.out | exact Hq3.out | exact Hq2.out | exact Hq1.out | exact Hq0.out), fun _ => trivial⟩ ?_
     simp only [putE]
     refine wpAnyX_keep (i := 5) (oi := ⟨some 78, _, _, _, _, some (2, true)⟩) (v := undef) rfl (by kernel_rfl) (by kernel_rfl) (by kernel_rfl) (fun _ _ _ h => h) (Or.inr ⟨by rfl, rfl⟩) ⟨(by first | exact Hq4.out | exact Hq3.out | exact Hq2.out | exact Hq1.out | exact Hq0.out), fun _ => trivial⟩ ?_
     simp only [putE]
     refine wpAnyX_keep (i := 6) (oi := ⟨some 79, _, _, _, _, some (2, true)⟩) (v := undef) rfl (by kernel_rfl) (by kernel_rfl) (by kernel_rfl) (fun _ _ _ h => h) (Or.inr ⟨by rfl, rfl⟩) ⟨(by first | exact Hq4.out | exact Hq3.out | exact Hq2.out | exact Hq1.out | exact Hq0.out), fun _ => trivial⟩ ?_
     simp only [putE]
     refine wpAnyX_keep (i := 7) (oi := ⟨some 80, _, _, _, _, some (2, true)⟩) (v := undef) rfl (by kernel_rfl) (by kernel_rfl) (by kernel_rfl) (fun _ _ _ h => h) (Or.inr ⟨by rfl, rfl⟩) ⟨(by first | exact Hq4.out | exact Hq3.out | exact Hq2.out | exact Hq1.out | exact Hq0.out), fun _ => trivial⟩ ?_
     simp only [putE]
     refine wpAnyX_keep (i := 8) (oi := ⟨some 81, _, _, _, _, some (2, true)⟩) (v := undef) rfl (by kernel_rfl) (by kernel_rfl) (by kernel_rfl) (fun _ _ _ h => h) (Or.inr ⟨by rfl, rfl⟩) ⟨(by first | exact Hq4.out | exact Hq3.out | exact Hq2.out | exact Hq1.out | exact Hq0.out), fun _ => trivial⟩ ?_
     simp only [putE]
     refine wpAnyX_keep (i := 9) (oi := ⟨some 82, _, _, _, _, some (2, true)⟩) (v := undef) rfl (by kernel_rfl) (by kernel_rfl) (by kernel_rfl) (fun _ _ _ h => h) (Or.inr ⟨by rfl, rfl⟩) ⟨(by first | exact Hq4.out | exact Hq3.out | exact Hq2.out | exact Hq1.out | exact Hq0.out), fun _ => trivial⟩ ?_
     simp only [putE]
     refine wpAnyX_keep (i := 10) (oi := ⟨some 83, _, _, _, _, some (2, true)⟩) (v := undef) rfl (by kernel_rfl) (by kernel_rfl) (by kernel_rfl) (fun _ _ _ h => h) (Or.inr ⟨by rfl, rfl⟩) ⟨(by first | exact Hq4.out | exact Hq3.out | exact Hq2.out | exact Hq1.out | exact Hq0.out), fun _ => trivial⟩ ?_
     simp only [putE]
     refine wpAnyX_keep (i := 11) (oi := ⟨some 84, _, _, _, _, some (2, true)⟩) (v := undef) rfl (by kernel_rfl) (by kernel_rfl) (by kernel_rfl) (fun _ _ _ h => h) (Or.inr ⟨by rfl, rfl⟩) ⟨(by first | exact Hq4.out | exact Hq3.out | exact Hq2.out | exact Hq1.out | exact Hq0.out), fun _ => trivial⟩ ?_
     simp only [putE]
     refine wpX_kp (i := 12) (oi := ⟨some 85, _, _, _, _, none⟩) (v := ?_) rfl (fun _ _ _ h => h) ?_ ⟨(by first | exact Hq4.out | exact Hq3.out | exact Hq2.out | exact Hq1.out | exact Hq0.out), fun _ => trivial⟩ ?_
     rotate_left
     ·intro U hU
      go_simp
      all_goals with_reducible rfl
     simp only [putE]
     refine wpAnyX_done (by kernel_rfl) ?_ _
     have HR5 := Lib.hid (btr (btr HR.out HB5.out (Nat.le_refl _)) Hq0.out (Nat.le_refl _))
     clear Hq0
     go_wp2
     exact ⟨⟨k + 1, hkn, loop_v HWD.out.2 hkn, by rw [HA2.out, Bool.true_or], by rw [HA1F.out], Lib.hid (HR5.out)⟩, loop_m HWD.out.2 hkn⟩
    | false =>
     have HAD5 := Lib.hid (HAD.out rfl)
     clear HAD
     have HA5 := HA2
     refine wp_region_x (R := fun U => Below wp.heap.size wp U) (S := fun _ => True) (z := 999) rfl ?_
     change wpAnyX _ _ _ _ _ _ _ _ _ _ wp.drew
     have Hq0 := Lib.hid (show Below wp.heap.size wp wp.drew from (Below.refl _ _).drew)
     obtain ⟨wq0, hwq⟩ : ∃ q, q = wp.drew := ⟨_, rfl⟩
     rw [← hwq] at Hq0 ⊢
     clear hwq
     refine wpX_kp (i := 0) (oi := ⟨some 73, _, _, _, _, none⟩) (v := ?_) rfl (fun _ _ _ h => h) ?_ ⟨(by first | exact Hq4.out | exact Hq3.out | exact Hq2.out | exact Hq1.out | exact Hq0.out), fun _ => trivial⟩ ?_
     rotate_left
     ·intro U hU
      go_simp
      all_goals with_reducible rfl
     simp only [putE]
     refine wpX_kp (i := 1) (oi := ⟨some 74, _, _, _, _, none⟩) (v := ?_) rfl (fun _ _ _ h => h) ?_ ⟨(by first | exact Hq4.out | exact Hq3.out | exact Hq2.out | exact Hq1.out | exact Hq0.out), fun _ => trivial⟩ ?_
     rotate_left
     ·intro U hU
      go_simp
      all_goals with_reducible rfl
     simp only [putE]
     refine wpX_kp (i := 2) (oi := ⟨some 75, _, _, _, _, none⟩) (v := ?_) rfl (fun _ _ _ h => h) ?_ ⟨(by first | exact Hq4.out | exact Hq3.out | exact Hq2.out | exact Hq1.out | exact Hq0.out), fun _ => trivial⟩ ?_
     rotate_left
     ·intro U hU
      go_simp
      all_goals with_reducible rfl
     simp only [putE]
     refine wpX_kp (i := 3) (oi := ⟨some 76, _, _, _, _, some (2, true)⟩) (v := ?_) rfl (fun _ _ _ h => h) ?_ ⟨(by first | exact Hq4.out | exact Hq3.out | exact Hq2.out | exact Hq1.out | exact Hq0.out), fun _ => trivial⟩ ?_
     rotate_left
     ·refine yields_load_blk 25 (.tmp 5) ?_ g5 ?_ (t := 25) (fr := (0, 0)) (cs := #[an, ag]) (fun U hU => ?_) Try.underlying25 rfl size25 rfl
      ·rfl
      ·rfl
      ·exact blk_keep HXA5.out.blk hU
     simp only [putE]
     refine wpX_kp (i := 4) (oi := ⟨some 77, _, _, _, _, some (2, true)⟩) (v := ?_) rfl (fun _ _ _ h => h) ?_ ⟨(by first | exact Hq4.out | exact Hq3.out | exact Hq2.out | exact Hq1.out | exact Hq0.out), fun _ => trivial⟩ ?_
     rotate_left
     ·intro U hU
      go_simp
      all_goals with_reducible rfl
     simp only [putE]
     refine wpX_kp (i := 7) (oi := ⟨some 80, _, _, _, _, some (2, true)⟩) (v := ?_) rfl (fun _ _ _ h => h) ?_ ⟨(by first | exact Hq4.out | exact Hq3.out | exact Hq2.out | exact Hq1.out | exact Hq0.out), fun _ => trivial⟩ ?_
     rotate_left
     ·refine yields_load_blk 25 (.tmp 6) ?_ g6 ?_ (t := 25) (fr := (0, 0)) (cs := #[bn, bg]) (fun U hU => ?_) Try.underlying25 rfl size25 rfl
      ·rfl
      ·rfl
      ·exact blk_keep HXB5.out.blk hU
     simp only [putE]
     refine wpX_kp (i := 8) (oi := ⟨some 81, _, _, _, _, some (2, true)⟩) (v := ?_) rfl (fun _ _ _ h => h) ?_ ⟨(by first | exact Hq4.out | exact Hq3.out | exact Hq2.out | exact Hq1.out | exact Hq0.out), fun _ => trivial⟩ ?_
     rotate_left
     ·intro U hU
      go_simp
      all_goals with_reducible rfl
     simp only [putE]
     refine wpAnyX_ready (rs := [5, 9]) (by kernel_rfl) (by simp) ?_
     refine AllReadyX.cons (o := ⟨some 78, _, _, _, _, some (2, true)⟩) rfl (by rfl) (fun K1 hK1 => ?_) ?_
     ·have HK1 := Lib.hid hK1; clear hK1
      have hK1 := HK1.out
      clear HK1
      go_simp
      obtain ⟨wq1, hwq⟩ : ∃ q, q = wq0.alloc (.cells #[.slice au ys.length cu] 40) := ⟨_, rfl⟩
      rw [← hwq]
      have hba : Below wq0.heap.size wq0 wq1 := by rw [hwq]; exact (Below.refl _ _).alloc (Nat.le_refl _) _
      have SA := Lib.hid (show SlII wq1 (.slice (some ⟨wq0.heap.size, 0, none⟩) 1 1) [ys] by rw [hwq]; exact slII_one (HSL5.out.below Hq0.out (Nat.le_refl _)))
      have Hq1 := Lib.hid (btr Hq0.out hba (Nat.le_refl _))
      refine hK1 _ _ ⟨Hq1.out, fun _ => trivial⟩ ?_
      clear hK1 hwq
      have SAB := Lib.hid hba
      clear hba
      obtain ⟨pSA, hp⟩ : ∃ q, q = wq0.heap.size := ⟨_, rfl⟩
      rw [← hp] at SA ⊢
      clear hp
      try simp only [putE]
      refine wpAnyX_ready (rs := [6, 9]) (by kernel_rfl) (by simp) ?_
      refine AllReadyX.cons (o := ⟨some 79, _, _, _, _, some (2, true)⟩) rfl (by rfl) (fun K1 hK1 => ?_) ?_
      ·have HK1 := Lib.hid hK1; clear hK1
       refine oper_call (ts := _) (xs := #[.tmp 76, .tmp 78]) (f := 40) rfl (enters_of Try.func40 (by kernel_rfl) rfl) rfl (R := fun w' => Below wq1.heap.size wq1 w') (v := .bool c1) ((allow_cb c1F.out (HXA5.out.below Hq1.out).law TA.out (SA.out) HYS.out).mono (by rintro e w' ⟨rfl, h⟩; exact ⟨rfl, h⟩)) ?_
       rintro wq2 hbwq2
       have Hq2 := Lib.hid (btr Hq1.out hbwq2 (Nat.le_refl _))
       refine HK1.out _ _ ⟨Hq2.out, fun _ => trivial⟩ ?_
       clear HK1
       try simp only [putE]
       refine wpAnyX_one (i := 9) (o := ⟨some 82, _, _, _, _, some (2, true)⟩) (by kernel_rfl) rfl (by rfl) (fun K1 hK1 => ?_)
       have HK1 := Lib.hid hK1; clear hK1
       have hK1 := HK1.out
       clear HK1
       go_simp
       obtain ⟨wq3, hwq⟩ : ∃ q, q = wq2.alloc (.cells #[.slice au ys.length cu] 40) := ⟨_, rfl⟩
       rw [← hwq]
       have hba : Below wq2.heap.size wq2 wq3 := by rw [hwq]; exact (Below.refl _ _).alloc (Nat.le_refl _) _
       have SB := Lib.hid (show SlII wq3 (.slice (some ⟨wq2.heap.size, 0, none⟩) 1 1) [ys] by rw [hwq]; exact slII_one (HSL5.out.below Hq2.out (Nat.le_refl _)))
       have Hq3 := Lib.hid (btr Hq2.out hba (Nat.le_refl _))
       refine hK1 _ _ ⟨Hq3.out, fun _ => trivial⟩ ?_
       clear hK1 hwq
       have SBB := Lib.hid hba
       clear hba
       obtain ⟨pSB, hp⟩ : ∃ q, q = wq2.heap.size := ⟨_, rfl⟩
       rw [← hp] at SB ⊢
       clear hp
       try simp only [putE]
       refine wpAnyX_one (i := 10) (o := ⟨some 83, _, _, _, _, some (2, true)⟩) (by kernel_rfl) rfl (by rfl) (fun K1 hK1 => ?_)
       have HK1 := Lib.hid hK1; clear hK1
       refine oper_call (ts := _) (xs := #[.tmp 80, .tmp 82]) (f := 40) rfl (enters_of Try.func40 (by kernel_rfl) rfl) rfl (R := fun w' => Below wq3.heap.size wq3 w') (v := .bool b2) ((allow_cb b2F.out (HXB5.out.below Hq3.out).law TB.out (SB.out) HYS.out).mono (by rintro e w' ⟨rfl, h⟩; exact ⟨rfl, h⟩)) ?_
       rintro wq4 hbwq4
       have Hq4 := Lib.hid (btr Hq3.out hbwq4 (Nat.le_refl _))
       refine HK1.out _ _ ⟨Hq4.out, fun _ => trivial⟩ ?_
       clear HK1
       try simp only [putE]
       refine wpX_kp (i := 11) (oi := ⟨some 84, _, _, _, _, some (2, true)⟩) (v := ?_) rfl (fun _ _ _ h => h) ?_ ⟨Hq4.out, fun _ => trivial⟩ ?_
       rotate_left
       ·intro U hU
        go_simp
        all_goals with_reducible rfl
       simp only [putE]
       refine wpX_kp (i := 12) (oi := ⟨some 85, _, _, _, _, none⟩) (v := ?_) rfl (fun _ _ _ h => h) ?_ ⟨Hq4.out, fun _ => trivial⟩ ?_
       rotate_left
       ·intro U hU
        go_simp
        all_goals with_reducible rfl
       simp only [putE]
       refine wpAnyX_done (by kernel_rfl) ?_ _
       have HR5 := Lib.hid (btr (btr HR.out HB5.out (Nat.le_refl _)) Hq4.out (Nat.le_refl _))
       have HSD5 := Lib.hid (HSD.out.below (btr HB5.out Hq4.out (Nat.le_refl _)) (Nat.le_refl _))
       have HSL6 := Lib.hid (HSL5.out.below Hq4.out (Nat.le_refl _))
       have HXA6 := Lib.hid (HXA5.out.below Hq4.out)
       have HXB6 := Lib.hid (HXB5.out.below Hq4.out)
       have hxa6 := cell_blk (i := 0) HXA6.out.blk
       have hxb6 := cell_blk (i := 0) HXB6.out.blk
       simp only [List.getElem?_toArray, List.getElem?_cons_zero] at hxa6 hxb6
       obtain ⟨na, hna⟩ : ∃ q, q = la.nx.length := ⟨_, rfl⟩
       obtain ⟨nb, hnb⟩ : ∃ q, q = lb.nx.length := ⟨_, rfl⟩
       obtain ⟨aa, ca, rfl, -⟩ := slII_form HXA6.out.nx
       obtain ⟨ab, cb, rfl, -⟩ := slII_form HXB6.out.nx
       rw [← hna] at hxa6
       rw [← hnb] at hxb6
       have HNN := Lib.hid (show na ≤ 5 ∧ nb ≤ 5 ∧ 1 ≤ na ∧ 1 ≤ nb by rw [hna, hnb]; exact ⟨HN.out.1, HN.out.2, TA.out.ok.n1, TB.out.ok.n1⟩)
       rw [← hna, ← hnb] at HAD5
       obtain ⟨bd, hbd⟩ : ∃ q, q = (!(c1 == b2)) := ⟨_, rfl⟩
       rw [show (c1 != b2) = bd from hbd.symm] at HAD5 HA5
       rw [← hbd]
       clear Hq0 Hq1 Hq2 Hq3 SA SB SAB SBB hna hnb hbd
       try clear hbwq2
       try clear hbwq3
       try clear hbwq4
       cases bd with
       | false =>
        go_wp2
        exact ⟨⟨k + 1, hkn, loop_v HWD.out.2 hkn, by rw [HA5.out, Bool.false_or], by rw [HA1F.out], Lib.hid (HR5.out)⟩, loop_m HWD.out.2 hkn⟩
       | true =>
        obtain ⟨hz1, hz2, hz3⟩ := HAD5.out rfl
        have HZ2 := Lib.hid hz2
        have hz : (E1 != 0) = false := by rw [hz1]; rfl
        obtain ⟨hn1, hn2, hn3, hn4⟩ := HNN.out
        have hd1 : ¬ ((na : Int) + (nb : Int) - 2 < (DL : Int)) := by omega
        clear hz1 hz2 hz3 HAD5
        go_wp2_with (go_at_call 29; refine (numbers_eq HSD5.out (by rw [HZ2.out]; exact HSL6.out)).mono ?_; rintro e wz ⟨rfl, hb⟩; have HV9 := Lib.hid hb; have hxa7 := (hb.cell (p := ⟨g5, 0, none⟩) (lt_blk HXA6.out.blk)).trans hxa6; have hxb7 := (hb.cell (p := ⟨g6, 0, none⟩) (lt_blk HXB6.out.blk)).trans hxb6; clear hb hxa6 hxb6)
        exact ⟨⟨k + 1, hkn, loop_v HWD.out.2 hkn, by rw [HA5.out]; rfl, by rw [HA1F.out], Lib.hid (btr HR5.out HV9.out (Nat.le_refl _))⟩, loop_m HWD.out.2 hkn⟩
      refine AllReadyX.cons (o := ⟨some 82, _, _, _, _, some (2, true)⟩) rfl (by rfl) (fun K1 hK1 => ?_) AllReadyX.nil
      have HK1 := Lib.hid hK1; clear hK1
      have hK1 := HK1.out
      clear HK1
      go_simp
      obtain ⟨wq2, hwq⟩ : ∃ q, q = wq1.alloc (.cells #[.slice au ys.length cu] 40) := ⟨_, rfl⟩
      rw [← hwq]
      have hba : Below wq1.heap.size wq1 wq2 := by rw [hwq]; exact (Below.refl _ _).alloc (Nat.le_refl _) _
      have SB := Lib.hid (show SlII wq2 (.slice (some ⟨wq1.heap.size, 0, none⟩) 1 1) [ys] by rw [hwq]; exact slII_one (HSL5.out.below Hq1.out (Nat.le_refl _)))
      have Hq2 := Lib.hid (btr Hq1.out hba (Nat.le_refl _))
      refine hK1 _ _ ⟨Hq2.out, fun _ => trivial⟩ ?_
      clear hK1 hwq
      have SBB := Lib.hid hba
      clear hba
      obtain ⟨pSB, hp⟩ : ∃ q, q = wq1.heap.size := ⟨_, rfl⟩
      rw [← hp] at SB ⊢
      clear hp
      try simp only [putE]
      refine wpAnyX_one (i := 6) (o := ⟨some 79, _, _, _, _, some (2, true)⟩) (by kernel_rfl) rfl (by rfl) (fun K1 hK1 => ?_)
      have HK1 := Lib.hid hK1; clear hK1
      refine oper_call (ts := _) (xs := #[.tmp 76, .tmp 78]) (f := 40) rfl (enters_of Try.func40 (by kernel_rfl) rfl) rfl (R := fun w' => Below wq2.heap.size wq2 w') (v := .bool c1) ((allow_cb c1F.out (HXA5.out.below Hq2.out).law TA.out (SA.out.below SBB.out (Nat.le_refl _)) HYS.out).mono (by rintro e w' ⟨rfl, h⟩; exact ⟨rfl, h⟩)) ?_
      rintro wq3 hbwq3
      have Hq3 := Lib.hid (btr Hq2.out hbwq3 (Nat.le_refl _))
      refine HK1.out _ _ ⟨Hq3.out, fun _ => trivial⟩ ?_
      clear HK1
      try simp only [putE]
      refine wpAnyX_one (i := 10) (o := ⟨some 83, _, _, _, _, some (2, true)⟩) (by kernel_rfl) rfl (by rfl) (fun K1 hK1 => ?_)
      have HK1 := Lib.hid hK1; clear hK1
      refine oper_call (ts := _) (xs := #[.tmp 80, .tmp 82]) (f := 40) rfl (enters_of Try.func40 (by kernel_rfl) rfl) rfl (R := fun w' => Below wq3.heap.size wq3 w') (v := .bool b2) ((allow_cb b2F.out (HXB5.out.below Hq3.out).law TB.out (SB.out.below hbwq3 (Nat.le_refl _)) HYS.out).mono (by rintro e w' ⟨rfl, h⟩; exact ⟨rfl, h⟩)) ?_
      rintro wq4 hbwq4
      have Hq4 := Lib.hid (btr Hq3.out hbwq4 (Nat.le_refl _))
      refine HK1.out _ _ ⟨Hq4.out, fun _ => trivial⟩ ?_
      clear HK1
      try simp only [putE]
      refine wpX_kp (i := 11) (oi := ⟨some 84, _, _, _, _, some (2, true)⟩) (v := ?_) rfl (fun _ _ _ h => h) ?_ ⟨Hq4.out, fun _ => trivial⟩ ?_
      rotate_left
      ·intro U hU
       go_simp
       all_goals with_reducible rfl
      simp only [putE]
      refine wpX_kp (i := 12) (oi := ⟨some 85, _, _, _, _, none⟩) (v := ?_) rfl (fun _ _ _ h => h) ?_ ⟨Hq4.out, fun _ => trivial⟩ ?_
      rotate_left
      ·intro U hU
       go_simp
       all_goals with_reducible rfl
      simp only [putE]
      refine wpAnyX_done (by kernel_rfl) ?_ _
      have HR5 := Lib.hid (btr (btr HR.out HB5.out (Nat.le_refl _)) Hq4.out (Nat.le_refl _))
      have HSD5 := Lib.hid (HSD.out.below (btr HB5.out Hq4.out (Nat.le_refl _)) (Nat.le_refl _))
      have HSL6 := Lib.hid (HSL5.out.below Hq4.out (Nat.le_refl _))
      have HXA6 := Lib.hid (HXA5.out.below Hq4.out)
      have HXB6 := Lib.hid (HXB5.out.below Hq4.out)
      have hxa6 := cell_blk (i := 0) HXA6.out.blk
      have hxb6 := cell_blk (i := 0) HXB6.out.blk
      simp only [List.getElem?_toArray, List.getElem?_cons_zero] at hxa6 hxb6
      obtain ⟨na, hna⟩ : ∃ q, q = la.nx.length := ⟨_, rfl⟩
      obtain ⟨nb, hnb⟩ : ∃ q, q = lb.nx.length := ⟨_, rfl⟩
      obtain ⟨aa, ca, rfl, -⟩ := slII_form HXA6.out.nx
      obtain ⟨ab, cb, rfl, -⟩ := slII_form HXB6.out.nx
      rw [← hna] at hxa6
      rw [← hnb] at hxb6
      have HNN := Lib.hid (show na ≤ 5 ∧ nb ≤ 5 ∧ 1 ≤ na ∧ 1 ≤ nb by rw [hna, hnb]; exact ⟨HN.out.1, HN.out.2, TA.out.ok.n1, TB.out.ok.n1⟩)
      rw [← hna, ← hnb] at HAD5
      obtain ⟨bd, hbd⟩ : ∃ q, q = (!(c1 == b2)) := ⟨_, rfl⟩
      rw [show (c1 != b2) = bd from hbd.symm] at HAD5 HA5
      rw [← hbd]
      clear Hq0 Hq1 Hq2 Hq3 SA SB SAB SBB hna hnb hbd
      try clear hbwq2
      try clear hbwq3
      try clear hbwq4
      cases bd with
      | false =>
       go_wp2
       exact ⟨⟨k + 1, hkn, loop_v HWD.out.2 hkn, by rw [HA5.out, Bool.false_or], by rw [HA1F.out], Lib.hid (HR5.out)⟩, loop_m HWD.out.2 hkn⟩
      | true =>
       obtain ⟨hz1, hz2, hz3⟩ := HAD5.out rfl
       have HZ2 := Lib.hid hz2
       have hz : (E1 != 0) = false := by rw [hz1]; rfl
       obtain ⟨hn1, hn2, hn3, hn4⟩ := HNN.out
       have hd1 : ¬ ((na : Int) + (nb : Int) - 2 < (DL : Int)) := by omega
       clear hz1 hz2 hz3 HAD5
       go_wp2_with (go_at_call 29; refine (numbers_eq HSD5.out (by rw [HZ2.out]; exact HSL6.out)).mono ?_; rintro e wz ⟨rfl, hb⟩; have HV9 := Lib.hid hb; have hxa7 := (hb.cell (p := ⟨g5, 0, none⟩) (lt_blk HXA6.out.blk)).trans hxa6; have hxb7 := (hb.cell (p := ⟨g6, 0, none⟩) (lt_blk HXB6.out.blk)).trans hxb6; clear hb hxa6 hxb6)
       exact ⟨⟨k + 1, hkn, loop_v HWD.out.2 hkn, by rw [HA5.out]; rfl, by rw [HA1F.out], Lib.hid (btr HR5.out HV9.out (Nat.le_refl _))⟩, loop_m HWD.out.2 hkn⟩
     refine AllReadyX.cons (o := ⟨some 82, _, _, _, _, some (2, true)⟩) rfl (by rfl) (fun K1 hK1 => ?_) AllReadyX.nil
     have HK1 := Lib.hid hK1; clear hK1
     have hK1 := HK1.out
     clear HK1
     go_simp
     obtain ⟨wq1, hwq⟩ : ∃ q, q = wq0.alloc (.cells #[.slice au ys.length cu] 40) := ⟨_, rfl⟩
     rw [← hwq]
     have hba : Below wq0.heap.size wq0 wq1 := by rw [hwq]; exact (Below.refl _ _).alloc (Nat.le_refl _) _
     have SB := Lib.hid (show SlII wq1 (.slice (some ⟨wq0.heap.size, 0, none⟩) 1 1) [ys] by rw [hwq]; exact slII_one (HSL5.out.below Hq0.out (Nat.le_refl _)))
     have Hq1 := Lib.hid (btr Hq0.out hba (Nat.le_refl _))
     refine hK1 _ _ ⟨Hq1.out, fun _ => trivial⟩ ?_
     clear hK1 hwq
     have SBB := Lib.hid hba
     clear hba
     obtain ⟨pSB, hp⟩ : ∃ q, q = wq0.heap.size := ⟨_, rfl⟩
     rw [← hp] at SB ⊢
     clear hp
     try simp only [putE]
     refine wpAnyX_one (i := 5) (o := ⟨some 78, _, _, _, _, some (2, true)⟩) (by kernel_rfl) rfl (by rfl) (fun K1 hK1 => ?_)
     have HK1 := Lib.hid hK1; clear hK1
     have hK1 := HK1.out
     clear HK1
     go_simp
     obtain ⟨wq2, hwq⟩ : ∃ q, q = wq1.alloc (.cells #[.slice au ys.length cu] 40) := ⟨_, rfl⟩
     rw [← hwq]
     have hba : Below wq1.heap.size wq1 wq2 := by rw [hwq]; exact (Below.refl _ _).alloc (Nat.le_refl _) _
     have SA := Lib.hid (show SlII wq2 (.slice (some ⟨wq1.heap.size, 0, none⟩) 1 1) [ys] by rw [hwq]; exact slII_one (HSL5.out.below Hq1.out (Nat.le_refl _)))
     have Hq2 := Lib.hid (btr Hq1.out hba (Nat.le_refl _))
     refine hK1 _ _ ⟨Hq2.out, fun _ => trivial⟩ ?_
     clear hK1 hwq
     have SAB := Lib.hid hba
     clear hba
     obtain ⟨pSA, hp⟩ : ∃ q, q = wq1.heap.size := ⟨_, rfl⟩
     rw [← hp] at SA ⊢
     clear hp
     try simp only [putE]
     refine wpAnyX_one (i := 6) (o := ⟨some 79, _, _, _, _, some (2, true)⟩) (by kernel_rfl) rfl (by rfl) (fun K1 hK1 => ?_)
     have HK1 := Lib.hid hK1; clear hK1
     refine oper_call (ts := _) (xs := #[.tmp 76, .tmp 78]) (f := 40) rfl (enters_of Try.func40 (by kernel_rfl) rfl) rfl (R := fun w' => Below wq2.heap.size wq2 w') (v := .bool c1) ((allow_cb c1F.out (HXA5.out.below Hq2.out).law TA.out (SA.out) HYS.out).mono (by rintro e w' ⟨rfl, h⟩; exact ⟨rfl, h⟩)) ?_
     rintro wq3 hbwq3
     have Hq3 := Lib.hid (btr Hq2.out hbwq3 (Nat.le_refl _))
     refine HK1.out _ _ ⟨Hq3.out, fun _ => trivial⟩ ?_
     clear HK1
     try simp only [putE]
     refine wpAnyX_one (i := 10) (o := ⟨some 83, _, _, _, _, some (2, true)⟩) (by kernel_rfl) rfl (by rfl) (fun K1 hK1 => ?_)
     have HK1 := Lib.hid hK1; clear hK1
     refine oper_call (ts := _) (xs := #[.tmp 80, .tmp 82]) (f := 40) rfl (enters_of Try.func40 (by kernel_rfl) rfl) rfl (R := fun w' => Below wq3.heap.size wq3 w') (v := .bool b2) ((allow_cb b2F.out (HXB5.out.below Hq3.out).law TB.out ((SB.out.below SAB.out (Nat.le_refl _)).below hbwq3 (Nat.le_refl _)) HYS.out).mono (by rintro e w' ⟨rfl, h⟩; exact ⟨rfl, h⟩)) ?_
     rintro wq4 hbwq4
     have Hq4 := Lib.hid (btr Hq3.out hbwq4 (Nat.le_refl _))
     refine HK1.out _ _ ⟨Hq4.out, fun _ => trivial⟩ ?_
     clear HK1
     try simp only [putE]
     refine wpX_kp (i := 11) (oi := ⟨some 84, _, _, _, _, some (2, true)⟩) (v := ?_) rfl (fun _ _ _ h => h) ?_ ⟨Hq4.out, fun _ => trivial⟩ ?_
     rotate_left
     ·intro U hU
      go_simp
      all_goals with_reducible rfl
     simp only [putE]
     refine wpX_kp (i := 12) (oi := ⟨some 85, _, _, _, _, none⟩) (v := ?_) rfl (fun _ _ _ h => h) ?_ ⟨Hq4.out, fun _ => trivial⟩ ?_
     rotate_left
     ·intro U hU
      go_simp
      all_goals with_reducible rfl
     simp only [putE]
     refine wpAnyX_done (by kernel_rfl) ?_ _
     have HR5 := Lib.hid (btr (btr HR.out HB5.out (Nat.le_refl _)) Hq4.out (Nat.le_refl _))
     have HSD5 := Lib.hid (HSD.out.below (btr HB5.out Hq4.out (Nat.le_refl _)) (Nat.le_refl _))
     have HSL6 := Lib.hid (HSL5.out.below Hq4.out (Nat.le_refl _))
     have HXA6 := Lib.hid (HXA5.out.below Hq4.out)
     have HXB6 := Lib.hid (HXB5.out.below Hq4.out)
     have hxa6 := cell_blk (i := 0) HXA6.out.blk
     have hxb6 := cell_blk (i := 0) HXB6.out.blk
     simp only [List.getElem?_toArray, List.getElem?_cons_zero] at hxa6 hxb6
     obtain ⟨na, hna⟩ : ∃ q, q = la.nx.length := ⟨_, rfl⟩
     obtain ⟨nb, hnb⟩ : ∃ q, q = lb.nx.length := ⟨_, rfl⟩
     obtain ⟨aa, ca, rfl, -⟩ := slII_form HXA6.out.nx
     obtain ⟨ab, cb, rfl, -⟩ := slII_form HXB6.out.nx
     rw [← hna] at hxa6
     rw [← hnb] at hxb6
     have HNN := Lib.hid (show na ≤ 5 ∧ nb ≤ 5 ∧ 1 ≤ na ∧ 1 ≤ nb by rw [hna, hnb]; exact ⟨HN.out.1, HN.out.2, TA.out.ok.n1, TB.out.ok.n1⟩)
     rw [← hna, ← hnb] at HAD5
     obtain ⟨bd, hbd⟩ : ∃ q, q = (!(c1 == b2)) := ⟨_, rfl⟩
     rw [show (c1 != b2) = bd from hbd.symm] at HAD5 HA5
     rw [← hbd]
     clear Hq0 Hq1 Hq2 Hq3 SA SB SAB SBB hna hnb hbd
     try clear hbwq2
     try clear hbwq3
     try clear hbwq4
     cases bd with
     | false =>
      go_wp2
      exact ⟨⟨k + 1, hkn, loop_v HWD.out.2 hkn, by rw [HA5.out, Bool.false_or], by rw [HA1F.out], Lib.hid (HR5.out)⟩, loop_m HWD.out.2 hkn⟩
     | true =>
      obtain ⟨hz1, hz2, hz3⟩ := HAD5.out rfl
      have HZ2 := Lib.hid hz2
      have hz : (E1 != 0) = false := by rw [hz1]; rfl
      obtain ⟨hn1, hn2, hn3, hn4⟩ := HNN.out
      have hd1 : ¬ ((na : Int) + (nb : Int) - 2 < (DL : Int)) := by omega
      clear hz1 hz2 hz3 HAD5
      go_wp2_with (go_at_call 29; refine (numbers_eq HSD5.out (by rw [HZ2.out]; exact HSL6.out)).mono ?_; rintro e wz ⟨rfl, hb⟩; have HV9 := Lib.hid hb; have hxa7 := (hb.cell (p := ⟨g5, 0, none⟩) (lt_blk HXA6.out.blk)).trans hxa6; have hxb7 := (hb.cell (p := ⟨g6, 0, none⟩) (lt_blk HXB6.out.blk)).trans hxb6; clear hb hxa6 hxb6)
      exact ⟨⟨k + 1, hkn, loop_v HWD.out.2 hkn, by rw [HA5.out]; rfl, by rw [HA1F.out], Lib.hid (btr HR5.out HV9.out (Nat.le_refl _))⟩, loop_m HWD.out.2 hkn⟩
   | false =>
    have HAD0 := HAD
    have HA20 := HA2
    clear HAD HA2
    cases b1 with
    | true =>
     have HAZ := Lib.hid (HAF.out rfl rfl)
     clear HAF
     have hz : (E3 != 0) = false := by rw [HAZ.out.1]; rfl
     go_wp2_with (first | (have _m := HV1; go_at_call 29; go_must (refine (numbers_eq (HSF.out.below HV1.out (Nat.le_refl _)) (by rw [HAZ.out.2]; exact HSL.out.below HV1.out (Nat.le_refl _))).mono ?_; rintro e wp2 ⟨rfl, hb⟩; have HV2 := Lib.hid (btr HV1.out hb (Nat.le_refl _)); clear hb)) | (go_at_call 40; refine (allow_cb b1E.out (HXA.out.below ((Below.refl wo.heap.size wo).alloc (Nat.le_refl _) (.cells #[.slice au ys.length cu] 40))).law TA.out (slII_one (HSL.out.below (Below.refl _ _) (Nat.le_refl _))) HYS.out).mono ?_; rintro e wp1 ⟨rfl, hb⟩; have HV1 := Lib.hid (btr ((Below.refl wo.heap.size wo).alloc (Nat.le_refl _) (.cells #[.slice au ys.length cu] 40)) hb (Nat.le_refl _)); clear hb) | (refine wpList_load_blk rfl 25 (.tmp 5) rfl _ rfl (show _ from blk_keep HXA.out.blk (Below.refl wo.heap.size wo)) Try.underlying25 rfl size25 rfl ?_))
     clear hcell hz
     obtain ⟨c1, hc1⟩ : ∃ q, q = true := ⟨_, rfl⟩
     have c1F := Lib.hid (b1E.out.trans hc1.symm)
     have HA1F := Lib.hid (show (LS.take (k + 1)).any (fun ys => Wl la (toW ys)) = true by rw [HA1.out]; rfl)
     have HAD := Lib.hid (show bF = false → (c1 != b2) = true → E1 = 0 ∧ nI (oY DO) = ys ∧ (DL : Nat) + 2 ≤ la.nx.length + lb.nx.length by rw [hc1]; exact HAD0.out)
     have HA2 := Lib.hid (show (LS.take (k + 1)).any (fun ys => Wl la (toW ys) != Wl lb (toW ys)) = (bF || (c1 != b2)) by rw [hc1]; exact HA20.out)
     clear hc1 HAD0 HA20
     have b2F := b2E
     obtain ⟨wp, hwp⟩ : ∃ q, q = wp2 := ⟨_, rfl⟩
     have HB5 := Lib.hid (show Below wo.heap.size wo wp by rw [hwp]; exact HV2.out)
     rw [← hwp]
     have HXA5 := Lib.hid (HXA.out.below HB5.out)
     have HXB5 := Lib.hid (HXB.out.below HB5.out)
     have HSL5 := Lib.hid (HSL.out.below HB5.out (Nat.le_refl _))
     clear hwp
     cases bF with
     | true =>
      refine wp_region_x (R := fun U => Below wp.heap.size wp U) (S := fun _ => True) (z := 999) rfl ?_
      change wpAnyX _ _ _ _ _ _ _ _ _ _ wp.drew
      have Hq0 := Lib.hid (show Below wp.heap.size wp wp.drew from (Below.refl _ _).drew)
      obtain ⟨wq0, hwq⟩ : ∃ q, q = wp.drew := ⟨_, rfl⟩
      rw [← hwq] at Hq0 ⊢
      clear hwq
      refine wpX_kp (i := 0) (oi := ⟨some 73, _, _, _, _, none⟩) (v := ?_) rfl (fun _ _ _ h => h) ?_ ⟨(by first | exact Hq4.out | exact Hq3.out | exact Hq2.out | exact Hq1.out | exact Hq0.out), fun _ => trivial⟩ ?_
      rotate_left
      ·intro U hU
       go_simp
       all_goals with_reducible rfl
      simp only [putE]
      refine wpX_kp (i := 1) (oi := ⟨some 74, _, _, _, _, none⟩) (v := ?_) rfl (fun _ _ _ h => h) ?_ ⟨(by first | exact Hq4.out | exact Hq3.out | exact Hq2.out | exact Hq1.out | exact Hq0.out), fun _ => trivial⟩ ?_
      rotate_left
      ·intro U hU
       go_simp
       all_goals with_reducible rfl
      simp only [putE]
      refine wpX_kp (i := 2) (oi := ⟨some 75, _, _, _, _, none⟩) (v := ?_) rfl (fun _ _ _ h => h) ?_ ⟨(by first | exact Hq4.out | exact Hq3.out | exact Hq2.out | exact Hq1.out | exact Hq0.out), fun _ => trivial⟩ ?_
      rotate_left
      ·intro U hU
       go_simp
       all_goals with_reducible rfl
      simp only [putE]
      refine wpAnyX_keep (i := 3) (oi := ⟨some 76, _, _, _, _, some (2, true)⟩) (v := undef) rfl (by kernel_rfl) (by kernel_rfl) (by kernel_rfl) (fun _ _ _ h => h) (Or.inr ⟨by rfl, rfl⟩) ⟨(by first | exact Hq4.out | exact Hq3.out | exact Hq2.out | exact Hq1.out | exact Hq0.out), fun _ => trivial⟩ ?_
      simp only [putE]
      refine wpAnyX_keep (i := 4) (oi := ⟨some 77, _, _, _, _, some (2, true)⟩) (v := undef) rfl (by kernel_rfl) (by kernel_rfl) (by kernel_rfl) (fun _ _ _ h => h) (Or.inr ⟨by rfl, rfl⟩) ⟨(by first | exact Hq4.out | exact Hq3.out | exact Hq2.out | exact Hq1.out | exact Hq0.out), fun _ => trivial⟩ ?_
      simp only [putE]
      refine wpAnyX_keep (i := 5) (oi := ⟨some 78, _, _, _, _, some (2, true)⟩) (v := undef) rfl (by kernel_rfl) (by kernel_rfl) (by kernel_rfl) (fun _ _ _ h => h) (Or.inr ⟨by rfl, rfl⟩) ⟨(by first | exact Hq4.out | exact Hq3.out | exact Hq2.out | exact Hq1.out | exact Hq0.out), fun _ => trivial⟩ ?_
      simp only [putE]
      refine wpAnyX_keep (i := 6) (oi := ⟨some 79, _, _, _, _, some (2, true)⟩) (v := undef) rfl (by kernel_rfl) (by kernel_rfl) (by kernel_rfl) (fun _ _ _ h => h) (Or.inr ⟨by rfl, rfl⟩) ⟨(by first | exact Hq4.out | exact Hq3.out | exact Hq2.out | exact Hq1.out | exact Hq0.out), fun _ => trivial⟩ ?_
      simp only [putE]
      refine wpAnyX_keep (i := 7) (oi := ⟨some 80, _, _, _, _, some (2, true)⟩) (v := undef) rfl (by kernel_rfl) (by kernel_rfl) (by kernel_rfl) (fun _ _ _ h => h) (Or.inr ⟨by rfl, rfl⟩) ⟨(by first | exact Hq4.out | exact Hq3.out | exact Hq2.out | exact Hq1.out | exact Hq0.out), fun _ => trivial⟩ ?_
      simp only [putE]
      refine wpAnyX_keep (i := 8) (oi := ⟨some 81, _, _, _, _, some (2, true)⟩) (v := undef) rfl (by kernel_rfl) (by kernel_rfl) (by kernel_rfl) (fun _ _ _ h => h) (Or.inr ⟨by rfl, rfl⟩) ⟨(by first | exact Hq4.out | exact Hq3.out | exact Hq2.out | exact Hq1.out | exact Hq0.out), fun _ => trivial⟩ ?_
      simp only [putE]
      refine wpAnyX_keep (i := 9) (oi := ⟨some 82, _, _, _, _, some (2, true)⟩) (v := undef) rfl (by kernel_rfl) (by kernel_rfl) (by kernel_rfl) (fun _ _ _ h => h) (Or.inr ⟨by rfl, rfl⟩) ⟨(by first | exact Hq4.out | exact Hq3.out | exact Hq2.out | exact Hq1.out | exact Hq0.out), fun _ => trivial⟩ ?_
      simp only [putE]
      refine wpAnyX_keep (i := 10) (oi := ⟨some 83, _, _, _, _, some (2, true)⟩) (v := undef) rfl (by kernel_rfl) (by kernel_rfl) (by kernel_rfl) (fun _ _ _ h => h) (Or.inr ⟨by rfl, rfl⟩) ⟨(by first | exact Hq4.out | exact Hq3.out | exact Hq2.out | exact Hq1.out | exact Hq0.out), fun _ => trivial⟩ ?_
      simp only [putE]
      refine wpAnyX_keep (i := 11) (oi := ⟨some 84, _, _, _, _, some (2, true)⟩) (v := undef) rfl (by kernel_rfl) (by kernel_rfl) (by kernel_rfl) (fun _ _ _ h => h) (Or.inr ⟨by rfl, rfl⟩) ⟨(by first | exact Hq4.out | exact Hq3.out | exact Hq2.out | exact Hq1.out | exact Hq0.out), fun _ => trivial⟩ ?_
      simp only [putE]
      refine wpX_kp (i := 12) (oi := ⟨some 85, _, _, _, _, none⟩) (v := ?_) rfl (fun _ _ _ h => h) ?_ ⟨(by first | exact Hq4.out | exact Hq3.out | exact Hq2.out | exact Hq1.out | exact Hq0.out), fun _ => trivial⟩ ?_
      rotate_left
      ·intro U hU
       go_simp
       all_goals with_reducible rfl
      simp only [putE]
      refine wpAnyX_done (by kernel_rfl) ?_ _
      have HR5 := Lib.hid (btr (btr HR.out HB5.out (Nat.le_refl _)) Hq0.out (Nat.le_refl _))
      clear Hq0
      go_wp2
      exact ⟨⟨k + 1, hkn, loop_v HWD.out.2 hkn, by rw [HA2.out, Bool.true_or], by rw [HA1F.out], Lib.hid (HR5.out)⟩, loop_m HWD.out.2 hkn⟩
     | false =>
      have HAD5 := Lib.hid (HAD.out rfl)
      clear HAD
      have HA5 := HA2
      refine wp_region_x (R := fun U => Below wp.heap.size wp U) (S := fun _ => True) (z := 999) rfl ?_
      change wpAnyX _ _ _ _ _ _ _ _ _ _ wp.drew
      have Hq0 := Lib.hid (show Below wp.heap.size wp wp.drew from (Below.refl _ _).drew)
      obtain ⟨wq0, hwq⟩ : ∃ q, q = wp.drew := ⟨_, rfl⟩
      rw [← hwq] at Hq0 ⊢
      clear hwq
      refine wpX_kp (i := 0) (oi := ⟨some 73, _, _, _, _, none⟩) (v := ?_) rfl (fun _ _ _ h => h) ?_ ⟨(by first | exact Hq4.out | exact Hq3.out | exact Hq2.out | exact Hq1.out | exact Hq0.out), fun _ => trivial⟩ ?_
      rotate_left
      ·intro U hU
       go_simp
       all_goals with_reducible rfl
      simp only [putE]
      refine wpX_kp (i := 1) (oi := ⟨some 74, _, _, _, _, none⟩) (v := ?_) rfl (fun _ _ _ h => h) ?_ ⟨(by first | exact Hq4.out | exact Hq3.out | exact Hq2.out | exact Hq1.out | exact Hq0.out), fun _ => trivial⟩ ?_
      rotate_left
      ·intro U hU
       go_simp
       all_goals with_reducible rfl
      simp only [putE]
      refine wpX_kp (i := 2) (oi := ⟨some 75, _, _, _, _, none⟩) (v := ?_) rfl (fun _ _ _ h => h) ?_ ⟨(by first | exact Hq4.out | exact Hq3.out | exact Hq2.out | exact Hq1.out | exact Hq0.out), fun _ => trivial⟩ ?_
      rotate_left
      ·intro U hU
       go_simp
       all_goals with_reducible rfl
      simp only [putE]
      refine wpX_kp (i := 3) (oi := ⟨some 76, _, _, _, _, some (2, true)⟩) (v := ?_) rfl (fun _ _ _ h => h) ?_ ⟨(by first | exact Hq4.out | exact Hq3.out | exact Hq2.out | exact Hq1.out | exact Hq0.out), fun _ => trivial⟩ ?_
      rotate_left
      ·refine yields_load_blk 25 (.tmp 5) ?_ g5 ?_ (t := 25) (fr := (0, 0)) (cs := #[an, ag]) (fun U hU => ?_) Try.underlying25 rfl size25 rfl
       ·rfl
       ·rfl
       ·exact blk_keep HXA5.out.blk hU
      simp only [putE]
      refine wpX_kp (i := 4) (oi := ⟨some 77, _, _, _, _, some (2, true)⟩) (v := ?_) rfl (fun _ _ _ h => h) ?_ ⟨(by first | exact Hq4.out | exact Hq3.out | exact Hq2.out | exact Hq1.out | exact Hq0.out), fun _ => trivial⟩ ?_
      rotate_left
      ·intro U hU
       go_simp
       all_goals with_reducible rfl
      simp only [putE]
      refine wpX_kp (i := 7) (oi := ⟨some 80, _, _, _, _, some (2, true)⟩) (v := ?_) rfl (fun _ _ _ h => h) ?_ ⟨(by first | exact Hq4.out | exact Hq3.out | exact Hq2.out | exact Hq1.out | exact Hq0.out), fun _ => trivial⟩ ?_
      rotate_left
      ·refine yields_load_blk 25 (.tmp 6) ?_ g6 ?_ (t := 25) (fr := (0, 0)) (cs := #[bn, bg]) (fun U hU => ?_) Try.underlying25 rfl size25 rfl
       ·rfl
       ·rfl
       ·exact blk_keep HXB5.out.blk hU
      simp only [putE]
      refine wpX_kp (i := 8) (oi := ⟨some 81, _, _, _, _, some (2, true)⟩) (v := ?_) rfl (fun _ _ _ h => h) ?_ ⟨(by first | exact Hq4.out | exact Hq3.out | exact Hq2.out | exact Hq1.out | exact Hq0.out), fun _ => trivial⟩ ?_
      rotate_left
      ·intro U hU
       go_simp
       all_goals with_reducible rfl
      simp only [putE]
      refine wpAnyX_ready (rs := [5, 9]) (by kernel_rfl) (by simp) ?_
      refine AllReadyX.cons (o := ⟨some 78, _, _, _, _, some (2, true)⟩) rfl (by rfl) (fun K1 hK1 => ?_) ?_
      ·have HK1 := Lib.hid hK1; clear hK1
       have hK1 := HK1.out
       clear HK1
       go_simp
       obtain ⟨wq1, hwq⟩ : ∃ q, q = wq0.alloc (.cells #[.slice au ys.length cu] 40) := ⟨_, rfl⟩
       rw [← hwq]
       have hba : Below wq0.heap.size wq0 wq1 := by rw [hwq]; exact (Below.refl _ _).alloc (Nat.le_refl _) _
       have SA := Lib.hid (show SlII wq1 (.slice (some ⟨wq0.heap.size, 0, none⟩) 1 1) [ys] by rw [hwq]; exact slII_one (HSL5.out.below Hq0.out (Nat.le_refl _)))
       have Hq1 := Lib.hid (btr Hq0.out hba (Nat.le_refl _))
       refine hK1 _ _ ⟨Hq1.out, fun _ => trivial⟩ ?_
       clear hK1 hwq
       have SAB := Lib.hid hba
       clear hba
       obtain ⟨pSA, hp⟩ : ∃ q, q = wq0.heap.size := ⟨_, rfl⟩
       rw [← hp] at SA ⊢
       clear hp
       try simp only [putE]
       refine wpAnyX_ready (rs := [6, 9]) (by kernel_rfl) (by simp) ?_
       refine AllReadyX.cons (o := ⟨some 79, _, _, _, _, some (2, true)⟩) rfl (by rfl) (fun K1 hK1 => ?_) ?_
       ·have HK1 := Lib.hid hK1; clear hK1
        refine oper_call (ts := _) (xs := #[.tmp 76, .tmp 78]) (f := 40) rfl (enters_of Try.func40 (by kernel_rfl) rfl) rfl (R := fun w' => Below wq1.heap.size wq1 w') (v := .bool c1) ((allow_cb c1F.out (HXA5.out.below Hq1.out).law TA.out (SA.out) HYS.out).mono (by rintro e w' ⟨rfl, h⟩; exact ⟨rfl, h⟩)) ?_
        rintro wq2 hbwq2
        have Hq2 := Lib.hid (btr Hq1.out hbwq2 (Nat.le_refl _))
        refine HK1.out _ _ ⟨Hq2.out, fun _ => trivial⟩ ?_
        clear HK1
        try simp only [putE]
        refine wpAnyX_one (i := 9) (o := ⟨some 82, _, _, _, _, some (2, true)⟩) (by kernel_rfl) rfl (by rfl) (fun K1 hK1 => ?_)
        have HK1 := Lib.hid hK1; clear hK1
        have hK1 := HK1.out
        clear HK1
        go_simp
        obtain ⟨wq3, hwq⟩ : ∃ q, q = wq2.alloc (.cells #[.slice au ys.length cu] 40) := ⟨_, rfl⟩
        rw [← hwq]
        have hba : Below wq2.heap.size wq2 wq3 := by rw [hwq]; exact (Below.refl _ _).alloc (Nat.le_refl _) _
        have SB := Lib.hid (show SlII wq3 (.slice (some ⟨wq2.heap.size, 0, none⟩) 1 1) [ys] by rw [hwq]; exact slII_one (HSL5.out.below Hq2.out (Nat.le_refl _)))
        have Hq3 := Lib.hid (btr Hq2.out hba (Nat.le_refl _))
        refine hK1 _ _ ⟨Hq3.out, fun _ => trivial⟩ ?_
        clear hK1 hwq
        have SBB := Lib.hid hba
        clear hba
        obtain ⟨pSB, hp⟩ : ∃ q, q = wq2.heap.size := ⟨_, rfl⟩
        rw [← hp] at SB ⊢
        clear hp
        try simp only [putE]
        refine wpAnyX_one (i := 10) (o := ⟨some 83, _, _, _, _, some (2, true)⟩) (by kernel_rfl) rfl (by rfl) (fun K1 hK1 => ?_)
        have HK1 := Lib.hid hK1; clear hK1
        refine oper_call (ts := _) (xs := #[.tmp 80, .tmp 82]) (f := 40) rfl (enters_of Try.func40 (by kernel_rfl) rfl) rfl (R := fun w' => Below wq3.heap.size wq3 w') (v := .bool b2) ((allow_cb b2F.out (HXB5.out.below Hq3.out).law TB.out (SB.out) HYS.out).mono (by rintro e w' ⟨rfl, h⟩; exact ⟨rfl, h⟩)) ?_
        rintro wq4 hbwq4
        have Hq4 := Lib.hid (btr Hq3.out hbwq4 (Nat.le_refl _))
        refine HK1.out _ _ ⟨Hq4.out, fun _ => trivial⟩ ?_
        clear HK1
        try simp only [putE]
        refine wpX_kp (i := 11) (oi := ⟨some 84, _, _, _, _, some (2, true)⟩) (v := ?_) rfl (fun _ _ _ h => h) ?_ ⟨Hq4.out, fun _ => trivial⟩ ?_
        rotate_left
        ·intro U hU
         go_simp
         all_goals with_reducible rfl
        simp only [putE]
        refine wpX_kp (i := 12) (oi := ⟨some 85, _, _, _, _, none⟩) (v := ?_) rfl (fun _ _ _ h => h) ?_ ⟨Hq4.out, fun _ => trivial⟩ ?_
        rotate_left
        ·intro U hU
         go_simp
         all_goals with_reducible rfl
        simp only [putE]
        refine wpAnyX_done (by kernel_rfl) ?_ _
        have HR5 := Lib.hid (btr (btr HR.out HB5.out (Nat.le_refl _)) Hq4.out (Nat.le_refl _))
        have HSD5 := Lib.hid (HSD.out.below (btr HB5.out Hq4.out (Nat.le_refl _)) (Nat.le_refl _))
        have HSL6 := Lib.hid (HSL5.out.below Hq4.out (Nat.le_refl _))
        have HXA6 := Lib.hid (HXA5.out.below Hq4.out)
        have HXB6 := Lib.hid (HXB5.out.below Hq4.out)
        have hxa6 := cell_blk (i := 0) HXA6.out.blk
        have hxb6 := cell_blk (i := 0) HXB6.out.blk
        simp only [List.getElem?_toArray, List.getElem?_cons_zero] at hxa6 hxb6
        obtain ⟨na, hna⟩ : ∃ q, q = la.nx.length := ⟨_, rfl⟩
        obtain ⟨nb, hnb⟩ : ∃ q, q = lb.nx.length := ⟨_, rfl⟩
        obtain ⟨aa, ca, rfl, -⟩ := slII_form HXA6.out.nx
        obtain ⟨ab, cb, rfl, -⟩ := slII_form HXB6.out.nx
        rw [← hna] at hxa6
        rw [← hnb] at hxb6
        have HNN := Lib.hid (show na ≤ 5 ∧ nb ≤ 5 ∧ 1 ≤ na ∧ 1 ≤ nb by rw [hna, hnb]; exact ⟨HN.out.1, HN.out.2, TA.out.ok.n1, TB.out.ok.n1⟩)
        rw [← hna, ← hnb] at HAD5
        obtain ⟨bd, hbd⟩ : ∃ q, q = (!(c1 == b2)) := ⟨_, rfl⟩
        rw [show (c1 != b2) = bd from hbd.symm] at HAD5 HA5
        rw [← hbd]
        clear Hq0 Hq1 Hq2 Hq3 SA SB SAB SBB hna hnb hbd
        try clear hbwq2
        try clear hbwq3
        try clear hbwq4
        cases bd with
        | false =>
         go_wp2
         exact ⟨⟨k + 1, hkn, loop_v HWD.out.2 hkn, by rw [HA5.out, Bool.false_or], by rw [HA1F.out], Lib.hid (HR5.out)⟩, loop_m HWD.out.2 hkn⟩
        | true =>
         obtain ⟨hz1, hz2, hz3⟩ := HAD5.out rfl
         have HZ2 := Lib.hid hz2
         have hz : (E1 != 0) = false := by rw [hz1]; rfl
         obtain ⟨hn1, hn2, hn3, hn4⟩ := HNN.out
         have hd1 : ¬ ((na : Int) + (nb : Int) - 2 < (DL : Int)) := by omega
         clear hz1 hz2 hz3 HAD5
         go_wp2_with (go_at_call 29; refine (numbers_eq HSD5.out (by rw [HZ2.out]; exact HSL6.out)).mono ?_; rintro e wz ⟨rfl, hb⟩; have HV9 := Lib.hid hb; have hxa7 := (hb.cell (p := ⟨g5, 0, none⟩) (lt_blk HXA6.out.blk)).trans hxa6; have hxb7 := (hb.cell (p := ⟨g6, 0, none⟩) (lt_blk HXB6.out.blk)).trans hxb6; clear hb hxa6 hxb6)
         exact ⟨⟨k + 1, hkn, loop_v HWD.out.2 hkn, by rw [HA5.out]; rfl, by rw [HA1F.out], Lib.hid (btr HR5.out HV9.out (Nat.le_refl _))⟩, loop_m HWD.out.2 hkn⟩
       refine AllReadyX.cons (o := ⟨some 82, _, _, _, _, some (2, true)⟩) rfl (by rfl) (fun K1 hK1 => ?_) AllReadyX.nil
       have HK1 := Lib.hid hK1; clear hK1
       have hK1 := HK1.out
       clear HK1
       go_simp
       obtain ⟨wq2, hwq⟩ : ∃ q, q = wq1.alloc (.cells #[.slice au ys.length cu] 40) := ⟨_, rfl⟩
       rw [← hwq]
       have hba : Below wq1.heap.size wq1 wq2 := by rw [hwq]; exact (Below.refl _ _).alloc (Nat.le_refl _) _
       have SB := Lib.hid (show SlII wq2 (.slice (some ⟨wq1.heap.size, 0, none⟩) 1 1) [ys] by rw [hwq]; exact slII_one (HSL5.out.below Hq1.out (Nat.le_refl _)))
       have Hq2 := Lib.hid (btr Hq1.out hba (Nat.le_refl _))
       refine hK1 _ _ ⟨Hq2.out, fun _ => trivial⟩ ?_
       clear hK1 hwq
       have SBB := Lib.hid hba
       clear hba
       obtain ⟨pSB, hp⟩ : ∃ q, q = wq1.heap.size := ⟨_, rfl⟩
       rw [← hp] at SB ⊢
       clear hp
       try simp only [putE]
       refine wpAnyX_one (i := 6) (o := ⟨some 79, _, _, _, _, some (2, true)⟩) (by kernel_rfl) rfl (by rfl) (fun K1 hK1 => ?_)
       have HK1 := Lib.hid hK1; clear hK1
       refine oper_call (ts := _) (xs := #[.tmp 76, .tmp 78]) (f := 40) rfl (enters_of Try.func40 (by kernel_rfl) rfl) rfl (R := fun w' => Below wq2.heap.size wq2 w') (v := .bool c1) ((allow_cb c1F.out (HXA5.out.below Hq2.out).law TA.out (SA.out.below SBB.out (Nat.le_refl _)) HYS.out).mono (by rintro e w' ⟨rfl, h⟩; exact ⟨rfl, h⟩)) ?_
       rintro wq3 hbwq3
       have Hq3 := Lib.hid (btr Hq2.out hbwq3 (Nat.le_refl _))
       refine HK1.out _ _ ⟨Hq3.out, fun _ => trivial⟩ ?_
       clear HK1
       try simp only [putE]
       refine wpAnyX_one (i := 10) (o := ⟨some 83, _, _, _, _, some (2, true)⟩) (by kernel_rfl) rfl (by rfl) (fun K1 hK1 => ?_)
       have HK1 := Lib.hid hK1; clear hK1
       refine oper_call (ts := _) (xs := #[.tmp 80, .tmp 82]) (f := 40) rfl (enters_of Try.func40 (by kernel_rfl) rfl) rfl (R := fun w' => Below wq3.heap.size wq3 w') (v := .bool b2) ((allow_cb b2F.out (HXB5.out.below Hq3.out).law TB.out (SB.out.below hbwq3 (Nat.le_refl _)) HYS.out).mono (by rintro e w' ⟨rfl, h⟩; exact ⟨rfl, h⟩)) ?_
       rintro wq4 hbwq4
       have Hq4 := Lib.hid (btr Hq3.out hbwq4 (Nat.le_refl _))
       refine HK1.out _ _ ⟨Hq4.out, fun _ => trivial⟩ ?_
       clear HK1
       try simp only [putE]
       refine wpX_kp (i := 11) (oi := ⟨some 84, _, _, _, _, some (2, true)⟩) (v := ?_) rfl (fun _ _ _ h => h) ?_ ⟨Hq4.out, fun _ => trivial⟩ ?_
       rotate_left
       ·intro U hU
        go_simp
        all_goals with_reducible rfl
       simp only [putE]
       refine wpX_kp (i := 12) (oi := ⟨some 85, _, _, _, _, none⟩) (v := ?_) rfl (fun _ _ _ h => h) ?_ ⟨Hq4.out, fun _ => trivial⟩ ?_
       rotate_left
       ·intro U hU
        go_simp
        all_goals with_reducible rfl
       simp only [putE]
       refine wpAnyX_done (by kernel_rfl) ?_ _
       have HR5 := Lib.hid (btr (btr HR.out HB5.out (Nat.le_refl _)) Hq4.out (Nat.le_refl _))
       have HSD5 := Lib.hid (HSD.out.below (btr HB5.out Hq4.out (Nat.le_refl _)) (Nat.le_refl _))
       have HSL6 := Lib.hid (HSL5.out.below Hq4.out (Nat.le_refl _))
       have HXA6 := Lib.hid (HXA5.out.below Hq4.out)
       have HXB6 := Lib.hid (HXB5.out.below Hq4.out)
       have hxa6 := cell_blk (i := 0) HXA6.out.blk
       have hxb6 := cell_blk (i := 0) HXB6.out.blk
       simp only [List.getElem?_toArray, List.getElem?_cons_zero] at hxa6 hxb6
       obtain ⟨na, hna⟩ : ∃ q, q = la.nx.length := ⟨_, rfl⟩
       obtain ⟨nb, hnb⟩ : ∃ q, q = lb.nx.length := ⟨_, rfl⟩
       obtain ⟨aa, ca, rfl, -⟩ := slII_form HXA6.out.nx
       obtain ⟨ab, cb, rfl, -⟩ := slII_form HXB6.out.nx
       rw [← hna] at hxa6
       rw [← hnb] at hxb6
       have HNN := Lib.hid (show na ≤ 5 ∧ nb ≤ 5 ∧ 1 ≤ na ∧ 1 ≤ nb by rw [hna, hnb]; exact ⟨HN.out.1, HN.out.2, TA.out.ok.n1, TB.out.ok.n1⟩)
       rw [← hna, ← hnb] at HAD5
       obtain ⟨bd, hbd⟩ : ∃ q, q = (!(c1 == b2)) := ⟨_, rfl⟩
       rw [show (c1 != b2) = bd from hbd.symm] at HAD5 HA5
       rw [← hbd]
       clear Hq0 Hq1 Hq2 Hq3 SA SB SAB SBB hna hnb hbd
       try clear hbwq2
       try clear hbwq3
       try clear hbwq4
       cases bd with
       | false =>
        go_wp2
        exact ⟨⟨k + 1, hkn, loop_v HWD.out.2 hkn, by rw [HA5.out, Bool.false_or], by rw [HA1F.out], Lib.hid (HR5.out)⟩, loop_m HWD.out.2 hkn⟩
       | true =>
        obtain ⟨hz1, hz2, hz3⟩ := HAD5.out rfl
        have HZ2 := Lib.hid hz2
        have hz : (E1 != 0) = false := by rw [hz1]; rfl
        obtain ⟨hn1, hn2, hn3, hn4⟩ := HNN.out
        have hd1 : ¬ ((na : Int) + (nb : Int) - 2 < (DL : Int)) := by omega
        clear hz1 hz2 hz3 HAD5
        go_wp2_with (go_at_call 29; refine (numbers_eq HSD5.out (by rw [HZ2.out]; exact HSL6.out)).mono ?_; rintro e wz ⟨rfl, hb⟩; have HV9 := Lib.hid hb; have hxa7 := (hb.cell (p := ⟨g5, 0, none⟩) (lt_blk HXA6.out.blk)).trans hxa6; have hxb7 := (hb.cell (p := ⟨g6, 0, none⟩) (lt_blk HXB6.out.blk)).trans hxb6; clear hb hxa6 hxb6)
        exact ⟨⟨k + 1, hkn, loop_v HWD.out.2 hkn, by rw [HA5.out]; rfl, by rw [HA1F.out], Lib.hid (btr HR5.out HV9.out (Nat.le_refl _))⟩, loop_m HWD.out.2 hkn⟩
      refine AllReadyX.cons (o := ⟨some 82, _, _, _, _, some (2, true)⟩) rfl (by rfl) (fun K1 hK1 => ?_) AllReadyX.nil
      have HK1 := Lib.hid hK1; clear hK1
      have hK1 := HK1.out
      clear HK1
      go_simp
      obtain ⟨wq1, hwq⟩ : ∃ q, q = wq0.alloc (.cells #[.slice au ys.length cu] 40) := ⟨_, rfl⟩
      rw [← hwq]
      have hba : Below wq0.heap.size wq0 wq1 := by rw [hwq]; exact (Below.refl _ _).alloc (Nat.le_refl _) _
      have SB := Lib.hid (show SlII wq1 (.slice (some ⟨wq0.heap.size, 0, none⟩) 1 1) [ys] by rw [hwq]; exact slII_one (HSL5.out.below Hq0.out (Nat.le_refl _)))
      have Hq1 := Lib.hid (btr Hq0.out hba (Nat.le_refl _))
      refine hK1 _ _ ⟨Hq1.out, fun _ => trivial⟩ ?_
      clear hK1 hwq
      have SBB := Lib.hid hba
      clear hba
      obtain ⟨pSB, hp⟩ : ∃ q, q = wq0.heap.size := ⟨_, rfl⟩
      rw [← hp] at SB ⊢
      clear hp
      try simp only [putE]
      refine wpAnyX_one (i := 5) (o := ⟨some 78, _, _, _, _, some (2, true)⟩) (by kernel_rfl) rfl (by rfl) (fun K1 hK1 => ?_)
      have HK1 := Lib.hid hK1; clear hK1
      have hK1 := HK1.out
      clear HK1
      go_simp
      obtain ⟨wq2, hwq⟩ : ∃ q, q = wq1.alloc (.cells #[.slice au ys.length cu] 40) := ⟨_, rfl⟩
      rw [← hwq]
      have hba : Below wq1.heap.size wq1 wq2 := by rw [hwq]; exact (Below.refl _ _).alloc (Nat.le_refl _) _
      have SA := Lib.hid (show SlII wq2 (.slice (some ⟨wq1.heap.size, 0, none⟩) 1 1) [ys] by rw [hwq]; exact slII_one (HSL5.out.below Hq1.out (Nat.le_refl _)))
      have Hq2 := Lib.hid (btr Hq1.out hba (Nat.le_refl _))
      refine hK1 _ _ ⟨Hq2.out, fun _ => trivial⟩ ?_
      clear hK1 hwq
      have SAB := Lib.hid hba
      clear hba
      obtain ⟨pSA, hp⟩ : ∃ q, q = wq1.heap.size := ⟨_, rfl⟩
      rw [← hp] at SA ⊢
      clear hp
      try simp only [putE]
      refine wpAnyX_one (i := 6) (o := ⟨some 79, _, _, _, _, some (2, true)⟩) (by kernel_rfl) rfl (by rfl) (fun K1 hK1 => ?_)
      have HK1 := Lib.hid hK1; clear hK1
      refine oper_call (ts := _) (xs := #[.tmp 76, .tmp 78]) (f := 40) rfl (enters_of Try.func40 (by kernel_rfl) rfl) rfl (R := fun w' => Below wq2.heap.size wq2 w') (v := .bool c1) ((allow_cb c1F.out (HXA5.out.below Hq2.out).law TA.out (SA.out) HYS.out).mono (by rintro e w' ⟨rfl, h⟩; exact ⟨rfl, h⟩)) ?_
      rintro wq3 hbwq3
      have Hq3 := Lib.hid (btr Hq2.out hbwq3 (Nat.le_refl _))
      refine HK1.out _ _ ⟨Hq3.out, fun _ => trivial⟩ ?_
      clear HK1
      try simp only [putE]
      refine wpAnyX_one (i := 10) (o := ⟨some 83, _, _, _, _, some (2, true)⟩) (by kernel_rfl) rfl (by rfl) (fun K1 hK1 => ?_)
      have HK1 := Lib.hid hK1; clear hK1
      refine oper_call (ts := _) (xs := #[.tmp 80, .tmp 82]) (f := 40) rfl (enters_of Try.func40 (by kernel_rfl) rfl) rfl (R := fun w' => Below wq3.heap.size wq3 w') (v := .bool b2) ((allow_cb b2F.out (HXB5.out.below Hq3.out).law TB.out ((SB.out.below SAB.out (Nat.le_refl _)).below hbwq3 (Nat.le_refl _)) HYS.out).mono (by rintro e w' ⟨rfl, h⟩; exact ⟨rfl, h⟩)) ?_
      rintro wq4 hbwq4
      have Hq4 := Lib.hid (btr Hq3.out hbwq4 (Nat.le_refl _))
      refine HK1.out _ _ ⟨Hq4.out, fun _ => trivial⟩ ?_
      clear HK1
      try simp only [putE]
      refine wpX_kp (i := 11) (oi := ⟨some 84, _, _, _, _, some (2, true)⟩) (v := ?_) rfl (fun _ _ _ h => h) ?_ ⟨Hq4.out, fun _ => trivial⟩ ?_
      rotate_left
      ·intro U hU
       go_simp
       all_goals with_reducible rfl
      simp only [putE]
      refine wpX_kp (i := 12) (oi := ⟨some 85, _, _, _, _, none⟩) (v := ?_) rfl (fun _ _ _ h => h) ?_ ⟨Hq4.out, fun _ => trivial⟩ ?_
      rotate_left
      ·intro U hU
       go_simp
       all_goals with_reducible rfl
      simp only [putE]
      refine wpAnyX_done (by kernel_rfl) ?_ _
      have HR5 := Lib.hid (btr (btr HR.out HB5.out (Nat.le_refl _)) Hq4.out (Nat.le_refl _))
      have HSD5 := Lib.hid (HSD.out.below (btr HB5.out Hq4.out (Nat.le_refl _)) (Nat.le_refl _))
      have HSL6 := Lib.hid (HSL5.out.below Hq4.out (Nat.le_refl _))
      have HXA6 := Lib.hid (HXA5.out.below Hq4.out)
      have HXB6 := Lib.hid (HXB5.out.below Hq4.out)
      have hxa6 := cell_blk (i := 0) HXA6.out.blk
      have hxb6 := cell_blk (i := 0) HXB6.out.blk
      simp only [List.getElem?_toArray, List.getElem?_cons_zero] at hxa6 hxb6
      obtain ⟨na, hna⟩ : ∃ q, q = la.nx.length := ⟨_, rfl⟩
      obtain ⟨nb, hnb⟩ : ∃ q, q = lb.nx.length := ⟨_, rfl⟩
      obtain ⟨aa, ca, rfl, -⟩ := slII_form HXA6.out.nx
      obtain ⟨ab, cb, rfl, -⟩ := slII_form HXB6.out.nx
      rw [← hna] at hxa6
      rw [← hnb] at hxb6
      have HNN := Lib.hid (show na ≤ 5 ∧ nb ≤ 5 ∧ 1 ≤ na ∧ 1 ≤ nb by rw [hna, hnb]; exact ⟨HN.out.1, HN.out.2, TA.out.ok.n1, TB.out.ok.n1⟩)
      rw [← hna, ← hnb] at HAD5
      obtain ⟨bd, hbd⟩ : ∃ q, q = (!(c1 == b2)) := ⟨_, rfl⟩
      rw [show (c1 != b2) = bd from hbd.symm] at HAD5 HA5
      rw [← hbd]
      clear Hq0 Hq1 Hq2 Hq3 SA SB SAB SBB hna hnb hbd
      try clear hbwq2
      try clear hbwq3
      try clear hbwq4
      cases bd with
      | false =>
       go_wp2
       exact ⟨⟨k + 1, hkn, loop_v HWD.out.2 hkn, by rw [HA5.out, Bool.false_or], by rw [HA1F.out], Lib.hid (HR5.out)⟩, loop_m HWD.out.2 hkn⟩
      | true =>
       obtain ⟨hz1, hz2, hz3⟩ := HAD5.out rfl
       have HZ2 := Lib.hid hz2
       have hz : (E1 != 0) = false := by rw [hz1]; rfl
       obtain ⟨hn1, hn2, hn3, hn4⟩ := HNN.out
       have hd1 : ¬ ((na : Int) + (nb : Int) - 2 < (DL : Int)) := by omega
       clear hz1 hz2 hz3 HAD5
       go_wp2_with (go_at_call 29; refine (numbers_eq HSD5.out (by rw [HZ2.out]; exact HSL6.out)).mono ?_; rintro e wz ⟨rfl, hb⟩; have HV9 := Lib.hid hb; have hxa7 := (hb.cell (p := ⟨g5, 0, none⟩) (lt_blk HXA6.out.blk)).trans hxa6; have hxb7 := (hb.cell (p := ⟨g6, 0, none⟩) (lt_blk HXB6.out.blk)).trans hxb6; clear hb hxa6 hxb6)
       exact ⟨⟨k + 1, hkn, loop_v HWD.out.2 hkn, by rw [HA5.out]; rfl, by rw [HA1F.out], Lib.hid (btr HR5.out HV9.out (Nat.le_refl _))⟩, loop_m HWD.out.2 hkn⟩
    | false =>
     go_wp2_with (first | (go_at_call 40; refine (allow_cb b1E.out (HXA.out.below ((Below.refl wo.heap.size wo).alloc (Nat.le_refl _) (.cells #[.slice au ys.length cu] 40))).law TA.out (slII_one (HSL.out.below (Below.refl _ _) (Nat.le_refl _))) HYS.out).mono ?_; rintro e wp1 ⟨rfl, hb⟩; have HV1 := Lib.hid (btr ((Below.refl wo.heap.size wo).alloc (Nat.le_refl _) (.cells #[.slice au ys.length cu] 40)) hb (Nat.le_refl _)); clear hb) | (refine wpList_load_blk rfl 25 (.tmp 5) rfl _ rfl (show _ from blk_keep HXA.out.blk (Below.refl wo.heap.size wo)) Try.underlying25 rfl size25 rfl ?_))
     clear hcell
     obtain ⟨c1, hc1⟩ : ∃ q, q = false := ⟨_, rfl⟩
     have c1F := Lib.hid (b1E.out.trans hc1.symm)
     have HA1F := Lib.hid (show (LS.take (k + 1)).any (fun ys => Wl la (toW ys)) = false by rw [HA1.out]; rfl)
     have HAD := Lib.hid (show bF = false → (c1 != b2) = true → E1 = 0 ∧ nI (oY DO) = ys ∧ (DL : Nat) + 2 ≤ la.nx.length + lb.nx.length by rw [hc1]; exact HAD0.out)
     have HA2 := Lib.hid (show (LS.take (k + 1)).any (fun ys => Wl la (toW ys) != Wl lb (toW ys)) = (bF || (c1 != b2)) by rw [hc1]; exact HA20.out)
     clear hc1 HAD0 HA20
     have b2F := b2E
     obtain ⟨wp, hwp⟩ : ∃ q, q = wp1 := ⟨_, rfl⟩
     have HB5 := Lib.hid (show Below wo.heap.size wo wp by rw [hwp]; exact HV1.out)
     rw [← hwp]
     have HXA5 := Lib.hid (HXA.out.below HB5.out)
     have HXB5 := Lib.hid (HXB.out.below HB5.out)
     have HSL5 := Lib.hid (HSL.out.below HB5.out (Nat.le_refl _))
     clear hwp
     cases bF with
     | true =>
      refine wp_region_x (R := fun U => Below wp.heap.size wp U) (S := fun _ => True) (z := 999) rfl ?_
      change wpAnyX _ _ _ _ _ _ _ _ _ _ wp.drew
      have Hq0 := Lib.hid (show Below wp.heap.size wp wp.drew from (Below.refl _ _).drew)
      obtain ⟨wq0, hwq⟩ : ∃ q, q = wp.drew := ⟨_, rfl⟩
      rw [← hwq] at Hq0 ⊢
      clear hwq
      refine wpX_kp (i := 0) (oi := ⟨some 73, _, _, _, _, none⟩) (v := ?_) rfl (fun _ _ _ h => h) ?_ ⟨(by first | exact Hq4.out | exact Hq3.out | exact Hq2.out | exact Hq1.out | exact Hq0.out), fun _ => trivial⟩ ?_
      rotate_left
      ·intro U hU
       go_simp
       all_goals with_reducible rfl
      simp only [putE]
      refine wpX_kp (i := 1) (oi := ⟨some 74, _, _, _, _, none⟩) (v := ?_) rfl (fun _ _ _ h => h) ?_ ⟨(by first | exact Hq4.out | exact Hq3.out | exact Hq2.out | exact Hq1.out | exact Hq0.out), fun _ => trivial⟩ ?_
      rotate_left
      ·intro U hU
       go_simp
       all_goals with_reducible rfl
      simp only [putE]
      refine wpX_kp (i := 2) (oi := ⟨some 75, _, _, _, _, none⟩) (v := ?_) rfl (fun _ _ _ h => h) ?_ ⟨(by first | exact Hq4.out | exact Hq3.out | exact Hq2.out | exact Hq1.out | exact Hq0.out), fun _ => trivial⟩ ?_
      rotate_left
      ·intro U hU
       go_simp
       all_goals with_reducible rfl
      simp only [putE]
      refine wpAnyX_keep (i := 3) (oi := ⟨some 76, _, _, _, _, some (2, true)⟩) (v := undef) rfl (by kernel_rfl) (by kernel_rfl) (by kernel_rfl) (fun _ _ _ h => h) (Or.inr ⟨by rfl, rfl⟩) ⟨(by first | exact Hq4.out | exact Hq3.out | exact Hq2.out | exact Hq1.out | exact Hq0.out), fun _ => trivial⟩ ?_
      simp only [putE]
      refine wpAnyX_keep (i := 4) (oi := ⟨some 77, _, _, _, _, some (2, true)⟩) (v := undef) rfl (by kernel_rfl) (by kernel_rfl) (by kernel_rfl) (fun _ _ _ h => h) (Or.inr ⟨by rfl, rfl⟩) ⟨(by first | exact Hq4.out | exact Hq3.out | exact Hq2.out | exact Hq1.out | exact Hq0.out), fun _ => trivial⟩ ?_
      simp only [putE]
      refine wpAnyX_keep (i := 5) (oi := ⟨some 78, _, _, _, _, some (2, true)⟩) (v := undef) rfl (by kernel_rfl) (by kernel_rfl) (by kernel_rfl) (fun _ _ _ h => h) (Or.inr ⟨by rfl, rfl⟩) ⟨(by first | exact Hq4.out | exact Hq3.out | exact Hq2.out | exact Hq1.out | exact Hq0.out), fun _ => trivial⟩ ?_
      simp only [putE]
      refine wpAnyX_keep (i := 6) (oi := ⟨some 79, _, _, _, _, some (2, true)⟩) (v := undef) rfl (by kernel_rfl) (by kernel_rfl) (by kernel_rfl) (fun _ _ _ h => h) (Or.inr ⟨by rfl, rfl⟩) ⟨(by first | exact Hq4.out | exact Hq3.out | exact Hq2.out | exact Hq1.out | exact Hq0.out), fun _ => trivial⟩ ?_
      simp only [putE]
      refine wpAnyX_keep (i := 7) (oi := ⟨some 80, _, _, _, _, some (2, true)⟩) (v := undef) rfl (by kernel_rfl) (by kernel_rfl) (by kernel_rfl) (fun _ _ _ h => h) (Or.inr ⟨by rfl, rfl⟩) ⟨(by first | exact Hq4.out | exact Hq3.out | exact Hq2.out | exact Hq1.out | exact Hq0.out), fun _ => trivial⟩ ?_
      simp only [putE]
      refine wpAnyX_keep (i := 8) (oi := ⟨some 81, _, _, _, _, some (2, true)⟩) (v := undef) rfl (by kernel_rfl) (by kernel_rfl) (by kernel_rfl) (fun _ _ _ h => h) (Or.inr ⟨by rfl, rfl⟩) ⟨(by first | exact Hq4.out | exact Hq3.out | exact Hq2.out | exact Hq1.out | exact Hq0.out), fun _ => trivial⟩ ?_
      simp only [putE]
      refine wpAnyX_keep (i := 9) (oi := ⟨some 82, _, _, _, _, some (2, true)⟩) (v := undef) rfl (by kernel_rfl) (by kernel_rfl) (by kernel_rfl) (fun _ _ _ h => h) (Or.inr ⟨by rfl, rfl⟩) ⟨(by first | exact Hq4.out | exact Hq3.out | exact Hq2.out | exact Hq1.out | exact Hq0.out), fun _ => trivial⟩ ?_
      simp only [putE]
      refine wpAnyX_keep (i := 10) (oi := ⟨some 83, _, _, _, _, some (2, true)⟩) (v := undef) rfl (by kernel_rfl) (by kernel_rfl) (by kernel_rfl) (fun _ _ _ h => h) (Or.inr ⟨by rfl, rfl⟩) ⟨(by first | exact Hq4.out | exact Hq3.out | exact Hq2.out | exact Hq1.out | exact Hq0.out), fun _ => trivial⟩ ?_
      simp only [putE]
      refine wpAnyX_keep (i := 11) (oi := ⟨some 84, _, _, _, _, some (2, true)⟩) (v := undef) rfl (by kernel_rfl) (by kernel_rfl) (by kernel_rfl) (fun _ _ _ h => h) (Or.inr ⟨by rfl, rfl⟩) ⟨(by first | exact Hq4.out | exact Hq3.out | exact Hq2.out | exact Hq1.out | exact Hq0.out), fun _ => trivial⟩ ?_
      simp only [putE]
      refine wpX_kp (i := 12) (oi := ⟨some 85, _, _, _, _, none⟩) (v := ?_) rfl (fun _ _ _ h => h) ?_ ⟨(by first | exact Hq4.out | exact Hq3.out | exact Hq2.out | exact Hq1.out | exact Hq0.out), fun _ => trivial⟩ ?_
      rotate_left
      ·intro U hU
       go_simp
       all_goals with_reducible rfl
      simp only [putE]
      refine wpAnyX_done (by kernel_rfl) ?_ _
      have HR5 := Lib.hid (btr (btr HR.out HB5.out (Nat.le_refl _)) Hq0.out (Nat.le_refl _))
      clear Hq0
      go_wp2
      exact ⟨⟨k + 1, hkn, loop_v HWD.out.2 hkn, by rw [HA2.out, Bool.true_or], by rw [HA1F.out], Lib.hid (HR5.out)⟩, loop_m HWD.out.2 hkn⟩
     | false =>
      have HAD5 := Lib.hid (HAD.out rfl)
      clear HAD
      have HA5 := HA2
      refine wp_region_x (R := fun U => Below wp.heap.size wp U) (S := fun _ => True) (z := 999) rfl ?_
      change wpAnyX _ _ _ _ _ _ _ _ _ _ wp.drew
      have Hq0 := Lib.hid (show Below wp.heap.size wp wp.drew from (Below.refl _ _).drew)
      obtain ⟨wq0, hwq⟩ : ∃ q, q = wp.drew := ⟨_, rfl⟩
      rw [← hwq] at Hq0 ⊢
      clear hwq
      refine wpX_kp (i := 0) (oi := ⟨some 73, _, _, _, _, none⟩) (v := ?_) rfl (fun _ _ _ h => h) ?_ ⟨(by first | exact Hq4.out | exact Hq3.out | exact Hq2.out | exact Hq1.out | exact Hq0.out), fun _ => trivial⟩ ?_
      rotate_left
      ·intro U hU
       go_simp
       all_goals with_reducible rfl
      simp only [putE]
      refine wpX_kp (i := 1) (oi := ⟨some 74, _, _, _, _, none⟩) (v := ?_) rfl (fun _ _ _ h => h) ?_ ⟨(by first | exact Hq4.out | exact Hq3.out | exact Hq2.out | exact Hq1.out | exact Hq0.out), fun _ => trivial⟩ ?_
      rotate_left
      ·intro U hU
       go_simp
       all_goals with_reducible rfl
      simp only [putE]
      refine wpX_kp (i := 2) (oi := ⟨some 75, _, _, _, _, none⟩) (v := ?_) rfl (fun _ _ _ h => h) ?_ ⟨(by first | exact Hq4.out | exact Hq3.out | exact Hq2.out | exact Hq1.out | exact Hq0.out), fun _ => trivial⟩ ?_
      rotate_left
      ·intro U hU
       go_simp
       all_goals with_reducible rfl
      simp only [putE]
      refine wpX_kp (i := 3) (oi := ⟨some 76, _, _, _, _, some (2, true)⟩) (v := ?_) rfl (fun _ _ _ h => h) ?_ ⟨(by first | exact Hq4.out | exact Hq3.out | exact Hq2.out | exact Hq1.out | exact Hq0.out), fun _ => trivial⟩ ?_
      rotate_left
      ·refine yields_load_blk 25 (.tmp 5) ?_ g5 ?_ (t := 25) (fr := (0, 0)) (cs := #[an, ag]) (fun U hU => ?_) Try.underlying25 rfl size25 rfl
       ·rfl
       ·rfl
       ·exact blk_keep HXA5.out.blk hU
      simp only [putE]
      refine wpX_kp (i := 4) (oi := ⟨some 77, _, _, _, _, some (2, true)⟩) (v := ?_) rfl (fun _ _ _ h => h) ?_ ⟨(by first | exact Hq4.out | exact Hq3.out | exact Hq2.out | exact Hq1.out | exact Hq0.out), fun _ => trivial⟩ ?_
      rotate_left
      ·intro U hU
       go_simp
       all_goals with_reducible rfl
      simp only [putE]
      refine wpX_kp (i := 7) (oi := ⟨some 80, _, _, _, _, some (2, true)⟩) (v := ?_) rfl (fun _ _ _ h => h) ?_ ⟨(by first | exact Hq4.out | exact Hq3.out | exact Hq2.out | exact Hq1.out | exact Hq0.out), fun _ => trivial⟩ ?_
      rotate_left
      ·refine yields_load_blk 25 (.tmp 6) ?_ g6 ?_ (t := 25) (fr := (0, 0)) (cs := #[bn, bg]) (fun U hU => ?_) Try.underlying25 rfl size25 rfl
       ·rfl
       ·rfl
       ·exact blk_keep HXB5.out.blk hU
      simp only [putE]
      refine wpX_kp (i := 8) (oi := ⟨some 81, _, _, _, _, some (2, true)⟩) (v := ?_) rfl (fun _ _ _ h => h) ?_ ⟨(by first | exact Hq4.out | exact Hq3.out | exact Hq2.out | exact Hq1.out | exact Hq0.out), fun _ => trivial⟩ ?_
      rotate_left
      ·intro U hU
       go_simp
       all_goals with_reducible rfl
      simp only [putE]
      refine wpAnyX_ready (rs := [5, 9]) (by kernel_rfl) (by simp) ?_
      refine AllReadyX.cons (o := ⟨some 78, _, _, _, _, some (2, true)⟩) rfl (by rfl) (fun K1 hK1 => ?_) ?_
      ·have HK1 := Lib.hid hK1; clear hK1
       have hK1 := HK1.out
       clear HK1
       go_simp
       obtain ⟨wq1, hwq⟩ : ∃ q, q = wq0.alloc (.cells #[.slice au ys.length cu] 40) := ⟨_, rfl⟩
       rw [← hwq]
       have hba : Below wq0.heap.size wq0 wq1 := by rw [hwq]; exact (Below.refl _ _).alloc (Nat.le_refl _) _
       have SA := Lib.hid (show SlII wq1 (.slice (some ⟨wq0.heap.size, 0, none⟩) 1 1) [ys] by rw [hwq]; exact slII_one (HSL5.out.below Hq0.out (Nat.le_refl _)))
       have Hq1 := Lib.hid (btr Hq0.out hba (Nat.le_refl _))
       refine hK1 _ _ ⟨Hq1.out, fun _ => trivial⟩ ?_
       clear hK1 hwq
       have SAB := Lib.hid hba
       clear hba
       obtain ⟨pSA, hp⟩ : ∃ q, q = wq0.heap.size := ⟨_, rfl⟩
       rw [← hp] at SA ⊢
       clear hp
       try simp only [putE]
       refine wpAnyX_ready (rs := [6, 9]) (by kernel_rfl) (by simp) ?_
       refine AllReadyX.cons (o := ⟨some 79, _, _, _, _, some (2, true)⟩) rfl (by rfl) (fun K1 hK1 => ?_) ?_
       ·have HK1 := Lib.hid hK1; clear hK1
        refine oper_call (ts := _) (xs := #[.tmp 76, .tmp 78]) (f := 40) rfl (enters_of Try.func40 (by kernel_rfl) rfl) rfl (R := fun w' => Below wq1.heap.size wq1 w') (v := .bool c1) ((allow_cb c1F.out (HXA5.out.below Hq1.out).law TA.out (SA.out) HYS.out).mono (by rintro e w' ⟨rfl, h⟩; exact ⟨rfl, h⟩)) ?_
        rintro wq2 hbwq2
        have Hq2 := Lib.hid (btr Hq1.out hbwq2 (Nat.le_refl _))
        refine HK1.out _ _ ⟨Hq2.out, fun _ => trivial⟩ ?_
        clear HK1
        try simp only [putE]
        refine wpAnyX_one (i := 9) (o := ⟨some 82, _, _, _, _, some (2, true)⟩) (by kernel_rfl) rfl (by rfl) (fun K1 hK1 => ?_)
        have HK1 := Lib.hid hK1; clear hK1
        have hK1 := HK1.out
        clear HK1
        go_simp
        obtain ⟨wq3, hwq⟩ : ∃ q, q = wq2.alloc (.cells #[.slice au ys.length cu] 40) := ⟨_, rfl⟩
        rw [← hwq]
        have hba : Below wq2.heap.size wq2 wq3 := by rw [hwq]; exact (Below.refl _ _).alloc (Nat.le_refl _) _
        have SB := Lib.hid (show SlII wq3 (.slice (some ⟨wq2.heap.size, 0, none⟩) 1 1) [ys] by rw [hwq]; exact slII_one (HSL5.out.below Hq2.out (Nat.le_refl _)))
        have Hq3 := Lib.hid (btr Hq2.out hba (Nat.le_refl _))
        refine hK1 _ _ ⟨Hq3.out, fun _ => trivial⟩ ?_
        clear hK1 hwq
        have SBB := Lib.hid hba
        clear hba
        obtain ⟨pSB, hp⟩ : ∃ q, q = wq2.heap.size := ⟨_, rfl⟩
        rw [← hp] at SB ⊢
        clear hp
        try simp only [putE]
        refine wpAnyX_one (i := 10) (o := ⟨some 83, _, _, _, _, some (2, true)⟩) (by kernel_rfl) rfl (by rfl) (fun K1 hK1 => ?_)
        have HK1 := Lib.hid hK1; clear hK1
        refine oper_call (ts := _) (xs := #[.tmp 80, .tmp 82]) (f := 40) rfl (enters_of Try.func40 (by kernel_rfl) rfl) rfl (R := fun w' => Below wq3.heap.size wq3 w') (v := .bool b2) ((allow_cb b2F.out (HXB5.out.below Hq3.out).law TB.out (SB.out) HYS.out).mono (by rintro e w' ⟨rfl, h⟩; exact ⟨rfl, h⟩)) ?_
        rintro wq4 hbwq4
        have Hq4 := Lib.hid (btr Hq3.out hbwq4 (Nat.le_refl _))
        refine HK1.out _ _ ⟨Hq4.out, fun _ => trivial⟩ ?_
        clear HK1
        try simp only [putE]
        refine wpX_kp (i := 11) (oi := ⟨some 84, _, _, _, _, some (2, true)⟩) (v := ?_) rfl (fun _ _ _ h => h) ?_ ⟨Hq4.out, fun _ => trivial⟩ ?_
        rotate_left
        ·intro U hU
         go_simp
         all_goals with_reducible rfl
        simp only [putE]
        refine wpX_kp (i := 12) (oi := ⟨some 85, _, _, _, _, none⟩) (v := ?_) rfl (fun _ _ _ h => h) ?_ ⟨Hq4.out, fun _ => trivial⟩ ?_
        rotate_left
        ·intro U hU
         go_simp
         all_goals with_reducible rfl
        simp only [putE]
        refine wpAnyX_done (by kernel_rfl) ?_ _
        have HR5 := Lib.hid (btr (btr HR.out HB5.out (Nat.le_refl _)) Hq4.out (Nat.le_refl _))
        have HSD5 := Lib.hid (HSD.out.below (btr HB5.out Hq4.out (Nat.le_refl _)) (Nat.le_refl _))
        have HSL6 := Lib.hid (HSL5.out.below Hq4.out (Nat.le_refl _))
        have HXA6 := Lib.hid (HXA5.out.below Hq4.out)
        have HXB6 := Lib.hid (HXB5.out.below Hq4.out)
        have hxa6 := cell_blk (i := 0) HXA6.out.blk
        have hxb6 := cell_blk (i := 0) HXB6.out.blk
        simp only [List.getElem?_toArray, List.getElem?_cons_zero] at hxa6 hxb6
        obtain ⟨na, hna⟩ : ∃ q, q = la.nx.length := ⟨_, rfl⟩
        obtain ⟨nb, hnb⟩ : ∃ q, q = lb.nx.length := ⟨_, rfl⟩
        obtain ⟨aa, ca, rfl, -⟩ := slII_form HXA6.out.nx
        obtain ⟨ab, cb, rfl, -⟩ := slII_form HXB6.out.nx
        rw [← hna] at hxa6
        rw [← hnb] at hxb6
        have HNN := Lib.hid (show na ≤ 5 ∧ nb ≤ 5 ∧ 1 ≤ na ∧ 1 ≤ nb by rw [hna, hnb]; exact ⟨HN.out.1, HN.out.2, TA.out.ok.n1, TB.out.ok.n1⟩)
        rw [← hna, ← hnb] at HAD5
        obtain ⟨bd, hbd⟩ : ∃ q, q = (!(c1 == b2)) := ⟨_, rfl⟩
        rw [show (c1 != b2) = bd from hbd.symm] at HAD5 HA5
        rw [← hbd]
        clear Hq0 Hq1 Hq2 Hq3 SA SB SAB SBB hna hnb hbd
        try clear hbwq2
        try clear hbwq3
        try clear hbwq4
        cases bd with
        | false =>
         go_wp2
         exact ⟨⟨k + 1, hkn, loop_v HWD.out.2 hkn, by rw [HA5.out, Bool.false_or], by rw [HA1F.out], Lib.hid (HR5.out)⟩, loop_m HWD.out.2 hkn⟩
        | true =>
         obtain ⟨hz1, hz2, hz3⟩ := HAD5.out rfl
         have HZ2 := Lib.hid hz2
         have hz : (E1 != 0) = false := by rw [hz1]; rfl
         obtain ⟨hn1, hn2, hn3, hn4⟩ := HNN.out
         have hd1 : ¬ ((na : Int) + (nb : Int) - 2 < (DL : Int)) := by omega
         clear hz1 hz2 hz3 HAD5
         go_wp2_with (go_at_call 29; refine (numbers_eq HSD5.out (by rw [HZ2.out]; exact HSL6.out)).mono ?_; rintro e wz ⟨rfl, hb⟩; have HV9 := Lib.hid hb; have hxa7 := (hb.cell (p := ⟨g5, 0, none⟩) (lt_blk HXA6.out.blk)).trans hxa6; have hxb7 := (hb.cell (p := ⟨g6, 0, none⟩) (lt_blk HXB6.out.blk)).trans hxb6; clear hb hxa6 hxb6)
         exact ⟨⟨k + 1, hkn, loop_v HWD.out.2 hkn, by rw [HA5.out]; rfl, by rw [HA1F.out], Lib.hid (btr HR5.out HV9.out (Nat.le_refl _))⟩, loop_m HWD.out.2 hkn⟩
       refine AllReadyX.cons (o := ⟨some 82, _, _, _, _, some (2, true)⟩) rfl (by rfl) (fun K1 hK1 => ?_) AllReadyX.nil
       have HK1 := Lib.hid hK1; clear hK1
       have hK1 := HK1.out
       clear HK1
       go_simp
       obtain ⟨wq2, hwq⟩ : ∃ q, q = wq1.alloc (.cells #[.slice au ys.length cu] 40) := ⟨_, rfl⟩
       rw [← hwq]
       have hba : Below wq1.heap.size wq1 wq2 := by rw [hwq]; exact (Below.refl _ _).alloc (Nat.le_refl _) _
       have SB := Lib.hid (show SlII wq2 (.slice (some ⟨wq1.heap.size, 0, none⟩) 1 1) [ys] by rw [hwq]; exact slII_one (HSL5.out.below Hq1.out (Nat.le_refl _)))
       have Hq2 := Lib.hid (btr Hq1.out hba (Nat.le_refl _))
       refine hK1 _ _ ⟨Hq2.out, fun _ => trivial⟩ ?_
       clear hK1 hwq
       have SBB := Lib.hid hba
       clear hba
       obtain ⟨pSB, hp⟩ : ∃ q, q = wq1.heap.size := ⟨_, rfl⟩
       rw [← hp] at SB ⊢
       clear hp
       try simp only [putE]
       refine wpAnyX_one (i := 6) (o := ⟨some 79, _, _, _, _, some (2, true)⟩) (by kernel_rfl) rfl (by rfl) (fun K1 hK1 => ?_)
       have HK1 := Lib.hid hK1; clear hK1
       refine oper_call (ts := _) (xs := #[.tmp 76, .tmp 78]) (f := 40) rfl (enters_of Try.func40 (by kernel_rfl) rfl) rfl (R := fun w' => Below wq2.heap.size wq2 w') (v := .bool c1) ((allow_cb c1F.out (HXA5.out.below Hq2.out).law TA.out (SA.out.below SBB.out (Nat.le_refl _)) HYS.out).mono (by rintro e w' ⟨rfl, h⟩; exact ⟨rfl, h⟩)) ?_
       rintro wq3 hbwq3
       have Hq3 := Lib.hid (btr Hq2.out hbwq3 (Nat.le_refl _))
       refine HK1.out _ _ ⟨Hq3.out, fun _ => trivial⟩ ?_
       clear HK1
       try simp only [putE]
       refine wpAnyX_one (i := 10) (o := ⟨some 83, _, _, _, _, some (2, true)⟩) (by kernel_rfl) rfl (by rfl) (fun K1 hK1 => ?_)
       have HK1 := Lib.hid hK1; clear hK1
       refine oper_call (ts := _) (xs := #[.tmp 80, .tmp 82]) (f := 40) rfl (enters_of Try.func40 (by kernel_rfl) rfl) rfl (R := fun w' => Below wq3.heap.size wq3 w') (v := .bool b2) ((allow_cb b2F.out (HXB5.out.below Hq3.out).law TB.out (SB.out.below hbwq3 (Nat.le_refl _)) HYS.out).mono (by rintro e w' ⟨rfl, h⟩; exact ⟨rfl, h⟩)) ?_
       rintro wq4 hbwq4
       have Hq4 := Lib.hid (btr Hq3.out hbwq4 (Nat.le_refl _))
       refine HK1.out _ _ ⟨Hq4.out, fun _ => trivial⟩ ?_
       clear HK1
       try simp only [putE]
       refine wpX_kp (i := 11) (oi := ⟨some 84, _, _, _, _, some (2, true)⟩) (v := ?_) rfl (fun _ _ _ h => h) ?_ ⟨Hq4.out, fun _ => trivial⟩ ?_
       rotate_left
       ·intro U hU
        go_simp
        all_goals with_reducible rfl
       simp only [putE]
       refine wpX_kp (i := 12) (oi := ⟨some 85, _, _, _, _, none⟩) (v := ?_) rfl (fun _ _ _ h => h) ?_ ⟨Hq4.out, fun _ => trivial⟩ ?_
       rotate_left
       ·intro U hU
        go_simp
        all_goals with_reducible rfl
       simp only [putE]
       refine wpAnyX_done (by kernel_rfl) ?_ _
       have HR5 := Lib.hid (btr (btr HR.out HB5.out (Nat.le_refl _)) Hq4.out (Nat.le_refl _))
       have HSD5 := Lib.hid (HSD.out.below (btr HB5.out Hq4.out (Nat.le_refl _)) (Nat.le_refl _))
       have HSL6 := Lib.hid (HSL5.out.below Hq4.out (Nat.le_refl _))
       have HXA6 := Lib.hid (HXA5.out.below Hq4.out)
       have HXB6 := Lib.hid (HXB5.out.below Hq4.out)
       have hxa6 := cell_blk (i := 0) HXA6.out.blk
       have hxb6 := cell_blk (i := 0) HXB6.out.blk
       simp only [List.getElem?_toArray, List.getElem?_cons_zero] at hxa6 hxb6
       obtain ⟨na, hna⟩ : ∃ q, q = la.nx.length := ⟨_, rfl⟩
       obtain ⟨nb, hnb⟩ : ∃ q, q = lb.nx.length := ⟨_, rfl⟩
       obtain ⟨aa, ca, rfl, -⟩ := slII_form HXA6.out.nx
       obtain ⟨ab, cb, rfl, -⟩ := slII_form HXB6.out.nx
       rw [← hna] at hxa6
       rw [← hnb] at hxb6
       have HNN := Lib.hid (show na ≤ 5 ∧ nb ≤ 5 ∧ 1 ≤ na ∧ 1 ≤ nb by rw [hna, hnb]; exact ⟨HN.out.1, HN.out.2, TA.out.ok.n1, TB.out.ok.n1⟩)
       rw [← hna, ← hnb] at HAD5
       obtain ⟨bd, hbd⟩ : ∃ q, q = (!(c1 == b2)) := ⟨_, rfl⟩
       rw [show (c1 != b2) = bd from hbd.symm] at HAD5 HA5
       rw [← hbd]
       clear Hq0 Hq1 Hq2 Hq3 SA SB SAB SBB hna hnb hbd
       try clear hbwq2
       try clear hbwq3
       try clear hbwq4
       cases bd with
       | false =>
        go_wp2
        exact ⟨⟨k + 1, hkn, loop_v HWD.out.2 hkn, by rw [HA5.out, Bool.false_or], by rw [HA1F.out], Lib.hid (HR5.out)⟩, loop_m HWD.out.2 hkn⟩
       | true =>
        obtain ⟨hz1, hz2, hz3⟩ := HAD5.out rfl
        have HZ2 := Lib.hid hz2
        have hz : (E1 != 0) = false := by rw [hz1]; rfl
        obtain ⟨hn1, hn2, hn3, hn4⟩ := HNN.out
        have hd1 : ¬ ((na : Int) + (nb : Int) - 2 < (DL : Int)) := by omega
        clear hz1 hz2 hz3 HAD5
        go_wp2_with (go_at_call 29; refine (numbers_eq HSD5.out (by rw [HZ2.out]; exact HSL6.out)).mono ?_; rintro e wz ⟨rfl, hb⟩; have HV9 := Lib.hid hb; have hxa7 := (hb.cell (p := ⟨g5, 0, none⟩) (lt_blk HXA6.out.blk)).trans hxa6; have hxb7 := (hb.cell (p := ⟨g6, 0, none⟩) (lt_blk HXB6.out.blk)).trans hxb6; clear hb hxa6 hxb6)
        exact ⟨⟨k + 1, hkn, loop_v HWD.out.2 hkn, by rw [HA5.out]; rfl, by rw [HA1F.out], Lib.hid (btr HR5.out HV9.out (Nat.le_refl _))⟩, loop_m HWD.out.2 hkn⟩
      refine AllReadyX.cons (o := ⟨some 82, _, _, _, _, some (2, true)⟩) rfl (by rfl) (fun K1 hK1 => ?_) AllReadyX.nil
      have HK1 := Lib.hid hK1; clear hK1
      have hK1 := HK1.out
      clear HK1
      go_simp
      obtain ⟨wq1, hwq⟩ : ∃ q, q = wq0.alloc (.cells #[.slice au ys.length cu] 40) := ⟨_, rfl⟩
      rw [← hwq]
      have hba : Below wq0.heap.size wq0 wq1 := by rw [hwq]; exact (Below.refl _ _).alloc (Nat.le_refl _) _
      have SB := Lib.hid (show SlII wq1 (.slice (some ⟨wq0.heap.size, 0, none⟩) 1 1) [ys] by rw [hwq]; exact slII_one (HSL5.out.below Hq0.out (Nat.le_refl _)))
      have Hq1 := Lib.hid (btr Hq0.out hba (Nat.le_refl _))
      refine hK1 _ _ ⟨Hq1.out, fun _ => trivial⟩ ?_
      clear hK1 hwq
      have SBB := Lib.hid hba
      clear hba
      obtain ⟨pSB, hp⟩ : ∃ q, q = wq0.heap.size := ⟨_, rfl⟩
      rw [← hp] at SB ⊢
      clear hp
      try simp only [putE]
      refine wpAnyX_one (i := 5) (o := ⟨some 78, _, _, _, _, some (2, true)⟩) (by kernel_rfl) rfl (by rfl) (fun K1 hK1 => ?_)
      have HK1 := Lib.hid hK1; clear hK1
      have hK1 := HK1.out
      clear HK1
      go_simp
      obtain ⟨wq2, hwq⟩ : ∃ q, q = wq1.alloc (.cells #[.slice au ys.length cu] 40) := ⟨_, rfl⟩
      rw [← hwq]
      have hba : Below wq1.heap.size wq1 wq2 := by rw [hwq]; exact (Below.refl _ _).alloc (Nat.le_refl _) _
      have SA := Lib.hid (show SlII wq2 (.slice (some ⟨wq1.heap.size, 0, none⟩) 1 1) [ys] by rw [hwq]; exact slII_one (HSL5.out.below Hq1.out (Nat.le_refl _)))
      have Hq2 := Lib.hid (btr Hq1.out hba (Nat.le_refl _))
      refine hK1 _ _ ⟨Hq2.out, fun _ => trivial⟩ ?_
      clear hK1 hwq
      have SAB := Lib.hid hba
      clear hba
      obtain ⟨pSA, hp⟩ : ∃ q, q = wq1.heap.size := ⟨_, rfl⟩
      rw [← hp] at SA ⊢
      clear hp
      try simp only [putE]
      refine wpAnyX_one (i := 6) (o := ⟨some 79, _, _, _, _, some (2, true)⟩) (by kernel_rfl) rfl (by rfl) (fun K1 hK1 => ?_)
      have HK1 := Lib.hid hK1; clear hK1
      refine oper_call (ts := _) (xs := #[.tmp 76, .tmp 78]) (f := 40) rfl (enters_of Try.func40 (by kernel_rfl) rfl) rfl (R := fun w' => Below wq2.heap.size wq2 w') (v := .bool c1) ((allow_cb c1F.out (HXA5.out.below Hq2.out).law TA.out (SA.out) HYS.out).mono (by rintro e w' ⟨rfl, h⟩; exact ⟨rfl, h⟩)) ?_
      rintro wq3 hbwq3
      have Hq3 := Lib.hid (btr Hq2.out hbwq3 (Nat.le_refl _))
      refine HK1.out _ _ ⟨Hq3.out, fun _ => trivial⟩ ?_
      clear HK1
      try simp only [putE]
      refine wpAnyX_one (i := 10) (o := ⟨some 83, _, _, _, _, some (2, true)⟩) (by kernel_rfl) rfl (by rfl) (fun K1 hK1 => ?_)
      have HK1 := Lib.hid hK1; clear hK1
      refine oper_call (ts := _) (xs := #[.tmp 80, .tmp 82]) (f := 40) rfl (enters_of Try.func40 (by kernel_rfl) rfl) rfl (R := fun w' => Below wq3.heap.size wq3 w') (v := .bool b2) ((allow_cb b2F.out (HXB5.out.below Hq3.out).law TB.out ((SB.out.below SAB.out (Nat.le_refl _)).below hbwq3 (Nat.le_refl _)) HYS.out).mono (by rintro e w' ⟨rfl, h⟩; exact ⟨rfl, h⟩)) ?_
      rintro wq4 hbwq4
      have Hq4 := Lib.hid (btr Hq3.out hbwq4 (Nat.le_refl _))
      refine HK1.out _ _ ⟨Hq4.out, fun _ => trivial⟩ ?_
      clear HK1
      try simp only [putE]
      refine wpX_kp (i := 11) (oi := ⟨some 84, _, _, _, _, some (2, true)⟩) (v := ?_) rfl (fun _ _ _ h => h) ?_ ⟨Hq4.out, fun _ => trivial⟩ ?_
      rotate_left
      ·intro U hU
       go_simp
       all_goals with_reducible rfl
      simp only [putE]
      refine wpX_kp (i := 12) (oi := ⟨some 85, _, _, _, _, none⟩) (v := ?_) rfl (fun _ _ _ h => h) ?_ ⟨Hq4.out, fun _ => trivial⟩ ?_
      rotate_left
      ·intro U hU
       go_simp
       all_goals with_reducible rfl
      simp only [putE]
      refine wpAnyX_done (by kernel_rfl) ?_ _
      have HR5 := Lib.hid (btr (btr HR.out HB5.out (Nat.le_refl _)) Hq4.out (Nat.le_refl _))
      have HSD5 := Lib.hid (HSD.out.below (btr HB5.out Hq4.out (Nat.le_refl _)) (Nat.le_refl _))
      have HSL6 := Lib.hid (HSL5.out.below Hq4.out (Nat.le_refl _))
      have HXA6 := Lib.hid (HXA5.out.below Hq4.out)
      have HXB6 := Lib.hid (HXB5.out.below Hq4.out)
      have hxa6 := cell_blk (i := 0) HXA6.out.blk
      have hxb6 := cell_blk (i := 0) HXB6.out.blk
      simp only [List.getElem?_toArray, List.getElem?_cons_zero] at hxa6 hxb6
      obtain ⟨na, hna⟩ : ∃ q, q = la.nx.length := ⟨_, rfl⟩
      obtain ⟨nb, hnb⟩ : ∃ q, q = lb.nx.length := ⟨_, rfl⟩
      obtain ⟨aa, ca, rfl, -⟩ := slII_form HXA6.out.nx
      obtain ⟨ab, cb, rfl, -⟩ := slII_form HXB6.out.nx
      rw [← hna] at hxa6
      rw [← hnb] at hxb6
      have HNN := Lib.hid (show na ≤ 5 ∧ nb ≤ 5 ∧ 1 ≤ na ∧ 1 ≤ nb by rw [hna, hnb]; exact ⟨HN.out.1, HN.out.2, TA.out.ok.n1, TB.out.ok.n1⟩)
      rw [← hna, ← hnb] at HAD5
      obtain ⟨bd, hbd⟩ : ∃ q, q = (!(c1 == b2)) := ⟨_, rfl⟩
      rw [show (c1 != b2) = bd from hbd.symm] at HAD5 HA5
      rw [← hbd]
      clear Hq0 Hq1 Hq2 Hq3 SA SB SAB SBB hna hnb hbd
      try clear hbwq2
      try clear hbwq3
      try clear hbwq4
      cases bd with
      | false =>
       go_wp2
       exact ⟨⟨k + 1, hkn, loop_v HWD.out.2 hkn, by rw [HA5.out, Bool.false_or], by rw [HA1F.out], Lib.hid (HR5.out)⟩, loop_m HWD.out.2 hkn⟩
      | true =>
       obtain ⟨hz1, hz2, hz3⟩ := HAD5.out rfl
       have HZ2 := Lib.hid hz2
       have hz : (E1 != 0) = false := by rw [hz1]; rfl
       obtain ⟨hn1, hn2, hn3, hn4⟩ := HNN.out
       have hd1 : ¬ ((na : Int) + (nb : Int) - 2 < (DL : Int)) := by omega
       clear hz1 hz2 hz3 HAD5
       go_wp2_with (go_at_call 29; refine (numbers_eq HSD5.out (by rw [HZ2.out]; exact HSL6.out)).mono ?_; rintro e wz ⟨rfl, hb⟩; have HV9 := Lib.hid hb; have hxa7 := (hb.cell (p := ⟨g5, 0, none⟩) (lt_blk HXA6.out.blk)).trans hxa6; have hxb7 := (hb.cell (p := ⟨g6, 0, none⟩) (lt_blk HXB6.out.blk)).trans hxb6; clear hb hxa6 hxb6)
       exact ⟨⟨k + 1, hkn, loop_v HWD.out.2 hkn, by rw [HA5.out]; rfl, by rw [HA1F.out], Lib.hid (btr HR5.out HV9.out (Nat.le_refl _))⟩, loop_m HWD.out.2 hkn⟩
end Ytnjgglnpmhjmiaa
end Go.Proofs
