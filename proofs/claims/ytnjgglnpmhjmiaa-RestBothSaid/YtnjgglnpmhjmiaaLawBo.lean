/- Laws of rotation: joined laws allow what they should, list by list. -/
import Derived.Test.YtnjgglnpmhjmiaaD1
import Derived.Test.YtnjgglnpmhjmiaaD2
import Derived.Test.YtnjgglnpmhjmiaaD4
import Derived.Test.YtnjgglnpmhjmiaaD5
import Derived.Test.YtnjgglnpmhjmiaaWk
open Go Go.RowKit Go.YtnjgglnpmhjmiaaIt
open Rest
namespace Go.Proofs
namespace Ytnjgglnpmhjmiaa
theorem stored2 {w3 w4 : World} {an ag bn bg : Value} {la lb : Lw} {c d : Array Value} (ha : LawA w3 (.agg #[an, ag]) la) (hb : LawA w3 (.agg #[bn, bg]) lb) (hw : (((w3.alloc (.cells c 25)).alloc (.cells d 25)).putObj w3.heap.size (.cells #[an, ag] 25)).putObj (w3.heap.size + 1) (.cells #[bn, bg] 25) = w4) : LawX w4 w3.heap.size 25 la an ag ∧ LawX w4 (w3.heap.size + 1) 25 lb bn bg ∧ Below w3.heap.size w3 w4 := by
 obtain ⟨-, -, hB, hz⟩ := blkE2 (w := w3) (a := .cells c 25) (b := .cells d 25) rfl
 have hb4 : Below w3.heap.size w3 w4 := by rw [← hw]; exact below_putObj (below_putObj hB (Nat.le_refl _)) (by omega)
 have k1 : w4.heap[w3.heap.size]? = some (.cells #[an, ag] 25) := by rw [← hw, World.putObj_heap_other (by omega)]; exact World.putObj_heap_same (by omega)
 have k2 : w4.heap[w3.heap.size + 1]? = some (.cells #[bn, bg] 25) := by rw [← hw]; exact World.putObj_heap_same (by rw [World.putObj_size]; omega)
 obtain ⟨a1, a2, e, h1, h2⟩ := ha.below hb4 (Nat.le_refl _)
 obtain ⟨b1, b2, e', h3, h4⟩ := hb.below hb4 (Nat.le_refl _)
 simp only [Value.agg.injEq, Array.mk.injEq, List.cons.injEq, and_true] at e e'
 obtain ⟨rfl, rfl⟩ := e
 obtain ⟨rfl, rfl⟩ := e'
 exact ⟨⟨k1, h1, h2⟩, ⟨k2, h3, h4⟩, hb4⟩
theorem loop_v {k n : Nat} (h : n ≤ 1000) (hk : k < n) : Value.int .i64 (wrap64 ((k : Int) + 1)) = Value.int .i64 ((k + 1 : Nat) : Int) := congrArg _ (IntWalk.wrap64_in _ (by omega))
theorem loop_m {k n : Nat} (h : n ≤ 1000) (hk : k < n) : n - (intOf (Value.int .i64 (wrap64 ((k : Int) + 1)))).toNat < n - (intOf (Value.int .i64 (k : Int))).toNat := by
 rw [loop_v h hk]
 show n - ((k + 1 : Nat) : Int).toNat < n - (k : Int).toNat
 omega
theorem not_c {v : Value} {l : Lw} {w : World} {n : Nat} (h : LawA w v l) (t : Tw l n) : Calls Try.prog 43 #[v] w fun e w' => ∃ vn vg, e = .returned (.tuple #[.agg #[vn, vg], .int .i64 0]) ∧ LawA w' (.agg #[vn, vg]) (notL l) ∧ Below w.heap.size w w' := by
 have h1 := not43_any h
 rw [ok_chkL t.ok] at h1
 exact h1
theorem least_c {v : Value} {l : Lw} {w : World} {n : Nat} (h : LawA w v l) (t : Tw l n) : Calls Try.prog 50 #[v] w fun e w' => ∃ vn vg, e = .returned (.tuple #[.agg #[vn, vg], .int .i64 0]) ∧ LawA w' (.agg #[vn, vg]) (leastL l) ∧ Below w.heap.size w w' := by
 have h1 := least50_any h
 rw [ok_chkL t.ok] at h1
 exact h1
noncomputable def andL (a b : Lw) : Lw := tabL (joinT a b (fun a b => a && b))
noncomputable def orL (a b : Lw) : Lw := tabL (joinT a b (fun a b => a || b))
theorem both_c {va vb : Value} {a b : Lw} {w : World} {n m : Nat} (ha : LawA w va a) (hb : LawA w vb b) (ta : Tw a n) (tb : Tw b m) (hnm : n * m ≤ 40) : Calls Try.prog 42 #[va, vb] w fun e w' => ∃ vn vg, e = .returned (.tuple #[.agg #[vn, vg], .int .i64 0]) ∧ LawA w' (.agg #[vn, vg]) (andL a b) ∧ Below w.heap.size w w' := by
 have h1 := both42_any ha hb
 unfold bothE at h1
 rw [(joinT_tw ta tb hnm _).2.2] at h1
 exact h1.mono (by rintro e w' ⟨vn, vg, h1, h2, h3⟩; exact ⟨vn, vg, h1, h2.now, h3⟩)
theorem either_c {va vb : Value} {a b : Lw} {w : World} {n m : Nat} (ha : LawA w va a) (hb : LawA w vb b) (ta : Tw a n) (tb : Tw b m) (hnm : n * m ≤ 40) : Calls Try.prog 46 #[va, vb] w fun e w' => ∃ vn vg, e = .returned (.tuple #[.agg #[vn, vg], .int .i64 0]) ∧ LawA w' (.agg #[vn, vg]) (orL a b) ∧ Below w.heap.size w w' := by
 have h1 := either46_any ha hb
 unfold eitherE at h1
 rw [(joinT_tw ta tb hnm _).2.2] at h1
 exact h1.mono (by rintro e w' ⟨vn, vg, h1, h2, h3⟩; exact ⟨vn, vg, h1, h2.now, h3⟩)
theorem valid_c {v : Value} {l : Lw} {w : World} {n : Nat} (h : LawA w v l) (t : Tw l n) : Calls Try.prog 36 #[v] w fun e w' => e = .returned (.bool true) ∧ Below w.heap.size w w' := valid_any h t.ok t.k2
theorem allow_c {v vl : Value} {l : Lw} {w : World} {n : Nat} {ys : List Int} (h : LawA w v l) (t : Tw l n) (hl : SlII w vl [ys]) (hy : ∀ c ∈ ys, 0 ≤ c ∧ c < 2) : Calls Try.prog 40 #[v, vl] w fun e w' => e = .returned (.bool (Wl l (toW ys))) ∧ Below w.heap.size w w' := by
 have h1 := allows_any h t.ok hl (fun z hz => by rw [List.mem_singleton.1 hz]; intro c hc; rw [t.k2]; exact hy c hc)
 rw [end_one t hy] at h1
 exact h1
theorem allow_cb {v vl : Value} {l : Lw} {w : World} {n : Nat} {ys : List Int} {b : Bool} (e : Wl l (toW ys) = b) (h : LawA w v l) (t : Tw l n) (hl : SlII w vl [ys]) (hy : ∀ c ∈ ys, 0 ≤ c ∧ c < 2) : Calls Try.prog 40 #[v, vl] w fun e w' => e = .returned (.bool b) ∧ Below w.heap.size w w' := by
 rw [← e]; exact allow_c h t hl hy
theorem laws_c {v u : Value} {l : Lw} {w : World} (hx : LawA w v l) (hy : LawA w u l) : Calls Try.prog 54 #[v, u] w fun e w' => e = .returned (.bool true) ∧ Below w.heap.size w w' := by
 have h := laws_any hx hy
 rw [same_true] at h
 exact h
set_option maxRecDepth 100000 in
set_option maxHeartbeats 8000000 in
theorem restBoth_any {vx vy : Value} {xs ys : List T3} {w : World} (hxx : (∀ q ∈ xs, q.ok) ∧ SlT3 w vx xs) (hyy : (∀ q ∈ ys, q.ok) ∧ SlT3 w vy ys) : Calls Try.prog 14 #[vx, vy] w fun e w' => e = .returned (.bool true) ∧ Below w.heap.size w w' := by
 obtain ⟨hqx, hx⟩ := hxx
 obtain ⟨hqy, hy⟩ := hyy
 obtain ⟨la, hla⟩ : ∃ q, q = madeL xs := ⟨_, rfl⟩
 obtain ⟨lb, hlb⟩ : ∃ q, q = madeL ys := ⟨_, rfl⟩
 have TA := Lib.hid (show Tw la 5 by rw [hla]; exact ⟨(made_ok hqx).1, (made_ok hqx).2.1, by rw [(made_ok hqx).2.2]; exact (mkN_bd xs).2⟩)
 have TB := Lib.hid (show Tw lb 5 by rw [hlb]; exact ⟨(made_ok hqy).1, (made_ok hqy).2.1, by rw [(made_ok hqy).2.2]; exact (mkN_bd ys).2⟩)
 have MA := Lib.hid (fun W (hW : Below w.heap.size w W) => made_any (hx.below hW (Nat.le_refl _)) hqx)
 have MB := Lib.hid (fun W (hW : Below w.heap.size w W) => made_any (hy.below hW (Nat.le_refl _)) hqy)
 rw [← hla] at MA
 rw [← hlb] at MB
 obtain ⟨ax, cx, rfl, -, -⟩ := id hx
 obtain ⟨ay, cy, rfl, -, -⟩ := id hy
 clear hx hy hqx hqy hla hlb
 go_enter Try.func14, Try.ntmps14
 refine wp_seq_k (fun K hK => ?_)
 have HK := Lib.hid hK; clear hK
 go_wp2
 refine HK.out _ _ ?_; clear HK
 refine wp_seq_k (fun K hK => ?_)
 have HK := Lib.hid hK; clear hK
 go_wp2_with (first | (have _m := HA1; go_at_call 48; refine (MB.out _ HA2.out).mono ?_; rintro e wb ⟨bn, bg, rfl, hl, hb⟩; have HB1 := Lib.hid hl; have HB2 := Lib.hid hb; clear hl hb) | (go_at_call 48; refine (MA.out _ (Below.refl _ _)).mono ?_; rintro e wa ⟨an, ag, rfl, hl, hb⟩; have HA1 := Lib.hid hl; have HA2 := Lib.hid hb; clear hl hb) | (refine wpList_store_blk rfl 25 (.tmp 5) _ rfl _ rfl rfl (blkE2 rfl).1 size25 rfl rfl HA1.out.one ?_) | (refine wpList_store_blk rfl 25 (.tmp 6) _ rfl _ rfl rfl (show _ from (World.putObj_heap_other (by omega)).trans (blkE2 rfl).2.1) size25 rfl rfl HB1.out.one ?_))
 refine HK.out _ _ ?_; clear HK
 generalize hw : World.putObj _ _ _ = w1
 obtain ⟨hxa, hxb, hb1⟩ := stored2 (HA1.out.below HB2.out (Nat.le_refl _)) HB1.out hw
 obtain ⟨g5, hg5⟩ : ∃ g, g = wb.heap.size := ⟨_, rfl⟩
 obtain ⟨g6, hg6⟩ : ∃ g, g = g5 + 1 := ⟨_, rfl⟩
 rw [← hg5] at hxa hxb ⊢
 rw [← hg6] at hxb ⊢
 have HXA := Lib.hid hxa
 have HXB := Lib.hid hxb
 have HBw := Lib.hid (btr (btr HA2.out HB2.out (Nat.le_refl _)) hb1 (Nat.le_refl _))
 clear hxa hxb hb1 hw hg5 hg6 HA1 HA2 HB1 HB2 MA MB
 have TN := Lib.hid (notL_tw TA.out)
 have TM := Lib.hid (notL_tw TB.out)
 have TP := Lib.hid (joinT_tw TA.out TB.out (by decide) (fun a b => a && b))
 have TQ := Lib.hid (joinT_tw TA.out TB.out (by decide) (fun a b => a || b))
 refine wp_seq_k (fun K hK => ?_)
 have HK := Lib.hid hK; clear hK
 go_wp2_with (first | (refine wpList_load_blk rfl 25 (.tmp 5) rfl _ rfl (show _ from blk_keep HXA.out.blk (Below.refl _ _)) Try.underlying25 rfl size25 rfl ?_) | (refine wpList_load_blk rfl 25 (.tmp 6) rfl _ rfl (show _ from blk_keep HXB.out.blk (Below.refl _ _)) Try.underlying25 rfl size25 rfl ?_) | (go_at_call 43; refine (not_c HXA.out.law TA.out).mono ?_; rintro e wc7 ⟨un7, ug7, rfl, hl, hb⟩; have HL := Lib.hid hl; have HC := Lib.hid hb; clear hl hb) | (refine wpList_store_blk rfl 25 _ _ rfl _ rfl rfl (heap_newI rfl) size25 rfl rfl HL.out.one ?_))
 refine HK.out _ _ ?_; clear HK
 generalize hw : World.putObj _ _ _ = ws7
 obtain ⟨hx, hb⟩ := storedA HL.out hw
 obtain ⟨gb7, hg⟩ : ∃ g, g = wc7.heap.size := ⟨_, rfl⟩
 rw [← hg] at hx ⊢
 have HN7 := Lib.hid hx
 have HD := Lib.hid (btr HC.out hb (Nat.le_refl _))
 clear hx hb hw hg HL HC
 replace HXA := Lib.hid (HXA.out.below HD.out)
 replace HXB := Lib.hid (HXB.out.below HD.out)
 replace HBw := Lib.hid (btr HBw.out HD.out (Nat.le_refl _))
 clear HD
 refine wp_seq_k (fun K hK => ?_)
 have HK := Lib.hid hK; clear hK
 go_wp2_with (first | (refine wpList_load_blk rfl 25 (.tmp 5) rfl _ rfl (show _ from blk_keep HXA.out.blk (Below.refl _ _)) Try.underlying25 rfl size25 rfl ?_) | (refine wpList_load_blk rfl 25 (.tmp 6) rfl _ rfl (show _ from blk_keep HXB.out.blk (Below.refl _ _)) Try.underlying25 rfl size25 rfl ?_) | (refine wpList_load_blk rfl 25 (.tmp 7) rfl _ rfl (show _ from blk_keep HN7.out.blk (Below.refl _ _)) Try.underlying25 rfl size25 rfl ?_) | (go_at_call 43; refine (not_c HXB.out.law TB.out).mono ?_; rintro e wc9 ⟨un9, ug9, rfl, hl, hb⟩; have HL := Lib.hid hl; have HC := Lib.hid hb; clear hl hb) | (refine wpList_store_blk rfl 25 _ _ rfl _ rfl rfl (heap_newI rfl) size25 rfl rfl HL.out.one ?_))
 refine HK.out _ _ ?_; clear HK
 generalize hw : World.putObj _ _ _ = ws9
 obtain ⟨hx, hb⟩ := storedA HL.out hw
 obtain ⟨gb9, hg⟩ : ∃ g, g = wc9.heap.size := ⟨_, rfl⟩
 rw [← hg] at hx ⊢
 have HN9 := Lib.hid hx
 have HD := Lib.hid (btr HC.out hb (Nat.le_refl _))
 clear hx hb hw hg HL HC
 replace HXA := Lib.hid (HXA.out.below HD.out)
 replace HXB := Lib.hid (HXB.out.below HD.out)
 replace HN7 := Lib.hid (HN7.out.below HD.out)
 replace HBw := Lib.hid (btr HBw.out HD.out (Nat.le_refl _))
 clear HD
 refine wp_seq_k (fun K hK => ?_)
 have HK := Lib.hid hK; clear hK
 go_wp2_with (first | (refine wpList_load_blk rfl 25 (.tmp 5) rfl _ rfl (show _ from blk_keep HXA.out.blk (Below.refl _ _)) Try.underlying25 rfl size25 rfl ?_) | (refine wpList_load_blk rfl 25 (.tmp 6) rfl _ rfl (show _ from blk_keep HXB.out.blk (Below.refl _ _)) Try.underlying25 rfl size25 rfl ?_) | (refine wpList_load_blk rfl 25 (.tmp 7) rfl _ rfl (show _ from blk_keep HN7.out.blk (Below.refl _ _)) Try.underlying25 rfl size25 rfl ?_) | (refine wpList_load_blk rfl 25 (.tmp 9) rfl _ rfl (show _ from blk_keep HN9.out.blk (Below.refl _ _)) Try.underlying25 rfl size25 rfl ?_) | (go_at_call 42; refine (both_c HXA.out.law HXB.out.law TA.out TB.out (by decide)).mono ?_; rintro e wc11 ⟨un11, ug11, rfl, hl, hb⟩; have HL := Lib.hid hl; have HC := Lib.hid hb; clear hl hb) | (refine wpList_store_blk rfl 25 _ _ rfl _ rfl rfl (heap_newI rfl) size25 rfl rfl HL.out.one ?_))
 refine HK.out _ _ ?_; clear HK
 generalize hw : World.putObj _ _ _ = ws11
 obtain ⟨hx, hb⟩ := storedA HL.out hw
 obtain ⟨gb11, hg⟩ : ∃ g, g = wc11.heap.size := ⟨_, rfl⟩
 rw [← hg] at hx ⊢
 have HN11 := Lib.hid hx
 have HD := Lib.hid (btr HC.out hb (Nat.le_refl _))
 clear hx hb hw hg HL HC
 replace HXA := Lib.hid (HXA.out.below HD.out)
 replace HXB := Lib.hid (HXB.out.below HD.out)
 replace HN7 := Lib.hid (HN7.out.below HD.out)
 replace HN9 := Lib.hid (HN9.out.below HD.out)
 replace HBw := Lib.hid (btr HBw.out HD.out (Nat.le_refl _))
 clear HD
 refine wp_seq_k (fun K hK => ?_)
 have HK := Lib.hid hK; clear hK
 go_wp2_with (first | (refine wpList_load_blk rfl 25 (.tmp 5) rfl _ rfl (show _ from blk_keep HXA.out.blk (Below.refl _ _)) Try.underlying25 rfl size25 rfl ?_) | (refine wpList_load_blk rfl 25 (.tmp 6) rfl _ rfl (show _ from blk_keep HXB.out.blk (Below.refl _ _)) Try.underlying25 rfl size25 rfl ?_) | (refine wpList_load_blk rfl 25 (.tmp 7) rfl _ rfl (show _ from blk_keep HN7.out.blk (Below.refl _ _)) Try.underlying25 rfl size25 rfl ?_) | (refine wpList_load_blk rfl 25 (.tmp 9) rfl _ rfl (show _ from blk_keep HN9.out.blk (Below.refl _ _)) Try.underlying25 rfl size25 rfl ?_) | (refine wpList_load_blk rfl 25 (.tmp 11) rfl _ rfl (show _ from blk_keep HN11.out.blk (Below.refl _ _)) Try.underlying25 rfl size25 rfl ?_) | (go_at_call 46; refine (either_c HXA.out.law HXB.out.law TA.out TB.out (by decide)).mono ?_; rintro e wc13 ⟨un13, ug13, rfl, hl, hb⟩; have HL := Lib.hid hl; have HC := Lib.hid hb; clear hl hb) | (refine wpList_store_blk rfl 25 _ _ rfl _ rfl rfl (heap_newI rfl) size25 rfl rfl HL.out.one ?_))
 refine HK.out _ _ ?_; clear HK
 generalize hw : World.putObj _ _ _ = ws13
 obtain ⟨hx, hb⟩ := storedA HL.out hw
 obtain ⟨gb13, hg⟩ : ∃ g, g = wc13.heap.size := ⟨_, rfl⟩
 rw [← hg] at hx ⊢
 have HN13 := Lib.hid hx
 have HD := Lib.hid (btr HC.out hb (Nat.le_refl _))
 clear hx hb hw hg HL HC
 replace HXA := Lib.hid (HXA.out.below HD.out)
 replace HXB := Lib.hid (HXB.out.below HD.out)
 replace HN7 := Lib.hid (HN7.out.below HD.out)
 replace HN9 := Lib.hid (HN9.out.below HD.out)
 replace HN11 := Lib.hid (HN11.out.below HD.out)
 replace HBw := Lib.hid (btr HBw.out HD.out (Nat.le_refl _))
 clear HD
 refine wp_seq_k (fun K hK => ?_)
 have HK := Lib.hid hK; clear hK
 go_wp2_with (first | (have _m := HV3; go_at_call 36; refine (valid_c (HN13.out.below HV3.out).law TQ.out.1).mono ?_; rintro e wv4 ⟨rfl, hb⟩; have HV4 := Lib.hid (btr HV3.out hb (Nat.le_refl _)); clear hb) | (have _m := HV3; refine wpList_load_blk rfl 25 (.tmp 13) rfl _ rfl (show _ from blk_keep HN13.out.blk HV3.out) Try.underlying25 rfl size25 rfl ?_) | (have _m := HV2; go_at_call 36; refine (valid_c (HN11.out.below HV2.out).law TP.out.1).mono ?_; rintro e wv3 ⟨rfl, hb⟩; have HV3 := Lib.hid (btr HV2.out hb (Nat.le_refl _)); clear hb) | (have _m := HV2; refine wpList_load_blk rfl 25 (.tmp 11) rfl _ rfl (show _ from blk_keep HN11.out.blk HV2.out) Try.underlying25 rfl size25 rfl ?_) | (have _m := HV1; go_at_call 36; refine (valid_c (HN9.out.below HV1.out).law TM.out.1).mono ?_; rintro e wv2 ⟨rfl, hb⟩; have HV2 := Lib.hid (btr HV1.out hb (Nat.le_refl _)); clear hb) | (have _m := HV1; refine wpList_load_blk rfl 25 (.tmp 9) rfl _ rfl (show _ from blk_keep HN9.out.blk HV1.out) Try.underlying25 rfl size25 rfl ?_) | (go_at_call 36; refine (valid_c (HN7.out.below (Below.refl _ _)).law TN.out.1).mono ?_; rintro e wv1 ⟨rfl, hb⟩; have HV1 := Lib.hid (hb); clear hb) | (refine wpList_load_blk rfl 25 (.tmp 7) rfl _ rfl (show _ from blk_keep HN7.out.blk (Below.refl _ _)) Try.underlying25 rfl size25 rfl ?_))
 refine HK.out _ _ ?_; clear HK
 replace HXA := Lib.hid (HXA.out.below HV4.out)
 replace HXB := Lib.hid (HXB.out.below HV4.out)
 replace HN7 := Lib.hid (HN7.out.below HV4.out)
 replace HN9 := Lib.hid (HN9.out.below HV4.out)
 replace HN11 := Lib.hid (HN11.out.below HV4.out)
 replace HN13 := Lib.hid (HN13.out.below HV4.out)
 replace HBw := Lib.hid (btr HBw.out HV4.out (Nat.le_refl _))
 clear HV1 HV2 HV3 HV4
 obtain ⟨LS, hLS⟩ : ∃ q, q = allL 6 := ⟨_, rfl⟩
 have H37 := Lib.hid (fun W => all_any 6 (by decide) W)
 rw [← hLS] at H37
 have HWD := Lib.hid (show (∀ l ∈ LS, ∀ c ∈ l, 0 ≤ c ∧ c < 2) ∧ LS.length ≤ 1000 by rw [hLS]; exact ⟨fun l hl => (allL_wd 6 l hl).2, by rw [allL_len]; decide⟩)
 clear hLS
 refine wp_seq_k (fun K hK => ?_)
 have HK := Lib.hid hK; clear hK
 go_wp2_with (go_at_call 37; refine (H37.out _).mono ?_; rintro e w8 ⟨vl, rfl, hs, hb⟩; have HC := Lib.hid hb; obtain ⟨al, cl, e, -⟩ := slII_form hs; subst e; have HS := Lib.hid hs; clear hs hb)
 replace HXA := Lib.hid (HXA.out.below HC.out)
 replace HXB := Lib.hid (HXB.out.below HC.out)
 replace HN7 := Lib.hid (HN7.out.below HC.out)
 replace HN9 := Lib.hid (HN9.out.below HC.out)
 replace HN11 := Lib.hid (HN11.out.below HC.out)
 replace HN13 := Lib.hid (HN13.out.below HC.out)
 replace HBw := Lib.hid (btr HBw.out HC.out (Nat.le_refl _))
 clear HC
 go_loopw [91] (fun i wr => ∃ k : Nat, k ≤ LS.length ∧ i = .int .i64 k ∧ Hid (Below w8.heap.size w8 wr)) (fun i _ => LS.length - (intOf i).toNat)
 case atStart => exact ⟨0, Nat.zero_le _, rfl, Lib.hid (Below.refl _ _)⟩
 case round =>
  obtain ⟨k, hk, rfl, HR⟩ := hrel
  obtain ⟨wo, rfl⟩ : ∃ q, q = wr := ⟨_, rfl⟩
  by_cases hkn : k < LS.length
  ·have hki : (k : Int) < (LS.length : Int) := by omega
   replace HXA := Lib.hid (HXA.out.below HR.out)
   replace HXB := Lib.hid (HXB.out.below HR.out)
   replace HN7 := Lib.hid (HN7.out.below HR.out)
   replace HN9 := Lib.hid (HN9.out.below HR.out)
   replace HN11 := Lib.hid (HN11.out.below HR.out)
   replace HN13 := Lib.hid (HN13.out.below HR.out)
   have HBo := Lib.hid (btr HBw.out HR.out (Nat.le_refl _))
   obtain ⟨b, off, au, cu, rfl, hbl, hcell, hrow⟩ := (HS.out.below HR.out (Nat.le_refl _)).row hkn
   obtain ⟨ys, hys⟩ : ∃ ys, ys = LS[k] := ⟨_, rfl⟩
   have HYS := Lib.hid (show ∀ c ∈ ys, 0 ≤ c ∧ c < 2 by rw [hys]; exact HWD.out.1 _ (List.getElem_mem hkn))
   rw [← hys] at hcell hrow
   have HSL := Lib.hid hrow
   obtain ⟨b1, hb1⟩ : ∃ q, q = Wl la (toW ys) := ⟨_, rfl⟩
   obtain ⟨b2, hb2⟩ : ∃ q, q = Wl lb (toW ys) := ⟨_, rfl⟩
   have b1E := Lib.hid hb1.symm
   have b2E := Lib.hid hb2.symm
   have HWY := Lib.hid (toW_wd HYS.out)
   clear hb1 hb2 hys hrow hbl
   go_wp2
   clear hcell
   refine (fun (FIN : KeyP (?P9 : Prop)) => ?main9) ⟨?key9⟩
   case main9 =>
    refine wp_region_x (R := fun U => Below wo.heap.size wo U) (S := fun _ => True) (z := 999) rfl ?_
    change wpAnyX _ _ _ _ _ _ _ _ _ _ wo.drew
    have Hq0 := Lib.hid (show Below wo.heap.size wo wo.drew from (Below.refl _ _).drew)
    obtain ⟨wq0, hwq⟩ : ∃ q, q = wo.drew := ⟨_, rfl⟩
    rw [← hwq] at Hq0 ⊢
    clear hwq
    refine wpX_kp (i := 0) (oi := ⟨some 95, _, _, _, _, none⟩) (v := ?_) rfl (fun _ _ _ h => h) ?_ ⟨(by first | exact Hq4.out | exact Hq3.out | exact Hq2.out | exact Hq1.out | exact Hq0.out), fun _ => trivial⟩ ?_
    rotate_left
    ·refine yields_load_blk 25 (.tmp 5) ?_ g5 ?_ (t := 25) (fr := (0, 0)) (cs := #[an, ag]) (fun U hU => ?_) Try.underlying25 rfl size25 rfl
     ·rfl
     ·rfl
     ·exact blk_keep HXA.out.blk hU
    simp only [putE]
    refine wpX_kp (i := 1) (oi := ⟨some 96, _, _, _, _, none⟩) (v := ?_) rfl (fun _ _ _ h => h) ?_ ⟨(by first | exact Hq4.out | exact Hq3.out | exact Hq2.out | exact Hq1.out | exact Hq0.out), fun _ => trivial⟩ ?_
    rotate_left
    ·intro U hU
     go_simp
     all_goals with_reducible rfl
    simp only [putE]
    refine wpX_kp (i := 4) (oi := ⟨some 99, _, _, _, _, none⟩) (v := ?_) rfl (fun _ _ _ h => h) ?_ ⟨(by first | exact Hq4.out | exact Hq3.out | exact Hq2.out | exact Hq1.out | exact Hq0.out), fun _ => trivial⟩ ?_
    rotate_left
    ·refine yields_load_blk 25 (.tmp 6) ?_ g6 ?_ (t := 25) (fr := (0, 0)) (cs := #[bn, bg]) (fun U hU => ?_) Try.underlying25 rfl size25 rfl
     ·rfl
     ·rfl
     ·exact blk_keep HXB.out.blk hU
    simp only [putE]
    refine wpX_kp (i := 5) (oi := ⟨some 100, _, _, _, _, none⟩) (v := ?_) rfl (fun _ _ _ h => h) ?_ ⟨(by first | exact Hq4.out | exact Hq3.out | exact Hq2.out | exact Hq1.out | exact Hq0.out), fun _ => trivial⟩ ?_
    rotate_left
    ·intro U hU
     go_simp
     all_goals with_reducible rfl
    simp only [putE]
    refine wpAnyX_ready (rs := [2, 6]) (by kernel_rfl) (by simp) ?_
    refine AllReadyX.cons (o := ⟨some 97, _, _, _, _, none⟩) rfl (by rfl) (fun K1 hK1 => ?_) ?_
    ·have HK1 := Lib.hid hK1; clear hK1
     have hK1 := HK1.out
     clear HK1
     go_simp
     obtain ⟨wq1, hwq⟩ : ∃ q, q = wq0.alloc (.cells #[.slice au ys.length cu] 40) := ⟨_, rfl⟩
     rw [← hwq]
     have hba : Below wq0.heap.size wq0 wq1 := by rw [hwq]; exact (Below.refl _ _).alloc (Nat.le_refl _) _
     have SA := Lib.hid (show SlII wq1 (.slice (some ⟨wq0.heap.size, 0, none⟩) 1 1) [ys] by rw [hwq]; exact slII_one (HSL.out.below Hq0.out (Nat.le_refl _)))
     have Hq1 := Lib.hid (btr Hq0.out hba (Nat.le_refl _))
     refine hK1 _ _ ⟨Hq1.out, fun _ => trivial⟩ ?_
     clear hK1 hwq
     have SAB := Lib.hid hba
     clear hba
     obtain ⟨pSA, hp⟩ : ∃ q, q = wq0.heap.size := ⟨_, rfl⟩
     rw [← hp] at SA ⊢
     clear hp
     try simp only [putE]
     refine wpAnyX_ready (rs := [3, 6]) (by kernel_rfl) (by simp) ?_
     refine AllReadyX.cons (o := ⟨some 98, _, _, _, _, none⟩) rfl (by rfl) (fun K1 hK1 => ?_) ?_
     ·have HK1 := Lib.hid hK1; clear hK1
      refine oper_call (ts := _) (xs := #[.tmp 95, .tmp 97]) (f := 40) rfl (enters_of Try.func40 (by kernel_rfl) rfl) rfl (R := fun w' => Below wq1.heap.size wq1 w') (v := .bool b1) ((allow_cb b1E.out (HXA.out.below Hq1.out).law TA.out (SA.out) HYS.out).mono (by rintro e w' ⟨rfl, h⟩; exact ⟨rfl, h⟩)) ?_
      rintro wq2 hbwq2
      have Hq2 := Lib.hid (btr Hq1.out hbwq2 (Nat.le_refl _))
      refine HK1.out _ _ ⟨Hq2.out, fun _ => trivial⟩ ?_
      clear HK1
      try simp only [putE]
      refine wpAnyX_one (i := 6) (o := ⟨some 101, _, _, _, _, none⟩) (by kernel_rfl) rfl (by rfl) (fun K1 hK1 => ?_)
      have HK1 := Lib.hid hK1; clear hK1
      have hK1 := HK1.out
      clear HK1
      go_simp
      obtain ⟨wq3, hwq⟩ : ∃ q, q = wq2.alloc (.cells #[.slice au ys.length cu] 40) := ⟨_, rfl⟩
      rw [← hwq]
      have hba : Below wq2.heap.size wq2 wq3 := by rw [hwq]; exact (Below.refl _ _).alloc (Nat.le_refl _) _
      have SB := Lib.hid (show SlII wq3 (.slice (some ⟨wq2.heap.size, 0, none⟩) 1 1) [ys] by rw [hwq]; exact slII_one (HSL.out.below Hq2.out (Nat.le_refl _)))
      have Hq3 := Lib.hid (btr Hq2.out hba (Nat.le_refl _))
      refine hK1 _ _ ⟨Hq3.out, fun _ => trivial⟩ ?_
      clear hK1 hwq
      have SBB := Lib.hid hba
      clear hba
      obtain ⟨pSB, hp⟩ : ∃ q, q = wq2.heap.size := ⟨_, rfl⟩
      rw [← hp] at SB ⊢
      clear hp
      try simp only [putE]
      refine wpAnyX_one (i := 7) (o := ⟨some 102, _, _, _, _, none⟩) (by kernel_rfl) rfl (by rfl) (fun K1 hK1 => ?_)
      have HK1 := Lib.hid hK1; clear hK1
      refine oper_call (ts := _) (xs := #[.tmp 99, .tmp 101]) (f := 40) rfl (enters_of Try.func40 (by kernel_rfl) rfl) rfl (R := fun w' => Below wq3.heap.size wq3 w') (v := .bool b2) ((allow_cb b2E.out (HXB.out.below Hq3.out).law TB.out (SB.out) HYS.out).mono (by rintro e w' ⟨rfl, h⟩; exact ⟨rfl, h⟩)) ?_
      rintro wq4 hbwq4
      have Hq4 := Lib.hid (btr Hq3.out hbwq4 (Nat.le_refl _))
      refine HK1.out _ _ ⟨Hq4.out, fun _ => trivial⟩ ?_
      clear HK1
      try simp only [putE]
      refine wpX_kp (i := 8) (oi := ⟨some 17, _, _, _, _, none⟩) (v := ?_) rfl (fun _ _ _ h => h) ?_ ⟨Hq4.out, fun _ => trivial⟩ ?_
      rotate_left
      ·intro U hU
       go_simp
       all_goals with_reducible rfl
      simp only [putE]
      refine wpX_kp (i := 9) (oi := ⟨some 18, _, _, _, _, none⟩) (v := ?_) rfl (fun _ _ _ h => h) ?_ ⟨Hq4.out, fun _ => trivial⟩ ?_
      rotate_left
      ·intro U hU
       go_simp
       all_goals with_reducible rfl
      simp only [putE]
      refine wpAnyX_done (by kernel_rfl) ?_ _
      have hfin := Hq4.out
      clear SA SB SAB SBB Hq0 Hq1 Hq2 Hq3 Hq4 hbwq2 hbwq4
      revert hfin; revert wq4; revert pSB; revert pSA
      exact FIN.out

     refine AllReadyX.cons (o := ⟨some 101, _, _, _, _, none⟩) rfl (by rfl) (fun K1 hK1 => ?_) AllReadyX.nil
     have HK1 := Lib.hid hK1; clear hK1
     have hK1 := HK1.out
     clear HK1
     go_simp
     obtain ⟨wq2, hwq⟩ : ∃ q, q = wq1.alloc (.cells #[.slice au ys.length cu] 40) := ⟨_, rfl⟩
     rw [← hwq]
     have hba : Below wq1.heap.size wq1 wq2 := by rw [hwq]; exact (Below.refl _ _).alloc (Nat.le_refl _) _
     have SB := Lib.hid (show SlII wq2 (.slice (some ⟨wq1.heap.size, 0, none⟩) 1 1) [ys] by rw [hwq]; exact slII_one (HSL.out.below Hq1.out (Nat.le_refl _)))
     have Hq2 := Lib.hid (btr Hq1.out hba (Nat.le_refl _))
     refine hK1 _ _ ⟨Hq2.out, fun _ => trivial⟩ ?_
     clear hK1 hwq
     have SBB := Lib.hid hba
     clear hba
     obtain ⟨pSB, hp⟩ : ∃ q, q = wq1.heap.size := ⟨_, rfl⟩
     rw [← hp] at SB ⊢
     clear hp
     try simp only [putE]
     refine wpAnyX_one (i := 3) (o := ⟨some 98, _, _, _, _, none⟩) (by kernel_rfl) rfl (by rfl) (fun K1 hK1 => ?_)
     have HK1 := Lib.hid hK1; clear hK1
     refine oper_call (ts := _) (xs := #[.tmp 95, .tmp 97]) (f := 40) rfl (enters_of Try.func40 (by kernel_rfl) rfl) rfl (R := fun w' => Below wq2.heap.size wq2 w') (v := .bool b1) ((allow_cb b1E.out (HXA.out.below Hq2.out).law TA.out (SA.out.below SBB.out (Nat.le_refl _)) HYS.out).mono (by rintro e w' ⟨rfl, h⟩; exact ⟨rfl, h⟩)) ?_
     rintro wq3 hbwq3
     have Hq3 := Lib.hid (btr Hq2.out hbwq3 (Nat.le_refl _))
     refine HK1.out _ _ ⟨Hq3.out, fun _ => trivial⟩ ?_
     clear HK1
     try simp only [putE]
     refine wpAnyX_one (i := 7) (o := ⟨some 102, _, _, _, _, none⟩) (by kernel_rfl) rfl (by rfl) (fun K1 hK1 => ?_)
     have HK1 := Lib.hid hK1; clear hK1
     refine oper_call (ts := _) (xs := #[.tmp 99, .tmp 101]) (f := 40) rfl (enters_of Try.func40 (by kernel_rfl) rfl) rfl (R := fun w' => Below wq3.heap.size wq3 w') (v := .bool b2) ((allow_cb b2E.out (HXB.out.below Hq3.out).law TB.out (SB.out.below hbwq3 (Nat.le_refl _)) HYS.out).mono (by rintro e w' ⟨rfl, h⟩; exact ⟨rfl, h⟩)) ?_
     rintro wq4 hbwq4
     have Hq4 := Lib.hid (btr Hq3.out hbwq4 (Nat.le_refl _))
     refine HK1.out _ _ ⟨Hq4.out, fun _ => trivial⟩ ?_
     clear HK1
     try simp only [putE]
     refine wpX_kp (i := 8) (oi := ⟨some 17, _, _, _, _, none⟩) (v := ?_) rfl (fun _ _ _ h => h) ?_ ⟨Hq4.out, fun _ => trivial⟩ ?_
     rotate_left
     ·intro U hU
      go_simp
      all_goals with_reducible rfl
     simp only [putE]
     refine wpX_kp (i := 9) (oi := ⟨some 18, _, _, _, _, none⟩) (v := ?_) rfl (fun _ _ _ h => h) ?_ ⟨Hq4.out, fun _ => trivial⟩ ?_
     rotate_left
     ·intro U hU
      go_simp
      all_goals with_reducible rfl
     simp only [putE]
     refine wpAnyX_done (by kernel_rfl) ?_ _
     exact FIN.out pSA pSB wq4 Hq4.out

    refine AllReadyX.cons (o := ⟨some 101, _, _, _, _, none⟩) rfl (by rfl) (fun K1 hK1 => ?_) AllReadyX.nil
    have HK1 := Lib.hid hK1; clear hK1
    have hK1 := HK1.out
    clear HK1
    go_simp
    obtain ⟨wq1, hwq⟩ : ∃ q, q = wq0.alloc (.cells #[.slice au ys.length cu] 40) := ⟨_, rfl⟩
    rw [← hwq]
    have hba : Below wq0.heap.size wq0 wq1 := by rw [hwq]; exact (Below.refl _ _).alloc (Nat.le_refl _) _
    have SB := Lib.hid (show SlII wq1 (.slice (some ⟨wq0.heap.size, 0, none⟩) 1 1) [ys] by rw [hwq]; exact slII_one (HSL.out.below Hq0.out (Nat.le_refl _)))
    have Hq1 := Lib.hid (btr Hq0.out hba (Nat.le_refl _))
    refine hK1 _ _ ⟨Hq1.out, fun _ => trivial⟩ ?_
    clear hK1 hwq
    have SBB := Lib.hid hba
    clear hba
    obtain ⟨pSB, hp⟩ : ∃ q, q = wq0.heap.size := ⟨_, rfl⟩
    rw [← hp] at SB ⊢
    clear hp
    try simp only [putE]
    refine wpAnyX_one (i := 2) (o := ⟨some 97, _, _, _, _, none⟩) (by kernel_rfl) rfl (by rfl) (fun K1 hK1 => ?_)
    have HK1 := Lib.hid hK1; clear hK1
    have hK1 := HK1.out
    clear HK1
    go_simp
    obtain ⟨wq2, hwq⟩ : ∃ q, q = wq1.alloc (.cells #[.slice au ys.length cu] 40) := ⟨_, rfl⟩
    rw [← hwq]
    have hba : Below wq1.heap.size wq1 wq2 := by rw [hwq]; exact (Below.refl _ _).alloc (Nat.le_refl _) _
    have SA := Lib.hid (show SlII wq2 (.slice (some ⟨wq1.heap.size, 0, none⟩) 1 1) [ys] by rw [hwq]; exact slII_one (HSL.out.below Hq1.out (Nat.le_refl _)))
    have Hq2 := Lib.hid (btr Hq1.out hba (Nat.le_refl _))
    refine hK1 _ _ ⟨Hq2.out, fun _ => trivial⟩ ?_
    clear hK1 hwq
    have SAB := Lib.hid hba
    clear hba
    obtain ⟨pSA, hp⟩ : ∃ q, q = wq1.heap.size := ⟨_, rfl⟩
    rw [← hp] at SA ⊢
    clear hp
    try simp only [putE]
    refine wpAnyX_one (i := 3) (o := ⟨some 98, _, _, _, _, none⟩) (by kernel_rfl) rfl (by rfl) (fun K1 hK1 => ?_)
    have HK1 := Lib.hid hK1; clear hK1
    refine oper_call (ts := _) (xs := #[.tmp 95, .tmp 97]) (f := 40) rfl (enters_of Try.func40 (by kernel_rfl) rfl) rfl (R := fun w' => Below wq2.heap.size wq2 w') (v := .bool b1) ((allow_cb b1E.out (HXA.out.below Hq2.out).law TA.out (SA.out) HYS.out).mono (by rintro e w' ⟨rfl, h⟩; exact ⟨rfl, h⟩)) ?_
    rintro wq3 hbwq3
    have Hq3 := Lib.hid (btr Hq2.out hbwq3 (Nat.le_refl _))
    refine HK1.out _ _ ⟨Hq3.out, fun _ => trivial⟩ ?_
    clear HK1
    try simp only [putE]
    refine wpAnyX_one (i := 7) (o := ⟨some 102, _, _, _, _, none⟩) (by kernel_rfl) rfl (by rfl) (fun K1 hK1 => ?_)
    have HK1 := Lib.hid hK1; clear hK1
    refine oper_call (ts := _) (xs := #[.tmp 99, .tmp 101]) (f := 40) rfl (enters_of Try.func40 (by kernel_rfl) rfl) rfl (R := fun w' => Below wq3.heap.size wq3 w') (v := .bool b2) ((allow_cb b2E.out (HXB.out.below Hq3.out).law TB.out ((SB.out.below SAB.out (Nat.le_refl _)).below hbwq3 (Nat.le_refl _)) HYS.out).mono (by rintro e w' ⟨rfl, h⟩; exact ⟨rfl, h⟩)) ?_
    rintro wq4 hbwq4
    have Hq4 := Lib.hid (btr Hq3.out hbwq4 (Nat.le_refl _))
    refine HK1.out _ _ ⟨Hq4.out, fun _ => trivial⟩ ?_
    clear HK1
    try simp only [putE]
    refine wpX_kp (i := 8) (oi := ⟨some 17, _, _, _, _, none⟩) (v := ?_) rfl (fun _ _ _ h => h) ?_ ⟨Hq4.out, fun _ => trivial⟩ ?_
    rotate_left
    ·intro U hU
     go_simp
     all_goals with_reducible rfl
    simp only [putE]
    refine wpX_kp (i := 9) (oi := ⟨some 18, _, _, _, _, none⟩) (v := ?_) rfl (fun _ _ _ h => h) ?_ ⟨Hq4.out, fun _ => trivial⟩ ?_
    rotate_left
    ·intro U hU
     go_simp
     all_goals with_reducible rfl
    simp only [putE]
    refine wpAnyX_done (by kernel_rfl) ?_ _
    exact FIN.out pSA pSB wq4 Hq4.out

   case key9 =>
    intro pSA pSB wq4 hfin
    replace HR := Lib.hid (btr HR.out hfin (Nat.le_refl _))
    have HF := Lib.hid hfin
    clear hfin
    replace HXA := Lib.hid (HXA.out.below HF.out)
    replace HXB := Lib.hid (HXB.out.below HF.out)
    replace HN7 := Lib.hid (HN7.out.below HF.out)
    replace HN9 := Lib.hid (HN9.out.below HF.out)
    replace HN11 := Lib.hid (HN11.out.below HF.out)
    replace HN13 := Lib.hid (HN13.out.below HF.out)
    replace HBo := Lib.hid (btr HBo.out HF.out (Nat.le_refl _))
    have HSL2 := Lib.hid (HSL.out.below HF.out (Nat.le_refl _))
    have hn := TN.out.2 _ HWY.out
    have hp := TP.out.2.1 _ HWY.out
    have hq := TQ.out.2.1 _ HWY.out
    rw [b1E.out] at hn
    rw [b1E.out, b2E.out] at hp hq
    have HNV := Lib.hid hn
    have HPV := Lib.hid hp
    have HQV := Lib.hid hq
    clear hn hp hq b1E b2E HSL HF
    cases b1 <;> cases b2 <;> simp only [Bool.not_true, Bool.not_false, Bool.and_true, Bool.and_false, Bool.or_true, Bool.or_false] at HNV HPV HQV
    all_goals go_wp2_with (first | (have _m := HV2; go_at_call 40; refine (allow_cb HQV.out (HN13.out.below (HV2.out.alloc HV2.out.size (.cells #[.slice au ys.length cu] 40))).law TQ.out.1 (slII_one (HSL2.out.below HV2.out (Nat.le_refl _))) HYS.out).mono ?_; rintro e wv3 ⟨rfl, hb⟩; have HV3 := Lib.hid (btr (HV2.out.alloc HV2.out.size (.cells #[.slice au ys.length cu] 40)) hb (Nat.le_refl _)); clear hb) | (have _m := HV2; refine wpList_load_blk rfl 25 (.tmp 13) rfl _ rfl (show _ from blk_keep HN13.out.blk HV2.out) Try.underlying25 rfl size25 rfl ?_) | (have _m := HV1; go_at_call 40; refine (allow_cb HPV.out (HN11.out.below (HV1.out.alloc HV1.out.size (.cells #[.slice au ys.length cu] 40))).law TP.out.1 (slII_one (HSL2.out.below HV1.out (Nat.le_refl _))) HYS.out).mono ?_; rintro e wv2 ⟨rfl, hb⟩; have HV2 := Lib.hid (btr (HV1.out.alloc HV1.out.size (.cells #[.slice au ys.length cu] 40)) hb (Nat.le_refl _)); clear hb) | (have _m := HV1; refine wpList_load_blk rfl 25 (.tmp 11) rfl _ rfl (show _ from blk_keep HN11.out.blk HV1.out) Try.underlying25 rfl size25 rfl ?_) | (go_at_call 40; refine (allow_cb HNV.out (HN7.out.below ((Below.refl wq4.heap.size wq4).alloc (Below.refl wq4.heap.size wq4).size (.cells #[.slice au ys.length cu] 40))).law TN.out.1 (slII_one (HSL2.out.below (Below.refl wq4.heap.size wq4) (Nat.le_refl _))) HYS.out).mono ?_; rintro e wv1 ⟨rfl, hb⟩; have HV1 := Lib.hid (btr ((Below.refl wq4.heap.size wq4).alloc (Below.refl wq4.heap.size wq4).size (.cells #[.slice au ys.length cu] 40)) hb (Nat.le_refl _)); clear hb) | (refine wpList_load_blk rfl 25 (.tmp 7) rfl _ rfl (show _ from blk_keep HN7.out.blk (Below.refl wq4.heap.size wq4)) Try.underlying25 rfl size25 rfl ?_))
    all_goals exact ⟨⟨k + 1, hkn, loop_v HWD.out.2 hkn, Lib.hid (btr HR.out HV3.out (Nat.le_refl _))⟩, loop_m HWD.out.2 hkn⟩
  ·have hki : ¬ (k : Int) < (LS.length : Int) := by omega
   replace HXA := Lib.hid (HXA.out.below HR.out)
   replace HXB := Lib.hid (HXB.out.below HR.out)
   replace HN7 := Lib.hid (HN7.out.below HR.out)
   replace HN9 := Lib.hid (HN9.out.below HR.out)
   replace HN11 := Lib.hid (HN11.out.below HR.out)
   replace HN13 := Lib.hid (HN13.out.below HR.out)
   replace HBw := Lib.hid (btr HBw.out HR.out (Nat.le_refl _))
   clear HR
   have TT := Lib.hid (leastL_tw TA.out).1
   have TNN := Lib.hid (notL_tw TN.out.1).1
   have EQ1 := Lib.hid (not_not TA.out)
   have EQ2 := Lib.hid (show andL lb la = andL la lb from join_ext TB.out TA.out (by decide) TA.out TB.out (by decide) fun w _ => Bool.and_comm _ _)
   have EQ3 := Lib.hid (show notL (andL la lb) = orL (notL la) (notL lb) from not_join TA.out TB.out (by decide) TN.out.1 TM.out.1 (by decide) fun w hw => by rw [TN.out.2 w hw, TM.out.2 w hw, Bool.not_and])
   have EQ4 := Lib.hid (show andL la (notL la) = lawN from (join_law TA.out TN.out.1 (by decide) lawN_tw.1 (f := fun a b => a && b) fun w hw => by rw [TN.out.2 w hw, lawN_tw.2 w hw, Bool.and_not_self]).trans least_N)
   have EQ5 := Lib.hid (show orL la (notL la) = lawE from (join_law TA.out TN.out.1 (by decide) lawE_tw.1 (f := fun a b => a || b) fun w hw => by rw [TN.out.2 w hw, lawE_tw.2 w hw, Bool.or_not_self]).trans least_E)
   go_wp2
   refine HK.out _ _ ?_; clear HK
   refine wp_seq_k (fun K hK => ?_)
   have HK := Lib.hid hK; clear hK
   go_wp2_with (first | (refine wpList_load_blk rfl 25 (.tmp 5) rfl _ rfl (show _ from blk_keep HXA.out.blk (Below.refl _ _)) Try.underlying25 rfl size25 rfl ?_) | (refine wpList_load_blk rfl 25 (.tmp 6) rfl _ rfl (show _ from blk_keep HXB.out.blk (Below.refl _ _)) Try.underlying25 rfl size25 rfl ?_) | (refine wpList_load_blk rfl 25 (.tmp 7) rfl _ rfl (show _ from blk_keep HN7.out.blk (Below.refl _ _)) Try.underlying25 rfl size25 rfl ?_) | (refine wpList_load_blk rfl 25 (.tmp 9) rfl _ rfl (show _ from blk_keep HN9.out.blk (Below.refl _ _)) Try.underlying25 rfl size25 rfl ?_) | (refine wpList_load_blk rfl 25 (.tmp 11) rfl _ rfl (show _ from blk_keep HN11.out.blk (Below.refl _ _)) Try.underlying25 rfl size25 rfl ?_) | (refine wpList_load_blk rfl 25 (.tmp 13) rfl _ rfl (show _ from blk_keep HN13.out.blk (Below.refl _ _)) Try.underlying25 rfl size25 rfl ?_) | (go_at_call 50; refine (least_c HXA.out.law TA.out).mono ?_; rintro e wc19 ⟨un19, ug19, rfl, hl, hb⟩; have HL := Lib.hid hl; have HC := Lib.hid hb; clear hl hb) | (refine wpList_store_blk rfl 25 _ _ rfl _ rfl rfl (heap_newI rfl) size25 rfl rfl HL.out.one ?_))
   refine HK.out _ _ ?_; clear HK
   generalize hw : World.putObj _ _ _ = ws19
   obtain ⟨hx, hb⟩ := storedA HL.out hw
   obtain ⟨gb19, hg⟩ : ∃ g, g = wc19.heap.size := ⟨_, rfl⟩
   rw [← hg] at hx ⊢
   have HN19 := Lib.hid hx
   have HD := Lib.hid (btr HC.out hb (Nat.le_refl _))
   clear hx hb hw hg HL HC
   replace HXA := Lib.hid (HXA.out.below HD.out)
   replace HXB := Lib.hid (HXB.out.below HD.out)
   replace HN7 := Lib.hid (HN7.out.below HD.out)
   replace HN9 := Lib.hid (HN9.out.below HD.out)
   replace HN11 := Lib.hid (HN11.out.below HD.out)
   replace HN13 := Lib.hid (HN13.out.below HD.out)
   replace HBw := Lib.hid (btr HBw.out HD.out (Nat.le_refl _))
   clear HD
   refine wp_seq_k (fun K hK => ?_)
   have HK := Lib.hid hK; clear hK
   go_wp2_with (first | (refine wpList_load_blk rfl 25 (.tmp 5) rfl _ rfl (show _ from blk_keep HXA.out.blk (Below.refl _ _)) Try.underlying25 rfl size25 rfl ?_) | (refine wpList_load_blk rfl 25 (.tmp 6) rfl _ rfl (show _ from blk_keep HXB.out.blk (Below.refl _ _)) Try.underlying25 rfl size25 rfl ?_) | (refine wpList_load_blk rfl 25 (.tmp 7) rfl _ rfl (show _ from blk_keep HN7.out.blk (Below.refl _ _)) Try.underlying25 rfl size25 rfl ?_) | (refine wpList_load_blk rfl 25 (.tmp 9) rfl _ rfl (show _ from blk_keep HN9.out.blk (Below.refl _ _)) Try.underlying25 rfl size25 rfl ?_) | (refine wpList_load_blk rfl 25 (.tmp 11) rfl _ rfl (show _ from blk_keep HN11.out.blk (Below.refl _ _)) Try.underlying25 rfl size25 rfl ?_) | (refine wpList_load_blk rfl 25 (.tmp 13) rfl _ rfl (show _ from blk_keep HN13.out.blk (Below.refl _ _)) Try.underlying25 rfl size25 rfl ?_) | (refine wpList_load_blk rfl 25 (.tmp 19) rfl _ rfl (show _ from blk_keep HN19.out.blk (Below.refl _ _)) Try.underlying25 rfl size25 rfl ?_) | (go_at_call 43; refine (not_c HN7.out.law TN.out.1).mono ?_; rintro e wc20 ⟨un20, ug20, rfl, hl, hb⟩; have HL := Lib.hid hl; have HC := Lib.hid hb; clear hl hb) | (refine wpList_store_blk rfl 25 _ _ rfl _ rfl rfl (heap_newI rfl) size25 rfl rfl HL.out.one ?_))
   refine HK.out _ _ ?_; clear HK
   generalize hw : World.putObj _ _ _ = ws20
   obtain ⟨hx, hb⟩ := storedA HL.out hw
   obtain ⟨gb20, hg⟩ : ∃ g, g = wc20.heap.size := ⟨_, rfl⟩
   rw [← hg] at hx ⊢
   have HN20 := Lib.hid hx
   have HD := Lib.hid (btr HC.out hb (Nat.le_refl _))
   clear hx hb hw hg HL HC
   replace HXA := Lib.hid (HXA.out.below HD.out)
   replace HXB := Lib.hid (HXB.out.below HD.out)
   replace HN7 := Lib.hid (HN7.out.below HD.out)
   replace HN9 := Lib.hid (HN9.out.below HD.out)
   replace HN11 := Lib.hid (HN11.out.below HD.out)
   replace HN13 := Lib.hid (HN13.out.below HD.out)
   replace HN19 := Lib.hid (HN19.out.below HD.out)
   replace HBw := Lib.hid (btr HBw.out HD.out (Nat.le_refl _))
   clear HD
   refine wp_seq_k (fun K hK => ?_)
   have HK := Lib.hid hK; clear hK
   go_wp2_with (first | (refine wpList_load_blk rfl 25 (.tmp 5) rfl _ rfl (show _ from blk_keep HXA.out.blk (Below.refl _ _)) Try.underlying25 rfl size25 rfl ?_) | (refine wpList_load_blk rfl 25 (.tmp 6) rfl _ rfl (show _ from blk_keep HXB.out.blk (Below.refl _ _)) Try.underlying25 rfl size25 rfl ?_) | (refine wpList_load_blk rfl 25 (.tmp 7) rfl _ rfl (show _ from blk_keep HN7.out.blk (Below.refl _ _)) Try.underlying25 rfl size25 rfl ?_) | (refine wpList_load_blk rfl 25 (.tmp 9) rfl _ rfl (show _ from blk_keep HN9.out.blk (Below.refl _ _)) Try.underlying25 rfl size25 rfl ?_) | (refine wpList_load_blk rfl 25 (.tmp 11) rfl _ rfl (show _ from blk_keep HN11.out.blk (Below.refl _ _)) Try.underlying25 rfl size25 rfl ?_) | (refine wpList_load_blk rfl 25 (.tmp 13) rfl _ rfl (show _ from blk_keep HN13.out.blk (Below.refl _ _)) Try.underlying25 rfl size25 rfl ?_) | (refine wpList_load_blk rfl 25 (.tmp 19) rfl _ rfl (show _ from blk_keep HN19.out.blk (Below.refl _ _)) Try.underlying25 rfl size25 rfl ?_) | (refine wpList_load_blk rfl 25 (.tmp 20) rfl _ rfl (show _ from blk_keep HN20.out.blk (Below.refl _ _)) Try.underlying25 rfl size25 rfl ?_) | (go_at_call 42; refine (both_c HXB.out.law HXA.out.law TB.out TA.out (by decide)).mono ?_; rintro e wc21 ⟨un21, ug21, rfl, hl, hb⟩; have HL := Lib.hid hl; have HC := Lib.hid hb; clear hl hb) | (refine wpList_store_blk rfl 25 _ _ rfl _ rfl rfl (heap_newI rfl) size25 rfl rfl HL.out.one ?_))
   refine HK.out _ _ ?_; clear HK
   generalize hw : World.putObj _ _ _ = ws21
   obtain ⟨hx, hb⟩ := storedA HL.out hw
   obtain ⟨gb21, hg⟩ : ∃ g, g = wc21.heap.size := ⟨_, rfl⟩
   rw [← hg] at hx ⊢
   have HN21 := Lib.hid hx
   have HD := Lib.hid (btr HC.out hb (Nat.le_refl _))
   clear hx hb hw hg HL HC
   replace HXA := Lib.hid (HXA.out.below HD.out)
   replace HXB := Lib.hid (HXB.out.below HD.out)
   replace HN7 := Lib.hid (HN7.out.below HD.out)
   replace HN9 := Lib.hid (HN9.out.below HD.out)
   replace HN11 := Lib.hid (HN11.out.below HD.out)
   replace HN13 := Lib.hid (HN13.out.below HD.out)
   replace HN19 := Lib.hid (HN19.out.below HD.out)
   replace HN20 := Lib.hid (HN20.out.below HD.out)
   replace HBw := Lib.hid (btr HBw.out HD.out (Nat.le_refl _))
   clear HD
   refine wp_seq_k (fun K hK => ?_)
   have HK := Lib.hid hK; clear hK
   go_wp2_with (first | (refine wpList_load_blk rfl 25 (.tmp 5) rfl _ rfl (show _ from blk_keep HXA.out.blk (Below.refl _ _)) Try.underlying25 rfl size25 rfl ?_) | (refine wpList_load_blk rfl 25 (.tmp 6) rfl _ rfl (show _ from blk_keep HXB.out.blk (Below.refl _ _)) Try.underlying25 rfl size25 rfl ?_) | (refine wpList_load_blk rfl 25 (.tmp 7) rfl _ rfl (show _ from blk_keep HN7.out.blk (Below.refl _ _)) Try.underlying25 rfl size25 rfl ?_) | (refine wpList_load_blk rfl 25 (.tmp 9) rfl _ rfl (show _ from blk_keep HN9.out.blk (Below.refl _ _)) Try.underlying25 rfl size25 rfl ?_) | (refine wpList_load_blk rfl 25 (.tmp 11) rfl _ rfl (show _ from blk_keep HN11.out.blk (Below.refl _ _)) Try.underlying25 rfl size25 rfl ?_) | (refine wpList_load_blk rfl 25 (.tmp 13) rfl _ rfl (show _ from blk_keep HN13.out.blk (Below.refl _ _)) Try.underlying25 rfl size25 rfl ?_) | (refine wpList_load_blk rfl 25 (.tmp 19) rfl _ rfl (show _ from blk_keep HN19.out.blk (Below.refl _ _)) Try.underlying25 rfl size25 rfl ?_) | (refine wpList_load_blk rfl 25 (.tmp 20) rfl _ rfl (show _ from blk_keep HN20.out.blk (Below.refl _ _)) Try.underlying25 rfl size25 rfl ?_) | (refine wpList_load_blk rfl 25 (.tmp 21) rfl _ rfl (show _ from blk_keep HN21.out.blk (Below.refl _ _)) Try.underlying25 rfl size25 rfl ?_) | (go_at_call 46; refine (either_c HN7.out.law HN9.out.law TN.out.1 TM.out.1 (by decide)).mono ?_; rintro e wc22 ⟨un22, ug22, rfl, hl, hb⟩; have HL := Lib.hid hl; have HC := Lib.hid hb; clear hl hb) | (refine wpList_store_blk rfl 25 _ _ rfl _ rfl rfl (heap_newI rfl) size25 rfl rfl HL.out.one ?_))
   refine HK.out _ _ ?_; clear HK
   generalize hw : World.putObj _ _ _ = ws22
   obtain ⟨hx, hb⟩ := storedA HL.out hw
   obtain ⟨gb22, hg⟩ : ∃ g, g = wc22.heap.size := ⟨_, rfl⟩
   rw [← hg] at hx ⊢
   have HN22 := Lib.hid hx
   have HD := Lib.hid (btr HC.out hb (Nat.le_refl _))
   clear hx hb hw hg HL HC
   replace HXA := Lib.hid (HXA.out.below HD.out)
   replace HXB := Lib.hid (HXB.out.below HD.out)
   replace HN7 := Lib.hid (HN7.out.below HD.out)
   replace HN9 := Lib.hid (HN9.out.below HD.out)
   replace HN11 := Lib.hid (HN11.out.below HD.out)
   replace HN13 := Lib.hid (HN13.out.below HD.out)
   replace HN19 := Lib.hid (HN19.out.below HD.out)
   replace HN20 := Lib.hid (HN20.out.below HD.out)
   replace HN21 := Lib.hid (HN21.out.below HD.out)
   replace HBw := Lib.hid (btr HBw.out HD.out (Nat.le_refl _))
   clear HD
   refine wp_seq_k (fun K hK => ?_)
   have HK := Lib.hid hK; clear hK
   go_wp2_with (first | (refine wpList_load_blk rfl 25 (.tmp 5) rfl _ rfl (show _ from blk_keep HXA.out.blk (Below.refl _ _)) Try.underlying25 rfl size25 rfl ?_) | (refine wpList_load_blk rfl 25 (.tmp 6) rfl _ rfl (show _ from blk_keep HXB.out.blk (Below.refl _ _)) Try.underlying25 rfl size25 rfl ?_) | (refine wpList_load_blk rfl 25 (.tmp 7) rfl _ rfl (show _ from blk_keep HN7.out.blk (Below.refl _ _)) Try.underlying25 rfl size25 rfl ?_) | (refine wpList_load_blk rfl 25 (.tmp 9) rfl _ rfl (show _ from blk_keep HN9.out.blk (Below.refl _ _)) Try.underlying25 rfl size25 rfl ?_) | (refine wpList_load_blk rfl 25 (.tmp 11) rfl _ rfl (show _ from blk_keep HN11.out.blk (Below.refl _ _)) Try.underlying25 rfl size25 rfl ?_) | (refine wpList_load_blk rfl 25 (.tmp 13) rfl _ rfl (show _ from blk_keep HN13.out.blk (Below.refl _ _)) Try.underlying25 rfl size25 rfl ?_) | (refine wpList_load_blk rfl 25 (.tmp 19) rfl _ rfl (show _ from blk_keep HN19.out.blk (Below.refl _ _)) Try.underlying25 rfl size25 rfl ?_) | (refine wpList_load_blk rfl 25 (.tmp 20) rfl _ rfl (show _ from blk_keep HN20.out.blk (Below.refl _ _)) Try.underlying25 rfl size25 rfl ?_) | (refine wpList_load_blk rfl 25 (.tmp 21) rfl _ rfl (show _ from blk_keep HN21.out.blk (Below.refl _ _)) Try.underlying25 rfl size25 rfl ?_) | (refine wpList_load_blk rfl 25 (.tmp 22) rfl _ rfl (show _ from blk_keep HN22.out.blk (Below.refl _ _)) Try.underlying25 rfl size25 rfl ?_) | (go_at_call 43; refine (not_c HN11.out.law TP.out.1).mono ?_; rintro e wc23 ⟨un23, ug23, rfl, hl, hb⟩; have HL := Lib.hid hl; have HC := Lib.hid hb; clear hl hb) | (refine wpList_store_blk rfl 25 _ _ rfl _ rfl rfl (heap_newI rfl) size25 rfl rfl HL.out.one ?_))
   refine HK.out _ _ ?_; clear HK
   generalize hw : World.putObj _ _ _ = ws23
   obtain ⟨hx, hb⟩ := storedA HL.out hw
   obtain ⟨gb23, hg⟩ : ∃ g, g = wc23.heap.size := ⟨_, rfl⟩
   rw [← hg] at hx ⊢
   have HN23 := Lib.hid hx
   have HD := Lib.hid (btr HC.out hb (Nat.le_refl _))
   clear hx hb hw hg HL HC
   replace HXA := Lib.hid (HXA.out.below HD.out)
   replace HXB := Lib.hid (HXB.out.below HD.out)
   replace HN7 := Lib.hid (HN7.out.below HD.out)
   replace HN9 := Lib.hid (HN9.out.below HD.out)
   replace HN11 := Lib.hid (HN11.out.below HD.out)
   replace HN13 := Lib.hid (HN13.out.below HD.out)
   replace HN19 := Lib.hid (HN19.out.below HD.out)
   replace HN20 := Lib.hid (HN20.out.below HD.out)
   replace HN21 := Lib.hid (HN21.out.below HD.out)
   replace HN22 := Lib.hid (HN22.out.below HD.out)
   replace HBw := Lib.hid (btr HBw.out HD.out (Nat.le_refl _))
   clear HD
   refine wp_seq_k (fun K hK => ?_)
   have HK := Lib.hid hK; clear hK
   go_wp2_with (first | (refine wpList_load_blk rfl 25 (.tmp 5) rfl _ rfl (show _ from blk_keep HXA.out.blk (Below.refl _ _)) Try.underlying25 rfl size25 rfl ?_) | (refine wpList_load_blk rfl 25 (.tmp 6) rfl _ rfl (show _ from blk_keep HXB.out.blk (Below.refl _ _)) Try.underlying25 rfl size25 rfl ?_) | (refine wpList_load_blk rfl 25 (.tmp 7) rfl _ rfl (show _ from blk_keep HN7.out.blk (Below.refl _ _)) Try.underlying25 rfl size25 rfl ?_) | (refine wpList_load_blk rfl 25 (.tmp 9) rfl _ rfl (show _ from blk_keep HN9.out.blk (Below.refl _ _)) Try.underlying25 rfl size25 rfl ?_) | (refine wpList_load_blk rfl 25 (.tmp 11) rfl _ rfl (show _ from blk_keep HN11.out.blk (Below.refl _ _)) Try.underlying25 rfl size25 rfl ?_) | (refine wpList_load_blk rfl 25 (.tmp 13) rfl _ rfl (show _ from blk_keep HN13.out.blk (Below.refl _ _)) Try.underlying25 rfl size25 rfl ?_) | (refine wpList_load_blk rfl 25 (.tmp 19) rfl _ rfl (show _ from blk_keep HN19.out.blk (Below.refl _ _)) Try.underlying25 rfl size25 rfl ?_) | (refine wpList_load_blk rfl 25 (.tmp 20) rfl _ rfl (show _ from blk_keep HN20.out.blk (Below.refl _ _)) Try.underlying25 rfl size25 rfl ?_) | (refine wpList_load_blk rfl 25 (.tmp 21) rfl _ rfl (show _ from blk_keep HN21.out.blk (Below.refl _ _)) Try.underlying25 rfl size25 rfl ?_) | (refine wpList_load_blk rfl 25 (.tmp 22) rfl _ rfl (show _ from blk_keep HN22.out.blk (Below.refl _ _)) Try.underlying25 rfl size25 rfl ?_) | (refine wpList_load_blk rfl 25 (.tmp 23) rfl _ rfl (show _ from blk_keep HN23.out.blk (Below.refl _ _)) Try.underlying25 rfl size25 rfl ?_) | (go_at_call 42; refine (both_c HXA.out.law HN7.out.law TA.out TN.out.1 (by decide)).mono ?_; rintro e wc25 ⟨un25, ug25, rfl, hl, hb⟩; have HL := Lib.hid hl; have HC := Lib.hid hb; clear hl hb) | (refine wpList_store_blk rfl 25 _ _ rfl _ rfl rfl (heap_newI rfl) size25 rfl rfl HL.out.one ?_))
   refine HK.out _ _ ?_; clear HK
   generalize hw : World.putObj _ _ _ = ws25
   obtain ⟨hx, hb⟩ := storedA HL.out hw
   obtain ⟨gb25, hg⟩ : ∃ g, g = wc25.heap.size := ⟨_, rfl⟩
   rw [← hg] at hx ⊢
   have HN25 := Lib.hid hx
   have HD := Lib.hid (btr HC.out hb (Nat.le_refl _))
   clear hx hb hw hg HL HC
   replace HXA := Lib.hid (HXA.out.below HD.out)
   replace HXB := Lib.hid (HXB.out.below HD.out)
   replace HN7 := Lib.hid (HN7.out.below HD.out)
   replace HN9 := Lib.hid (HN9.out.below HD.out)
   replace HN11 := Lib.hid (HN11.out.below HD.out)
   replace HN13 := Lib.hid (HN13.out.below HD.out)
   replace HN19 := Lib.hid (HN19.out.below HD.out)
   replace HN20 := Lib.hid (HN20.out.below HD.out)
   replace HN21 := Lib.hid (HN21.out.below HD.out)
   replace HN22 := Lib.hid (HN22.out.below HD.out)
   replace HN23 := Lib.hid (HN23.out.below HD.out)
   replace HBw := Lib.hid (btr HBw.out HD.out (Nat.le_refl _))
   clear HD
   refine wp_seq_k (fun K hK => ?_)
   have HK := Lib.hid hK; clear hK
   go_wp2_with (first | (refine wpList_load_blk rfl 25 (.tmp 5) rfl _ rfl (show _ from blk_keep HXA.out.blk (Below.refl _ _)) Try.underlying25 rfl size25 rfl ?_) | (refine wpList_load_blk rfl 25 (.tmp 6) rfl _ rfl (show _ from blk_keep HXB.out.blk (Below.refl _ _)) Try.underlying25 rfl size25 rfl ?_) | (refine wpList_load_blk rfl 25 (.tmp 7) rfl _ rfl (show _ from blk_keep HN7.out.blk (Below.refl _ _)) Try.underlying25 rfl size25 rfl ?_) | (refine wpList_load_blk rfl 25 (.tmp 9) rfl _ rfl (show _ from blk_keep HN9.out.blk (Below.refl _ _)) Try.underlying25 rfl size25 rfl ?_) | (refine wpList_load_blk rfl 25 (.tmp 11) rfl _ rfl (show _ from blk_keep HN11.out.blk (Below.refl _ _)) Try.underlying25 rfl size25 rfl ?_) | (refine wpList_load_blk rfl 25 (.tmp 13) rfl _ rfl (show _ from blk_keep HN13.out.blk (Below.refl _ _)) Try.underlying25 rfl size25 rfl ?_) | (refine wpList_load_blk rfl 25 (.tmp 19) rfl _ rfl (show _ from blk_keep HN19.out.blk (Below.refl _ _)) Try.underlying25 rfl size25 rfl ?_) | (refine wpList_load_blk rfl 25 (.tmp 20) rfl _ rfl (show _ from blk_keep HN20.out.blk (Below.refl _ _)) Try.underlying25 rfl size25 rfl ?_) | (refine wpList_load_blk rfl 25 (.tmp 21) rfl _ rfl (show _ from blk_keep HN21.out.blk (Below.refl _ _)) Try.underlying25 rfl size25 rfl ?_) | (refine wpList_load_blk rfl 25 (.tmp 22) rfl _ rfl (show _ from blk_keep HN22.out.blk (Below.refl _ _)) Try.underlying25 rfl size25 rfl ?_) | (refine wpList_load_blk rfl 25 (.tmp 23) rfl _ rfl (show _ from blk_keep HN23.out.blk (Below.refl _ _)) Try.underlying25 rfl size25 rfl ?_) | (refine wpList_load_blk rfl 25 (.tmp 25) rfl _ rfl (show _ from blk_keep HN25.out.blk (Below.refl _ _)) Try.underlying25 rfl size25 rfl ?_) | (go_at_call 46; refine (either_c HXA.out.law HN7.out.law TA.out TN.out.1 (by decide)).mono ?_; rintro e wc27 ⟨un27, ug27, rfl, hl, hb⟩; have HL := Lib.hid hl; have HC := Lib.hid hb; clear hl hb) | (refine wpList_store_blk rfl 25 _ _ rfl _ rfl rfl (heap_newI rfl) size25 rfl rfl HL.out.one ?_))
   refine HK.out _ _ ?_; clear HK
   generalize hw : World.putObj _ _ _ = ws27
   obtain ⟨hx, hb⟩ := storedA HL.out hw
   obtain ⟨gb27, hg⟩ : ∃ g, g = wc27.heap.size := ⟨_, rfl⟩
   rw [← hg] at hx ⊢
   have HN27 := Lib.hid hx
   have HD := Lib.hid (btr HC.out hb (Nat.le_refl _))
   clear hx hb hw hg HL HC
   replace HXA := Lib.hid (HXA.out.below HD.out)
   replace HXB := Lib.hid (HXB.out.below HD.out)
   replace HN7 := Lib.hid (HN7.out.below HD.out)
   replace HN9 := Lib.hid (HN9.out.below HD.out)
   replace HN11 := Lib.hid (HN11.out.below HD.out)
   replace HN13 := Lib.hid (HN13.out.below HD.out)
   replace HN19 := Lib.hid (HN19.out.below HD.out)
   replace HN20 := Lib.hid (HN20.out.below HD.out)
   replace HN21 := Lib.hid (HN21.out.below HD.out)
   replace HN22 := Lib.hid (HN22.out.below HD.out)
   replace HN23 := Lib.hid (HN23.out.below HD.out)
   replace HN25 := Lib.hid (HN25.out.below HD.out)
   replace HBw := Lib.hid (btr HBw.out HD.out (Nat.le_refl _))
   clear HD
   rw [EQ1.out] at HN20
   rw [EQ2.out] at HN21
   rw [EQ3.out] at HN23
   rw [EQ4.out] at HN25
   rw [EQ5.out] at HN27
   go_wp2_with (first | (have _m := HY5; go_at_call 20; refine (works_any _).mono ?_; rintro e wy6 ⟨rfl, hb⟩; have HY6 := Lib.hid (btr HY5.out hb (Nat.le_refl _)); clear hb) | (have _m := HY4; go_at_call 54; obtain ⟨c1, c2, c3, hBB, -⟩ := blkE3 (w := wy4) (a := .cells #[.int .i64 0, .int .i64 0] 3) (b := .cells #[.slice (some ⟨wy4.heap.size, 0, none⟩) 2 2] 40) (c := .cells #[.bool true] 4) rfl; have hBL := btr HY4.out hBB (Nat.le_refl _); refine (laws_c (HN27.out.below hBL).law (law1 c1 c2 c3)).mono ?_; rintro e wy5 ⟨rfl, hb⟩; have HY5 := Lib.hid (btr hBL hb (Nat.le_refl _)); clear hb hBL hBB c1 c2 c3) | (have _m := HY4; refine wpList_load_blk rfl 25 (.tmp 27) rfl _ rfl (show _ from blk_keep HN27.out.blk HY4.out) Try.underlying25 rfl size25 rfl ?_) | (have _m := HY3; go_at_call 54; obtain ⟨c1, c2, c3, hBB, -⟩ := blkE3 (w := wy3) (a := .cells #[.int .i64 0, .int .i64 0] 3) (b := .cells #[.slice (some ⟨wy3.heap.size, 0, none⟩) 2 2] 40) (c := .cells #[.bool false] 4) rfl; have hBL := btr HY3.out hBB (Nat.le_refl _); refine (laws_c (HN25.out.below hBL).law (law1 c1 c2 c3)).mono ?_; rintro e wy4 ⟨rfl, hb⟩; have HY4 := Lib.hid (btr hBL hb (Nat.le_refl _)); clear hb hBL hBB c1 c2 c3) | (have _m := HY3; refine wpList_load_blk rfl 25 (.tmp 25) rfl _ rfl (show _ from blk_keep HN25.out.blk HY3.out) Try.underlying25 rfl size25 rfl ?_) | (have _m := HY2; go_at_call 54; refine (laws_c (HN23.out.below HY2.out).law (HN22.out.below HY2.out).law).mono ?_; rintro e wy3 ⟨rfl, hb⟩; have HY3 := Lib.hid (btr HY2.out hb (Nat.le_refl _)); clear hb) | (have _m := HY2; refine wpList_load_blk rfl 25 (.tmp 23) rfl _ rfl (show _ from blk_keep HN23.out.blk HY2.out) Try.underlying25 rfl size25 rfl ?_) | (have _m := HY2; refine wpList_load_blk rfl 25 (.tmp 22) rfl _ rfl (show _ from blk_keep HN22.out.blk HY2.out) Try.underlying25 rfl size25 rfl ?_) | (have _m := HY1; go_at_call 54; refine (laws_c (HN21.out.below HY1.out).law (HN11.out.below HY1.out).law).mono ?_; rintro e wy2 ⟨rfl, hb⟩; have HY2 := Lib.hid (btr HY1.out hb (Nat.le_refl _)); clear hb) | (have _m := HY1; refine wpList_load_blk rfl 25 (.tmp 21) rfl _ rfl (show _ from blk_keep HN21.out.blk HY1.out) Try.underlying25 rfl size25 rfl ?_) | (have _m := HY1; refine wpList_load_blk rfl 25 (.tmp 11) rfl _ rfl (show _ from blk_keep HN11.out.blk HY1.out) Try.underlying25 rfl size25 rfl ?_) | (go_at_call 54; refine (laws_c (HN20.out.below (Below.refl _ _)).law (HN19.out.below (Below.refl _ _)).law).mono ?_; rintro e wy1 ⟨rfl, hb⟩; have HY1 := Lib.hid (hb); clear hb) | (refine wpList_load_blk rfl 25 (.tmp 20) rfl _ rfl (show _ from blk_keep HN20.out.blk (Below.refl _ _)) Try.underlying25 rfl size25 rfl ?_) | (refine wpList_load_blk rfl 25 (.tmp 19) rfl _ rfl (show _ from blk_keep HN19.out.blk (Below.refl _ _)) Try.underlying25 rfl size25 rfl ?_))
   go_ret
   exact ⟨rfl, btr HBw.out HY6.out (Nat.le_refl _)⟩
end Ytnjgglnpmhjmiaa
end Go.Proofs
