/- Laws of rotation: the reference: the first list that tells two states apart. -/
import Derived.Test.YtnjgglnpmhjmiaaSa
open Go Go.RowKit Go.YtnjgglnpmhjmiaaIt
open Rest
namespace Go.Proofs
namespace Ytnjgglnpmhjmiaa
theorem info101 : (Try.prog.info? 101).map (fun i => (i.zero, i.size, i.bytes)) = some (some (.agg #[.int .i64 0, .int .i64 0]), 2, 16) := by kernel_rfl
theorem size101 : (Try.prog.info? 101).map (·.size) = some 2 := by kernel_rfl
theorem theW_of {α : Type} [DecidableEq α] {x : RSys α} {L : List (α × List Nat)} (h : Walk x L) : theW x = L := theW_eq h
theorem okJ_key {la lb : Lw} (ha : la.Fit) (hb : lb.Fit) {s : P2} (h : okJ la lb s) : ∃ l, keyOf Try.prog 101 (encP s) = some l := keyP1 (by
 have h1 := h.1
 have h2 := h.2
 have h3 := ha.nM
 have h4 := hb.nM
 unfold Lw.st at h1 h2
 omega)
set_option maxRecDepth 100000 in
set_option maxHeartbeats 8000000 in
theorem rapart_any {va vb : Value} {la lb : Lw} {s1 s2 : Int} {w : World} (ha : LawA w va la) (hb : LawA w vb lb) (hoa : la.Ok) (hob : lb.Ok) (hk : la.k = lb.k) (hst : okJ la lb (s1, s2)) : Calls Try.prog 68 #[va, vb, .agg #[.int .i64 s1, .int .i64 s2]] w fun e w' => ∃ v, e = .returned (.tuple #[v, .bool (firstO (diffS la lb (s1, s2))).isSome]) ∧ SlI w' v (nI ((firstO (diffS la lb (s1, s2))).getD [])) ∧ (∀ g off n c, v = .slice (some ⟨g, off, none⟩) n c → w.heap.size ≤ g) ∧ Below w.heap.size w w' := by
 obtain ⟨L, hL, hlen, hokL⟩ := joint_walk hoa hob hk (fun a b => a != b) hst
 have HL := Lib.hid (show Walk (diffS la lb (s1, s2)) L from hL)
 have HOL := Lib.hid hokL
 have HFI := Lib.hid (show firstO (diffS la lb (s1, s2)) = (L.find? fun p => (diffS la lb (s1, s2)).gd p.1).map Prod.snd by unfold firstO; rw [theW_of HL.out])
 rw [HFI.out]
 have HOA := Lib.hid hoa.fit
 have HOB := Lib.hid hob.fit
 obtain ⟨an, ag, rfl, hna, hga⟩ := ha
 obtain ⟨bn, bg, rfl, hnb, hgb⟩ := hb
 obtain ⟨c1, c2, c3, hB1, hz1⟩ := blkE3 (w := w) (a := .cells #[an, ag] 29) (b := .cells #[bn, bg] 29) (c := .cells #[.int .i64 s1, .int .i64 s2] 101) rfl
 obtain ⟨w1, hw1⟩ : ∃ q, q = ((w.alloc (.cells #[an, ag] 29)).alloc (.cells #[bn, bg] 29)).alloc (.cells #[.int .i64 s1, .int .i64 s2] 101) := ⟨_, rfl⟩
 rw [← hw1] at c1 c2 c3 hB1 hz1
 have hXA : LawX w1 w.heap.size 29 la an ag := ⟨c1, hna.below hB1 (Nat.le_refl _), hga.below hB1 (Nat.le_refl _)⟩
 have hXB : LawX w1 (w.heap.size + 1) 29 lb bn bg := ⟨c2, hnb.below hB1 (Nat.le_refl _), hgb.below hB1 (Nat.le_refl _)⟩
 obtain ⟨an, cn1, rfl, -⟩ := slII_form hna
 obtain ⟨bn, cn2, rfl, -⟩ := slII_form hnb
 obtain ⟨ag, cg1, rfl, -⟩ := id hga
 obtain ⟨bg, cg2, rfl, -⟩ := id hgb
 rw [List.length_map, HOA.out.gd] at *
 rw [List.length_map, HOB.out.gd] at *
 obtain ⟨m1, hm1⟩ : ∃ m, m = la.nx.length := ⟨_, rfl⟩
 obtain ⟨m2, hm2⟩ : ∃ m, m = lb.nx.length := ⟨_, rfl⟩
 obtain ⟨kk, hkk⟩ : ∃ q, q = la.k := ⟨_, rfl⟩
 have HM1 := Lib.hid hm1
 have HM2 := Lib.hid hm2
 have HKQ := Lib.hid (And.intro hkk hk)
 have hk4 : kk ≤ 4 := by rw [hkk]; exact HOA.out.k4
 rw [← hm1] at hXA hw1 ⊢
 rw [← hm2] at hXB hw1 ⊢
 obtain ⟨g1, hg1⟩ : ∃ q, q = w.heap.size := ⟨_, rfl⟩
 obtain ⟨g2, hg2⟩ : ∃ q, q = w.heap.size + 1 := ⟨_, rfl⟩
 obtain ⟨g3, hg3⟩ : ∃ q, q = w.heap.size + 1 + 1 := ⟨_, rfl⟩
 have HW := Lib.hid (And.intro hw1 (And.intro hg1 (And.intro hg2 hg3)))
 rw [← hg1] at hXA
 rw [← hg2] at hXB
 rw [← hg3] at c3
 have HXA := Lib.hid hXA
 have HXB := Lib.hid hXB
 have HC3 := Lib.hid c3
 have HB1 := Lib.hid (show Below g1 w w1 by rw [hg1]; exact hB1)
 have HGW := Lib.hid (show w.heap.size = g1 ∧ g2 = g1 + 1 ∧ g3 = g1 + 2 ∧ w1.heap.size = g1 + 3 by omega)
 have HK5 : Hid (∀ W, Below w1.heap.size w1 W → Calls Try.prog 65 #[.agg #[.slice an m1 cn1, .slice ag m1 cg1]] W fun e w' => e = .returned (.int .i64 (kk : Nat)) ∧ Below W.heap.size W w') := Lib.hid fun W hW => by rw [hkk]; exact rcrops_any (HXA.out.below hW).law HOA.out.ne
 have hbst : (-1000000 ≤ s1 ∧ s1 ≤ 1000000) ∧ -1000000 ≤ s2 ∧ s2 ≤ 1000000 := by
  have h1 := hst.1
  have h2 := hst.2
  have h3 := HOA.out.nM
  have h4 := HOB.out.nM
  unfold Lw.st at h1 h2
  simp only at h1 h2
  omega
 have hmm := @run_makeMap Try.prog
 clear hna hga hnb hgb hXA hXB hB1 hw1 hg1 hg2 hg3 c1 c2 c3 hz1 hkk hk hm1 hm2 hoa hob hL hokL
 go_enter Try.func68, Try.ntmps68
 refine wp_seq_k (fun K hK => ?_)
 have HK := Lib.hid hK; clear hK
 go_wp2
 refine HK.out _ _ ?_; clear HK
 rw [← HW.out.1, ← HW.out.2.2.2, ← HW.out.2.2.1, ← HW.out.2.1]
 refine wp_seq_k (fun K hK => ?_)
 have HK := Lib.hid hK; clear hK
 go_wp2_with (refine wpList_load_blk rfl 101 _ rfl _ rfl HC3.out Try.underlying101 rfl size101 rfl ?_)
 refine HK.out _ _ ?_; clear HK
 obtain ⟨q1, q2, q3, hB2, hz2⟩ := blkE3 (w := w1) (a := .cells #[.int .i64 s1, .int .i64 s2] 101) (b := .cells #[] 3) (c := .cells #[.slice (some ⟨w1.heap.size + 1, 0, none⟩) 0 0] 40) rfl
 obtain ⟨w2, hw2⟩ : ∃ q, q = ((w1.alloc (.cells #[.int .i64 s1, .int .i64 s2] 101)).alloc (.cells #[] 3)).alloc (.cells #[.slice (some ⟨w1.heap.size + 1, 0, none⟩) 0 0] 40) := ⟨_, rfl⟩
 rw [← hw2] at q1 q2 q3 hB2 hz2 ⊢
 obtain ⟨bs, hbs⟩ : ∃ q, q = w1.heap.size := ⟨_, rfl⟩
 have HB2 := Lib.hid hB2
 rw [← hbs] at q1 q2 q3 hz2 ⊢

 have HZ2 := Lib.hid (show bs + 3 = w2.heap.size ∧ bs = w1.heap.size from ⟨hz2.symm, hbs⟩)
 have HC3' := Lib.hid (blk_keep HC3.out hB2)
 clear hw2 hB2 hz2 hbs
 obtain ⟨om, hins, hmap⟩ := (mapF_new encP w2 0).update (P := Try.prog) (t := 131) (k := 101) (e := 4) keyed101 Try.underlying131 encP_inj (fun s v h => by cases h) (s := (s1, s2)) (keyP1 hbst) (.bool true)
 refine wp_seq_k (fun K hK => ?_)
 have HK := Lib.hid hK; clear hK
 have HQ := Lib.hid (And.intro q1 (And.intro q2 (And.intro q3 hmap)))
 clear q1 q2 q3 hmap
 have hc3 : ∀ o, (w2.alloc o).heap[g3]? = some (.cells #[.int .i64 s1, .int .i64 s2] 101 (0, 0)) := fun o => blk_keep HC3'.out ((Below.refl _ _).alloc (Nat.le_refl _) o)
 go_wp2_with (refine wpList_load_blk rfl 101 _ rfl _ rfl (hc3 _) Try.underlying101 rfl size101 rfl ?_)
 refine HK.out _ _ ?_; clear HK
 obtain ⟨w3, hw3⟩ : ∃ q, q = (w2.alloc (.map #[] 0)).putObj w2.heap.size om := ⟨_, rfl⟩
 rw [← hw3]
 have hb23 : Below w2.heap.size w2 w3 := by rw [hw3]; exact below_putObj ((Below.refl _ _).alloc (Nat.le_refl _) _) (Nat.le_refl _)
 obtain ⟨q1, q2, q3, hmap⟩ := HQ.out
 rw [← hw3] at hmap
 obtain ⟨gm, hgm⟩ : ∃ q, q = w2.heap.size := ⟨_, rfl⟩
 rw [← hgm] at hmap ⊢
 have q1 := blk_keep q1 hb23
 have q2 := blk_keep q2 hb23
 have q3 := blk_keep q3 hb23
 have hbg : bs ≤ gm := by have := HZ2.out; omega
 have hB3 : Below bs w1 w3 := by
  have := HZ2.out
  rw [show bs = w1.heap.size from this.2]
  exact HB2.out.trans (hb23.mono (by omega))
 have hA0 : AJ bs gm (fun i => i = bs + 1) w3 (.slice (some ⟨bs, 0, none⟩) 1 1) (.slice (some ⟨bs + 1 + 1, 0, none⟩) 1 1) ((after (diffS la lb (s1, s2)) 0).map Prod.fst) [.slice (some ⟨bs + 1, 0, none⟩) 0 0] (wordsP (after (diffS la lb (s1, s2)) 0)) (after (diffS la lb (s1, s2)) 0).length (Mq (after (diffS la lb (s1, s2)) 0)) := {
  o8 := ⟨by simp [after, e2], .inr ⟨bs, 1, _, rfl, Nat.le_refl _, q1, Nat.le_refl _, by decide, rfl, by simp [after, e2, diffS, jointS]⟩⟩
  o9 := ⟨by simp, .inr ⟨bs + 1 + 1, 1, _, rfl, by omega, q3, Nat.le_refl _, by decide, rfl, by simp⟩⟩
  r9 := Rws.push (Rws.nil _ _) (v := .slice (some ⟨bs + 1, 0, none⟩) 0 0) (l := []) ⟨_, _, rfl, by simp, by simp, fun h => by simp at h⟩ (fun g off n c e => by injection e with e _ _; injection e with e; injection e with e _ _; exact e.symm)
  map := hmap.congr fun s => by
   show Mq [((s1, s2), [])] s = _
   rw [show ([((s1, s2), [])] : List (P2 × List Nat)) = [] ++ [((s1, s2), [])] from rfl, Mq_push]
   rfl
  zt := fun i hi => by subst hi; exact ⟨by omega, _, q2⟩ }
 have HA0 := Lib.hid (And.intro hA0 hB3)
 clear hA0 hB3 q1 q2 q3 hmap hb23 hw3 HQ hgm hins hc3 hmm
 go_wp2
 go_loopw [8, 9, 11] (fun v8 v9 i wr => ∃ (k : Nat) (Z : Nat → Prop) (vs : List Value) (a8 : Option Addr) (c8 : Nat), k ≤ L.length ∧ i = .int .i64 k ∧ v8 = .slice a8 (after (diffS la lb (s1, s2)) k).length c8 ∧ Hid (AJ bs gm Z wr v8 v9 ((after (diffS la lb (s1, s2)) k).map Prod.fst) vs (wordsP (after (diffS la lb (s1, s2)) k)) (after (diffS la lb (s1, s2)) k).length (Mq (after (diffS la lb (s1, s2)) k)) ∧ Below bs w1 wr ∧ ∀ j (h : j < L.length), j < k → (diffS la lb (s1, s2)).gd L[j].1 = false)) (fun _ _ i _ => L.length - (intOf i).toNat)
 case atStart => exact ⟨0, _, _, _, _, Nat.zero_le _, rfl, rfl, Lib.hid ⟨HA0.out.1, HA0.out.2, fun j _ h => absurd h (by omega)⟩⟩
 case round =>
  clear HA0
  obtain ⟨k, Z, vs, a8, c8, hk, rfl, rfl, HA1⟩ := hrel
  obtain ⟨wo, rfl⟩ : ∃ q, q = wr := ⟨_, rfl⟩
  obtain ⟨N, hN⟩ : ∃ N, N = (after (diffS la lb (s1, s2)) k).length := ⟨_, rfl⟩
  rw [← hN] at HA1 ⊢
  have HN := Lib.hid hN
  clear hN
  by_cases hkn : k < L.length
  ·have hkN : k < N := by rw [HN.out]; exact HL.out.lt hkn
   have hki : (k : Int) < (N : Int) := by omega
   obtain ⟨hA1, hBo, hno⟩ := HA1.out
   obtain ⟨g8, c8', e8, hbg8, hg8, x0, x1⟩ := hA1.pair (k := k) (by rw [List.length_map, ← HN.out]; exact hkN)
   rw [List.length_map, ← HN.out] at e8
   injection e8 with e81 _ e83
   subst e81 e83
   have hLk : ((after (diffS la lb (s1, s2)) k).map Prod.fst)[k]'(by rw [List.length_map, ← HN.out]; exact hkN) = L[k].1 := by
    have h1 := HL.out.at_ hkn
    rw [List.getElem?_eq_getElem (by rw [← HN.out]; exact hkN)] at h1
    rw [List.getElem_map, Option.some.inj h1]
   rw [hLk] at x0 x1
   obtain ⟨hs1, hs2⟩ := HOL.out L[k] (List.getElem_mem hkn)
   obtain ⟨n1, hn1, hl1⟩ := hs1.nat
   obtain ⟨n2, hn2, hl2⟩ := hs2.nat
   rw [hn1] at x0
   rw [hn2] at x1
   have hBo2 : Below w1.heap.size w1 wo := by rw [← HZ2.out.2]; exact hBo
   obtain ⟨ba, oa, cga, ea, hba, hca⟩ := HXA.out.gdF HOA.out hl1
   rw [← HM1.out] at ea
   injection ea with ea _ ea3
   subst ea ea3
   obtain ⟨bb, ob, cgb, eb, hbb, hcb⟩ := HXB.out.gdF HOB.out hl2
   rw [← HM2.out] at eb
   injection eb with eb _ eb3
   subst eb eb3
   obtain ⟨da, hda⟩ : ∃ q, q = la.good (n1 : Int) := ⟨_, rfl⟩
   obtain ⟨db, hdb⟩ : ∃ q, q = lb.good (n2 : Int) := ⟨_, rfl⟩
   rw [← hda] at hca
   rw [← hdb] at hcb
   have hgd : (diffS la lb (s1, s2)).gd L[k].1 = (da != db) := by
    show (la.good L[k].1.1 != lb.good L[k].1.2) = _
    rw [hn1, hn2, hda, hdb]
   have hlm1 : (n1 : Int) < (m1 : Int) := by rw [HM1.out]; omega
   have hlm2 : (n2 : Int) < (m2 : Int) := by rw [HM2.out]; omega
   have HN1 := Lib.hid (And.intro hn1 (And.intro hn2 (And.intro hl1 hl2)))
   have HGD := Lib.hid hgd
   have HNO := Lib.hid (And.intro hA1 (And.intro hBo hno))
   have HXo := Lib.hid (And.intro (HXA.out.below hBo2) (HXB.out.below hBo2))
   have HDA := Lib.hid (And.intro (Nat.lt_of_lt_of_le hba hBo2.size) ((hBo2.cell (p := ⟨ba, oa + n1, none⟩) hba).trans hca))
   have HDB := Lib.hid (And.intro (Nat.lt_of_lt_of_le hbb hBo2.size) ((hBo2.cell (p := ⟨bb, ob + n2, none⟩) hbb).trans hcb))
   clear hA1 hBo hno hLk hs1 hs2 hn1 hn2 hl1 hl2 hBo2 hba hca hbb hcb hda hdb hgd HA1
   go_wp2
   obtain ⟨w6, hw6⟩ : ∃ q, q = wo.alloc (.cells #[.int .i64 n1, .int .i64 n2] 101) := ⟨_, rfl⟩
   rw [← hw6]
   have hB6 : Below wo.heap.size wo w6 := by rw [hw6]; exact (Below.refl _ _).alloc (Nat.le_refl _) _
   have hP6 : w6.heap[wo.heap.size]? = some (.cells #[.int .i64 n1, .int .i64 n2] 101 (0, 0)) := by rw [hw6]; exact heap_newI rfl
   obtain ⟨g12, hg12⟩ : ∃ q, q = wo.heap.size := ⟨_, rfl⟩
   rw [← hg12] at hP6 ⊢
   have HP6 := Lib.hid hP6
   have HX6 := Lib.hid (And.intro (HXo.out.1.below hB6) (HXo.out.2.below hB6))
   have HD6 := Lib.hid (And.intro (Nat.lt_of_lt_of_le HDA.out.1 hB6.size) ((hB6.cell (p := ⟨ba, oa + n1, none⟩) HDA.out.1).trans HDA.out.2))
   have HD7 := Lib.hid (And.intro (Nat.lt_of_lt_of_le HDB.out.1 hB6.size) ((hB6.cell (p := ⟨bb, ob + n2, none⟩) HDB.out.1).trans HDB.out.2))
   have HB6 := Lib.hid (And.intro hB6 hg12)
   clear hP6 hB6 hw6 hg12 HDA HDB HXo x0 x1
   refine wp_region_x (R := fun U => Below w6.heap.size w6 U) (S := fun _ => True) (z := 999) rfl ?_
   change wpAnyX _ _ _ _ _ _ _ _ _ _ w6.drew
   have Hq0 := Lib.hid (show Below w6.heap.size w6 w6.drew from (Below.refl _ _).drew)
   obtain ⟨wq0, hwq⟩ : ∃ q, q = w6.drew := ⟨_, rfl⟩
   rw [← hwq] at Hq0 ⊢
   clear hwq
   refine wpAnyX_keep (i := 0) (oi := ⟨some 32, _, _, _, _, none⟩) (v := ?_) rfl (by kernel_rfl) (by kernel_rfl) (by kernel_rfl) (fun _ _ _ h => h) (Or.inl ⟨by rfl, ?_⟩) ⟨(by first | exact Hq4.out | exact Hq3.out | exact Hq2.out | exact Hq1.out | exact Hq0.out), fun _ => trivial⟩ ?_
   rotate_left
   ·intro U hU
    go_simp
    all_goals with_reducible rfl
   simp only [Act.put, List.setIfInBounds_toArray, List.set_cons_zero, List.set_cons_succ]
   refine wpAnyX_keep (i := 1) (oi := ⟨some 33, _, _, _, _, none⟩) (v := ?_) rfl (by kernel_rfl) (by kernel_rfl) (by kernel_rfl) (fun _ _ _ h => h) (Or.inl ⟨by rfl, ?_⟩) ⟨(by first | exact Hq4.out | exact Hq3.out | exact Hq2.out | exact Hq1.out | exact Hq0.out), fun _ => trivial⟩ ?_
   rotate_left
   ·intro U hU
    have u0 := cell_blk (i := 1) (blk_keep HX6.out.1.blk hU)
    simp only [List.getElem?_toArray, List.getElem?_cons_zero, List.getElem?_cons_succ] at u0
    go_simp
    all_goals with_reducible rfl
   simp only [Act.put, List.setIfInBounds_toArray, List.set_cons_zero, List.set_cons_succ]
   refine wpAnyX_keep (i := 2) (oi := ⟨some 34, _, _, _, _, none⟩) (v := ?_) rfl (by kernel_rfl) (by kernel_rfl) (by kernel_rfl) (fun _ _ _ h => h) (Or.inl ⟨by rfl, ?_⟩) ⟨(by first | exact Hq4.out | exact Hq3.out | exact Hq2.out | exact Hq1.out | exact Hq0.out), fun _ => trivial⟩ ?_
   rotate_left
   ·intro U hU
    go_simp
    all_goals with_reducible rfl
   simp only [Act.put, List.setIfInBounds_toArray, List.set_cons_zero, List.set_cons_succ]
   refine wpAnyX_keep (i := 3) (oi := ⟨some 35, _, _, _, _, none⟩) (v := ?_) rfl (by kernel_rfl) (by kernel_rfl) (by kernel_rfl) (fun _ _ _ h => h) (Or.inl ⟨by rfl, ?_⟩) ⟨(by first | exact Hq4.out | exact Hq3.out | exact Hq2.out | exact Hq1.out | exact Hq0.out), fun _ => trivial⟩ ?_
   rotate_left
   ·intro U hU
    have u0 := cell_blk (i := 0) (blk_keep HP6.out hU)
    simp only [List.getElem?_toArray, List.getElem?_cons_zero] at u0
    go_simp
    all_goals with_reducible rfl
   simp only [Act.put, List.setIfInBounds_toArray, List.set_cons_zero, List.set_cons_succ]
   refine wpAnyX_keep (i := 4) (oi := ⟨some 36, _, _, _, _, none⟩) (v := ?_) rfl (by kernel_rfl) (by kernel_rfl) (by kernel_rfl) (fun _ _ _ h => h) (Or.inl ⟨by rfl, ?_⟩) ⟨(by first | exact Hq4.out | exact Hq3.out | exact Hq2.out | exact Hq1.out | exact Hq0.out), fun _ => trivial⟩ ?_
   rotate_left
   ·intro U hU
    go_simp
    all_goals with_reducible rfl
   simp only [Act.put, List.setIfInBounds_toArray, List.set_cons_zero, List.set_cons_succ]
   refine wpAnyX_keep (i := 5) (oi := ⟨some 37, _, _, _, _, none⟩) (v := ?_) rfl (by kernel_rfl) (by kernel_rfl) (by kernel_rfl) (fun _ _ _ h => h) (Or.inl ⟨by rfl, ?_⟩) ⟨(by first | exact Hq4.out | exact Hq3.out | exact Hq2.out | exact Hq1.out | exact Hq0.out), fun _ => trivial⟩ ?_
   rotate_left
   ·intro U hU
    have u0 := (hU.cell (p := ⟨ba, oa + n1, none⟩) HD6.out.1).trans HD6.out.2
    go_simp
    all_goals with_reducible rfl
   simp only [Act.put, List.setIfInBounds_toArray, List.set_cons_zero, List.set_cons_succ]
   refine wpAnyX_keep (i := 6) (oi := ⟨some 38, _, _, _, _, none⟩) (v := ?_) rfl (by kernel_rfl) (by kernel_rfl) (by kernel_rfl) (fun _ _ _ h => h) (Or.inl ⟨by rfl, ?_⟩) ⟨(by first | exact Hq4.out | exact Hq3.out | exact Hq2.out | exact Hq1.out | exact Hq0.out), fun _ => trivial⟩ ?_
   rotate_left
   ·intro U hU
    go_simp
    all_goals with_reducible rfl
   simp only [Act.put, List.setIfInBounds_toArray, List.set_cons_zero, List.set_cons_succ]
   refine wpAnyX_keep (i := 7) (oi := ⟨some 39, _, _, _, _, none⟩) (v := ?_) rfl (by kernel_rfl) (by kernel_rfl) (by kernel_rfl) (fun _ _ _ h => h) (Or.inl ⟨by rfl, ?_⟩) ⟨(by first | exact Hq4.out | exact Hq3.out | exact Hq2.out | exact Hq1.out | exact Hq0.out), fun _ => trivial⟩ ?_
   rotate_left
   ·intro U hU
    have u0 := cell_blk (i := 1) (blk_keep HX6.out.2.blk hU)
    simp only [List.getElem?_toArray, List.getElem?_cons_zero, List.getElem?_cons_succ] at u0
    go_simp
    all_goals with_reducible rfl
   simp only [Act.put, List.setIfInBounds_toArray, List.set_cons_zero, List.set_cons_succ]
   refine wpAnyX_keep (i := 8) (oi := ⟨some 40, _, _, _, _, none⟩) (v := ?_) rfl (by kernel_rfl) (by kernel_rfl) (by kernel_rfl) (fun _ _ _ h => h) (Or.inl ⟨by rfl, ?_⟩) ⟨(by first | exact Hq4.out | exact Hq3.out | exact Hq2.out | exact Hq1.out | exact Hq0.out), fun _ => trivial⟩ ?_
   rotate_left
   ·intro U hU
    go_simp
    all_goals with_reducible rfl
   simp only [Act.put, List.setIfInBounds_toArray, List.set_cons_zero, List.set_cons_succ]
   refine wpAnyX_keep (i := 9) (oi := ⟨some 41, _, _, _, _, none⟩) (v := ?_) rfl (by kernel_rfl) (by kernel_rfl) (by kernel_rfl) (fun _ _ _ h => h) (Or.inl ⟨by rfl, ?_⟩) ⟨(by first | exact Hq4.out | exact Hq3.out | exact Hq2.out | exact Hq1.out | exact Hq0.out), fun _ => trivial⟩ ?_
   rotate_left
   ·intro U hU
    have u0 := cell_blk (i := 1) (blk_keep HP6.out hU)
    simp only [List.getElem?_toArray, List.getElem?_cons_zero, List.getElem?_cons_succ] at u0
    go_simp
    all_goals with_reducible rfl
   simp only [Act.put, List.setIfInBounds_toArray, List.set_cons_zero, List.set_cons_succ]
   refine wpAnyX_keep (i := 10) (oi := ⟨some 42, _, _, _, _, none⟩) (v := ?_) rfl (by kernel_rfl) (by kernel_rfl) (by kernel_rfl) (fun _ _ _ h => h) (Or.inl ⟨by rfl, ?_⟩) ⟨(by first | exact Hq4.out | exact Hq3.out | exact Hq2.out | exact Hq1.out | exact Hq0.out), fun _ => trivial⟩ ?_
   rotate_left
   ·intro U hU
    go_simp
    all_goals with_reducible rfl
   simp only [Act.put, List.setIfInBounds_toArray, List.set_cons_zero, List.set_cons_succ]
   refine wpAnyX_keep (i := 11) (oi := ⟨some 43, _, _, _, _, none⟩) (v := ?_) rfl (by kernel_rfl) (by kernel_rfl) (by kernel_rfl) (fun _ _ _ h => h) (Or.inl ⟨by rfl, ?_⟩) ⟨(by first | exact Hq4.out | exact Hq3.out | exact Hq2.out | exact Hq1.out | exact Hq0.out), fun _ => trivial⟩ ?_
   rotate_left
   ·intro U hU
    have u0 := (hU.cell (p := ⟨bb, ob + n2, none⟩) HD7.out.1).trans HD7.out.2
    go_simp
    all_goals with_reducible rfl
   simp only [Act.put, List.setIfInBounds_toArray, List.set_cons_zero, List.set_cons_succ]
   refine wpAnyX_keep (i := 12) (oi := ⟨some 44, _, _, _, _, none⟩) (v := ?_) rfl (by kernel_rfl) (by kernel_rfl) (by kernel_rfl) (fun _ _ _ h => h) (Or.inl ⟨by rfl, ?_⟩) ⟨(by first | exact Hq4.out | exact Hq3.out | exact Hq2.out | exact Hq1.out | exact Hq0.out), fun _ => trivial⟩ ?_
   rotate_left
   ·intro U hU
    go_simp
    all_goals with_reducible rfl
   simp only [Act.put, List.setIfInBounds_toArray, List.set_cons_zero, List.set_cons_succ]
   refine wpAnyX_done (by kernel_rfl) ?_ _
   have hbq : Below wo.heap.size wo wq0 := btr HB6.out.1 Hq0.out (Nat.le_refl _)
   have hAq := HNO.out.1.quiet hbq
   have hBq : Below bs w1 wq0 := btr HNO.out.2.1 hbq (Nat.le_of_eq HZ2.out.2)
   have hvl : vs.length = N := by rw [hAq.r9.1]; unfold wordsP; rw [List.length_map, ← HN.out]
   have hN16 : N ≤ 1600 := by rw [HN.out]; exact Nat.le_trans (after_sub HL.out k).length_le hlen
   obtain ⟨a9, c9, e9, -⟩ := own_form hAq.o9
   rw [hvl] at e9
   subst e9
   obtain ⟨d, hd⟩ : ∃ q, q = (!(da == db)) := ⟨_, rfl⟩
   rw [← hd]
   have HD := Lib.hid (show (diffS la lb (s1, s2)).gd L[k].1 = d by rw [HGD.out, hd]; rfl)
   have HAQ := Lib.hid (And.intro hAq (And.intro hBq (And.intro hvl hN16)))
   clear hd HGD hbq hAq hBq hvl
   cases d
   case true =>
    obtain ⟨hAq, hBq, hvl, -⟩ := HAQ.out
    have hkv : k < vs.length := by omega
    have hs9 := slV_own hAq.o9 rfl (by omega)
    obtain ⟨ad6, cap6, e66, -, -, hcc6⟩ := hs9
    obtain ⟨b6, off6, rfl6, hb6, hcell6⟩ := hcc6 (by omega)
    injection e66 with e1 e2 e3
    rw [rfl6] at e1
    subst e1
    have x6 := hcell6 k hkv
    obtain ⟨hsw, hzw⟩ := hAq.r9.2.2 k hkv (by unfold wordsP; rw [List.length_map, ← HN.out]; omega)
    have hword : (wordsP (after (diffS la lb (s1, s2)) k))[k]'(by unfold wordsP; rw [List.length_map, ← HN.out]; omega) = nI L[k].2 := by
     unfold wordsP
     rw [List.getElem_map]
     have h1 := HL.out.at_ hkn
     rw [List.getElem?_eq_getElem (by rw [← HN.out]; exact hkN)] at h1
     rw [Option.some.inj h1]
    rw [hword] at hsw
    obtain ⟨ay, cy, ey⟩ := slI_form hsw
    rw [ey] at x6 hsw
    have HSW := Lib.hid (And.intro hsw (And.intro ey hzw))
    have hzA := hAq.zt
    have HZA := Lib.hid hzA
    obtain ⟨wl, hwl⟩ : ∃ q, q = (nI L[k].2).length := ⟨_, rfl⟩
    rw [← hwl] at x6 ey HSW
    clear hAq hBq hvl e2 e3 rfl6 hcell6 hcc6 hsw hzw hword hzA ey hwl
    go_wp2
    have hfd : (L.find? fun p => (diffS la lb (s1, s2)).gd p.1) = some L[k] := find_at hkn (fun i hi => HNO.out.2.2 i (by omega) hi) HD.out
    rw [hfd]
    refine bodyPost_ret (results_tmp2 rfl _ _ _) rfl ⟨_, rfl, HSW.out.1, ?_, ?_⟩
    ·intro g off n c e
     have h1 := (HZA.out g (HSW.out.2.2 g off n c (by rw [HSW.out.2.1]; exact e))).1
     have := HGW.out
     have := HZ2.out.2
     omega
    ·exact HB1.out.trans (HAQ.out.2.1.mono (by have := HGW.out; have := HZ2.out.2; omega))
   case false =>
    have hB12 : wq0.heap[g12]? = some (.cells #[.int .i64 n1, .int .i64 n2] 101 (0, 0)) := blk_keep HP6.out Hq0.out
    have hne12 : (Value.slice (some ⟨g8, 0, none⟩) N c8).ownBlock ≠ some g12 := fun e => by
     have e2 : some g8 = some g12 := e
     injection e2 with e2
     have := HB6.out.2
     omega
    have HIN := Lib.hid (And.intro HAQ.out.1 (And.intro HAQ.out.2.1 (And.intro hB12 hne12)))
    clear hB12 hne12 HAQ HP6 HX6 HD6 HD7 Hq0
    go_wp2
    go_loopw [8, 9, 13] (fun v8 v9 i wr => ∃ (c : Nat) (Z : Nat → Prop) (vs : List Value) (a8 : Option Addr) (c8 : Nat), c ≤ kk ∧ i = .int .i64 c ∧ v8 = .slice a8 (curW (diffS la lb (s1, s2)) L k c).length c8 ∧ Hid (AJ bs gm Z wr v8 v9 ((curW (diffS la lb (s1, s2)) L k c).map Prod.fst) vs (wordsP (curW (diffS la lb (s1, s2)) L k c)) (curW (diffS la lb (s1, s2)) L k c).length (Mq (curW (diffS la lb (s1, s2)) L k c)) ∧ Below bs w1 wr ∧ wr.heap[g12]? = some (.cells #[.int .i64 n1, .int .i64 n2] 101 (0, 0)) ∧ v8.ownBlock ≠ some g12)) (fun _ _ i _ => kk - (intOf i).toNat)
    case atStart => exact ⟨0, Z, vs, _, _, Nat.zero_le _, rfl, by rw [curW_zero, HN.out], Lib.hid (by rw [curW_zero, ← HN.out]; exact HIN.out)⟩
    case round =>
     have HNX := Lib.hid HNO.out.2.2
     clear HIN HNO HN hki hkN hN16
     obtain ⟨c, Z, vs, a8, c8, hc, rfl, rfl, HA2⟩ := hrel
     obtain ⟨wp, rfl⟩ : ∃ q, q = wr := ⟨_, rfl⟩
     obtain ⟨cur, hcur⟩ : ∃ q, q = curW (diffS la lb (s1, s2)) L k c := ⟨_, rfl⟩
     rw [← hcur] at HA2 ⊢
     obtain ⟨N, hN⟩ : ∃ N, N = cur.length := ⟨_, rfl⟩
     rw [← hN] at HA2 ⊢
     have HN := Lib.hid hN
     have HCU := Lib.hid hcur
     clear hN hcur
     have hBp : Below w1.heap.size w1 wp := by rw [← HZ2.out.2]; exact HA2.out.2.1
     have H65 := Lib.hid (HK5.out wp hBp)
     have HXp := Lib.hid (And.intro (HXA.out.below hBp) (HXB.out.below hBp))
     clear hBp
     by_cases hck : c < kk
     ·have hci : (c : Int) < (kk : Int) := by omega
      have hckl : c < la.k := by rw [← HKQ.out.1]; exact hck
      have hckm : c < lb.k := by rw [← HKQ.out.2]; exact hckl
      have hkN : k < N ∧ N ≤ L.length := by
       rw [HN.out, HCU.out]
       exact curW_len HL.out hkn (by show c ≤ la.k; omega)
      go_wp2_with (first | (refine wpList_load_blk rfl 29 _ rfl _ rfl HXp.out.1.blk Try.underlying29 rfl size29 rfl ?_) | (go_at_call 65; refine H65.out.mono ?_; rintro e wv ⟨rfl, hbv⟩; refine cutme ?_))
      refine ⟨?_⟩
      obtain ⟨hA2, hB2, hP2, hne2⟩ := HA2.out
      have hAv := hA2.quiet hbv
      have hBv : Below bs w1 wv := btr hB2 hbv (Nat.le_of_eq HZ2.out.2)
      have HXv := Lib.hid (And.intro (HXp.out.1.below hbv) (HXp.out.2.below hbv))
      have HPv := Lib.hid (blk_keep hP2 hbv)
      obtain ⟨hn1, hn2, hl1, hl2⟩ := HN1.out
      obtain ⟨b1, o1, b2, o2, q1, r1, e1, hb1, hc1, hb2, hc2⟩ := HXv.out.1.ent HOA.out hl1 hckl
      obtain ⟨b3, o3, b4, o4, q3, r3, e3, hb3, hc3, hb4, hc4⟩ := HXv.out.2.ent HOB.out hl2 hckm
      rw [← HM1.out] at e1
      rw [← HM2.out] at e3
      injection e1 with e1 _ e1c
      injection e3 with e3 _ e3c
      subst e1 e1c e3 e3c
      rw [← HKQ.out.1] at hc1
      rw [← HKQ.out.2, ← HKQ.out.1] at hc3
      obtain ⟨t1, ht1⟩ : ∃ q, q = la.at (n1 : Int) c := ⟨_, rfl⟩
      obtain ⟨t2, ht2⟩ : ∃ q, q = lb.at (n2 : Int) c := ⟨_, rfl⟩
      have hst1 : la.st t1 := by rw [ht1]; exact HOA.out.cl ⟨by omega, by omega⟩ hckl
      have hst2 : lb.st t2 := by rw [ht2]; exact HOB.out.cl ⟨by omega, by omega⟩ hckm
      rw [← ht1] at hc2
      rw [← ht2] at hc4
      have hnx : (diffS la lb (s1, s2)).nx L[k].1 c = (t1, t2) := by
       show (la.at L[k].1.1 c, lb.at L[k].1.2 c) = _
       rw [hn1, hn2, ht1, ht2]
      have hlm1 : (n1 : Int) < (m1 : Int) := by rw [HM1.out]; omega
      have hlm2 : (n2 : Int) < (m2 : Int) := by rw [HM2.out]; omega
      have HE1 := Lib.hid (And.intro hb1 hc1)
      have HE2 := Lib.hid (And.intro hb2 hc2)
      have HE3 := Lib.hid (And.intro hb3 hc3)
      have HE4 := Lib.hid (And.intro hb4 hc4)
      have HTT := Lib.hid (And.intro hst1 (And.intro hst2 hnx))
      have HAv := Lib.hid (And.intro hAv (And.intro hBv hne2))
      have hz12 : g12 < wv.heap.size := lt_blk HPv.out
      have HZ12 := Lib.hid hz12
      clear hA2 hB2 hP2 hne2 hAv hBv hn1 hn2 hl1 hl2 hb1 hc1 hb2 hc2 hb3 hc3 hb4 hc4 ht1 ht2 hst1 hst2 hnx hbv hz12 HA2 H65 HXp
      go_wp2
      refine wp_region_x (R := fun U => Below wv.heap.size wv U) (S := fun _ => True) (z := 999) rfl ?_
      change wpAnyX _ _ _ _ _ _ _ _ _ _ wv.drew
      have Hq0 := Lib.hid (show Below wv.heap.size wv wv.drew from (Below.refl _ _).drew)
      obtain ⟨wq0, hwq⟩ : ∃ q, q = wv.drew := ⟨_, rfl⟩
      rw [← hwq] at Hq0 ⊢
      clear hwq
      refine wpAnyX_keep (i := 0) (oi := ⟨some 55, _, _, _, _, none⟩) (v := ?_) rfl (by kernel_rfl) (by kernel_rfl) (by kernel_rfl) (fun _ _ _ h => h) (Or.inl ⟨by rfl, ?_⟩) ⟨(by first | exact Hq4.out | exact Hq3.out | exact Hq2.out | exact Hq1.out | exact Hq0.out), fun _ => trivial⟩ ?_
      rotate_left
      ·intro U hU
       go_simp
       all_goals with_reducible rfl
      simp only [Act.put, List.setIfInBounds_toArray, List.set_cons_zero, List.set_cons_succ]
      refine wpAnyX_keep (i := 1) (oi := ⟨some 56, _, _, _, _, none⟩) (v := ?_) rfl (by kernel_rfl) (by kernel_rfl) (by kernel_rfl) (fun _ _ _ h => h) (Or.inl ⟨by rfl, ?_⟩) ⟨(by first | exact Hq4.out | exact Hq3.out | exact Hq2.out | exact Hq1.out | exact Hq0.out), fun _ => trivial⟩ ?_
      rotate_left
      ·intro U hU
       have u0 := cell_blk (i := 0) (blk_keep HXv.out.1.blk hU)
       simp only [List.getElem?_toArray, List.getElem?_cons_zero] at u0
       go_simp
       all_goals with_reducible rfl
      simp only [Act.put, List.setIfInBounds_toArray, List.set_cons_zero, List.set_cons_succ]
      refine wpAnyX_keep (i := 2) (oi := ⟨some 57, _, _, _, _, none⟩) (v := ?_) rfl (by kernel_rfl) (by kernel_rfl) (by kernel_rfl) (fun _ _ _ h => h) (Or.inl ⟨by rfl, ?_⟩) ⟨(by first | exact Hq4.out | exact Hq3.out | exact Hq2.out | exact Hq1.out | exact Hq0.out), fun _ => trivial⟩ ?_
      rotate_left
      ·intro U hU
       go_simp
       all_goals with_reducible rfl
      simp only [Act.put, List.setIfInBounds_toArray, List.set_cons_zero, List.set_cons_succ]
      refine wpAnyX_keep (i := 3) (oi := ⟨some 58, _, _, _, _, none⟩) (v := ?_) rfl (by kernel_rfl) (by kernel_rfl) (by kernel_rfl) (fun _ _ _ h => h) (Or.inl ⟨by rfl, ?_⟩) ⟨(by first | exact Hq4.out | exact Hq3.out | exact Hq2.out | exact Hq1.out | exact Hq0.out), fun _ => trivial⟩ ?_
      rotate_left
      ·intro U hU
       have u0 := cell_blk (i := 0) (blk_keep HPv.out hU)
       simp only [List.getElem?_toArray, List.getElem?_cons_zero] at u0
       go_simp
       all_goals with_reducible rfl
      simp only [Act.put, List.setIfInBounds_toArray, List.set_cons_zero, List.set_cons_succ]
      refine wpAnyX_keep (i := 4) (oi := ⟨some 59, _, _, _, _, none⟩) (v := ?_) rfl (by kernel_rfl) (by kernel_rfl) (by kernel_rfl) (fun _ _ _ h => h) (Or.inl ⟨by rfl, ?_⟩) ⟨(by first | exact Hq4.out | exact Hq3.out | exact Hq2.out | exact Hq1.out | exact Hq0.out), fun _ => trivial⟩ ?_
      rotate_left
      ·intro U hU
       go_simp
       all_goals with_reducible rfl
      simp only [Act.put, List.setIfInBounds_toArray, List.set_cons_zero, List.set_cons_succ]
      refine wpAnyX_keep (i := 5) (oi := ⟨some 60, _, _, _, _, none⟩) (v := ?_) rfl (by kernel_rfl) (by kernel_rfl) (by kernel_rfl) (fun _ _ _ h => h) (Or.inl ⟨by rfl, ?_⟩) ⟨(by first | exact Hq4.out | exact Hq3.out | exact Hq2.out | exact Hq1.out | exact Hq0.out), fun _ => trivial⟩ ?_
      rotate_left
      ·intro U hU
       have u0 := (hU.cell (p := ⟨b1, o1 + n1, none⟩) HE1.out.1).trans HE1.out.2
       go_simp
       all_goals with_reducible rfl
      simp only [Act.put, List.setIfInBounds_toArray, List.set_cons_zero, List.set_cons_succ]
      refine wpAnyX_keep (i := 6) (oi := ⟨some 61, _, _, _, _, none⟩) (v := ?_) rfl (by kernel_rfl) (by kernel_rfl) (by kernel_rfl) (fun _ _ _ h => h) (Or.inl ⟨by rfl, ?_⟩) ⟨(by first | exact Hq4.out | exact Hq3.out | exact Hq2.out | exact Hq1.out | exact Hq0.out), fun _ => trivial⟩ ?_
      rotate_left
      ·intro U hU
       go_simp
       all_goals with_reducible rfl
      simp only [Act.put, List.setIfInBounds_toArray, List.set_cons_zero, List.set_cons_succ]
      refine wpAnyX_keep (i := 7) (oi := ⟨some 62, _, _, _, _, none⟩) (v := ?_) rfl (by kernel_rfl) (by kernel_rfl) (by kernel_rfl) (fun _ _ _ h => h) (Or.inl ⟨by rfl, ?_⟩) ⟨(by first | exact Hq4.out | exact Hq3.out | exact Hq2.out | exact Hq1.out | exact Hq0.out), fun _ => trivial⟩ ?_
      rotate_left
      ·intro U hU
       go_simp
       all_goals with_reducible rfl
      simp only [Act.put, List.setIfInBounds_toArray, List.set_cons_zero, List.set_cons_succ]
      refine wpAnyX_keep (i := 8) (oi := ⟨some 63, _, _, _, _, none⟩) (v := ?_) rfl (by kernel_rfl) (by kernel_rfl) (by kernel_rfl) (fun _ _ _ h => h) (Or.inl ⟨by rfl, ?_⟩) ⟨(by first | exact Hq4.out | exact Hq3.out | exact Hq2.out | exact Hq1.out | exact Hq0.out), fun _ => trivial⟩ ?_
      rotate_left
      ·intro U hU
       have u0 := (hU.cell (p := ⟨b2, o2 + c, none⟩) HE2.out.1).trans HE2.out.2
       go_simp
       all_goals with_reducible rfl
      simp only [Act.put, List.setIfInBounds_toArray, List.set_cons_zero, List.set_cons_succ]
      refine wpAnyX_keep (i := 9) (oi := ⟨some 64, _, _, _, _, none⟩) (v := ?_) rfl (by kernel_rfl) (by kernel_rfl) (by kernel_rfl) (fun _ _ _ h => h) (Or.inl ⟨by rfl, ?_⟩) ⟨(by first | exact Hq4.out | exact Hq3.out | exact Hq2.out | exact Hq1.out | exact Hq0.out), fun _ => trivial⟩ ?_
      rotate_left
      ·intro U hU
       go_simp
       all_goals with_reducible rfl
      simp only [Act.put, List.setIfInBounds_toArray, List.set_cons_zero, List.set_cons_succ]
      refine wpAnyX_keep (i := 10) (oi := ⟨some 65, _, _, _, _, none⟩) (v := ?_) rfl (by kernel_rfl) (by kernel_rfl) (by kernel_rfl) (fun _ _ _ h => h) (Or.inl ⟨by rfl, ?_⟩) ⟨(by first | exact Hq4.out | exact Hq3.out | exact Hq2.out | exact Hq1.out | exact Hq0.out), fun _ => trivial⟩ ?_
      rotate_left
      ·intro U hU
       have u0 := cell_blk (i := 0) (blk_keep HXv.out.2.blk hU)
       simp only [List.getElem?_toArray, List.getElem?_cons_zero] at u0
       go_simp
       all_goals with_reducible rfl
      simp only [Act.put, List.setIfInBounds_toArray, List.set_cons_zero, List.set_cons_succ]
      refine wpAnyX_keep (i := 11) (oi := ⟨some 66, _, _, _, _, none⟩) (v := ?_) rfl (by kernel_rfl) (by kernel_rfl) (by kernel_rfl) (fun _ _ _ h => h) (Or.inl ⟨by rfl, ?_⟩) ⟨(by first | exact Hq4.out | exact Hq3.out | exact Hq2.out | exact Hq1.out | exact Hq0.out), fun _ => trivial⟩ ?_
      rotate_left
      ·intro U hU
       go_simp
       all_goals with_reducible rfl
      simp only [Act.put, List.setIfInBounds_toArray, List.set_cons_zero, List.set_cons_succ]
      refine wpAnyX_keep (i := 12) (oi := ⟨some 67, _, _, _, _, none⟩) (v := ?_) rfl (by kernel_rfl) (by kernel_rfl) (by kernel_rfl) (fun _ _ _ h => h) (Or.inl ⟨by rfl, ?_⟩) ⟨(by first | exact Hq4.out | exact Hq3.out | exact Hq2.out | exact Hq1.out | exact Hq0.out), fun _ => trivial⟩ ?_
      rotate_left
      ·intro U hU
       have u0 := cell_blk (i := 1) (blk_keep HPv.out hU)
       simp only [List.getElem?_toArray, List.getElem?_cons_zero, List.getElem?_cons_succ] at u0
       go_simp
       all_goals with_reducible rfl
      simp only [Act.put, List.setIfInBounds_toArray, List.set_cons_zero, List.set_cons_succ]
      refine wpAnyX_keep (i := 13) (oi := ⟨some 68, _, _, _, _, none⟩) (v := ?_) rfl (by kernel_rfl) (by kernel_rfl) (by kernel_rfl) (fun _ _ _ h => h) (Or.inl ⟨by rfl, ?_⟩) ⟨(by first | exact Hq4.out | exact Hq3.out | exact Hq2.out | exact Hq1.out | exact Hq0.out), fun _ => trivial⟩ ?_
      rotate_left
      ·intro U hU
       go_simp
       all_goals with_reducible rfl
      simp only [Act.put, List.setIfInBounds_toArray, List.set_cons_zero, List.set_cons_succ]
      refine wpAnyX_keep (i := 14) (oi := ⟨some 69, _, _, _, _, none⟩) (v := ?_) rfl (by kernel_rfl) (by kernel_rfl) (by kernel_rfl) (fun _ _ _ h => h) (Or.inl ⟨by rfl, ?_⟩) ⟨(by first | exact Hq4.out | exact Hq3.out | exact Hq2.out | exact Hq1.out | exact Hq0.out), fun _ => trivial⟩ ?_
      rotate_left
      ·intro U hU
       have u0 := (hU.cell (p := ⟨b3, o3 + n2, none⟩) HE3.out.1).trans HE3.out.2
       go_simp
       all_goals with_reducible rfl
      simp only [Act.put, List.setIfInBounds_toArray, List.set_cons_zero, List.set_cons_succ]
      refine wpAnyX_keep (i := 15) (oi := ⟨some 70, _, _, _, _, none⟩) (v := ?_) rfl (by kernel_rfl) (by kernel_rfl) (by kernel_rfl) (fun _ _ _ h => h) (Or.inl ⟨by rfl, ?_⟩) ⟨(by first | exact Hq4.out | exact Hq3.out | exact Hq2.out | exact Hq1.out | exact Hq0.out), fun _ => trivial⟩ ?_
      rotate_left
      ·intro U hU
       go_simp
       all_goals with_reducible rfl
      simp only [Act.put, List.setIfInBounds_toArray, List.set_cons_zero, List.set_cons_succ]
      refine wpAnyX_keep (i := 16) (oi := ⟨some 71, _, _, _, _, none⟩) (v := ?_) rfl (by kernel_rfl) (by kernel_rfl) (by kernel_rfl) (fun _ _ _ h => h) (Or.inl ⟨by rfl, ?_⟩) ⟨(by first | exact Hq4.out | exact Hq3.out | exact Hq2.out | exact Hq1.out | exact Hq0.out), fun _ => trivial⟩ ?_
      rotate_left
      ·intro U hU
       go_simp
       all_goals with_reducible rfl
      simp only [Act.put, List.setIfInBounds_toArray, List.set_cons_zero, List.set_cons_succ]
      refine wpAnyX_keep (i := 17) (oi := ⟨some 72, _, _, _, _, none⟩) (v := ?_) rfl (by kernel_rfl) (by kernel_rfl) (by kernel_rfl) (fun _ _ _ h => h) (Or.inl ⟨by rfl, ?_⟩) ⟨(by first | exact Hq4.out | exact Hq3.out | exact Hq2.out | exact Hq1.out | exact Hq0.out), fun _ => trivial⟩ ?_
      rotate_left
      ·intro U hU
       have u0 := (hU.cell (p := ⟨b4, o4 + c, none⟩) HE4.out.1).trans HE4.out.2
       go_simp
       all_goals with_reducible rfl
      simp only [Act.put, List.setIfInBounds_toArray, List.set_cons_zero, List.set_cons_succ]
      refine wpAnyX_keep (i := 18) (oi := ⟨some 73, _, _, _, _, none⟩) (v := ?_) rfl (by kernel_rfl) (by kernel_rfl) (by kernel_rfl) (fun _ _ _ h => h) (Or.inl ⟨by rfl, ?_⟩) ⟨(by first | exact Hq4.out | exact Hq3.out | exact Hq2.out | exact Hq1.out | exact Hq0.out), fun _ => trivial⟩ ?_
      rotate_left
      ·intro U hU
       go_simp
       all_goals with_reducible rfl
      simp only [Act.put, List.setIfInBounds_toArray, List.set_cons_zero, List.set_cons_succ]
      have hRa : Below wv.heap.size wv (wq0.alloc (.cells #[.int .i64 0, .int .i64 0] 101)) := Hq0.out.alloc Hq0.out.size _
      have hRb : Below wv.heap.size wv ((wq0.alloc (.cells #[.int .i64 0, .int .i64 0] 101)).putObj wq0.heap.size (.cells #[.int .i64 t1, .int .i64 t2] 101)) := below_putObj hRa Hq0.out.size
      refine wpAnyX_one (i := 19) (o := ⟨some 14, _, _, _, _, none⟩) (by kernel_rfl) rfl (by rfl) (fun K1 hK1 => ?_)
      have HK1 := Lib.hid hK1; clear hK1
      go_simp
      refine HK1.out _ _ ⟨hRa, fun _ => trivial⟩ ?_
      clear HK1
      try simp only [Act.put, List.setIfInBounds_toArray, List.set_cons_zero, List.set_cons_succ]
      refine wpAnyX_one (i := 20) (o := ⟨none, _, _, _, _, none⟩) (by kernel_rfl) rfl (by rfl) (fun K1 hK1 => ?_)
      have HK1 := Lib.hid hK1; clear hK1
      refine oper_store_blk 101 (.tmp 14) (.tmp 73) rfl wq0.heap.size rfl rfl (heap_newI rfl) size101 rfl rfl (by simp [Value.oneCell']) ?_
      refine HK1.out _ _ ⟨hRb, fun _ => trivial⟩ ?_
      clear HK1
      try simp only [Act.put]
      refine wpAnyX_done (by kernel_rfl) ?_ _
      obtain ⟨w5, hw5⟩ : ∃ q, q = (wq0.alloc (.cells #[.int .i64 0, .int .i64 0] 101)).putObj wq0.heap.size (.cells #[.int .i64 t1, .int .i64 t2] 101) := ⟨_, rfl⟩
      have hB5 : Below wv.heap.size wv w5 := by rw [hw5]; exact hRb
      obtain ⟨g14, hg14⟩ : ∃ q, q = wq0.heap.size := ⟨_, rfl⟩
      have hP14 : w5.heap[g14]? = some (.cells #[.int .i64 t1, .int .i64 t2] 101 (0, 0)) := by rw [hw5, hg14]; exact World.putObj_heap_same (by rw [World.size_alloc]; exact Nat.lt_succ_self _)
      rw [← hw5, ← hg14]
      have hg14a : wv.heap.size ≤ g14 := by rw [hg14]; exact Hq0.out.size
      have hA5 := HAv.out.1.quiet hB5
      have hB5b : Below bs w1 w5 := btr HAv.out.2.1 hB5 (Nat.le_of_eq HZ2.out.2)
      have hP12 := blk_keep HPv.out hB5
      have hvl : vs.length = N := by rw [hA5.r9.1]; unfold wordsP; rw [List.length_map, ← HN.out]
      obtain ⟨a9, c9, e9, -⟩ := own_form hA5.o9
      rw [hvl] at e9
      subst e9
      have hsub : cur <+: L := by rw [HCU.out]; exact curW_sub HL.out hkn (by show c ≤ la.k; omega)
      have hkeys : ∀ cu : List (P2 × List Nat), cu <+: L → ∀ s v, Mq cu s = some v → ∃ l, keyOf Try.prog 101 (encP s) = some l := fun cu hcu s v h => by
       unfold Mq at h
       by_cases hm : s ∈ cu.map Prod.fst
       ·obtain ⟨p, hp, rfl⟩ := List.mem_map.1 hm
        exact okJ_key HOA.out HOB.out (HOL.out p (hcu.subset hp))
       ·rw [if_neg hm] at h; cases h
      have hkt : ∃ l, keyOf Try.prog 101 (encP (t1, t2)) = some l := okJ_key HOA.out HOB.out ⟨HTT.out.1, HTT.out.2.1⟩
      have hlk := (hA5.map.look (P := Try.prog) (t := 131) (k := 101) (e := 4) keyed101 Try.underlying131 zero4 encP_inj (hkeys _ hsub) hkt w5 rfl).2
      have hnext := curW_succ (x := diffS la lb (s1, s2)) hkn c
      rw [HTT.out.2.2, ← HCU.out] at hnext
      have HSU := Lib.hid (And.intro hsub (And.intro hkeys hkt))
      have HWV := Lib.hid (And.intro hA5 (And.intro hB5b (And.intro hP12 (And.intro HAv.out.2.2 hvl))))
      have HP14 := Lib.hid (And.intro hP14 hg14a)
      clear hw5 hg14 hP14 hB5 hg14a hA5 hB5b hP12 hvl hsub hkeys hkt hRa hRb HE1 HE2 HE3 HE4 HXv HPv HAv Hq0
      by_cases hin : (t1, t2) ∈ cur.map Prod.fst
      ·rw [Mq_in hin] at hlk
       rw [if_pos hin] at hnext
       simp only [Option.getD_some] at hlk
       have HNE := Lib.hid hnext
       clear hin hnext
       go_wp2_with (refine wpList_load_blk rfl 101 _ rfl _ rfl HP14.out.1 Try.underlying101 rfl size101 rfl ?_)
       refine ⟨⟨c + 1, Z, vs, a8, c8, by omega, by go_num, by rw [HNE.out, ← HN.out], Lib.hid (by rw [HNE.out, ← HN.out]; exact ⟨HWV.out.1, HWV.out.2.1, HWV.out.2.2.1, HWV.out.2.2.2.1⟩)⟩, ?_⟩
       simp only [intOf]; omega
      ·rw [Mq_no hin] at hlk
       rw [if_neg hin] at hnext
       simp only [Option.getD_none] at hlk
       have HNE := Lib.hid (And.intro hnext hin)
       clear hnext
       obtain ⟨om, hup, hM6⟩ := HWV.out.1.map.update (P := Try.prog) (t := 131) (k := 101) (e := 4) keyed101 Try.underlying131 encP_inj (HSU.out.2.1 _ HSU.out.1) HSU.out.2.2 (.bool true)
       rw [Mq_no hin, if_neg (by simp)] at hM6
       have hM6' := hM6.congr (G := Mq (cur ++ [((t1, t2), L[k].2 ++ [c])])) (fun q => Mq_push cur (t1, t2) (L[k].2 ++ [c]) q)
       rw [show N + 1 = (cur ++ [((t1, t2), L[k].2 ++ [c])]).length by simp [HN.out]] at hM6'
       obtain ⟨w6, hw6⟩ : ∃ q, q = w5.putObj gm om := ⟨_, rfl⟩
       have hA6 := HWV.out.1.mapU hM6'
       rw [← hw6] at hup hA6
       have hgm6 : Below bs w5 w6 := by rw [hw6]; exact below_putObj (Below.refl _ _) hbg
       have hB6 : Below bs w1 w6 := HWV.out.2.1.trans hgm6
       have hP14 : w6.heap[g14]? = some (.cells #[.int .i64 t1, .int .i64 t2] 101 (0, 0)) := by rw [hw6]; exact (World.putObj_heap_other (fun e => HWV.out.1.mapNo (e ▸ HP14.out.1))).trans HP14.out.1
       have hP12 : w6.heap[g12]? = some (.cells #[.int .i64 n1, .int .i64 n2] 101 (0, 0)) := by rw [hw6]; exact (World.putObj_heap_other (fun e => HWV.out.1.mapNo (e ▸ HWV.out.2.2.1))).trans HWV.out.2.2.1
       have HW6 := Lib.hid (And.intro hA6 (And.intro hB6 hP12))
       have HP6 := Lib.hid hP14
       clear hw6 hM6 hM6' hA6 hgm6 hB6 hP14 hP12 hin
       go_wp2_with (first | (refine wpList_load_blk rfl 101 _ rfl _ rfl HP14.out.1 Try.underlying101 rfl size101 rfl ?_) | (refine wpList_load_blk rfl 101 _ rfl _ rfl HP6.out Try.underlying101 rfl size101 rfl ?_) | (at_builtin; refine cutme ?_))
       refine ⟨?_⟩
       obtain ⟨hA6, hB6, hP12⟩ := HW6.out
       obtain ⟨cu, hcu⟩ : ∃ q, q = cur ++ [((t1, t2), L[k].2 ++ [c])] := ⟨_, rfl⟩
       rw [← hcu] at hA6
       have hbs6 : bs ≤ w6.heap.size := by have := hB6.size; have := HZ2.out; omega
       have hTa := hA6.quiet ((Below.refl _ w6).alloc (Nat.le_refl _) (.cells #[.int .i64 t1, .int .i64 t2] 101))
       have hBa := hB6.alloc hbs6 (.cells #[.int .i64 t1, .int .i64 t2] 101)
       have hlN : (cur.map Prod.fst).length = N := by rw [List.length_map, HN.out]
       have ho8 := hTa.o8
       rw [hlN] at ho8
       have hn12 : g12 < w6.heap.size := lt_blk hP12
       refine wpList_app2 rfl (.tmp 80) (.tmp 82) 130 101 rfl Try.underlying130 info101 rfl (by decide) (xs := (cur.map Prod.fst).flatMap e2) ho8 (by omega) rfl rfl (heap_newI rfl) rfl rfl (by rw [World.size_alloc]; omega) ?_
       intro v8' w7 q8 g8' e8'
       obtain ⟨a8', c8', ev8, -⟩ := own_form2 q8
       have hA7 := hTa.app8 (p := (t1, t2)) (by rw [hlN]; exact q8) g8'
       have hB7 : Below bs w1 w7 := ⟨g8'.os.trans hBa.os, g8'.tape.trans hBa.tape, g8'.output.trans hBa.output, Nat.le_trans hBa.size g8'.size, fun i hi => (g8'.block i (Nat.lt_of_lt_of_le hi (by have := hBa.size; have := HZ2.out; omega)) (fun e => by have := (own_lt2 ho8 e.symm).1; omega)).trans (hBa.block i hi)⟩
       have hP7 : w7.heap[g12]? = some (.cells #[.int .i64 n1, .int .i64 n2] 101 (0, 0)) := (g8'.block g12 (by rw [World.size_alloc]; omega) (fun e => HWV.out.2.2.2.1 e.symm)).trans (blk_keep hP12 ((Below.refl _ _).alloc (Nat.le_refl _) _))
       have hn7 : v8'.ownBlock ≠ some g12 := fun e => by
        rcases own_or e8' e with e | e
        ·exact HWV.out.2.2.2.1 e
        ·rw [World.size_alloc] at e; omega
       subst ev8
       have hkv : k < vs.length := by rw [HWV.out.2.2.2.2]; omega
       obtain ⟨hsw, hzw⟩ := hA7.r9.2.2 k hkv (by unfold wordsP; rw [List.length_map, ← HN.out]; omega)
       have hword : (wordsP cur)[k]'(by unfold wordsP; rw [List.length_map, ← HN.out]; omega) = nI L[k].2 := by
        unfold wordsP
        rw [List.getElem_map]
        have h1 := curW_get (c := c) HL.out hkn
        rw [← HCU.out, List.getElem?_eq_getElem (by rw [← HN.out]; omega)] at h1
        rw [Option.some.inj h1]
       rw [hword] at hsw
       obtain ⟨wd, hwd⟩ : ∃ q, q = L[k].2 := ⟨_, rfl⟩
       rw [← hwd] at hsw
       have hwl : wd.length ≤ 2000 := by
        have := after_word (diffS la lb (s1, s2)) L.length k (by rw [HL.out.all]; exact hkn)
        simp only [HL.out.all] at this
        rw [hwd]; omega
       obtain ⟨ay, cy, ey⟩ := slI_form hsw
       obtain ⟨wn, hwn⟩ : ∃ q, q = (nI wd).length := ⟨_, rfl⟩
       rw [← hwn] at ey
       have hvl7 := HWV.out.2.2.2.2
       have hs6 := slV_own hA7.o9 rfl (by omega)
       obtain ⟨ad6, cap6, e66, -, -, hcc6⟩ := hs6
       obtain ⟨b6, off6, rfl6, hb6, hcell6⟩ := hcc6 (by omega)
       injection e66 with e1 e2 e3
       rw [rfl6] at e1
       subst e1
       have x6 := hcell6 k hkv
       rw [ey] at x6
       have hni6 : (k : Int) < (N : Int) := by omega
       have x6a := fun o => (((Below.refl w7.heap.size w7).alloc (Nat.le_refl _) o).cell (p := ⟨b6, off6 + k, none⟩) hb6).trans x6
       have HW7 := Lib.hid (And.intro hA7 (And.intro hB7 (And.intro hP7 hn7)))
       have HSW := Lib.hid (And.intro hsw (And.intro ey (And.intro hwn hwd)))
       have HCU2 := Lib.hid hcu
       clear hA6 hB6 hP12 hbs6 hTa hBa hlN ho8 hn12 q8 g8' e8' hA7 hB7 hP7 hn7 hsw hzw hword ey hwn hwd e2 e3 rfl6 hcell6 hcc6 hup hlk x6 hcu hvl7
       go_wp2_with (at_builtin; refine cutme ?_)
       refine ⟨?_⟩
       have hBe : Below w7.heap.size w7 (w7.alloc (.cells #[] 3)) := (Below.refl _ _).alloc (Nat.le_refl _) _
       obtain ⟨w7a, hw7a⟩ : ∃ q, q = w7.alloc (.cells #[] 3) := ⟨_, rfl⟩
       have hge : w7a.heap[w7.heap.size]? = some (.cells #[] 3 (0, 0)) := by rw [hw7a]; exact heap_newI rfl
       rw [← hw7a] at hBe
       simp only [← hw7a]
       have hwnl : wn ≤ 2000 := by rw [HSW.out.2.2.1, List.length_map]; exact hwl
       refine wpList_copy rfl (.tmp 85) (.tmp 89) rfl (W := w7) (xs := nI wd) (HSW.out.1.below hBe (Nat.le_refl _)) (by rw [List.length_map]; omega) rfl (by rw [HSW.out.2.1]; rfl) hge hBe (Nat.le_refl _) ?_
       intro v9a w8 q8 hB8
       have HQ8 := Lib.hid (And.intro q8 hB8)
       clear q8 hge hw7a hBe x6a
       go_wp2_with (at_builtin; refine cutme ?_)
       refine ⟨?_⟩
       obtain ⟨q8, hB8⟩ := HQ8.out
       refine wpList_push rfl (.tmp 90) (.tmp 92) rfl (W := w7) (xs := nI wd) (i := (c : Int)) (own_alloc q8 _) (by rw [List.length_map]; omega) rfl rfl (heap_newI rfl) (hB8.alloc hB8.size _) ?_
       intro v9b w9 q9 hB9
       obtain ⟨g9, c9', rfl⟩ := own_formI q9 (by omega)
       have HQ9 := Lib.hid (And.intro q9 hB9)
       obtain ⟨wn9, hwn9⟩ : ∃ q, q = (nI wd).length + 1 := ⟨_, rfl⟩
       rw [← hwn9]
       have HWN9 := Lib.hid hwn9
       clear q9 hB9 q8 hB8 HQ8 hwn9
       go_wp2_with (at_builtin; refine cutme ?_)
       refine ⟨?_⟩
       obtain ⟨q9, hB9⟩ := HQ9.out
       rw [← HWN9.out] at q9
       obtain ⟨hA7, hB7, hP7, hn7⟩ := HW7.out
       obtain ⟨hg9a, hg9b, cur9, hg9c⟩ := own_lt q9 (g := g9) rfl
       have hbs7 : bs ≤ w7.heap.size := by have := hB7.size; have := HZ2.out; omega
       have hA9 := (hA7.quiet hB9).addZ (p := g9) (by omega) hg9c
       have hsl9 : SlI w9 (.slice (some ⟨g9, 0, none⟩) wn9 c9') (nI wd ++ [(c : Int)]) := slI_own q9 (by rw [HWN9.out]; simp) (by simp; omega)
       have hTa := hA9.quiet ((Below.refl _ w9).alloc (Nat.le_refl _) (.cells #[.slice (some ⟨g9, 0, none⟩) wn9 c9'] 40))
       have hB9' : Below bs w1 w9 := btr hB7 hB9 (Nat.le_of_eq HZ2.out.2)
       have hbs9 : bs ≤ w9.heap.size := by have := hB9.size; omega
       have hBa := hB9'.alloc hbs9 (.cells #[.slice (some ⟨g9, 0, none⟩) wn9 c9'] 40)
       have hbs9a : bs ≤ (w9.alloc (.cells #[.slice (some ⟨g9, 0, none⟩) wn9 c9'] 40)).heap.size := by rw [World.size_alloc]; omega
       have hgb : ∀ {X Y : World} {v : Value} {e : TypeId} {n : Nat} {ys : List Value}, Below bs w1 X → X.ownsRow bs e 1 v n ys → X.grownBy Y v.ownBlock → Below bs w1 Y := fun hX ho hg => ⟨hg.os.trans hX.os, hg.tape.trans hX.tape, hg.output.trans hX.output, Nat.le_trans hX.size hg.size, fun i hi => (hg.block i (Nat.lt_of_lt_of_le hi (by have := hX.size; have := HZ2.out; omega)) (fun e => by have := (own_lt ho e.symm).1; omega)).trans (hX.block i hi)⟩
       have ho9 := hTa.o9
       have hvl9 := HWV.out.2.2.2.2
       have hP9 : (w9.alloc (.cells #[.slice (some ⟨g9, 0, none⟩) wn9 c9'] 40)).heap[g12]? = some (.cells #[.int .i64 n1, .int .i64 n2] 101 (0, 0)) := blk_keep (blk_keep hP7 hB9) ((Below.refl _ _).alloc (Nat.le_refl _) _)
       refine wpList_app rfl (.tmp 84) (.tmp 94) 22 40 rfl Try.underlying22 info40 rfl (by decide) (xs := vs) ho9 (by omega) rfl rfl (heap_newI rfl) rfl hbs9a ?_
       intro v9' w10 q10 g10 e10
       have hA10 := hTa.app9 (l := nI wd ++ [(c : Int)]) q10 g10 (hsl9.below ((Below.refl _ w9).alloc (Nat.le_refl _) _) (Nat.le_refl _)) (fun g off n c e => .inr (by injection e with e _ _; injection e with e; injection e with e _ _; exact e.symm))
       have hB10 := hgb hBa ho9 g10
       have hP10 : w10.heap[g12]? = some (.cells #[.int .i64 n1, .int .i64 n2] 101 (0, 0)) := (g10.block g12 (lt_blk hP9) (fun e => by
        obtain ⟨_, _, cur', hc'⟩ := own_lt ho9 e.symm
        rw [hP9] at hc'
        injection hc' with hc'
        injection hc' with _ hc' _
        exact absurd hc' (by decide))).trans hP9
       have hws : wordsP cur ++ [nI wd ++ [(c : Int)]] = wordsP (cur ++ [((t1, t2), wd ++ [c])]) := by rw [wordsP_push]; simp [nI]
       rw [hws] at hA10
       have hcc1 : cur.map Prod.fst ++ [(t1, t2)] = (cur ++ [((t1, t2), wd ++ [c])]).map Prod.fst := by simp
       rw [hcc1, HSW.out.2.2.2, ← HCU2.out] at hA10
       have HEND := Lib.hid (And.intro hA10 (And.intro hB10 hP10))
       have HN7 := Lib.hid hn7
       have HCL : Hid (curW (diffS la lb (s1, s2)) L k (c + 1) = cu ∧ cu.length = N + 1) := Lib.hid ⟨HNE.out.1.trans HCU2.out.symm, by rw [HCU2.out]; simp [HN.out]⟩
       clear hbs9a hws hcc1 hA10 hB10 hP10 ho9 hP9 hB9' hbs9 hBa hTa hsl9 hA9 hbs7 hg9a hg9b hg9c hA7 hB7 hP7 hn7 q9 hB9 q10 g10 e10 hgb
       go_wp2
       refine ⟨⟨c + 1, fun i => Z i ∨ i = g9, vs ++ [.slice (some ⟨g9, 0, none⟩) wn9 c9'], a8', c8', by omega, by go_num, by rw [HCL.out.1, HCL.out.2], Lib.hid (by rw [HCL.out.1]; exact ⟨HEND.out.1, HEND.out.2.1, HEND.out.2.2, HN7.out⟩)⟩, ?_⟩
       simp only [intOf]; omega
     ·have hck2 : c = kk := by omega
      have hci : ¬ (c : Int) < (kk : Int) := by omega
      go_wp2_with (first | (refine wpList_load_blk rfl 29 _ rfl _ rfl HXp.out.1.blk Try.underlying29 rfl size29 rfl ?_) | (go_at_call 65; refine H65.out.mono ?_; rintro e wv ⟨rfl, hbv⟩; have HBV := Lib.hid hbv; clear hbv))
      have hcA : cur = after (diffS la lb (s1, s2)) (k + 1) := by
       rw [HCU.out, hck2, HKQ.out.1]
       exact curW_all HL.out hkn
      have hAE := HA2.out.1.quiet HBV.out
      have hBE := btr HA2.out.2.1 HBV.out (Nat.le_of_eq HZ2.out.2)
      rw [hcA] at hAE
      refine ⟨⟨k + 1, Z, vs, a8, c8, by omega, by go_num, by rw [HN.out, hcA], Lib.hid ⟨by rw [HN.out, hcA] at hAE ⊢; exact hAE, hBE, fun j hj hjk => ?_⟩⟩, ?_⟩
      ·by_cases hjk2 : j < k
       ·exact HNX.out j hj hjk2
       ·have : j = k := by omega
        subst this; exact HD.out
      ·simp only [intOf]; omega
  ·have HKE : Hid (k = L.length) := Lib.hid (by omega)
   have hki : ¬ (k : Int) < (N : Int) := by
    have hall : after (diffS la lb (s1, s2)) k = L := by rw [HKE.out]; exact HL.out.all
    have : N = L.length := by rw [HN.out, hall]
    omega
   go_wp2
   have hfd : (L.find? fun p => (diffS la lb (s1, s2)).gd p.1) = none := by
    rw [List.find?_eq_none]
    intro p hp
    obtain ⟨i, hi, rfl⟩ := List.getElem_of_mem hp
    rw [HA1.out.2.2 i hi (by have := HKE.out; omega)]
    simp
   rw [hfd]
   refine bodyPost_ret (results_tmp2 rfl _ _ _) rfl ⟨_, rfl, slI_nil _, (fun g off n c e => by cases e), ?_⟩
   exact HB1.out.trans (HA1.out.2.1.mono (by have := HGW.out; have := HZ2.out.2; omega))
end Ytnjgglnpmhjmiaa
end Go.Proofs
