/- Laws of rotation: joined laws are as stated. -/
import Derived.Test.YtnjgglnpmhjmiaaSh
import Derived.Test.YtnjgglnpmhjmiaaWk
open Go Go.RowKit Go.YtnjgglnpmhjmiaaIt
open Rest
namespace Go.Proofs
namespace Ytnjgglnpmhjmiaa
theorem tailK {K : Act → World → Prop} {G : Prop} {P : Nat → Nat → World → Prop} (F : Nat → Nat → Act) (main : (∀ g5 g6 W, P g5 g6 W → K (F g5 g6) W) → G) (tail : ∀ g5 g6 W, P g5 g6 W → K (F g5 g6) W) : G := main tail
set_option maxRecDepth 100000 in
set_option maxHeartbeats 4000000 in
theorem restJoined_any {va vb : Value} {la lb : Lw} {w : World} (ha : LawA w va la) (hb : LawA w vb lb) : Calls Try.prog 7 #[va, vb] w fun e w' => e = .returned (.bool true) ∧ Below w.heap.size w w' := by
 obtain ⟨an, ag, rfl, ha1, ha2⟩ := ha
 obtain ⟨bn, bg, rfl, hb1, hb2⟩ := hb
 have hA0 := LawA.box (⟨_, _, rfl, ha1, ha2⟩ : LawA w (.agg #[an, ag]) la) 25
 have hA := hA0.below ((Below.refl _ _).alloc (Nat.le_refl _) (.cells #[bn, bg] 25))
 have hBl : LawA (w.alloc (.cells #[an, ag] 25)) (.agg #[bn, bg]) lb := LawA.below (⟨_, _, rfl, hb1, hb2⟩ : LawA w (.agg #[bn, bg]) lb) ((Below.refl _ _).alloc (Nat.le_refl _) _) (Nat.le_refl _)
 have hBX := hBl.box 25
 rw [World.size_alloc] at hBX
 obtain ⟨c1, c2, hB1, hz1⟩ := blkE2 (w := w) (a := .cells #[an, ag] 25) (b := .cells #[bn, bg] 25) rfl
 obtain ⟨w1, hw1⟩ : ∃ q, q = (w.alloc (.cells #[an, ag] 25)).alloc (.cells #[bn, bg] 25) := ⟨_, rfl⟩
 obtain ⟨g, hgw⟩ : ∃ q, q = w.heap.size := ⟨_, rfl⟩
 obtain ⟨h, hhw⟩ : ∃ q, q = g + 1 := ⟨_, rfl⟩
 have HW := Lib.hid (And.intro hw1 (And.intro hgw hhw))
 rw [← hw1] at hA hBX hB1
 rw [← hgw] at hA hBX hB1
 rw [← hhw] at hBX
 have HA := Lib.hid hA
 have HBX := Lib.hid hBX
 have HB1 := Lib.hid hB1
 have HGW := Lib.hid (show g ≤ w1.heap.size from Nat.le_of_lt (lt_blk HA.out.blk))
 obtain ⟨p, hp⟩ : ∃ b, b = anyB (decide (60 < la.nx.length) || decide (60 < la.gd.length)) 20 la.nx := ⟨_, rfl⟩
 obtain ⟨q, hq⟩ : ∃ b, b = anyB (decide (60 < lb.nx.length) || decide (60 < lb.gd.length)) 20 lb.nx := ⟨_, rfl⟩
 have H21a := Lib.hid (large_any HA.out.law)
 have H21b := Lib.hid (fun W (hW : Below w1.heap.size w1 W) => large_any (HBX.out.below hW).law)
 rw [← hp] at H21a
 rw [← hq] at H21b
 clear ha1 ha2 hb1 hb2 hA0 hA hBl hBX c1 c2 hz1 hw1 hgw hhw hB1 hp hq
 go_enter Try.func7, Try.ntmps7
 refine wp_seq_k (fun K hK => ?_)
 have HK := Lib.hid hK; clear hK
 go_wp2
 refine HK.out _ _ ?_; clear HK
 rw [← HW.out.1, ← HW.out.2.1, ← HW.out.2.2]
 clear HW
 have HWK := Lib.hid works_any
 cases p with
 | true =>
  go_wp2_with (first | (refine wpList_load_blk rfl 25 (.tmp 2) rfl _ rfl HA.out.blk Try.underlying25 rfl size25 rfl ?_) | (go_at_call 21; refine H21a.out.mono ?_; rintro e w2 ⟨rfl, hb2⟩; have HB2 := Lib.hid hb2; clear hb2) | (go_at_call 20; refine (HWK.out _).mono ?_; rintro e w3 ⟨rfl, hb3⟩))
  go_ret
  exact ⟨rfl, HB1.out.trans ((btr HB2.out hb3 (Nat.le_refl _)).mono HGW.out)⟩
 | false =>
 cases q with
 | true =>
  go_wp2_with (first | (refine wpList_load_blk rfl 25 (.tmp 2) rfl _ rfl HA.out.blk Try.underlying25 rfl size25 rfl ?_) | (refine wpList_load_blk rfl 25 (.tmp 3) rfl _ rfl (show _ from blk_keep HBX.out.blk HB2.out) Try.underlying25 rfl size25 rfl ?_) | (have _m := HB2; go_at_call 21; refine (H21b.out _ HB2.out).mono ?_; rintro e w3 ⟨rfl, hb3⟩; have HB3 := Lib.hid (btr HB2.out hb3 (Nat.le_refl _)); clear hb3) | (go_at_call 21; refine H21a.out.mono ?_; rintro e w2 ⟨rfl, hb2⟩; have HB2 := Lib.hid hb2; clear hb2) | (go_at_call 20; refine (HWK.out _).mono ?_; rintro e w4 ⟨rfl, hb4⟩))
  go_ret
  exact ⟨rfl, HB1.out.trans ((btr HB3.out hb4 (Nat.le_refl _)).mono HGW.out)⟩
 | false =>
 refine wp_seq_k (fun K hK => ?_)
 have HK := Lib.hid hK; clear hK
 go_wp2_with (first | (refine wpList_load_blk rfl 25 (.tmp 2) rfl _ rfl HA.out.blk Try.underlying25 rfl size25 rfl ?_) | (refine wpList_load_blk rfl 25 (.tmp 3) rfl _ rfl (show _ from blk_keep HBX.out.blk HB2.out) Try.underlying25 rfl size25 rfl ?_) | (have _m := HB2; go_at_call 21; refine (H21b.out _ HB2.out).mono ?_; rintro e w3 ⟨rfl, hb3⟩; have HB3 := Lib.hid (btr HB2.out hb3 (Nat.le_refl _)); clear hb3) | (go_at_call 21; refine H21a.out.mono ?_; rintro e w2 ⟨rfl, hb2⟩; have HB2 := Lib.hid hb2; clear hb2))
 refine HK.out _ _ ?_; clear HK
 have HX2 := Lib.hid (HA.out.below HB3.out)
 have HY2 := Lib.hid (HBX.out.below HB3.out)
 have HBw := Lib.hid (HB1.out.trans (HB3.out.mono HGW.out))
 have HG2 := Lib.hid (show g ≤ w3.heap.size from Nat.le_trans HGW.out HB3.out.size)
 clear HA HBX HB1 HB2 HB3 HGW H21a H21b
 refine wp_seq_k (fun K hK => ?_)
 have HK := Lib.hid hK; clear hK
 apply tailK (K := K) (P := fun gA gB U => LawX U gA 29 la an ag ∧ LawX U gB 29 lb bn bg ∧ Below w3.heap.size w3 U)
 ·intro TAIL
  refine wp_region_x (R := fun U => Below w3.heap.size w3 U) (S := fun _ => True) (z := 999) rfl ?_
  change wpAnyX _ _ _ _ _ _ _ _ _ _ w3.drew
  have Hq0 := Lib.hid (show Below w3.heap.size w3 w3.drew from (Below.refl _ _).drew)
  obtain ⟨wq0, hwq⟩ : ∃ q, q = w3.drew := ⟨_, rfl⟩
  rw [← hwq] at Hq0 ⊢
  clear hwq
  refine wpAnyX_keep (i := 0) (oi := ⟨some 26, _, _, _, _, none⟩) (v := ?_) rfl (by kernel_rfl) (by kernel_rfl) (by kernel_rfl) (fun _ _ _ h => h) (Or.inl ⟨by rfl, ?_⟩) ⟨(by first | exact Hq4.out | exact Hq3.out | exact Hq2.out | exact Hq1.out | exact Hq0.out), fun _ => trivial⟩ ?_
  rotate_left
  ·refine yields_load_blk 25 (.tmp 2) ?_ g ?_ (t := 25) (fr := (0, 0)) (cs := #[an, ag]) (fun U hU => ?_) Try.underlying25 rfl size25 rfl
   ·rfl
   ·rfl
   ·exact blk_keep HX2.out.blk hU
  simp only [Act.put, List.setIfInBounds_toArray, List.set_cons_zero, List.set_cons_succ]
  refine wpAnyX_keep (i := 2) (oi := ⟨some 28, _, _, _, _, none⟩) (v := ?_) rfl (by kernel_rfl) (by kernel_rfl) (by kernel_rfl) (fun _ _ _ h => h) (Or.inl ⟨by rfl, ?_⟩) ⟨(by first | exact Hq4.out | exact Hq3.out | exact Hq2.out | exact Hq1.out | exact Hq0.out), fun _ => trivial⟩ ?_
  rotate_left
  ·refine yields_load_blk 25 (.tmp 3) ?_ h ?_ (t := 25) (fr := (0, 0)) (cs := #[bn, bg]) (fun U hU => ?_) Try.underlying25 rfl size25 rfl
   ·rfl
   ·rfl
   ·exact blk_keep HY2.out.blk hU
  simp only [Act.put, List.setIfInBounds_toArray, List.set_cons_zero, List.set_cons_succ]
  refine wpAnyX_ready (rs := [1, 4, 5]) (by kernel_rfl) (by simp) ?_
  refine AllReadyX.cons (o := ⟨some 27, _, _, _, _, none⟩) rfl (by rfl) (fun K1 hK1 => ?_) ?_
  ·have HK1 := Lib.hid hK1; clear hK1
   refine oper_call (ts := _) (xs := #[.tmp 26]) (f := 22) rfl (enters_of Try.func22 (by kernel_rfl) rfl) rfl (R := fun w' => Below wq0.heap.size wq0 w') (v := .agg #[an, ag]) ((given_any (HX2.out.below Hq0.out).law).mono (by rintro e w' ⟨rfl, h⟩; exact ⟨rfl, h⟩)) ?_
   rintro wq1 hbwq1
   have Hq1 := Lib.hid (btr Hq0.out hbwq1 (Nat.le_refl _))
   refine HK1.out _ _ ⟨Hq1.out, fun _ => trivial⟩ ?_
   clear HK1
   try simp only [Act.put, List.setIfInBounds_toArray, List.set_cons_zero, List.set_cons_succ]
   refine wpAnyX_ready (rs := [3, 4, 5]) (by kernel_rfl) (by simp) ?_
   refine AllReadyX.cons (o := ⟨some 29, _, _, _, _, none⟩) rfl (by rfl) (fun K1 hK1 => ?_) ?_
   ·have HK1 := Lib.hid hK1; clear hK1
    refine oper_call (ts := _) (xs := #[.tmp 28]) (f := 22) rfl (enters_of Try.func22 (by kernel_rfl) rfl) rfl (R := fun w' => Below wq1.heap.size wq1 w') (v := .agg #[bn, bg]) ((given_any (HY2.out.below Hq1.out).law).mono (by rintro e w' ⟨rfl, h⟩; exact ⟨rfl, h⟩)) ?_
    rintro wq2 hbwq2
    have Hq2 := Lib.hid (btr Hq1.out hbwq2 (Nat.le_refl _))
    refine HK1.out _ _ ⟨Hq2.out, fun _ => trivial⟩ ?_
    clear HK1
    try simp only [Act.put, List.setIfInBounds_toArray, List.set_cons_zero, List.set_cons_succ]
    refine wpAnyX_ready (rs := [4, 5]) (by kernel_rfl) (by simp) ?_
    refine AllReadyX.cons (o := ⟨some 5, _, _, _, _, none⟩) rfl (by rfl) (fun K1 hK1 => ?_) ?_
    ·have HK1 := Lib.hid hK1; clear hK1
     have hRa := Hq2.out.alloc Hq2.out.size (.cells #[.slice none 0 0, .slice none 0 0] 29)
     go_simp
     refine HK1.out _ _ ⟨hRa, fun _ => trivial⟩ ?_
     clear HK1
     try simp only [Act.put, List.setIfInBounds_toArray, List.set_cons_zero, List.set_cons_succ]
     have cA : (wq2.alloc (.cells #[.slice none 0 0, .slice none 0 0] 29)).heap[wq2.heap.size]? = some (.cells #[.slice none 0 0, .slice none 0 0] 29 (0, 0)) := heap_newI rfl
     have hbn := (Below.refl _ wq2).alloc (Nat.le_refl _) (.cells #[.slice none 0 0, .slice none 0 0] 29)
     have HSA := Lib.hid Hq2.out.size
     obtain ⟨wq3, hw⟩ : ∃ q, q = wq2.alloc (.cells #[.slice none 0 0, .slice none 0 0] 29) := ⟨_, rfl⟩
     rw [← hw] at hRa cA ⊢
     obtain ⟨gA, hgA⟩ : ∃ q, q = wq2.heap.size := ⟨_, rfl⟩
     rw [← hgA] at cA HSA ⊢
     have Hq3 := Lib.hid hRa
     have HCA := Lib.hid cA
     clear hw hgA hRa hbn cA
     refine wpAnyX_one (i := 5) (o := ⟨some 6, _, _, _, _, none⟩) (by kernel_rfl) rfl (by rfl) (fun K1 hK1 => ?_)
     have HK1 := Lib.hid hK1; clear hK1
     have hRa := Hq3.out.alloc Hq3.out.size (.cells #[.slice none 0 0, .slice none 0 0] 29)
     go_simp
     refine HK1.out _ _ ⟨hRa, fun _ => trivial⟩ ?_
     clear HK1
     try simp only [Act.put, List.setIfInBounds_toArray, List.set_cons_zero, List.set_cons_succ]
     have cB : (wq3.alloc (.cells #[.slice none 0 0, .slice none 0 0] 29)).heap[wq3.heap.size]? = some (.cells #[.slice none 0 0, .slice none 0 0] 29 (0, 0)) := heap_newI rfl
     have hbn := (Below.refl _ wq3).alloc (Nat.le_refl _) (.cells #[.slice none 0 0, .slice none 0 0] 29)
     have HLA := Lib.hid (show gA ≠ wq3.heap.size from fun e => by have := lt_blk HCA.out; omega)
     have cA := blk_keep HCA.out hbn
     have HSB := Lib.hid Hq3.out.size
     obtain ⟨wq4, hw⟩ : ∃ q, q = wq3.alloc (.cells #[.slice none 0 0, .slice none 0 0] 29) := ⟨_, rfl⟩
     rw [← hw] at hRa cB cA ⊢
     obtain ⟨gB, hgB⟩ : ∃ q, q = wq3.heap.size := ⟨_, rfl⟩
     rw [← hgB] at cB HSB HLA ⊢
     have Hq4 := Lib.hid hRa
     have HCB := Lib.hid cB
     have HCA := Lib.hid cA
     clear hw hgB hRa hbn cB cA
     have hR6 : Below w3.heap.size w3 (wq4.putObj gA (.cells #[an, ag] 29)) := below_putObj Hq4.out HSA.out
     refine wpAnyX_one (i := 6) (o := ⟨none, _, _, _, _, none⟩) (by kernel_rfl) rfl (by rfl) (fun K1 hK1 => ?_)
     have HK1 := Lib.hid hK1; clear hK1
     refine oper_store_blk 29 (.tmp 5) (.tmp 27) rfl gA rfl rfl HCA.out size29 rfl rfl HX2.out.law.one ?_
     refine HK1.out _ _ ⟨hR6, fun _ => trivial⟩ ?_
     clear HK1
     try simp only [Act.put]
     have hB7 : (wq4.putObj gA (.cells #[an, ag] 29)).heap[gB]? = some (.cells #[.slice none 0 0, .slice none 0 0] 29 (0, 0)) := (World.putObj_heap_other (HLA.out.symm)).trans HCB.out
     have hA7 : (wq4.putObj gA (.cells #[an, ag] 29)).heap[gA]? = some (.cells #[an, ag] 29 (0, 0)) := World.putObj_heap_same (lt_blk HCA.out)
     have hR7 : Below w3.heap.size w3 ((wq4.putObj gA (.cells #[an, ag] 29)).putObj gB (.cells #[bn, bg] 29)) := below_putObj hR6 HSB.out
     refine wpAnyX_one (i := 7) (o := ⟨none, _, _, _, _, none⟩) (by kernel_rfl) rfl (by rfl) (fun K1 hK1 => ?_)
     have HK1 := Lib.hid hK1; clear hK1
     refine oper_store_blk 29 (.tmp 6) (.tmp 29) rfl gB rfl rfl hB7 size29 rfl rfl HY2.out.law.one ?_
     refine HK1.out _ _ ⟨hR7, fun _ => trivial⟩ ?_
     clear HK1
     try simp only [Act.put]
     refine wpAnyX_done (by kernel_rfl) ?_ _
     exact TAIL gA gB _ ⟨⟨(World.putObj_heap_other HLA.out).trans hA7, HX2.out.nx.below hR7 (Nat.le_refl _), HX2.out.gd.below hR7 (Nat.le_refl _)⟩, ⟨World.putObj_heap_same (lt_blk hB7), HY2.out.nx.below hR7 (Nat.le_refl _), HY2.out.gd.below hR7 (Nat.le_refl _)⟩, hR7⟩
    refine AllReadyX.cons (o := ⟨some 6, _, _, _, _, none⟩) rfl (by rfl) (fun K1 hK1 => ?_) AllReadyX.nil
    have HK1 := Lib.hid hK1; clear hK1
    have hRa := Hq2.out.alloc Hq2.out.size (.cells #[.slice none 0 0, .slice none 0 0] 29)
    go_simp
    refine HK1.out _ _ ⟨hRa, fun _ => trivial⟩ ?_
    clear HK1
    try simp only [Act.put, List.setIfInBounds_toArray, List.set_cons_zero, List.set_cons_succ]
    have cB : (wq2.alloc (.cells #[.slice none 0 0, .slice none 0 0] 29)).heap[wq2.heap.size]? = some (.cells #[.slice none 0 0, .slice none 0 0] 29 (0, 0)) := heap_newI rfl
    have hbn := (Below.refl _ wq2).alloc (Nat.le_refl _) (.cells #[.slice none 0 0, .slice none 0 0] 29)
    have HSB := Lib.hid Hq2.out.size
    obtain ⟨wq3, hw⟩ : ∃ q, q = wq2.alloc (.cells #[.slice none 0 0, .slice none 0 0] 29) := ⟨_, rfl⟩
    rw [← hw] at hRa cB ⊢
    obtain ⟨gB, hgB⟩ : ∃ q, q = wq2.heap.size := ⟨_, rfl⟩
    rw [← hgB] at cB HSB ⊢
    have Hq3 := Lib.hid hRa
    have HCB := Lib.hid cB
    clear hw hgB hRa hbn cB
    refine wpAnyX_one (i := 4) (o := ⟨some 5, _, _, _, _, none⟩) (by kernel_rfl) rfl (by rfl) (fun K1 hK1 => ?_)
    have HK1 := Lib.hid hK1; clear hK1
    have hRa := Hq3.out.alloc Hq3.out.size (.cells #[.slice none 0 0, .slice none 0 0] 29)
    go_simp
    refine HK1.out _ _ ⟨hRa, fun _ => trivial⟩ ?_
    clear HK1
    try simp only [Act.put, List.setIfInBounds_toArray, List.set_cons_zero, List.set_cons_succ]
    have cA : (wq3.alloc (.cells #[.slice none 0 0, .slice none 0 0] 29)).heap[wq3.heap.size]? = some (.cells #[.slice none 0 0, .slice none 0 0] 29 (0, 0)) := heap_newI rfl
    have hbn := (Below.refl _ wq3).alloc (Nat.le_refl _) (.cells #[.slice none 0 0, .slice none 0 0] 29)
    have HLB := Lib.hid (show gB ≠ wq3.heap.size from fun e => by have := lt_blk HCB.out; omega)
    have cB := blk_keep HCB.out hbn
    have HSA := Lib.hid Hq3.out.size
    obtain ⟨wq4, hw⟩ : ∃ q, q = wq3.alloc (.cells #[.slice none 0 0, .slice none 0 0] 29) := ⟨_, rfl⟩
    rw [← hw] at hRa cA cB ⊢
    obtain ⟨gA, hgA⟩ : ∃ q, q = wq3.heap.size := ⟨_, rfl⟩
    rw [← hgA] at cA HSA HLB ⊢
    have Hq4 := Lib.hid hRa
    have HCA := Lib.hid cA
    have HCB := Lib.hid cB
    clear hw hgA hRa hbn cA cB
    have hR6 : Below w3.heap.size w3 (wq4.putObj gA (.cells #[an, ag] 29)) := below_putObj Hq4.out HSA.out
    refine wpAnyX_one (i := 6) (o := ⟨none, _, _, _, _, none⟩) (by kernel_rfl) rfl (by rfl) (fun K1 hK1 => ?_)
    have HK1 := Lib.hid hK1; clear hK1
    refine oper_store_blk 29 (.tmp 5) (.tmp 27) rfl gA rfl rfl HCA.out size29 rfl rfl HX2.out.law.one ?_
    refine HK1.out _ _ ⟨hR6, fun _ => trivial⟩ ?_
    clear HK1
    try simp only [Act.put]
    have hB7 : (wq4.putObj gA (.cells #[an, ag] 29)).heap[gB]? = some (.cells #[.slice none 0 0, .slice none 0 0] 29 (0, 0)) := (World.putObj_heap_other (HLB.out.symm.symm)).trans HCB.out
    have hA7 : (wq4.putObj gA (.cells #[an, ag] 29)).heap[gA]? = some (.cells #[an, ag] 29 (0, 0)) := World.putObj_heap_same (lt_blk HCA.out)
    have hR7 : Below w3.heap.size w3 ((wq4.putObj gA (.cells #[an, ag] 29)).putObj gB (.cells #[bn, bg] 29)) := below_putObj hR6 HSB.out
    refine wpAnyX_one (i := 7) (o := ⟨none, _, _, _, _, none⟩) (by kernel_rfl) rfl (by rfl) (fun K1 hK1 => ?_)
    have HK1 := Lib.hid hK1; clear hK1
    refine oper_store_blk 29 (.tmp 6) (.tmp 29) rfl gB rfl rfl hB7 size29 rfl rfl HY2.out.law.one ?_
    refine HK1.out _ _ ⟨hR7, fun _ => trivial⟩ ?_
    clear HK1
    try simp only [Act.put]
    refine wpAnyX_done (by kernel_rfl) ?_ _
    exact TAIL gA gB _ ⟨⟨(World.putObj_heap_other HLB.out.symm).trans hA7, HX2.out.nx.below hR7 (Nat.le_refl _), HX2.out.gd.below hR7 (Nat.le_refl _)⟩, ⟨World.putObj_heap_same (lt_blk hB7), HY2.out.nx.below hR7 (Nat.le_refl _), HY2.out.gd.below hR7 (Nat.le_refl _)⟩, hR7⟩
   refine AllReadyX.cons (o := ⟨some 5, _, _, _, _, none⟩) rfl (by rfl) (fun K1 hK1 => ?_) ?_
   ·have HK1 := Lib.hid hK1; clear hK1
    have hRa := Hq1.out.alloc Hq1.out.size (.cells #[.slice none 0 0, .slice none 0 0] 29)
    go_simp
    refine HK1.out _ _ ⟨hRa, fun _ => trivial⟩ ?_
    clear HK1
    try simp only [Act.put, List.setIfInBounds_toArray, List.set_cons_zero, List.set_cons_succ]
    have cA : (wq1.alloc (.cells #[.slice none 0 0, .slice none 0 0] 29)).heap[wq1.heap.size]? = some (.cells #[.slice none 0 0, .slice none 0 0] 29 (0, 0)) := heap_newI rfl
    have hbn := (Below.refl _ wq1).alloc (Nat.le_refl _) (.cells #[.slice none 0 0, .slice none 0 0] 29)
    have HSA := Lib.hid Hq1.out.size
    obtain ⟨wq2, hw⟩ : ∃ q, q = wq1.alloc (.cells #[.slice none 0 0, .slice none 0 0] 29) := ⟨_, rfl⟩
    rw [← hw] at hRa cA ⊢
    obtain ⟨gA, hgA⟩ : ∃ q, q = wq1.heap.size := ⟨_, rfl⟩
    rw [← hgA] at cA HSA ⊢
    have Hq2 := Lib.hid hRa
    have HCA := Lib.hid cA
    clear hw hgA hRa hbn cA
    refine wpAnyX_ready (rs := [3, 5]) (by kernel_rfl) (by simp) ?_
    refine AllReadyX.cons (o := ⟨some 29, _, _, _, _, none⟩) rfl (by rfl) (fun K1 hK1 => ?_) ?_
    ·have HK1 := Lib.hid hK1; clear hK1
     refine oper_call (ts := _) (xs := #[.tmp 28]) (f := 22) rfl (enters_of Try.func22 (by kernel_rfl) rfl) rfl (R := fun w' => Below wq2.heap.size wq2 w') (v := .agg #[bn, bg]) ((given_any (HY2.out.below Hq2.out).law).mono (by rintro e w' ⟨rfl, h⟩; exact ⟨rfl, h⟩)) ?_
     rintro wq3 hbwq3
     have Hq3 := Lib.hid (btr Hq2.out hbwq3 (Nat.le_refl _))
     refine HK1.out _ _ ⟨Hq3.out, fun _ => trivial⟩ ?_
     clear HK1
     try simp only [Act.put, List.setIfInBounds_toArray, List.set_cons_zero, List.set_cons_succ]
     have HCA := Lib.hid (blk_keep HCA.out hbwq3)
     refine wpAnyX_one (i := 5) (o := ⟨some 6, _, _, _, _, none⟩) (by kernel_rfl) rfl (by rfl) (fun K1 hK1 => ?_)
     have HK1 := Lib.hid hK1; clear hK1
     have hRa := Hq3.out.alloc Hq3.out.size (.cells #[.slice none 0 0, .slice none 0 0] 29)
     go_simp
     refine HK1.out _ _ ⟨hRa, fun _ => trivial⟩ ?_
     clear HK1
     try simp only [Act.put, List.setIfInBounds_toArray, List.set_cons_zero, List.set_cons_succ]
     have cB : (wq3.alloc (.cells #[.slice none 0 0, .slice none 0 0] 29)).heap[wq3.heap.size]? = some (.cells #[.slice none 0 0, .slice none 0 0] 29 (0, 0)) := heap_newI rfl
     have hbn := (Below.refl _ wq3).alloc (Nat.le_refl _) (.cells #[.slice none 0 0, .slice none 0 0] 29)
     have HLA := Lib.hid (show gA ≠ wq3.heap.size from fun e => by have := lt_blk HCA.out; omega)
     have cA := blk_keep HCA.out hbn
     have HSB := Lib.hid Hq3.out.size
     obtain ⟨wq4, hw⟩ : ∃ q, q = wq3.alloc (.cells #[.slice none 0 0, .slice none 0 0] 29) := ⟨_, rfl⟩
     rw [← hw] at hRa cB cA ⊢
     obtain ⟨gB, hgB⟩ : ∃ q, q = wq3.heap.size := ⟨_, rfl⟩
     rw [← hgB] at cB HSB HLA ⊢
     have Hq4 := Lib.hid hRa
     have HCB := Lib.hid cB
     have HCA := Lib.hid cA
     clear hw hgB hRa hbn cB cA
     have hR6 : Below w3.heap.size w3 (wq4.putObj gA (.cells #[an, ag] 29)) := below_putObj Hq4.out HSA.out
     refine wpAnyX_one (i := 6) (o := ⟨none, _, _, _, _, none⟩) (by kernel_rfl) rfl (by rfl) (fun K1 hK1 => ?_)
     have HK1 := Lib.hid hK1; clear hK1
     refine oper_store_blk 29 (.tmp 5) (.tmp 27) rfl gA rfl rfl HCA.out size29 rfl rfl HX2.out.law.one ?_
     refine HK1.out _ _ ⟨hR6, fun _ => trivial⟩ ?_
     clear HK1
     try simp only [Act.put]
     have hB7 : (wq4.putObj gA (.cells #[an, ag] 29)).heap[gB]? = some (.cells #[.slice none 0 0, .slice none 0 0] 29 (0, 0)) := (World.putObj_heap_other (HLA.out.symm)).trans HCB.out
     have hA7 : (wq4.putObj gA (.cells #[an, ag] 29)).heap[gA]? = some (.cells #[an, ag] 29 (0, 0)) := World.putObj_heap_same (lt_blk HCA.out)
     have hR7 : Below w3.heap.size w3 ((wq4.putObj gA (.cells #[an, ag] 29)).putObj gB (.cells #[bn, bg] 29)) := below_putObj hR6 HSB.out
     refine wpAnyX_one (i := 7) (o := ⟨none, _, _, _, _, none⟩) (by kernel_rfl) rfl (by rfl) (fun K1 hK1 => ?_)
     have HK1 := Lib.hid hK1; clear hK1
     refine oper_store_blk 29 (.tmp 6) (.tmp 29) rfl gB rfl rfl hB7 size29 rfl rfl HY2.out.law.one ?_
     refine HK1.out _ _ ⟨hR7, fun _ => trivial⟩ ?_
     clear HK1
     try simp only [Act.put]
     refine wpAnyX_done (by kernel_rfl) ?_ _
     exact TAIL gA gB _ ⟨⟨(World.putObj_heap_other HLA.out).trans hA7, HX2.out.nx.below hR7 (Nat.le_refl _), HX2.out.gd.below hR7 (Nat.le_refl _)⟩, ⟨World.putObj_heap_same (lt_blk hB7), HY2.out.nx.below hR7 (Nat.le_refl _), HY2.out.gd.below hR7 (Nat.le_refl _)⟩, hR7⟩
    refine AllReadyX.cons (o := ⟨some 6, _, _, _, _, none⟩) rfl (by rfl) (fun K1 hK1 => ?_) AllReadyX.nil
    have HK1 := Lib.hid hK1; clear hK1
    have hRa := Hq2.out.alloc Hq2.out.size (.cells #[.slice none 0 0, .slice none 0 0] 29)
    go_simp
    refine HK1.out _ _ ⟨hRa, fun _ => trivial⟩ ?_
    clear HK1
    try simp only [Act.put, List.setIfInBounds_toArray, List.set_cons_zero, List.set_cons_succ]
    have cB : (wq2.alloc (.cells #[.slice none 0 0, .slice none 0 0] 29)).heap[wq2.heap.size]? = some (.cells #[.slice none 0 0, .slice none 0 0] 29 (0, 0)) := heap_newI rfl
    have hbn := (Below.refl _ wq2).alloc (Nat.le_refl _) (.cells #[.slice none 0 0, .slice none 0 0] 29)
    have HLA := Lib.hid (show gA ≠ wq2.heap.size from fun e => by have := lt_blk HCA.out; omega)
    have cA := blk_keep HCA.out hbn
    have HSB := Lib.hid Hq2.out.size
    obtain ⟨wq3, hw⟩ : ∃ q, q = wq2.alloc (.cells #[.slice none 0 0, .slice none 0 0] 29) := ⟨_, rfl⟩
    rw [← hw] at hRa cB cA ⊢
    obtain ⟨gB, hgB⟩ : ∃ q, q = wq2.heap.size := ⟨_, rfl⟩
    rw [← hgB] at cB HSB HLA ⊢
    have Hq3 := Lib.hid hRa
    have HCB := Lib.hid cB
    have HCA := Lib.hid cA
    clear hw hgB hRa hbn cB cA
    refine wpAnyX_one (i := 3) (o := ⟨some 29, _, _, _, _, none⟩) (by kernel_rfl) rfl (by rfl) (fun K1 hK1 => ?_)
    have HK1 := Lib.hid hK1; clear hK1
    refine oper_call (ts := _) (xs := #[.tmp 28]) (f := 22) rfl (enters_of Try.func22 (by kernel_rfl) rfl) rfl (R := fun w' => Below wq3.heap.size wq3 w') (v := .agg #[bn, bg]) ((given_any (HY2.out.below Hq3.out).law).mono (by rintro e w' ⟨rfl, h⟩; exact ⟨rfl, h⟩)) ?_
    rintro wq4 hbwq4
    have Hq4 := Lib.hid (btr Hq3.out hbwq4 (Nat.le_refl _))
    refine HK1.out _ _ ⟨Hq4.out, fun _ => trivial⟩ ?_
    clear HK1
    try simp only [Act.put, List.setIfInBounds_toArray, List.set_cons_zero, List.set_cons_succ]
    have HCA := Lib.hid (blk_keep HCA.out hbwq4)
    have HCB := Lib.hid (blk_keep HCB.out hbwq4)
    have hR6 : Below w3.heap.size w3 (wq4.putObj gA (.cells #[an, ag] 29)) := below_putObj Hq4.out HSA.out
    refine wpAnyX_one (i := 6) (o := ⟨none, _, _, _, _, none⟩) (by kernel_rfl) rfl (by rfl) (fun K1 hK1 => ?_)
    have HK1 := Lib.hid hK1; clear hK1
    refine oper_store_blk 29 (.tmp 5) (.tmp 27) rfl gA rfl rfl HCA.out size29 rfl rfl HX2.out.law.one ?_
    refine HK1.out _ _ ⟨hR6, fun _ => trivial⟩ ?_
    clear HK1
    try simp only [Act.put]
    have hB7 : (wq4.putObj gA (.cells #[an, ag] 29)).heap[gB]? = some (.cells #[.slice none 0 0, .slice none 0 0] 29 (0, 0)) := (World.putObj_heap_other (HLA.out.symm)).trans HCB.out
    have hA7 : (wq4.putObj gA (.cells #[an, ag] 29)).heap[gA]? = some (.cells #[an, ag] 29 (0, 0)) := World.putObj_heap_same (lt_blk HCA.out)
    have hR7 : Below w3.heap.size w3 ((wq4.putObj gA (.cells #[an, ag] 29)).putObj gB (.cells #[bn, bg] 29)) := below_putObj hR6 HSB.out
    refine wpAnyX_one (i := 7) (o := ⟨none, _, _, _, _, none⟩) (by kernel_rfl) rfl (by rfl) (fun K1 hK1 => ?_)
    have HK1 := Lib.hid hK1; clear hK1
    refine oper_store_blk 29 (.tmp 6) (.tmp 29) rfl gB rfl rfl hB7 size29 rfl rfl HY2.out.law.one ?_
    refine HK1.out _ _ ⟨hR7, fun _ => trivial⟩ ?_
    clear HK1
    try simp only [Act.put]
    refine wpAnyX_done (by kernel_rfl) ?_ _
    exact TAIL gA gB _ ⟨⟨(World.putObj_heap_other HLA.out).trans hA7, HX2.out.nx.below hR7 (Nat.le_refl _), HX2.out.gd.below hR7 (Nat.le_refl _)⟩, ⟨World.putObj_heap_same (lt_blk hB7), HY2.out.nx.below hR7 (Nat.le_refl _), HY2.out.gd.below hR7 (Nat.le_refl _)⟩, hR7⟩
   refine AllReadyX.cons (o := ⟨some 6, _, _, _, _, none⟩) rfl (by rfl) (fun K1 hK1 => ?_) AllReadyX.nil
   have HK1 := Lib.hid hK1; clear hK1
   have hRa := Hq1.out.alloc Hq1.out.size (.cells #[.slice none 0 0, .slice none 0 0] 29)
   go_simp
   refine HK1.out _ _ ⟨hRa, fun _ => trivial⟩ ?_
   clear HK1
   try simp only [Act.put, List.setIfInBounds_toArray, List.set_cons_zero, List.set_cons_succ]
   have cB : (wq1.alloc (.cells #[.slice none 0 0, .slice none 0 0] 29)).heap[wq1.heap.size]? = some (.cells #[.slice none 0 0, .slice none 0 0] 29 (0, 0)) := heap_newI rfl
   have hbn := (Below.refl _ wq1).alloc (Nat.le_refl _) (.cells #[.slice none 0 0, .slice none 0 0] 29)
   have HSB := Lib.hid Hq1.out.size
   obtain ⟨wq2, hw⟩ : ∃ q, q = wq1.alloc (.cells #[.slice none 0 0, .slice none 0 0] 29) := ⟨_, rfl⟩
   rw [← hw] at hRa cB ⊢
   obtain ⟨gB, hgB⟩ : ∃ q, q = wq1.heap.size := ⟨_, rfl⟩
   rw [← hgB] at cB HSB ⊢
   have Hq2 := Lib.hid hRa
   have HCB := Lib.hid cB
   clear hw hgB hRa hbn cB
   refine wpAnyX_ready (rs := [3, 4]) (by kernel_rfl) (by simp) ?_
   refine AllReadyX.cons (o := ⟨some 29, _, _, _, _, none⟩) rfl (by rfl) (fun K1 hK1 => ?_) ?_
   ·have HK1 := Lib.hid hK1; clear hK1
    refine oper_call (ts := _) (xs := #[.tmp 28]) (f := 22) rfl (enters_of Try.func22 (by kernel_rfl) rfl) rfl (R := fun w' => Below wq2.heap.size wq2 w') (v := .agg #[bn, bg]) ((given_any (HY2.out.below Hq2.out).law).mono (by rintro e w' ⟨rfl, h⟩; exact ⟨rfl, h⟩)) ?_
    rintro wq3 hbwq3
    have Hq3 := Lib.hid (btr Hq2.out hbwq3 (Nat.le_refl _))
    refine HK1.out _ _ ⟨Hq3.out, fun _ => trivial⟩ ?_
    clear HK1
    try simp only [Act.put, List.setIfInBounds_toArray, List.set_cons_zero, List.set_cons_succ]
    have HCB := Lib.hid (blk_keep HCB.out hbwq3)
    refine wpAnyX_one (i := 4) (o := ⟨some 5, _, _, _, _, none⟩) (by kernel_rfl) rfl (by rfl) (fun K1 hK1 => ?_)
    have HK1 := Lib.hid hK1; clear hK1
    have hRa := Hq3.out.alloc Hq3.out.size (.cells #[.slice none 0 0, .slice none 0 0] 29)
    go_simp
    refine HK1.out _ _ ⟨hRa, fun _ => trivial⟩ ?_
    clear HK1
    try simp only [Act.put, List.setIfInBounds_toArray, List.set_cons_zero, List.set_cons_succ]
    have cA : (wq3.alloc (.cells #[.slice none 0 0, .slice none 0 0] 29)).heap[wq3.heap.size]? = some (.cells #[.slice none 0 0, .slice none 0 0] 29 (0, 0)) := heap_newI rfl
    have hbn := (Below.refl _ wq3).alloc (Nat.le_refl _) (.cells #[.slice none 0 0, .slice none 0 0] 29)
    have HLB := Lib.hid (show gB ≠ wq3.heap.size from fun e => by have := lt_blk HCB.out; omega)
    have cB := blk_keep HCB.out hbn
    have HSA := Lib.hid Hq3.out.size
    obtain ⟨wq4, hw⟩ : ∃ q, q = wq3.alloc (.cells #[.slice none 0 0, .slice none 0 0] 29) := ⟨_, rfl⟩
    rw [← hw] at hRa cA cB ⊢
    obtain ⟨gA, hgA⟩ : ∃ q, q = wq3.heap.size := ⟨_, rfl⟩
    rw [← hgA] at cA HSA HLB ⊢
    have Hq4 := Lib.hid hRa
    have HCA := Lib.hid cA
    have HCB := Lib.hid cB
    clear hw hgA hRa hbn cA cB
    have hR6 : Below w3.heap.size w3 (wq4.putObj gA (.cells #[an, ag] 29)) := below_putObj Hq4.out HSA.out
    refine wpAnyX_one (i := 6) (o := ⟨none, _, _, _, _, none⟩) (by kernel_rfl) rfl (by rfl) (fun K1 hK1 => ?_)
    have HK1 := Lib.hid hK1; clear hK1
    refine oper_store_blk 29 (.tmp 5) (.tmp 27) rfl gA rfl rfl HCA.out size29 rfl rfl HX2.out.law.one ?_
    refine HK1.out _ _ ⟨hR6, fun _ => trivial⟩ ?_
    clear HK1
    try simp only [Act.put]
    have hB7 : (wq4.putObj gA (.cells #[an, ag] 29)).heap[gB]? = some (.cells #[.slice none 0 0, .slice none 0 0] 29 (0, 0)) := (World.putObj_heap_other (HLB.out.symm.symm)).trans HCB.out
    have hA7 : (wq4.putObj gA (.cells #[an, ag] 29)).heap[gA]? = some (.cells #[an, ag] 29 (0, 0)) := World.putObj_heap_same (lt_blk HCA.out)
    have hR7 : Below w3.heap.size w3 ((wq4.putObj gA (.cells #[an, ag] 29)).putObj gB (.cells #[bn, bg] 29)) := below_putObj hR6 HSB.out
    refine wpAnyX_one (i := 7) (o := ⟨none, _, _, _, _, none⟩) (by kernel_rfl) rfl (by rfl) (fun K1 hK1 => ?_)
    have HK1 := Lib.hid hK1; clear hK1
    refine oper_store_blk 29 (.tmp 6) (.tmp 29) rfl gB rfl rfl hB7 size29 rfl rfl HY2.out.law.one ?_
    refine HK1.out _ _ ⟨hR7, fun _ => trivial⟩ ?_
    clear HK1
    try simp only [Act.put]
    refine wpAnyX_done (by kernel_rfl) ?_ _
    exact TAIL gA gB _ ⟨⟨(World.putObj_heap_other HLB.out.symm).trans hA7, HX2.out.nx.below hR7 (Nat.le_refl _), HX2.out.gd.below hR7 (Nat.le_refl _)⟩, ⟨World.putObj_heap_same (lt_blk hB7), HY2.out.nx.below hR7 (Nat.le_refl _), HY2.out.gd.below hR7 (Nat.le_refl _)⟩, hR7⟩
   refine AllReadyX.cons (o := ⟨some 5, _, _, _, _, none⟩) rfl (by rfl) (fun K1 hK1 => ?_) AllReadyX.nil
   have HK1 := Lib.hid hK1; clear hK1
   have hRa := Hq2.out.alloc Hq2.out.size (.cells #[.slice none 0 0, .slice none 0 0] 29)
   go_simp
   refine HK1.out _ _ ⟨hRa, fun _ => trivial⟩ ?_
   clear HK1
   try simp only [Act.put, List.setIfInBounds_toArray, List.set_cons_zero, List.set_cons_succ]
   have cA : (wq2.alloc (.cells #[.slice none 0 0, .slice none 0 0] 29)).heap[wq2.heap.size]? = some (.cells #[.slice none 0 0, .slice none 0 0] 29 (0, 0)) := heap_newI rfl
   have hbn := (Below.refl _ wq2).alloc (Nat.le_refl _) (.cells #[.slice none 0 0, .slice none 0 0] 29)
   have HLB := Lib.hid (show gB ≠ wq2.heap.size from fun e => by have := lt_blk HCB.out; omega)
   have cB := blk_keep HCB.out hbn
   have HSA := Lib.hid Hq2.out.size
   obtain ⟨wq3, hw⟩ : ∃ q, q = wq2.alloc (.cells #[.slice none 0 0, .slice none 0 0] 29) := ⟨_, rfl⟩
   rw [← hw] at hRa cA cB ⊢
   obtain ⟨gA, hgA⟩ : ∃ q, q = wq2.heap.size := ⟨_, rfl⟩
   rw [← hgA] at cA HSA HLB ⊢
   have Hq3 := Lib.hid hRa
   have HCA := Lib.hid cA
   have HCB := Lib.hid cB
   clear hw hgA hRa hbn cA cB
   refine wpAnyX_one (i := 3) (o := ⟨some 29, _, _, _, _, none⟩) (by kernel_rfl) rfl (by rfl) (fun K1 hK1 => ?_)
   have HK1 := Lib.hid hK1; clear hK1
   refine oper_call (ts := _) (xs := #[.tmp 28]) (f := 22) rfl (enters_of Try.func22 (by kernel_rfl) rfl) rfl (R := fun w' => Below wq3.heap.size wq3 w') (v := .agg #[bn, bg]) ((given_any (HY2.out.below Hq3.out).law).mono (by rintro e w' ⟨rfl, h⟩; exact ⟨rfl, h⟩)) ?_
   rintro wq4 hbwq4
   have Hq4 := Lib.hid (btr Hq3.out hbwq4 (Nat.le_refl _))
   refine HK1.out _ _ ⟨Hq4.out, fun _ => trivial⟩ ?_
   clear HK1
   try simp only [Act.put, List.setIfInBounds_toArray, List.set_cons_zero, List.set_cons_succ]
   have HCB := Lib.hid (blk_keep HCB.out hbwq4)
   have HCA := Lib.hid (blk_keep HCA.out hbwq4)
   have hR6 : Below w3.heap.size w3 (wq4.putObj gA (.cells #[an, ag] 29)) := below_putObj Hq4.out HSA.out
   refine wpAnyX_one (i := 6) (o := ⟨none, _, _, _, _, none⟩) (by kernel_rfl) rfl (by rfl) (fun K1 hK1 => ?_)
   have HK1 := Lib.hid hK1; clear hK1
   refine oper_store_blk 29 (.tmp 5) (.tmp 27) rfl gA rfl rfl HCA.out size29 rfl rfl HX2.out.law.one ?_
   refine HK1.out _ _ ⟨hR6, fun _ => trivial⟩ ?_
   clear HK1
   try simp only [Act.put]
   have hB7 : (wq4.putObj gA (.cells #[an, ag] 29)).heap[gB]? = some (.cells #[.slice none 0 0, .slice none 0 0] 29 (0, 0)) := (World.putObj_heap_other (HLB.out.symm.symm)).trans HCB.out
   have hA7 : (wq4.putObj gA (.cells #[an, ag] 29)).heap[gA]? = some (.cells #[an, ag] 29 (0, 0)) := World.putObj_heap_same (lt_blk HCA.out)
   have hR7 : Below w3.heap.size w3 ((wq4.putObj gA (.cells #[an, ag] 29)).putObj gB (.cells #[bn, bg] 29)) := below_putObj hR6 HSB.out
   refine wpAnyX_one (i := 7) (o := ⟨none, _, _, _, _, none⟩) (by kernel_rfl) rfl (by rfl) (fun K1 hK1 => ?_)
   have HK1 := Lib.hid hK1; clear hK1
   refine oper_store_blk 29 (.tmp 6) (.tmp 29) rfl gB rfl rfl hB7 size29 rfl rfl HY2.out.law.one ?_
   refine HK1.out _ _ ⟨hR7, fun _ => trivial⟩ ?_
   clear HK1
   try simp only [Act.put]
   refine wpAnyX_done (by kernel_rfl) ?_ _
   exact TAIL gA gB _ ⟨⟨(World.putObj_heap_other HLB.out.symm).trans hA7, HX2.out.nx.below hR7 (Nat.le_refl _), HX2.out.gd.below hR7 (Nat.le_refl _)⟩, ⟨World.putObj_heap_same (lt_blk hB7), HY2.out.nx.below hR7 (Nat.le_refl _), HY2.out.gd.below hR7 (Nat.le_refl _)⟩, hR7⟩
  refine AllReadyX.cons (o := ⟨some 5, _, _, _, _, none⟩) rfl (by rfl) (fun K1 hK1 => ?_) ?_
  ·have HK1 := Lib.hid hK1; clear hK1
   have hRa := Hq0.out.alloc Hq0.out.size (.cells #[.slice none 0 0, .slice none 0 0] 29)
   go_simp
   refine HK1.out _ _ ⟨hRa, fun _ => trivial⟩ ?_
   clear HK1
   try simp only [Act.put, List.setIfInBounds_toArray, List.set_cons_zero, List.set_cons_succ]
   have cA : (wq0.alloc (.cells #[.slice none 0 0, .slice none 0 0] 29)).heap[wq0.heap.size]? = some (.cells #[.slice none 0 0, .slice none 0 0] 29 (0, 0)) := heap_newI rfl
   have hbn := (Below.refl _ wq0).alloc (Nat.le_refl _) (.cells #[.slice none 0 0, .slice none 0 0] 29)
   have HSA := Lib.hid Hq0.out.size
   obtain ⟨wq1, hw⟩ : ∃ q, q = wq0.alloc (.cells #[.slice none 0 0, .slice none 0 0] 29) := ⟨_, rfl⟩
   rw [← hw] at hRa cA ⊢
   obtain ⟨gA, hgA⟩ : ∃ q, q = wq0.heap.size := ⟨_, rfl⟩
   rw [← hgA] at cA HSA ⊢
   have Hq1 := Lib.hid hRa
   have HCA := Lib.hid cA
   clear hw hgA hRa hbn cA
   refine wpAnyX_ready (rs := [1, 5]) (by kernel_rfl) (by simp) ?_
   refine AllReadyX.cons (o := ⟨some 27, _, _, _, _, none⟩) rfl (by rfl) (fun K1 hK1 => ?_) ?_
   ·have HK1 := Lib.hid hK1; clear hK1
    refine oper_call (ts := _) (xs := #[.tmp 26]) (f := 22) rfl (enters_of Try.func22 (by kernel_rfl) rfl) rfl (R := fun w' => Below wq1.heap.size wq1 w') (v := .agg #[an, ag]) ((given_any (HX2.out.below Hq1.out).law).mono (by rintro e w' ⟨rfl, h⟩; exact ⟨rfl, h⟩)) ?_
    rintro wq2 hbwq2
    have Hq2 := Lib.hid (btr Hq1.out hbwq2 (Nat.le_refl _))
    refine HK1.out _ _ ⟨Hq2.out, fun _ => trivial⟩ ?_
    clear HK1
    try simp only [Act.put, List.setIfInBounds_toArray, List.set_cons_zero, List.set_cons_succ]
    have HCA := Lib.hid (blk_keep HCA.out hbwq2)
    refine wpAnyX_ready (rs := [3, 5]) (by kernel_rfl) (by simp) ?_
    refine AllReadyX.cons (o := ⟨some 29, _, _, _, _, none⟩) rfl (by rfl) (fun K1 hK1 => ?_) ?_
    ·have HK1 := Lib.hid hK1; clear hK1
     refine oper_call (ts := _) (xs := #[.tmp 28]) (f := 22) rfl (enters_of Try.func22 (by kernel_rfl) rfl) rfl (R := fun w' => Below wq2.heap.size wq2 w') (v := .agg #[bn, bg]) ((given_any (HY2.out.below Hq2.out).law).mono (by rintro e w' ⟨rfl, h⟩; exact ⟨rfl, h⟩)) ?_
     rintro wq3 hbwq3
     have Hq3 := Lib.hid (btr Hq2.out hbwq3 (Nat.le_refl _))
     refine HK1.out _ _ ⟨Hq3.out, fun _ => trivial⟩ ?_
     clear HK1
     try simp only [Act.put, List.setIfInBounds_toArray, List.set_cons_zero, List.set_cons_succ]
     have HCA := Lib.hid (blk_keep HCA.out hbwq3)
     refine wpAnyX_one (i := 5) (o := ⟨some 6, _, _, _, _, none⟩) (by kernel_rfl) rfl (by rfl) (fun K1 hK1 => ?_)
     have HK1 := Lib.hid hK1; clear hK1
     have hRa := Hq3.out.alloc Hq3.out.size (.cells #[.slice none 0 0, .slice none 0 0] 29)
     go_simp
     refine HK1.out _ _ ⟨hRa, fun _ => trivial⟩ ?_
     clear HK1
     try simp only [Act.put, List.setIfInBounds_toArray, List.set_cons_zero, List.set_cons_succ]
     have cB : (wq3.alloc (.cells #[.slice none 0 0, .slice none 0 0] 29)).heap[wq3.heap.size]? = some (.cells #[.slice none 0 0, .slice none 0 0] 29 (0, 0)) := heap_newI rfl
     have hbn := (Below.refl _ wq3).alloc (Nat.le_refl _) (.cells #[.slice none 0 0, .slice none 0 0] 29)
     have HLA := Lib.hid (show gA ≠ wq3.heap.size from fun e => by have := lt_blk HCA.out; omega)
     have cA := blk_keep HCA.out hbn
     have HSB := Lib.hid Hq3.out.size
     obtain ⟨wq4, hw⟩ : ∃ q, q = wq3.alloc (.cells #[.slice none 0 0, .slice none 0 0] 29) := ⟨_, rfl⟩
     rw [← hw] at hRa cB cA ⊢
     obtain ⟨gB, hgB⟩ : ∃ q, q = wq3.heap.size := ⟨_, rfl⟩
     rw [← hgB] at cB HSB HLA ⊢
     have Hq4 := Lib.hid hRa
     have HCB := Lib.hid cB
     have HCA := Lib.hid cA
     clear hw hgB hRa hbn cB cA
     have hR6 : Below w3.heap.size w3 (wq4.putObj gA (.cells #[an, ag] 29)) := below_putObj Hq4.out HSA.out
     refine wpAnyX_one (i := 6) (o := ⟨none, _, _, _, _, none⟩) (by kernel_rfl) rfl (by rfl) (fun K1 hK1 => ?_)
     have HK1 := Lib.hid hK1; clear hK1
     refine oper_store_blk 29 (.tmp 5) (.tmp 27) rfl gA rfl rfl HCA.out size29 rfl rfl HX2.out.law.one ?_
     refine HK1.out _ _ ⟨hR6, fun _ => trivial⟩ ?_
     clear HK1
     try simp only [Act.put]
     have hB7 : (wq4.putObj gA (.cells #[an, ag] 29)).heap[gB]? = some (.cells #[.slice none 0 0, .slice none 0 0] 29 (0, 0)) := (World.putObj_heap_other (HLA.out.symm)).trans HCB.out
     have hA7 : (wq4.putObj gA (.cells #[an, ag] 29)).heap[gA]? = some (.cells #[an, ag] 29 (0, 0)) := World.putObj_heap_same (lt_blk HCA.out)
     have hR7 : Below w3.heap.size w3 ((wq4.putObj gA (.cells #[an, ag] 29)).putObj gB (.cells #[bn, bg] 29)) := below_putObj hR6 HSB.out
     refine wpAnyX_one (i := 7) (o := ⟨none, _, _, _, _, none⟩) (by kernel_rfl) rfl (by rfl) (fun K1 hK1 => ?_)
     have HK1 := Lib.hid hK1; clear hK1
     refine oper_store_blk 29 (.tmp 6) (.tmp 29) rfl gB rfl rfl hB7 size29 rfl rfl HY2.out.law.one ?_
     refine HK1.out _ _ ⟨hR7, fun _ => trivial⟩ ?_
     clear HK1
     try simp only [Act.put]
     refine wpAnyX_done (by kernel_rfl) ?_ _
     exact TAIL gA gB _ ⟨⟨(World.putObj_heap_other HLA.out).trans hA7, HX2.out.nx.below hR7 (Nat.le_refl _), HX2.out.gd.below hR7 (Nat.le_refl _)⟩, ⟨World.putObj_heap_same (lt_blk hB7), HY2.out.nx.below hR7 (Nat.le_refl _), HY2.out.gd.below hR7 (Nat.le_refl _)⟩, hR7⟩
    refine AllReadyX.cons (o := ⟨some 6, _, _, _, _, none⟩) rfl (by rfl) (fun K1 hK1 => ?_) AllReadyX.nil
    have HK1 := Lib.hid hK1; clear hK1
    have hRa := Hq2.out.alloc Hq2.out.size (.cells #[.slice none 0 0, .slice none 0 0] 29)
    go_simp
    refine HK1.out _ _ ⟨hRa, fun _ => trivial⟩ ?_
    clear HK1
    try simp only [Act.put, List.setIfInBounds_toArray, List.set_cons_zero, List.set_cons_succ]
    have cB : (wq2.alloc (.cells #[.slice none 0 0, .slice none 0 0] 29)).heap[wq2.heap.size]? = some (.cells #[.slice none 0 0, .slice none 0 0] 29 (0, 0)) := heap_newI rfl
    have hbn := (Below.refl _ wq2).alloc (Nat.le_refl _) (.cells #[.slice none 0 0, .slice none 0 0] 29)
    have HLA := Lib.hid (show gA ≠ wq2.heap.size from fun e => by have := lt_blk HCA.out; omega)
    have cA := blk_keep HCA.out hbn
    have HSB := Lib.hid Hq2.out.size
    obtain ⟨wq3, hw⟩ : ∃ q, q = wq2.alloc (.cells #[.slice none 0 0, .slice none 0 0] 29) := ⟨_, rfl⟩
    rw [← hw] at hRa cB cA ⊢
    obtain ⟨gB, hgB⟩ : ∃ q, q = wq2.heap.size := ⟨_, rfl⟩
    rw [← hgB] at cB HSB HLA ⊢
    have Hq3 := Lib.hid hRa
    have HCB := Lib.hid cB
    have HCA := Lib.hid cA
    clear hw hgB hRa hbn cB cA
    refine wpAnyX_one (i := 3) (o := ⟨some 29, _, _, _, _, none⟩) (by kernel_rfl) rfl (by rfl) (fun K1 hK1 => ?_)
    have HK1 := Lib.hid hK1; clear hK1
    refine oper_call (ts := _) (xs := #[.tmp 28]) (f := 22) rfl (enters_of Try.func22 (by kernel_rfl) rfl) rfl (R := fun w' => Below wq3.heap.size wq3 w') (v := .agg #[bn, bg]) ((given_any (HY2.out.below Hq3.out).law).mono (by rintro e w' ⟨rfl, h⟩; exact ⟨rfl, h⟩)) ?_
    rintro wq4 hbwq4
    have Hq4 := Lib.hid (btr Hq3.out hbwq4 (Nat.le_refl _))
    refine HK1.out _ _ ⟨Hq4.out, fun _ => trivial⟩ ?_
    clear HK1
    try simp only [Act.put, List.setIfInBounds_toArray, List.set_cons_zero, List.set_cons_succ]
    have HCA := Lib.hid (blk_keep HCA.out hbwq4)
    have HCB := Lib.hid (blk_keep HCB.out hbwq4)
    have hR6 : Below w3.heap.size w3 (wq4.putObj gA (.cells #[an, ag] 29)) := below_putObj Hq4.out HSA.out
    refine wpAnyX_one (i := 6) (o := ⟨none, _, _, _, _, none⟩) (by kernel_rfl) rfl (by rfl) (fun K1 hK1 => ?_)
    have HK1 := Lib.hid hK1; clear hK1
    refine oper_store_blk 29 (.tmp 5) (.tmp 27) rfl gA rfl rfl HCA.out size29 rfl rfl HX2.out.law.one ?_
    refine HK1.out _ _ ⟨hR6, fun _ => trivial⟩ ?_
    clear HK1
    try simp only [Act.put]
    have hB7 : (wq4.putObj gA (.cells #[an, ag] 29)).heap[gB]? = some (.cells #[.slice none 0 0, .slice none 0 0] 29 (0, 0)) := (World.putObj_heap_other (HLA.out.symm)).trans HCB.out
    have hA7 : (wq4.putObj gA (.cells #[an, ag] 29)).heap[gA]? = some (.cells #[an, ag] 29 (0, 0)) := World.putObj_heap_same (lt_blk HCA.out)
    have hR7 : Below w3.heap.size w3 ((wq4.putObj gA (.cells #[an, ag] 29)).putObj gB (.cells #[bn, bg] 29)) := below_putObj hR6 HSB.out
    refine wpAnyX_one (i := 7) (o := ⟨none, _, _, _, _, none⟩) (by kernel_rfl) rfl (by rfl) (fun K1 hK1 => ?_)
    have HK1 := Lib.hid hK1; clear hK1
    refine oper_store_blk 29 (.tmp 6) (.tmp 29) rfl gB rfl rfl hB7 size29 rfl rfl HY2.out.law.one ?_
    refine HK1.out _ _ ⟨hR7, fun _ => trivial⟩ ?_
    clear HK1
    try simp only [Act.put]
    refine wpAnyX_done (by kernel_rfl) ?_ _
    exact TAIL gA gB _ ⟨⟨(World.putObj_heap_other HLA.out).trans hA7, HX2.out.nx.below hR7 (Nat.le_refl _), HX2.out.gd.below hR7 (Nat.le_refl _)⟩, ⟨World.putObj_heap_same (lt_blk hB7), HY2.out.nx.below hR7 (Nat.le_refl _), HY2.out.gd.below hR7 (Nat.le_refl _)⟩, hR7⟩
   refine AllReadyX.cons (o := ⟨some 6, _, _, _, _, none⟩) rfl (by rfl) (fun K1 hK1 => ?_) AllReadyX.nil
   have HK1 := Lib.hid hK1; clear hK1
   have hRa := Hq1.out.alloc Hq1.out.size (.cells #[.slice none 0 0, .slice none 0 0] 29)
   go_simp
   refine HK1.out _ _ ⟨hRa, fun _ => trivial⟩ ?_
   clear HK1
   try simp only [Act.put, List.setIfInBounds_toArray, List.set_cons_zero, List.set_cons_succ]
   have cB : (wq1.alloc (.cells #[.slice none 0 0, .slice none 0 0] 29)).heap[wq1.heap.size]? = some (.cells #[.slice none 0 0, .slice none 0 0] 29 (0, 0)) := heap_newI rfl
   have hbn := (Below.refl _ wq1).alloc (Nat.le_refl _) (.cells #[.slice none 0 0, .slice none 0 0] 29)
   have HLA := Lib.hid (show gA ≠ wq1.heap.size from fun e => by have := lt_blk HCA.out; omega)
   have cA := blk_keep HCA.out hbn
   have HSB := Lib.hid Hq1.out.size
   obtain ⟨wq2, hw⟩ : ∃ q, q = wq1.alloc (.cells #[.slice none 0 0, .slice none 0 0] 29) := ⟨_, rfl⟩
   rw [← hw] at hRa cB cA ⊢
   obtain ⟨gB, hgB⟩ : ∃ q, q = wq1.heap.size := ⟨_, rfl⟩
   rw [← hgB] at cB HSB HLA ⊢
   have Hq2 := Lib.hid hRa
   have HCB := Lib.hid cB
   have HCA := Lib.hid cA
   clear hw hgB hRa hbn cB cA
   refine wpAnyX_one (i := 1) (o := ⟨some 27, _, _, _, _, none⟩) (by kernel_rfl) rfl (by rfl) (fun K1 hK1 => ?_)
   have HK1 := Lib.hid hK1; clear hK1
   refine oper_call (ts := _) (xs := #[.tmp 26]) (f := 22) rfl (enters_of Try.func22 (by kernel_rfl) rfl) rfl (R := fun w' => Below wq2.heap.size wq2 w') (v := .agg #[an, ag]) ((given_any (HX2.out.below Hq2.out).law).mono (by rintro e w' ⟨rfl, h⟩; exact ⟨rfl, h⟩)) ?_
   rintro wq3 hbwq3
   have Hq3 := Lib.hid (btr Hq2.out hbwq3 (Nat.le_refl _))
   refine HK1.out _ _ ⟨Hq3.out, fun _ => trivial⟩ ?_
   clear HK1
   try simp only [Act.put, List.setIfInBounds_toArray, List.set_cons_zero, List.set_cons_succ]
   have HCA := Lib.hid (blk_keep HCA.out hbwq3)
   have HCB := Lib.hid (blk_keep HCB.out hbwq3)
   refine wpAnyX_one (i := 3) (o := ⟨some 29, _, _, _, _, none⟩) (by kernel_rfl) rfl (by rfl) (fun K1 hK1 => ?_)
   have HK1 := Lib.hid hK1; clear hK1
   refine oper_call (ts := _) (xs := #[.tmp 28]) (f := 22) rfl (enters_of Try.func22 (by kernel_rfl) rfl) rfl (R := fun w' => Below wq3.heap.size wq3 w') (v := .agg #[bn, bg]) ((given_any (HY2.out.below Hq3.out).law).mono (by rintro e w' ⟨rfl, h⟩; exact ⟨rfl, h⟩)) ?_
   rintro wq4 hbwq4
   have Hq4 := Lib.hid (btr Hq3.out hbwq4 (Nat.le_refl _))
   refine HK1.out _ _ ⟨Hq4.out, fun _ => trivial⟩ ?_
   clear HK1
   try simp only [Act.put, List.setIfInBounds_toArray, List.set_cons_zero, List.set_cons_succ]
   have HCA := Lib.hid (blk_keep HCA.out hbwq4)
   have HCB := Lib.hid (blk_keep HCB.out hbwq4)
   have hR6 : Below w3.heap.size w3 (wq4.putObj gA (.cells #[an, ag] 29)) := below_putObj Hq4.out HSA.out
   refine wpAnyX_one (i := 6) (o := ⟨none, _, _, _, _, none⟩) (by kernel_rfl) rfl (by rfl) (fun K1 hK1 => ?_)
   have HK1 := Lib.hid hK1; clear hK1
   refine oper_store_blk 29 (.tmp 5) (.tmp 27) rfl gA rfl rfl HCA.out size29 rfl rfl HX2.out.law.one ?_
   refine HK1.out _ _ ⟨hR6, fun _ => trivial⟩ ?_
   clear HK1
   try simp only [Act.put]
   have hB7 : (wq4.putObj gA (.cells #[an, ag] 29)).heap[gB]? = some (.cells #[.slice none 0 0, .slice none 0 0] 29 (0, 0)) := (World.putObj_heap_other (HLA.out.symm)).trans HCB.out
   have hA7 : (wq4.putObj gA (.cells #[an, ag] 29)).heap[gA]? = some (.cells #[an, ag] 29 (0, 0)) := World.putObj_heap_same (lt_blk HCA.out)
   have hR7 : Below w3.heap.size w3 ((wq4.putObj gA (.cells #[an, ag] 29)).putObj gB (.cells #[bn, bg] 29)) := below_putObj hR6 HSB.out
   refine wpAnyX_one (i := 7) (o := ⟨none, _, _, _, _, none⟩) (by kernel_rfl) rfl (by rfl) (fun K1 hK1 => ?_)
   have HK1 := Lib.hid hK1; clear hK1
   refine oper_store_blk 29 (.tmp 6) (.tmp 29) rfl gB rfl rfl hB7 size29 rfl rfl HY2.out.law.one ?_
   refine HK1.out _ _ ⟨hR7, fun _ => trivial⟩ ?_
   clear HK1
   try simp only [Act.put]
   refine wpAnyX_done (by kernel_rfl) ?_ _
   exact TAIL gA gB _ ⟨⟨(World.putObj_heap_other HLA.out).trans hA7, HX2.out.nx.below hR7 (Nat.le_refl _), HX2.out.gd.below hR7 (Nat.le_refl _)⟩, ⟨World.putObj_heap_same (lt_blk hB7), HY2.out.nx.below hR7 (Nat.le_refl _), HY2.out.gd.below hR7 (Nat.le_refl _)⟩, hR7⟩
  refine AllReadyX.cons (o := ⟨some 6, _, _, _, _, none⟩) rfl (by rfl) (fun K1 hK1 => ?_) AllReadyX.nil
  have HK1 := Lib.hid hK1; clear hK1
  have hRa := Hq0.out.alloc Hq0.out.size (.cells #[.slice none 0 0, .slice none 0 0] 29)
  go_simp
  refine HK1.out _ _ ⟨hRa, fun _ => trivial⟩ ?_
  clear HK1
  try simp only [Act.put, List.setIfInBounds_toArray, List.set_cons_zero, List.set_cons_succ]
  have cB : (wq0.alloc (.cells #[.slice none 0 0, .slice none 0 0] 29)).heap[wq0.heap.size]? = some (.cells #[.slice none 0 0, .slice none 0 0] 29 (0, 0)) := heap_newI rfl
  have hbn := (Below.refl _ wq0).alloc (Nat.le_refl _) (.cells #[.slice none 0 0, .slice none 0 0] 29)
  have HSB := Lib.hid Hq0.out.size
  obtain ⟨wq1, hw⟩ : ∃ q, q = wq0.alloc (.cells #[.slice none 0 0, .slice none 0 0] 29) := ⟨_, rfl⟩
  rw [← hw] at hRa cB ⊢
  obtain ⟨gB, hgB⟩ : ∃ q, q = wq0.heap.size := ⟨_, rfl⟩
  rw [← hgB] at cB HSB ⊢
  have Hq1 := Lib.hid hRa
  have HCB := Lib.hid cB
  clear hw hgB hRa hbn cB
  refine wpAnyX_ready (rs := [1, 4]) (by kernel_rfl) (by simp) ?_
  refine AllReadyX.cons (o := ⟨some 27, _, _, _, _, none⟩) rfl (by rfl) (fun K1 hK1 => ?_) ?_
  ·have HK1 := Lib.hid hK1; clear hK1
   refine oper_call (ts := _) (xs := #[.tmp 26]) (f := 22) rfl (enters_of Try.func22 (by kernel_rfl) rfl) rfl (R := fun w' => Below wq1.heap.size wq1 w') (v := .agg #[an, ag]) ((given_any (HX2.out.below Hq1.out).law).mono (by rintro e w' ⟨rfl, h⟩; exact ⟨rfl, h⟩)) ?_
   rintro wq2 hbwq2
   have Hq2 := Lib.hid (btr Hq1.out hbwq2 (Nat.le_refl _))
   refine HK1.out _ _ ⟨Hq2.out, fun _ => trivial⟩ ?_
   clear HK1
   try simp only [Act.put, List.setIfInBounds_toArray, List.set_cons_zero, List.set_cons_succ]
   have HCB := Lib.hid (blk_keep HCB.out hbwq2)
   refine wpAnyX_ready (rs := [3, 4]) (by kernel_rfl) (by simp) ?_
   refine AllReadyX.cons (o := ⟨some 29, _, _, _, _, none⟩) rfl (by rfl) (fun K1 hK1 => ?_) ?_
   ·have HK1 := Lib.hid hK1; clear hK1
    refine oper_call (ts := _) (xs := #[.tmp 28]) (f := 22) rfl (enters_of Try.func22 (by kernel_rfl) rfl) rfl (R := fun w' => Below wq2.heap.size wq2 w') (v := .agg #[bn, bg]) ((given_any (HY2.out.below Hq2.out).law).mono (by rintro e w' ⟨rfl, h⟩; exact ⟨rfl, h⟩)) ?_
    rintro wq3 hbwq3
    have Hq3 := Lib.hid (btr Hq2.out hbwq3 (Nat.le_refl _))
    refine HK1.out _ _ ⟨Hq3.out, fun _ => trivial⟩ ?_
    clear HK1
    try simp only [Act.put, List.setIfInBounds_toArray, List.set_cons_zero, List.set_cons_succ]
    have HCB := Lib.hid (blk_keep HCB.out hbwq3)
    refine wpAnyX_one (i := 4) (o := ⟨some 5, _, _, _, _, none⟩) (by kernel_rfl) rfl (by rfl) (fun K1 hK1 => ?_)
    have HK1 := Lib.hid hK1; clear hK1
    have hRa := Hq3.out.alloc Hq3.out.size (.cells #[.slice none 0 0, .slice none 0 0] 29)
    go_simp
    refine HK1.out _ _ ⟨hRa, fun _ => trivial⟩ ?_
    clear HK1
    try simp only [Act.put, List.setIfInBounds_toArray, List.set_cons_zero, List.set_cons_succ]
    have cA : (wq3.alloc (.cells #[.slice none 0 0, .slice none 0 0] 29)).heap[wq3.heap.size]? = some (.cells #[.slice none 0 0, .slice none 0 0] 29 (0, 0)) := heap_newI rfl
    have hbn := (Below.refl _ wq3).alloc (Nat.le_refl _) (.cells #[.slice none 0 0, .slice none 0 0] 29)
    have HLB := Lib.hid (show gB ≠ wq3.heap.size from fun e => by have := lt_blk HCB.out; omega)
    have cB := blk_keep HCB.out hbn
    have HSA := Lib.hid Hq3.out.size
    obtain ⟨wq4, hw⟩ : ∃ q, q = wq3.alloc (.cells #[.slice none 0 0, .slice none 0 0] 29) := ⟨_, rfl⟩
    rw [← hw] at hRa cA cB ⊢
    obtain ⟨gA, hgA⟩ : ∃ q, q = wq3.heap.size := ⟨_, rfl⟩
    rw [← hgA] at cA HSA HLB ⊢
    have Hq4 := Lib.hid hRa
    have HCA := Lib.hid cA
    have HCB := Lib.hid cB
    clear hw hgA hRa hbn cA cB
    have hR6 : Below w3.heap.size w3 (wq4.putObj gA (.cells #[an, ag] 29)) := below_putObj Hq4.out HSA.out
    refine wpAnyX_one (i := 6) (o := ⟨none, _, _, _, _, none⟩) (by kernel_rfl) rfl (by rfl) (fun K1 hK1 => ?_)
    have HK1 := Lib.hid hK1; clear hK1
    refine oper_store_blk 29 (.tmp 5) (.tmp 27) rfl gA rfl rfl HCA.out size29 rfl rfl HX2.out.law.one ?_
    refine HK1.out _ _ ⟨hR6, fun _ => trivial⟩ ?_
    clear HK1
    try simp only [Act.put]
    have hB7 : (wq4.putObj gA (.cells #[an, ag] 29)).heap[gB]? = some (.cells #[.slice none 0 0, .slice none 0 0] 29 (0, 0)) := (World.putObj_heap_other (HLB.out.symm.symm)).trans HCB.out
    have hA7 : (wq4.putObj gA (.cells #[an, ag] 29)).heap[gA]? = some (.cells #[an, ag] 29 (0, 0)) := World.putObj_heap_same (lt_blk HCA.out)
    have hR7 : Below w3.heap.size w3 ((wq4.putObj gA (.cells #[an, ag] 29)).putObj gB (.cells #[bn, bg] 29)) := below_putObj hR6 HSB.out
    refine wpAnyX_one (i := 7) (o := ⟨none, _, _, _, _, none⟩) (by kernel_rfl) rfl (by rfl) (fun K1 hK1 => ?_)
    have HK1 := Lib.hid hK1; clear hK1
    refine oper_store_blk 29 (.tmp 6) (.tmp 29) rfl gB rfl rfl hB7 size29 rfl rfl HY2.out.law.one ?_
    refine HK1.out _ _ ⟨hR7, fun _ => trivial⟩ ?_
    clear HK1
    try simp only [Act.put]
    refine wpAnyX_done (by kernel_rfl) ?_ _
    exact TAIL gA gB _ ⟨⟨(World.putObj_heap_other HLB.out.symm).trans hA7, HX2.out.nx.below hR7 (Nat.le_refl _), HX2.out.gd.below hR7 (Nat.le_refl _)⟩, ⟨World.putObj_heap_same (lt_blk hB7), HY2.out.nx.below hR7 (Nat.le_refl _), HY2.out.gd.below hR7 (Nat.le_refl _)⟩, hR7⟩
   refine AllReadyX.cons (o := ⟨some 5, _, _, _, _, none⟩) rfl (by rfl) (fun K1 hK1 => ?_) AllReadyX.nil
   have HK1 := Lib.hid hK1; clear hK1
   have hRa := Hq2.out.alloc Hq2.out.size (.cells #[.slice none 0 0, .slice none 0 0] 29)
   go_simp
   refine HK1.out _ _ ⟨hRa, fun _ => trivial⟩ ?_
   clear HK1
   try simp only [Act.put, List.setIfInBounds_toArray, List.set_cons_zero, List.set_cons_succ]
   have cA : (wq2.alloc (.cells #[.slice none 0 0, .slice none 0 0] 29)).heap[wq2.heap.size]? = some (.cells #[.slice none 0 0, .slice none 0 0] 29 (0, 0)) := heap_newI rfl
   have hbn := (Below.refl _ wq2).alloc (Nat.le_refl _) (.cells #[.slice none 0 0, .slice none 0 0] 29)
   have HLB := Lib.hid (show gB ≠ wq2.heap.size from fun e => by have := lt_blk HCB.out; omega)
   have cB := blk_keep HCB.out hbn
   have HSA := Lib.hid Hq2.out.size
   obtain ⟨wq3, hw⟩ : ∃ q, q = wq2.alloc (.cells #[.slice none 0 0, .slice none 0 0] 29) := ⟨_, rfl⟩
   rw [← hw] at hRa cA cB ⊢
   obtain ⟨gA, hgA⟩ : ∃ q, q = wq2.heap.size := ⟨_, rfl⟩
   rw [← hgA] at cA HSA HLB ⊢
   have Hq3 := Lib.hid hRa
   have HCA := Lib.hid cA
   have HCB := Lib.hid cB
   clear hw hgA hRa hbn cA cB
   refine wpAnyX_one (i := 3) (o := ⟨some 29, _, _, _, _, none⟩) (by kernel_rfl) rfl (by rfl) (fun K1 hK1 => ?_)
   have HK1 := Lib.hid hK1; clear hK1
   refine oper_call (ts := _) (xs := #[.tmp 28]) (f := 22) rfl (enters_of Try.func22 (by kernel_rfl) rfl) rfl (R := fun w' => Below wq3.heap.size wq3 w') (v := .agg #[bn, bg]) ((given_any (HY2.out.below Hq3.out).law).mono (by rintro e w' ⟨rfl, h⟩; exact ⟨rfl, h⟩)) ?_
   rintro wq4 hbwq4
   have Hq4 := Lib.hid (btr Hq3.out hbwq4 (Nat.le_refl _))
   refine HK1.out _ _ ⟨Hq4.out, fun _ => trivial⟩ ?_
   clear HK1
   try simp only [Act.put, List.setIfInBounds_toArray, List.set_cons_zero, List.set_cons_succ]
   have HCB := Lib.hid (blk_keep HCB.out hbwq4)
   have HCA := Lib.hid (blk_keep HCA.out hbwq4)
   have hR6 : Below w3.heap.size w3 (wq4.putObj gA (.cells #[an, ag] 29)) := below_putObj Hq4.out HSA.out
   refine wpAnyX_one (i := 6) (o := ⟨none, _, _, _, _, none⟩) (by kernel_rfl) rfl (by rfl) (fun K1 hK1 => ?_)
   have HK1 := Lib.hid hK1; clear hK1
   refine oper_store_blk 29 (.tmp 5) (.tmp 27) rfl gA rfl rfl HCA.out size29 rfl rfl HX2.out.law.one ?_
   refine HK1.out _ _ ⟨hR6, fun _ => trivial⟩ ?_
   clear HK1
   try simp only [Act.put]
   have hB7 : (wq4.putObj gA (.cells #[an, ag] 29)).heap[gB]? = some (.cells #[.slice none 0 0, .slice none 0 0] 29 (0, 0)) := (World.putObj_heap_other (HLB.out.symm.symm)).trans HCB.out
   have hA7 : (wq4.putObj gA (.cells #[an, ag] 29)).heap[gA]? = some (.cells #[an, ag] 29 (0, 0)) := World.putObj_heap_same (lt_blk HCA.out)
   have hR7 : Below w3.heap.size w3 ((wq4.putObj gA (.cells #[an, ag] 29)).putObj gB (.cells #[bn, bg] 29)) := below_putObj hR6 HSB.out
   refine wpAnyX_one (i := 7) (o := ⟨none, _, _, _, _, none⟩) (by kernel_rfl) rfl (by rfl) (fun K1 hK1 => ?_)
   have HK1 := Lib.hid hK1; clear hK1
   refine oper_store_blk 29 (.tmp 6) (.tmp 29) rfl gB rfl rfl hB7 size29 rfl rfl HY2.out.law.one ?_
   refine HK1.out _ _ ⟨hR7, fun _ => trivial⟩ ?_
   clear HK1
   try simp only [Act.put]
   refine wpAnyX_done (by kernel_rfl) ?_ _
   exact TAIL gA gB _ ⟨⟨(World.putObj_heap_other HLB.out.symm).trans hA7, HX2.out.nx.below hR7 (Nat.le_refl _), HX2.out.gd.below hR7 (Nat.le_refl _)⟩, ⟨World.putObj_heap_same (lt_blk hB7), HY2.out.nx.below hR7 (Nat.le_refl _), HY2.out.gd.below hR7 (Nat.le_refl _)⟩, hR7⟩
  refine AllReadyX.cons (o := ⟨some 5, _, _, _, _, none⟩) rfl (by rfl) (fun K1 hK1 => ?_) AllReadyX.nil
  have HK1 := Lib.hid hK1; clear hK1
  have hRa := Hq1.out.alloc Hq1.out.size (.cells #[.slice none 0 0, .slice none 0 0] 29)
  go_simp
  refine HK1.out _ _ ⟨hRa, fun _ => trivial⟩ ?_
  clear HK1
  try simp only [Act.put, List.setIfInBounds_toArray, List.set_cons_zero, List.set_cons_succ]
  have cA : (wq1.alloc (.cells #[.slice none 0 0, .slice none 0 0] 29)).heap[wq1.heap.size]? = some (.cells #[.slice none 0 0, .slice none 0 0] 29 (0, 0)) := heap_newI rfl
  have hbn := (Below.refl _ wq1).alloc (Nat.le_refl _) (.cells #[.slice none 0 0, .slice none 0 0] 29)
  have HLB := Lib.hid (show gB ≠ wq1.heap.size from fun e => by have := lt_blk HCB.out; omega)
  have cB := blk_keep HCB.out hbn
  have HSA := Lib.hid Hq1.out.size
  obtain ⟨wq2, hw⟩ : ∃ q, q = wq1.alloc (.cells #[.slice none 0 0, .slice none 0 0] 29) := ⟨_, rfl⟩
  rw [← hw] at hRa cA cB ⊢
  obtain ⟨gA, hgA⟩ : ∃ q, q = wq1.heap.size := ⟨_, rfl⟩
  rw [← hgA] at cA HSA HLB ⊢
  have Hq2 := Lib.hid hRa
  have HCA := Lib.hid cA
  have HCB := Lib.hid cB
  clear hw hgA hRa hbn cA cB
  refine wpAnyX_one (i := 1) (o := ⟨some 27, _, _, _, _, none⟩) (by kernel_rfl) rfl (by rfl) (fun K1 hK1 => ?_)
  have HK1 := Lib.hid hK1; clear hK1
  refine oper_call (ts := _) (xs := #[.tmp 26]) (f := 22) rfl (enters_of Try.func22 (by kernel_rfl) rfl) rfl (R := fun w' => Below wq2.heap.size wq2 w') (v := .agg #[an, ag]) ((given_any (HX2.out.below Hq2.out).law).mono (by rintro e w' ⟨rfl, h⟩; exact ⟨rfl, h⟩)) ?_
  rintro wq3 hbwq3
  have Hq3 := Lib.hid (btr Hq2.out hbwq3 (Nat.le_refl _))
  refine HK1.out _ _ ⟨Hq3.out, fun _ => trivial⟩ ?_
  clear HK1
  try simp only [Act.put, List.setIfInBounds_toArray, List.set_cons_zero, List.set_cons_succ]
  have HCB := Lib.hid (blk_keep HCB.out hbwq3)
  have HCA := Lib.hid (blk_keep HCA.out hbwq3)
  refine wpAnyX_one (i := 3) (o := ⟨some 29, _, _, _, _, none⟩) (by kernel_rfl) rfl (by rfl) (fun K1 hK1 => ?_)
  have HK1 := Lib.hid hK1; clear hK1
  refine oper_call (ts := _) (xs := #[.tmp 28]) (f := 22) rfl (enters_of Try.func22 (by kernel_rfl) rfl) rfl (R := fun w' => Below wq3.heap.size wq3 w') (v := .agg #[bn, bg]) ((given_any (HY2.out.below Hq3.out).law).mono (by rintro e w' ⟨rfl, h⟩; exact ⟨rfl, h⟩)) ?_
  rintro wq4 hbwq4
  have Hq4 := Lib.hid (btr Hq3.out hbwq4 (Nat.le_refl _))
  refine HK1.out _ _ ⟨Hq4.out, fun _ => trivial⟩ ?_
  clear HK1
  try simp only [Act.put, List.setIfInBounds_toArray, List.set_cons_zero, List.set_cons_succ]
  have HCB := Lib.hid (blk_keep HCB.out hbwq4)
  have HCA := Lib.hid (blk_keep HCA.out hbwq4)
  have hR6 : Below w3.heap.size w3 (wq4.putObj gA (.cells #[an, ag] 29)) := below_putObj Hq4.out HSA.out
  refine wpAnyX_one (i := 6) (o := ⟨none, _, _, _, _, none⟩) (by kernel_rfl) rfl (by rfl) (fun K1 hK1 => ?_)
  have HK1 := Lib.hid hK1; clear hK1
  refine oper_store_blk 29 (.tmp 5) (.tmp 27) rfl gA rfl rfl HCA.out size29 rfl rfl HX2.out.law.one ?_
  refine HK1.out _ _ ⟨hR6, fun _ => trivial⟩ ?_
  clear HK1
  try simp only [Act.put]
  have hB7 : (wq4.putObj gA (.cells #[an, ag] 29)).heap[gB]? = some (.cells #[.slice none 0 0, .slice none 0 0] 29 (0, 0)) := (World.putObj_heap_other (HLB.out.symm.symm)).trans HCB.out
  have hA7 : (wq4.putObj gA (.cells #[an, ag] 29)).heap[gA]? = some (.cells #[an, ag] 29 (0, 0)) := World.putObj_heap_same (lt_blk HCA.out)
  have hR7 : Below w3.heap.size w3 ((wq4.putObj gA (.cells #[an, ag] 29)).putObj gB (.cells #[bn, bg] 29)) := below_putObj hR6 HSB.out
  refine wpAnyX_one (i := 7) (o := ⟨none, _, _, _, _, none⟩) (by kernel_rfl) rfl (by rfl) (fun K1 hK1 => ?_)
  have HK1 := Lib.hid hK1; clear hK1
  refine oper_store_blk 29 (.tmp 6) (.tmp 29) rfl gB rfl rfl hB7 size29 rfl rfl HY2.out.law.one ?_
  refine HK1.out _ _ ⟨hR7, fun _ => trivial⟩ ?_
  clear HK1
  try simp only [Act.put]
  refine wpAnyX_done (by kernel_rfl) ?_ _
  exact TAIL gA gB _ ⟨⟨(World.putObj_heap_other HLB.out.symm).trans hA7, HX2.out.nx.below hR7 (Nat.le_refl _), HX2.out.gd.below hR7 (Nat.le_refl _)⟩, ⟨World.putObj_heap_same (lt_blk hB7), HY2.out.nx.below hR7 (Nat.le_refl _), HY2.out.gd.below hR7 (Nat.le_refl _)⟩, hR7⟩
 intro gA gB w4 hT4
 refine HK.out _ _ ?_; clear HK
 obtain ⟨hxA, hxB, hb34⟩ := hT4
 have HX4 := Lib.hid (HX2.out.below hb34)
 have HY4 := Lib.hid (HY2.out.below hb34)
 have HP4 := Lib.hid hxA
 have HQ4 := Lib.hid hxB
 have HBw4 := Lib.hid (HBw.out.trans (hb34.mono HG2.out))
 have HG4 := Lib.hid (Nat.le_trans HG2.out hb34.size)
 clear hxA hxB hb34 HX2 HY2 HBw HG2
 obtain ⟨E1, hE1⟩ : ∃ q, q = chkL la := ⟨_, rfl⟩
 obtain ⟨E2, hE2⟩ : ∃ q, q = bothE la lb := ⟨_, rfl⟩
 obtain ⟨E3, hE3⟩ : ∃ q, q = eitherE la lb := ⟨_, rfl⟩
 obtain ⟨M1, hM1⟩ : ∃ q, q = resL (notL la) E1 := ⟨_, rfl⟩
 obtain ⟨M2, hM2⟩ : ∃ q, q = resL (tabL (bothT la lb)) E2 := ⟨_, rfl⟩
 obtain ⟨M3, hM3⟩ : ∃ q, q = resL (tabL (eitherT la lb)) E3 := ⟨_, rfl⟩
 have H43 : Hid (∀ W, Below w4.heap.size w4 W → Calls Try.prog 43 #[.agg #[an, ag]] W fun e w' => ∃ vn vg, e = .returned (.tuple #[.agg #[vn, vg], .int .i64 E1]) ∧ LawA w' (.agg #[vn, vg]) M1 ∧ Below W.heap.size W w') := Lib.hid fun W hW => by rw [hM1, hE1]; exact not43_any (HX4.out.below hW).law
 have H44 : Hid (∀ W, Below w4.heap.size w4 W → Calls Try.prog 44 #[.agg #[an, ag]] W fun e w' => ∃ vn vg, e = .returned (.tuple #[.agg #[vn, vg], .int .i64 E1]) ∧ LawA w' (.agg #[vn, vg]) M1 ∧ Below W.heap.size W w') := Lib.hid fun W hW => by rw [hM1, hE1]; exact rnot_any (HP4.out.below hW).law
 have H42 : Hid (∀ W, Below w4.heap.size w4 W → Calls Try.prog 42 #[.agg #[an, ag], .agg #[bn, bg]] W fun e w' => ∃ vn vg, e = .returned (.tuple #[.agg #[vn, vg], .int .i64 E2]) ∧ LawA w' (.agg #[vn, vg]) M2 ∧ Below W.heap.size W w') := Lib.hid fun W hW => by rw [hM2, hE2]; exact ((both42_any (HX4.out.below hW).law (HY4.out.below hW).law).mono (by rintro e w' ⟨vn, vg, h1, h2, h3⟩; exact ⟨vn, vg, h1, h2.now, h3⟩))
 have H45 : Hid (∀ W, Below w4.heap.size w4 W → Calls Try.prog 45 #[.agg #[an, ag], .agg #[bn, bg]] W fun e w' => ∃ vn vg, e = .returned (.tuple #[.agg #[vn, vg], .int .i64 E2]) ∧ LawA w' (.agg #[vn, vg]) M2 ∧ Below W.heap.size W w') := Lib.hid fun W hW => by rw [hM2, hE2]; exact rboth_any (HP4.out.below hW).law (HQ4.out.below hW).law
 have H46 : Hid (∀ W, Below w4.heap.size w4 W → Calls Try.prog 46 #[.agg #[an, ag], .agg #[bn, bg]] W fun e w' => ∃ vn vg, e = .returned (.tuple #[.agg #[vn, vg], .int .i64 E3]) ∧ LawA w' (.agg #[vn, vg]) M3 ∧ Below W.heap.size W w') := Lib.hid fun W hW => by rw [hM3, hE3]; exact ((either46_any (HX4.out.below hW).law (HY4.out.below hW).law).mono (by rintro e w' ⟨vn, vg, h1, h2, h3⟩; exact ⟨vn, vg, h1, h2.now, h3⟩))
 have H47 : Hid (∀ W, Below w4.heap.size w4 W → Calls Try.prog 47 #[.agg #[an, ag], .agg #[bn, bg]] W fun e w' => ∃ vn vg, e = .returned (.tuple #[.agg #[vn, vg], .int .i64 E3]) ∧ LawA w' (.agg #[vn, vg]) M3 ∧ Below W.heap.size W w') := Lib.hid fun W hW => by rw [hM3, hE3]; exact reither_any (HP4.out.below hW).law (HQ4.out.below hW).law
 have H19 : Hid (∀ W u v M, LawA W u M → LawA W v M → Calls Try.prog 19 #[u, v] W fun e w' => e = .returned (.bool true) ∧ Below W.heap.size W w') := Lib.hid fun W u v M hu hv => (same_any hu hv).mono (by rintro e w' ⟨rfl, hb⟩; rw [same_true]; exact ⟨rfl, hb⟩)
 clear hE1 hE2 hE3 hM1 hM2 hM3
 refine wp_seq_k (fun K hK => ?_)
 have HK := Lib.hid hK; clear hK
 go_wp2_with (first | (refine wpList_load_blk rfl 25 (.tmp 2) rfl _ rfl (show _ from blk_keep HX4.out.blk (Below.refl _ _)) Try.underlying25 rfl size25 rfl ?_) | (refine wpList_load_blk rfl 25 (.tmp 3) rfl _ rfl (show _ from blk_keep HY4.out.blk (Below.refl _ _)) Try.underlying25 rfl size25 rfl ?_) | (refine wpList_load_blk rfl 29 (.tmp 5) rfl _ rfl (show _ from blk_keep HP4.out.blk (Below.refl _ _)) Try.underlying29 rfl size29 rfl ?_) | (refine wpList_load_blk rfl 29 (.tmp 6) rfl _ rfl (show _ from blk_keep HQ4.out.blk (Below.refl _ _)) Try.underlying29 rfl size29 rfl ?_) | (go_at_call 43; refine (H43.out _ (Below.refl _ _)).mono ?_; rintro e w5 ⟨un1, ug1, rfl, hl, hb⟩; have HL := Lib.hid hl; have HC := Lib.hid hb; clear hl hb) | (refine wpList_store_blk rfl 25 _ _ rfl _ rfl rfl (heap_newI rfl) size25 rfl rfl HL.out.one ?_))
 refine HK.out _ _ ?_; clear HK
 generalize hw : World.putObj _ _ _ = w6
 obtain ⟨hx, hb⟩ := storedT HL.out hw
 obtain ⟨g1, hg⟩ : ∃ g, g = w5.heap.size := ⟨_, rfl⟩
 rw [← hg] at hx ⊢
 have HX1s := Lib.hid hx
 have HD1 := Lib.hid (btr HC.out hb (Nat.le_refl _))
 have HB1 := Lib.hid HD1.out
 clear hx hb hw hg HL HC
 refine wp_seq_k (fun K hK => ?_)
 have HK := Lib.hid hK; clear hK
 go_wp2_with (first | (refine wpList_load_blk rfl 25 (.tmp 2) rfl _ rfl (show _ from blk_keep HX4.out.blk HB1.out) Try.underlying25 rfl size25 rfl ?_) | (refine wpList_load_blk rfl 25 (.tmp 3) rfl _ rfl (show _ from blk_keep HY4.out.blk HB1.out) Try.underlying25 rfl size25 rfl ?_) | (refine wpList_load_blk rfl 29 (.tmp 5) rfl _ rfl (show _ from blk_keep HP4.out.blk HB1.out) Try.underlying29 rfl size29 rfl ?_) | (refine wpList_load_blk rfl 29 (.tmp 6) rfl _ rfl (show _ from blk_keep HQ4.out.blk HB1.out) Try.underlying29 rfl size29 rfl ?_) | (go_at_call 44; refine (H44.out _ HB1.out).mono ?_; rintro e w7 ⟨un2, ug2, rfl, hl, hb⟩; have HL := Lib.hid hl; have HC := Lib.hid hb; clear hl hb) | (refine wpList_store_blk rfl 29 _ _ rfl _ rfl rfl (heap_newI rfl) size29 rfl rfl HL.out.one ?_))
 refine HK.out _ _ ?_; clear HK
 generalize hw : World.putObj _ _ _ = w8
 obtain ⟨hx, hb⟩ := storedT HL.out hw
 obtain ⟨g2, hg⟩ : ∃ g, g = w7.heap.size := ⟨_, rfl⟩
 rw [← hg] at hx ⊢
 have HX2s := Lib.hid hx
 have HD2 := Lib.hid (btr HC.out hb (Nat.le_refl _))
 have HB2 := Lib.hid (btr HB1.out HD2.out (Nat.le_refl _))
 clear hx hb hw hg HL HC
 refine wp_seq_k (fun K hK => ?_)
 have HK := Lib.hid hK; clear hK
 go_wp2_with (first | (refine wpList_load_blk rfl 25 (.tmp 2) rfl _ rfl (show _ from blk_keep HX4.out.blk HB2.out) Try.underlying25 rfl size25 rfl ?_) | (refine wpList_load_blk rfl 25 (.tmp 3) rfl _ rfl (show _ from blk_keep HY4.out.blk HB2.out) Try.underlying25 rfl size25 rfl ?_) | (refine wpList_load_blk rfl 29 (.tmp 5) rfl _ rfl (show _ from blk_keep HP4.out.blk HB2.out) Try.underlying29 rfl size29 rfl ?_) | (refine wpList_load_blk rfl 29 (.tmp 6) rfl _ rfl (show _ from blk_keep HQ4.out.blk HB2.out) Try.underlying29 rfl size29 rfl ?_) | (go_at_call 42; refine (H42.out _ HB2.out).mono ?_; rintro e w9 ⟨un3, ug3, rfl, hl, hb⟩; have HL := Lib.hid hl; have HC := Lib.hid hb; clear hl hb) | (refine wpList_store_blk rfl 25 _ _ rfl _ rfl rfl (heap_newI rfl) size25 rfl rfl HL.out.one ?_))
 refine HK.out _ _ ?_; clear HK
 generalize hw : World.putObj _ _ _ = w10
 obtain ⟨hx, hb⟩ := storedT HL.out hw
 obtain ⟨g3, hg⟩ : ∃ g, g = w9.heap.size := ⟨_, rfl⟩
 rw [← hg] at hx ⊢
 have HX3s := Lib.hid hx
 have HD3 := Lib.hid (btr HC.out hb (Nat.le_refl _))
 have HB3 := Lib.hid (btr HB2.out HD3.out (Nat.le_refl _))
 clear hx hb hw hg HL HC
 refine wp_seq_k (fun K hK => ?_)
 have HK := Lib.hid hK; clear hK
 go_wp2_with (first | (refine wpList_load_blk rfl 25 (.tmp 2) rfl _ rfl (show _ from blk_keep HX4.out.blk HB3.out) Try.underlying25 rfl size25 rfl ?_) | (refine wpList_load_blk rfl 25 (.tmp 3) rfl _ rfl (show _ from blk_keep HY4.out.blk HB3.out) Try.underlying25 rfl size25 rfl ?_) | (refine wpList_load_blk rfl 29 (.tmp 5) rfl _ rfl (show _ from blk_keep HP4.out.blk HB3.out) Try.underlying29 rfl size29 rfl ?_) | (refine wpList_load_blk rfl 29 (.tmp 6) rfl _ rfl (show _ from blk_keep HQ4.out.blk HB3.out) Try.underlying29 rfl size29 rfl ?_) | (go_at_call 45; refine (H45.out _ HB3.out).mono ?_; rintro e w11 ⟨un4, ug4, rfl, hl, hb⟩; have HL := Lib.hid hl; have HC := Lib.hid hb; clear hl hb) | (refine wpList_store_blk rfl 29 _ _ rfl _ rfl rfl (heap_newI rfl) size29 rfl rfl HL.out.one ?_))
 refine HK.out _ _ ?_; clear HK
 generalize hw : World.putObj _ _ _ = w12
 obtain ⟨hx, hb⟩ := storedT HL.out hw
 obtain ⟨g4, hg⟩ : ∃ g, g = w11.heap.size := ⟨_, rfl⟩
 rw [← hg] at hx ⊢
 have HX4s := Lib.hid hx
 have HD4 := Lib.hid (btr HC.out hb (Nat.le_refl _))
 have HB4 := Lib.hid (btr HB3.out HD4.out (Nat.le_refl _))
 clear hx hb hw hg HL HC
 refine wp_seq_k (fun K hK => ?_)
 have HK := Lib.hid hK; clear hK
 go_wp2_with (first | (refine wpList_load_blk rfl 25 (.tmp 2) rfl _ rfl (show _ from blk_keep HX4.out.blk HB4.out) Try.underlying25 rfl size25 rfl ?_) | (refine wpList_load_blk rfl 25 (.tmp 3) rfl _ rfl (show _ from blk_keep HY4.out.blk HB4.out) Try.underlying25 rfl size25 rfl ?_) | (refine wpList_load_blk rfl 29 (.tmp 5) rfl _ rfl (show _ from blk_keep HP4.out.blk HB4.out) Try.underlying29 rfl size29 rfl ?_) | (refine wpList_load_blk rfl 29 (.tmp 6) rfl _ rfl (show _ from blk_keep HQ4.out.blk HB4.out) Try.underlying29 rfl size29 rfl ?_) | (go_at_call 46; refine (H46.out _ HB4.out).mono ?_; rintro e w13 ⟨un5, ug5, rfl, hl, hb⟩; have HL := Lib.hid hl; have HC := Lib.hid hb; clear hl hb) | (refine wpList_store_blk rfl 25 _ _ rfl _ rfl rfl (heap_newI rfl) size25 rfl rfl HL.out.one ?_))
 refine HK.out _ _ ?_; clear HK
 generalize hw : World.putObj _ _ _ = w14
 obtain ⟨hx, hb⟩ := storedT HL.out hw
 obtain ⟨g5, hg⟩ : ∃ g, g = w13.heap.size := ⟨_, rfl⟩
 rw [← hg] at hx ⊢
 have HX5s := Lib.hid hx
 have HD5 := Lib.hid (btr HC.out hb (Nat.le_refl _))
 have HB5 := Lib.hid (btr HB4.out HD5.out (Nat.le_refl _))
 clear hx hb hw hg HL HC
 refine wp_seq_k (fun K hK => ?_)
 have HK := Lib.hid hK; clear hK
 go_wp2_with (first | (refine wpList_load_blk rfl 25 (.tmp 2) rfl _ rfl (show _ from blk_keep HX4.out.blk HB5.out) Try.underlying25 rfl size25 rfl ?_) | (refine wpList_load_blk rfl 25 (.tmp 3) rfl _ rfl (show _ from blk_keep HY4.out.blk HB5.out) Try.underlying25 rfl size25 rfl ?_) | (refine wpList_load_blk rfl 29 (.tmp 5) rfl _ rfl (show _ from blk_keep HP4.out.blk HB5.out) Try.underlying29 rfl size29 rfl ?_) | (refine wpList_load_blk rfl 29 (.tmp 6) rfl _ rfl (show _ from blk_keep HQ4.out.blk HB5.out) Try.underlying29 rfl size29 rfl ?_) | (go_at_call 47; refine (H47.out _ HB5.out).mono ?_; rintro e w15 ⟨un6, ug6, rfl, hl, hb⟩; have HL := Lib.hid hl; have HC := Lib.hid hb; clear hl hb) | (refine wpList_store_blk rfl 29 _ _ rfl _ rfl rfl (heap_newI rfl) size29 rfl rfl HL.out.one ?_))
 refine HK.out _ _ ?_; clear HK
 generalize hw : World.putObj _ _ _ = w16
 obtain ⟨hx, hb⟩ := storedT HL.out hw
 obtain ⟨g6, hg⟩ : ∃ g, g = w15.heap.size := ⟨_, rfl⟩
 rw [← hg] at hx ⊢
 have HX6s := Lib.hid hx
 have HD6 := Lib.hid (btr HC.out hb (Nat.le_refl _))
 have HB6 := Lib.hid (btr HB5.out HD6.out (Nat.le_refl _))
 clear hx hb hw hg HL HC
 have HF1 := Lib.hid (((((HX1s.out.below HD2.out).below HD3.out).below HD4.out).below HD5.out).below HD6.out)
 have HF2 := Lib.hid ((((HX2s.out.below HD3.out).below HD4.out).below HD5.out).below HD6.out)
 have HF3 := Lib.hid (((HX3s.out.below HD4.out).below HD5.out).below HD6.out)
 have HF4 := Lib.hid ((HX4s.out.below HD5.out).below HD6.out)
 have HF5 := Lib.hid (HX5s.out.below HD6.out)
 have HF6 := HX6s
 clear HX1s HD1 HX2s HD2 HX3s HD3 HX4s HD4 HX5s HD5 HX6s HD6 HB1 HB2 HB3 HB4 HB5 H43 H44 H42 H45 H46 H47 HX4 HY4 HP4 HQ4
 have H19a := Lib.hid (fun W (hW : Below w16.heap.size w16 W) => H19.out W (.agg #[un1, ug1]) (.agg #[un2, ug2]) M1 (HF1.out.below hW).law (HF2.out.below hW).law)
 have H19b := Lib.hid (fun W (hW : Below w16.heap.size w16 W) => H19.out W (.agg #[un3, ug3]) (.agg #[un4, ug4]) M2 (HF3.out.below hW).law (HF4.out.below hW).law)
 have H19c := Lib.hid (fun W (hW : Below w16.heap.size w16 W) => H19.out W (.agg #[un5, ug5]) (.agg #[un6, ug6]) M3 (HF5.out.below hW).law (HF6.out.below hW).law)
 clear H19
 have h11 : (E1 == E1) = true := beq_self_eq_true E1
 have h22 : (E2 == E2) = true := beq_self_eq_true E2
 have h33 : (E3 == E3) = true := beq_self_eq_true E3
 go_wp2_with (first | (refine wpList_load_blk rfl 25 (.tmp 7) rfl _ rfl (show _ from blk_keep HF1.out.blk (Below.refl _ _)) Try.underlying25 rfl size25 rfl ?_) | (refine wpList_load_blk rfl 29 (.tmp 9) rfl _ rfl (show _ from blk_keep HF2.out.blk (Below.refl _ _)) Try.underlying29 rfl size29 rfl ?_) | (refine wpList_load_blk rfl 25 (.tmp 11) rfl _ rfl (show _ from blk_keep HF3.out.blk HC1.out) Try.underlying25 rfl size25 rfl ?_) | (refine wpList_load_blk rfl 29 (.tmp 13) rfl _ rfl (show _ from blk_keep HF4.out.blk HC1.out) Try.underlying29 rfl size29 rfl ?_) | (refine wpList_load_blk rfl 25 (.tmp 15) rfl _ rfl (show _ from blk_keep HF5.out.blk HC2.out) Try.underlying25 rfl size25 rfl ?_) | (refine wpList_load_blk rfl 29 (.tmp 17) rfl _ rfl (show _ from blk_keep HF6.out.blk HC2.out) Try.underlying29 rfl size29 rfl ?_) | (have _m := HC3; go_at_call 20; refine (HWK.out _).mono ?_; rintro e w20 ⟨rfl, hb⟩; have HC4 := Lib.hid (btr HC3.out hb (Nat.le_refl _)); clear hb) | (have _m := HC2; go_at_call 19; refine (H19c.out _ HC2.out).mono ?_; rintro e w19 ⟨rfl, hb⟩; have HC3 := Lib.hid (btr HC2.out hb (Nat.le_refl _)); clear hb) | (have _m := HC1; go_at_call 19; refine (H19b.out _ HC1.out).mono ?_; rintro e w18 ⟨rfl, hb⟩; have HC2 := Lib.hid (btr HC1.out hb (Nat.le_refl _)); clear hb) | (go_at_call 19; refine (H19a.out _ (Below.refl _ _)).mono ?_; rintro e w17 ⟨rfl, hb⟩; have HC1 := Lib.hid hb; clear hb))
 go_ret
 exact ⟨rfl, HBw4.out.trans ((btr HB6.out HC4.out (Nat.le_refl _)).mono HG4.out)⟩
end Ytnjgglnpmhjmiaa
end Go.Proofs
