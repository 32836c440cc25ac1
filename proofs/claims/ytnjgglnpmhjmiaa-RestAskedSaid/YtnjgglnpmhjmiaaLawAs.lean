/- Laws of rotation: how many lists there are, the first one, and that by which two laws differ, are as stated. -/
import Derived.Test.YtnjgglnpmhjmiaaSc
import Derived.Test.YtnjgglnpmhjmiaaRy
import Derived.Test.YtnjgglnpmhjmiaaWk
open Go Go.RowKit Go.YtnjgglnpmhjmiaaIt
open Rest
namespace Go.Proofs
namespace Ytnjgglnpmhjmiaa
theorem tailK {K : Act → World → Prop} {G : Prop} {P : Nat → Nat → World → Prop} (F : Nat → Nat → Act) (main : (∀ g5 g6 W, P g5 g6 W → K (F g5 g6) W) → G) (tail : ∀ g5 g6 W, P g5 g6 W → K (F g5 g6) W) : G := main tail
set_option maxRecDepth 100000 in
set_option maxHeartbeats 4000000 in
theorem restAsked_any {va vb : Value} {la lb : Lw} {w : World} (ha : LawA w va la) (hb : LawA w vb lb) (n : Int) : Calls Try.prog 4 #[va, vb, .int .i64 n] w fun e w' => e = .returned (.bool true) ∧ Below w.heap.size w w' := by
  obtain ⟨an, ag, rfl, ha1, ha2⟩ := ha
  obtain ⟨bn, bg, rfl, hb1, hb2⟩ := hb
  have hA0 := LawA.box (⟨_, _, rfl, ha1, ha2⟩ : LawA w (.agg #[an, ag]) la) 25
  have hA := hA0.below ((Below.refl _ _).alloc (Nat.le_refl _) (.cells #[bn, bg] 25))
  have hBl : LawA (w.alloc (.cells #[an, ag] 25)) (.agg #[bn, bg]) lb := LawA.below (⟨_, _, rfl, hb1, hb2⟩ : LawA w (.agg #[bn, bg]) lb) ((Below.refl _ _).alloc (Nat.le_refl _) _) (Nat.le_refl _)
  have hBX := hBl.box 25
  rw [World.size_alloc] at hBX
  obtain ⟨c1, c2, hB1, hz1⟩ := blkE2 (w := w) (a := .cells #[an, ag] 25) (b := .cells #[bn, bg] 25) rfl
  obtain ⟨w1, hw1⟩ : ∃ q, q = (w.alloc (.cells #[an, ag] 25)).alloc (.cells #[bn, bg] 25) := ⟨_, rfl⟩
  obtain ⟨g, hgw⟩ : ∃ q, q = w.heap.size := ⟨_, rfl⟩
  obtain ⟨h, hhw⟩ : ∃ q, q = g + 1 := ⟨_, rfl⟩
  have HW := Lib.hid (And.intro hw1 (And.intro hgw hhw))
  rw [← hw1] at hA hBX hB1
  rw [← hgw] at hA hBX hB1
  rw [← hhw] at hBX
  have HA := Lib.hid hA
  have HBX := Lib.hid hBX
  have HB1 := Lib.hid hB1
  have HGW := Lib.hid (show g ≤ w1.heap.size from Nat.le_of_lt (lt_blk HA.out.blk))
  obtain ⟨p, hp⟩ : ∃ b, b = anyB (decide (60 < la.nx.length) || decide (60 < la.gd.length)) 20 la.nx := ⟨_, rfl⟩
  obtain ⟨q, hq⟩ : ∃ b, b = anyB (decide (60 < lb.nx.length) || decide (60 < lb.gd.length)) 20 lb.nx := ⟨_, rfl⟩
  have H21a := Lib.hid (large_any HA.out.law)
  have H21b := Lib.hid (fun W (hW : Below w1.heap.size w1 W) => large_any (HBX.out.below hW).law)
  rw [← hp] at H21a
  rw [← hq] at H21b
  clear ha1 ha2 hb1 hb2 hA0 hA hBl hBX c1 c2 hz1 hw1 hgw hhw hB1 hp hq
  go_enter Try.func4, Try.ntmps4
  refine wp_seq_k (fun K hK => ?_)
  have HK := Lib.hid hK; clear hK
  go_wp2
  refine HK.out _ _ ?_; clear HK
  rw [← HW.out.1, ← HW.out.2.1, ← HW.out.2.2]
  clear HW
  have HWK := Lib.hid works_any
  cases p with
  | true =>
    go_wp2_with (first | (refine wpList_load_blk rfl 25 (.tmp 3) rfl _ rfl HA.out.blk Try.underlying25 rfl size25 rfl ?_) | (go_at_call 21; refine H21a.out.mono ?_; rintro e w2 ⟨rfl, hb2⟩; have HB2 := Lib.hid hb2; clear hb2) | (go_at_call 20; refine (HWK.out _).mono ?_; rintro e w3 ⟨rfl, hb3⟩))
    go_ret
    exact ⟨rfl, HB1.out.trans ((btr HB2.out hb3 (Nat.le_refl _)).mono HGW.out)⟩
  | false =>
  cases q with
  | true =>
    go_wp2_with (first | (refine wpList_load_blk rfl 25 (.tmp 3) rfl _ rfl HA.out.blk Try.underlying25 rfl size25 rfl ?_) | (refine wpList_load_blk rfl 25 (.tmp 4) rfl _ rfl (show _ from blk_keep HBX.out.blk HB2.out) Try.underlying25 rfl size25 rfl ?_) | (have _m := HB2; go_at_call 21; refine (H21b.out _ HB2.out).mono ?_; rintro e w3 ⟨rfl, hb3⟩; have HB3 := Lib.hid (btr HB2.out hb3 (Nat.le_refl _)); clear hb3) | (go_at_call 21; refine H21a.out.mono ?_; rintro e w2 ⟨rfl, hb2⟩; have HB2 := Lib.hid hb2; clear hb2) | (go_at_call 20; refine (HWK.out _).mono ?_; rintro e w4 ⟨rfl, hb4⟩))
    go_ret
    exact ⟨rfl, HB1.out.trans ((btr HB3.out hb4 (Nat.le_refl _)).mono HGW.out)⟩
  | false =>
  refine wp_seq_k (fun K hK => ?_)
  have HK := Lib.hid hK; clear hK
  go_wp2_with (first | (refine wpList_load_blk rfl 25 (.tmp 3) rfl _ rfl HA.out.blk Try.underlying25 rfl size25 rfl ?_) | (refine wpList_load_blk rfl 25 (.tmp 4) rfl _ rfl (show _ from blk_keep HBX.out.blk HB2.out) Try.underlying25 rfl size25 rfl ?_) | (have _m := HB2; go_at_call 21; refine (H21b.out _ HB2.out).mono ?_; rintro e w3 ⟨rfl, hb3⟩; have HB3 := Lib.hid (btr HB2.out hb3 (Nat.le_refl _)); clear hb3) | (go_at_call 21; refine H21a.out.mono ?_; rintro e w2 ⟨rfl, hb2⟩; have HB2 := Lib.hid hb2; clear hb2))
  refine HK.out _ _ ?_; clear HK
  have HX2 := Lib.hid (HA.out.below HB3.out)
  have HY2 := Lib.hid (HBX.out.below HB3.out)
  have HBw := Lib.hid (HB1.out.trans (HB3.out.mono HGW.out))
  have HG2 := Lib.hid (show g ≤ w3.heap.size from Nat.le_trans HGW.out HB3.out.size)
  clear HA HBX HB1 HB2 HB3 HGW H21a H21b
  refine wp_seq_k (fun K hK => ?_)
  have HK := Lib.hid hK; clear hK
  apply tailK (K := K) (P := fun gA gB U => LawX U gA 29 la an ag ∧ LawX U gB 29 lb bn bg ∧ Below w3.heap.size w3 U)
  · intro TAIL
    refine wp_region_x (R := fun U => Below w3.heap.size w3 U) (S := fun _ => True) (z := 999) rfl ?_
    change wpAnyX _ _ _ _ _ _ _ _ _ _ w3.drew
    have Hq0 := Lib.hid (show Below w3.heap.size w3 w3.drew from (Below.refl _ _).drew)
    obtain ⟨wq0, hwq⟩ : ∃ q, q = w3.drew := ⟨_, rfl⟩
    rw [← hwq] at Hq0 ⊢
    clear hwq
    refine wpAnyX_keep (i := 0) (oi := { dst := some 28, op := _, type := _, pos := _, after := _, guard := none }) (v := ?_) rfl (by kernel_rfl) (by kernel_rfl) (by kernel_rfl) (fun _ _ _ h => h) (Or.inl ⟨by rfl, ?_⟩) ⟨(by first | exact Hq4.out | exact Hq3.out | exact Hq2.out | exact Hq1.out | exact Hq0.out), fun _ => trivial⟩ ?_
    rotate_left
    · refine yields_load_blk 25 (.tmp 3) ?_ g ?_ (t := 25) (fr := (0, 0)) (cs := #[an, ag]) (fun U hU => ?_) Try.underlying25 rfl size25 rfl
      · rfl
      · rfl
      · exact blk_keep HX2.out.blk hU
    simp only [Act.put, List.setIfInBounds_toArray, List.set_cons_zero, List.set_cons_succ]
    refine wpAnyX_keep (i := 2) (oi := { dst := some 30, op := _, type := _, pos := _, after := _, guard := none }) (v := ?_) rfl (by kernel_rfl) (by kernel_rfl) (by kernel_rfl) (fun _ _ _ h => h) (Or.inl ⟨by rfl, ?_⟩) ⟨(by first | exact Hq4.out | exact Hq3.out | exact Hq2.out | exact Hq1.out | exact Hq0.out), fun _ => trivial⟩ ?_
    rotate_left
    · refine yields_load_blk 25 (.tmp 4) ?_ h ?_ (t := 25) (fr := (0, 0)) (cs := #[bn, bg]) (fun U hU => ?_) Try.underlying25 rfl size25 rfl
      · rfl
      · rfl
      · exact blk_keep HY2.out.blk hU
    simp only [Act.put, List.setIfInBounds_toArray, List.set_cons_zero, List.set_cons_succ]
    refine wpAnyX_ready (rs := [1, 4, 5]) (by kernel_rfl) (by simp) ?_
    refine AllReadyX.cons (o := { dst := some 29, op := _, type := _, pos := _, after := _, guard := none }) rfl (by rfl) (fun K1 hK1 => ?_) ?_
    · have HK1 := Lib.hid hK1; clear hK1
      refine oper_call (ts := _) (xs := #[.tmp 28]) (f := 22) rfl (enters_of Try.func22 (by kernel_rfl) rfl) rfl (R := fun w' => Below wq0.heap.size wq0 w') (v := .agg #[an, ag]) ((given_any (HX2.out.below Hq0.out).law).mono (by rintro e w' ⟨rfl, h⟩; exact ⟨rfl, h⟩)) ?_
      rintro wq1 hbwq1
      have Hq1 := Lib.hid (btr Hq0.out hbwq1 (Nat.le_refl _))
      refine HK1.out _ _ ⟨Hq1.out, fun _ => trivial⟩ ?_
      clear HK1
      try simp only [Act.put, List.setIfInBounds_toArray, List.set_cons_zero, List.set_cons_succ]
      refine wpAnyX_ready (rs := [3, 4, 5]) (by kernel_rfl) (by simp) ?_
      refine AllReadyX.cons (o := { dst := some 31, op := _, type := _, pos := _, after := _, guard := none }) rfl (by rfl) (fun K1 hK1 => ?_) ?_
      · have HK1 := Lib.hid hK1; clear hK1
        refine oper_call (ts := _) (xs := #[.tmp 30]) (f := 22) rfl (enters_of Try.func22 (by kernel_rfl) rfl) rfl (R := fun w' => Below wq1.heap.size wq1 w') (v := .agg #[bn, bg]) ((given_any (HY2.out.below Hq1.out).law).mono (by rintro e w' ⟨rfl, h⟩; exact ⟨rfl, h⟩)) ?_
        rintro wq2 hbwq2
        have Hq2 := Lib.hid (btr Hq1.out hbwq2 (Nat.le_refl _))
        refine HK1.out _ _ ⟨Hq2.out, fun _ => trivial⟩ ?_
        clear HK1
        try simp only [Act.put, List.setIfInBounds_toArray, List.set_cons_zero, List.set_cons_succ]
        refine wpAnyX_ready (rs := [4, 5]) (by kernel_rfl) (by simp) ?_
        refine AllReadyX.cons (o := { dst := some 7, op := _, type := _, pos := _, after := _, guard := none }) rfl (by rfl) (fun K1 hK1 => ?_) ?_
        · have HK1 := Lib.hid hK1; clear hK1
          have hRa := Hq2.out.alloc Hq2.out.size (.cells #[.slice none 0 0, .slice none 0 0] 29)
          go_simp
          refine HK1.out _ _ ⟨hRa, fun _ => trivial⟩ ?_
          clear HK1
          try simp only [Act.put, List.setIfInBounds_toArray, List.set_cons_zero, List.set_cons_succ]
          have cA : (wq2.alloc (.cells #[.slice none 0 0, .slice none 0 0] 29)).heap[wq2.heap.size]? = some (.cells #[.slice none 0 0, .slice none 0 0] 29 (0, 0)) := heap_newI rfl
          have hbn := (Below.refl _ wq2).alloc (Nat.le_refl _) (.cells #[.slice none 0 0, .slice none 0 0] 29)
          have HSA := Lib.hid Hq2.out.size
          obtain ⟨wq3, hw⟩ : ∃ q, q = wq2.alloc (.cells #[.slice none 0 0, .slice none 0 0] 29) := ⟨_, rfl⟩
          rw [← hw] at hRa cA ⊢
          obtain ⟨gA, hgA⟩ : ∃ q, q = wq2.heap.size := ⟨_, rfl⟩
          rw [← hgA] at cA HSA ⊢
          have Hq3 := Lib.hid hRa
          have HCA := Lib.hid cA
          clear hw hgA hRa hbn cA
          refine wpAnyX_one (i := 5) (o := { dst := some 8, op := _, type := _, pos := _, after := _, guard := none }) (by kernel_rfl) rfl (by rfl) (fun K1 hK1 => ?_)
          have HK1 := Lib.hid hK1; clear hK1
          have hRa := Hq3.out.alloc Hq3.out.size (.cells #[.slice none 0 0, .slice none 0 0] 29)
          go_simp
          refine HK1.out _ _ ⟨hRa, fun _ => trivial⟩ ?_
          clear HK1
          try simp only [Act.put, List.setIfInBounds_toArray, List.set_cons_zero, List.set_cons_succ]
          have cB : (wq3.alloc (.cells #[.slice none 0 0, .slice none 0 0] 29)).heap[wq3.heap.size]? = some (.cells #[.slice none 0 0, .slice none 0 0] 29 (0, 0)) := heap_newI rfl
          have hbn := (Below.refl _ wq3).alloc (Nat.le_refl _) (.cells #[.slice none 0 0, .slice none 0 0] 29)
          have HLA := Lib.hid (show gA ≠ wq3.heap.size from fun e => by have := lt_blk HCA.out; omega)
          have cA := blk_keep HCA.out hbn
          have HSB := Lib.hid Hq3.out.size
          obtain ⟨wq4, hw⟩ : ∃ q, q = wq3.alloc (.cells #[.slice none 0 0, .slice none 0 0] 29) := ⟨_, rfl⟩
          rw [← hw] at hRa cB cA ⊢
          obtain ⟨gB, hgB⟩ : ∃ q, q = wq3.heap.size := ⟨_, rfl⟩
          rw [← hgB] at cB HSB HLA ⊢
          have Hq4 := Lib.hid hRa
          have HCB := Lib.hid cB
          have HCA := Lib.hid cA
          clear hw hgB hRa hbn cB cA
          have hR6 : Below w3.heap.size w3 (wq4.putObj gA (.cells #[an, ag] 29)) := below_putObj Hq4.out HSA.out
          refine wpAnyX_one (i := 6) (o := { dst := none, op := _, type := _, pos := _, after := _, guard := none }) (by kernel_rfl) rfl (by rfl) (fun K1 hK1 => ?_)
          have HK1 := Lib.hid hK1; clear hK1
          refine oper_store_blk 29 (.tmp 7) (.tmp 29) rfl gA rfl rfl HCA.out size29 rfl rfl HX2.out.law.one ?_
          refine HK1.out _ _ ⟨hR6, fun _ => trivial⟩ ?_
          clear HK1
          try simp only [Act.put]
          have hB7 : (wq4.putObj gA (.cells #[an, ag] 29)).heap[gB]? = some (.cells #[.slice none 0 0, .slice none 0 0] 29 (0, 0)) := (World.putObj_heap_other (HLA.out.symm)).trans HCB.out
          have hA7 : (wq4.putObj gA (.cells #[an, ag] 29)).heap[gA]? = some (.cells #[an, ag] 29 (0, 0)) := World.putObj_heap_same (lt_blk HCA.out)
          have hR7 : Below w3.heap.size w3 ((wq4.putObj gA (.cells #[an, ag] 29)).putObj gB (.cells #[bn, bg] 29)) := below_putObj hR6 HSB.out
          refine wpAnyX_one (i := 7) (o := { dst := none, op := _, type := _, pos := _, after := _, guard := none }) (by kernel_rfl) rfl (by rfl) (fun K1 hK1 => ?_)
          have HK1 := Lib.hid hK1; clear hK1
          refine oper_store_blk 29 (.tmp 8) (.tmp 31) rfl gB rfl rfl hB7 size29 rfl rfl HY2.out.law.one ?_
          refine HK1.out _ _ ⟨hR7, fun _ => trivial⟩ ?_
          clear HK1
          try simp only [Act.put]
          refine wpAnyX_done (by kernel_rfl) ?_ _
          exact TAIL gA gB _ ⟨⟨(World.putObj_heap_other HLA.out).trans hA7, HX2.out.nx.below hR7 (Nat.le_refl _), HX2.out.gd.below hR7 (Nat.le_refl _)⟩, ⟨World.putObj_heap_same (lt_blk hB7), HY2.out.nx.below hR7 (Nat.le_refl _), HY2.out.gd.below hR7 (Nat.le_refl _)⟩, hR7⟩
        refine AllReadyX.cons (o := { dst := some 8, op := _, type := _, pos := _, after := _, guard := none }) rfl (by rfl) (fun K1 hK1 => ?_) AllReadyX.nil
        have HK1 := Lib.hid hK1; clear hK1
        have hRa := Hq2.out.alloc Hq2.out.size (.cells #[.slice none 0 0, .slice none 0 0] 29)
        go_simp
        refine HK1.out _ _ ⟨hRa, fun _ => trivial⟩ ?_
        clear HK1
        try simp only [Act.put, List.setIfInBounds_toArray, List.set_cons_zero, List.set_cons_succ]
        have cB : (wq2.alloc (.cells #[.slice none 0 0, .slice none 0 0] 29)).heap[wq2.heap.size]? = some (.cells #[.slice none 0 0, .slice none 0 0] 29 (0, 0)) := heap_newI rfl
        have hbn := (Below.refl _ wq2).alloc (Nat.le_refl _) (.cells #[.slice none 0 0, .slice none 0 0] 29)
        have HSB := Lib.hid Hq2.out.size
        obtain ⟨wq3, hw⟩ : ∃ q, q = wq2.alloc (.cells #[.slice none 0 0, .slice none 0 0] 29) := ⟨_, rfl⟩
        rw [← hw] at hRa cB ⊢
        obtain ⟨gB, hgB⟩ : ∃ q, q = wq2.heap.size := ⟨_, rfl⟩
        rw [← hgB] at cB HSB ⊢
        have Hq3 := Lib.hid hRa
        have HCB := Lib.hid cB
        clear hw hgB hRa hbn cB
        refine wpAnyX_one (i := 4) (o := { dst := some 7, op := _, type := _, pos := _, after := _, guard := none }) (by kernel_rfl) rfl (by rfl) (fun K1 hK1 => ?_)
        have HK1 := Lib.hid hK1; clear hK1
        have hRa := Hq3.out.alloc Hq3.out.size (.cells #[.slice none 0 0, .slice none 0 0] 29)
        go_simp
        refine HK1.out _ _ ⟨hRa, fun _ => trivial⟩ ?_
        clear HK1
        try simp only [Act.put, List.setIfInBounds_toArray, List.set_cons_zero, List.set_cons_succ]
        have cA : (wq3.alloc (.cells #[.slice none 0 0, .slice none 0 0] 29)).heap[wq3.heap.size]? = some (.cells #[.slice none 0 0, .slice none 0 0] 29 (0, 0)) := heap_newI rfl
        have hbn := (Below.refl _ wq3).alloc (Nat.le_refl _) (.cells #[.slice none 0 0, .slice none 0 0] 29)
        have HLB := Lib.hid (show gB ≠ wq3.heap.size from fun e => by have := lt_blk HCB.out; omega)
        have cB := blk_keep HCB.out hbn
        have HSA := Lib.hid Hq3.out.size
        obtain ⟨wq4, hw⟩ : ∃ q, q = wq3.alloc (.cells #[.slice none 0 0, .slice none 0 0] 29) := ⟨_, rfl⟩
        rw [← hw] at hRa cA cB ⊢
        obtain ⟨gA, hgA⟩ : ∃ q, q = wq3.heap.size := ⟨_, rfl⟩
        rw [← hgA] at cA HSA HLB ⊢
        have Hq4 := Lib.hid hRa
        have HCA := Lib.hid cA
        have HCB := Lib.hid cB
        clear hw hgA hRa hbn cA cB
        have hR6 : Below w3.heap.size w3 (wq4.putObj gA (.cells #[an, ag] 29)) := below_putObj Hq4.out HSA.out
        refine wpAnyX_one (i := 6) (o := { dst := none, op := _, type := _, pos := _, after := _, guard := none }) (by kernel_rfl) rfl (by rfl) (fun K1 hK1 => ?_)
        have HK1 := Lib.hid hK1; clear hK1
        refine oper_store_blk 29 (.tmp 7) (.tmp 29) rfl gA rfl rfl HCA.out size29 rfl rfl HX2.out.law.one ?_
        refine HK1.out _ _ ⟨hR6, fun _ => trivial⟩ ?_
        clear HK1
        try simp only [Act.put]
        have hB7 : (wq4.putObj gA (.cells #[an, ag] 29)).heap[gB]? = some (.cells #[.slice none 0 0, .slice none 0 0] 29 (0, 0)) := (World.putObj_heap_other (HLB.out.symm.symm)).trans HCB.out
        have hA7 : (wq4.putObj gA (.cells #[an, ag] 29)).heap[gA]? = some (.cells #[an, ag] 29 (0, 0)) := World.putObj_heap_same (lt_blk HCA.out)
        have hR7 : Below w3.heap.size w3 ((wq4.putObj gA (.cells #[an, ag] 29)).putObj gB (.cells #[bn, bg] 29)) := below_putObj hR6 HSB.out
        refine wpAnyX_one (i := 7) (o := { dst := none, op := _, type := _, pos := _, after := _, guard := none }) (by kernel_rfl) rfl (by rfl) (fun K1 hK1 => ?_)
        have HK1 := Lib.hid hK1; clear hK1
        refine oper_store_blk 29 (.tmp 8) (.tmp 31) rfl gB rfl rfl hB7 size29 rfl rfl HY2.out.law.one ?_
        refine HK1.out _ _ ⟨hR7, fun _ => trivial⟩ ?_
        clear HK1
        try simp only [Act.put]
        refine wpAnyX_done (by kernel_rfl) ?_ _
        exact TAIL gA gB _ ⟨⟨(World.putObj_heap_other HLB.out.symm).trans hA7, HX2.out.nx.below hR7 (Nat.le_refl _), HX2.out.gd.below hR7 (Nat.le_refl _)⟩, ⟨World.putObj_heap_same (lt_blk hB7), HY2.out.nx.below hR7 (Nat.le_refl _), HY2.out.gd.below hR7 (Nat.le_refl _)⟩, hR7⟩
      refine AllReadyX.cons (o := { dst := some 7, op := _, type := _, pos := _, after := _, guard := none }) rfl (by rfl) (fun K1 hK1 => ?_) ?_
      · have HK1 := Lib.hid hK1; clear hK1
        have hRa := Hq1.out.alloc Hq1.out.size (.cells #[.slice none 0 0, .slice none 0 0] 29)
        go_simp
        refine HK1.out _ _ ⟨hRa, fun _ => trivial⟩ ?_
        clear HK1
        try simp only [Act.put, List.setIfInBounds_toArray, List.set_cons_zero, List.set_cons_succ]
        have cA : (wq1.alloc (.cells #[.slice none 0 0, .slice none 0 0] 29)).heap[wq1.heap.size]? = some (.cells #[.slice none 0 0, .slice none 0 0] 29 (0, 0)) := heap_newI rfl
        have hbn := (Below.refl _ wq1).alloc (Nat.le_refl _) (.cells #[.slice none 0 0, .slice none 0 0] 29)
        have HSA := Lib.hid Hq1.out.size
        obtain ⟨wq2, hw⟩ : ∃ q, q = wq1.alloc (.cells #[.slice none 0 0, .slice none 0 0] 29) := ⟨_, rfl⟩
        rw [← hw] at hRa cA ⊢
        obtain ⟨gA, hgA⟩ : ∃ q, q = wq1.heap.size := ⟨_, rfl⟩
        rw [← hgA] at cA HSA ⊢
        have Hq2 := Lib.hid hRa
        have HCA := Lib.hid cA
        clear hw hgA hRa hbn cA
        refine wpAnyX_ready (rs := [3, 5]) (by kernel_rfl) (by simp) ?_
        refine AllReadyX.cons (o := { dst := some 31, op := _, type := _, pos := _, after := _, guard := none }) rfl (by rfl) (fun K1 hK1 => ?_) ?_
        · have HK1 := Lib.hid hK1; clear hK1
          refine oper_call (ts := _) (xs := #[.tmp 30]) (f := 22) rfl (enters_of Try.func22 (by kernel_rfl) rfl) rfl (R := fun w' => Below wq2.heap.size wq2 w') (v := .agg #[bn, bg]) ((given_any (HY2.out.below Hq2.out).law).mono (by rintro e w' ⟨rfl, h⟩; exact ⟨rfl, h⟩)) ?_
          rintro wq3 hbwq3
          have Hq3 := Lib.hid (btr Hq2.out hbwq3 (Nat.le_refl _))
          refine HK1.out _ _ ⟨Hq3.out, fun _ => trivial⟩ ?_
          clear HK1
          try simp only [Act.put, List.setIfInBounds_toArray, List.set_cons_zero, List.set_cons_succ]
          have HCA := Lib.hid (blk_keep HCA.out hbwq3)
          refine wpAnyX_one (i := 5) (o := { dst := some 8, op := _, type := _, pos := _, after := _, guard := none }) (by kernel_rfl) rfl (by rfl) (fun K1 hK1 => ?_)
          have HK1 := Lib.hid hK1; clear hK1
          have hRa := Hq3.out.alloc Hq3.out.size (.cells #[.slice none 0 0, .slice none 0 0] 29)
          go_simp
          refine HK1.out _ _ ⟨hRa, fun _ => trivial⟩ ?_
          clear HK1
          try simp only [Act.put, List.setIfInBounds_toArray, List.set_cons_zero, List.set_cons_succ]
          have cB : (wq3.alloc (.cells #[.slice none 0 0, .slice none 0 0] 29)).heap[wq3.heap.size]? = some (.cells #[.slice none 0 0, .slice none 0 0] 29 (0, 0)) := heap_newI rfl
          have hbn := (Below.refl _ wq3).alloc (Nat.le_refl _) (.cells #[.slice none 0 0, .slice none 0 0] 29)
          have HLA := Lib.hid (show gA ≠ wq3.heap.size from fun e => by have := lt_blk HCA.out; omega)
          have cA := blk_keep HCA.out hbn
          have HSB := Lib.hid Hq3.out.size
          obtain ⟨wq4, hw⟩ : ∃ q, q = wq3.alloc (.cells #[.slice none 0 0, .slice none 0 0] 29) := ⟨_, rfl⟩
          rw [← hw] at hRa cB cA ⊢
          obtain ⟨gB, hgB⟩ : ∃ q, q = wq3.heap.size := ⟨_, rfl⟩
          rw [← hgB] at cB HSB HLA ⊢
          have Hq4 := Lib.hid hRa
          have HCB := Lib.hid cB
          have HCA := Lib.hid cA
          clear hw hgB hRa hbn cB cA
          have hR6 : Below w3.heap.size w3 (wq4.putObj gA (.cells #[an, ag] 29)) := below_putObj Hq4.out HSA.out
          refine wpAnyX_one (i := 6) (o := { dst := none, op := _, type := _, pos := _, after := _, guard := none }) (by kernel_rfl) rfl (by rfl) (fun K1 hK1 => ?_)
          have HK1 := Lib.hid hK1; clear hK1
          refine oper_store_blk 29 (.tmp 7) (.tmp 29) rfl gA rfl rfl HCA.out size29 rfl rfl HX2.out.law.one ?_
          refine HK1.out _ _ ⟨hR6, fun _ => trivial⟩ ?_
          clear HK1
          try simp only [Act.put]
          have hB7 : (wq4.putObj gA (.cells #[an, ag] 29)).heap[gB]? = some (.cells #[.slice none 0 0, .slice none 0 0] 29 (0, 0)) := (World.putObj_heap_other (HLA.out.symm)).trans HCB.out
          have hA7 : (wq4.putObj gA (.cells #[an, ag] 29)).heap[gA]? = some (.cells #[an, ag] 29 (0, 0)) := World.putObj_heap_same (lt_blk HCA.out)
          have hR7 : Below w3.heap.size w3 ((wq4.putObj gA (.cells #[an, ag] 29)).putObj gB (.cells #[bn, bg] 29)) := below_putObj hR6 HSB.out
          refine wpAnyX_one (i := 7) (o := { dst := none, op := _, type := _, pos := _, after := _, guard := none }) (by kernel_rfl) rfl (by rfl) (fun K1 hK1 => ?_)
          have HK1 := Lib.hid hK1; clear hK1
          refine oper_store_blk 29 (.tmp 8) (.tmp 31) rfl gB rfl rfl hB7 size29 rfl rfl HY2.out.law.one ?_
          refine HK1.out _ _ ⟨hR7, fun _ => trivial⟩ ?_
          clear HK1
          try simp only [Act.put]
          refine wpAnyX_done (by kernel_rfl) ?_ _
          exact TAIL gA gB _ ⟨⟨(World.putObj_heap_other HLA.out).trans hA7, HX2.out.nx.below hR7 (Nat.le_refl _), HX2.out.gd.below hR7 (Nat.le_refl _)⟩, ⟨World.putObj_heap_same (lt_blk hB7), HY2.out.nx.below hR7 (Nat.le_refl _), HY2.out.gd.below hR7 (Nat.le_refl _)⟩, hR7⟩
        refine AllReadyX.cons (o := { dst := some 8, op := _, type := _, pos := _, after := _, guard := none }) rfl (by rfl) (fun K1 hK1 => ?_) AllReadyX.nil
        have HK1 := Lib.hid hK1; clear hK1
        have hRa := Hq2.out.alloc Hq2.out.size (.cells #[.slice none 0 0, .slice none 0 0] 29)
        go_simp
        refine HK1.out _ _ ⟨hRa, fun _ => trivial⟩ ?_
        clear HK1
        try simp only [Act.put, List.setIfInBounds_toArray, List.set_cons_zero, List.set_cons_succ]
        have cB : (wq2.alloc (.cells #[.slice none 0 0, .slice none 0 0] 29)).heap[wq2.heap.size]? = some (.cells #[.slice none 0 0, .slice none 0 0] 29 (0, 0)) := heap_newI rfl
        have hbn := (Below.refl _ wq2).alloc (Nat.le_refl _) (.cells #[.slice none 0 0, .slice none 0 0] 29)
        have HLA := Lib.hid (show gA ≠ wq2.heap.size from fun e => by have := lt_blk HCA.out; omega)
        have cA := blk_keep HCA.out hbn
        have HSB := Lib.hid Hq2.out.size
        obtain ⟨wq3, hw⟩ : ∃ q, q = wq2.alloc (.cells #[.slice none 0 0, .slice none 0 0] 29) := ⟨_, rfl⟩
        rw [← hw] at hRa cB cA ⊢
        obtain ⟨gB, hgB⟩ : ∃ q, q = wq2.heap.size := ⟨_, rfl⟩
        rw [← hgB] at cB HSB HLA ⊢
        have Hq3 := Lib.hid hRa
        have HCB := Lib.hid cB
        have HCA := Lib.hid cA
        clear hw hgB hRa hbn cB cA
        refine wpAnyX_one (i := 3) (o := { dst := some 31, op := _, type := _, pos := _, after := _, guard := none }) (by kernel_rfl) rfl (by rfl) (fun K1 hK1 => ?_)
        have HK1 := Lib.hid hK1; clear hK1
        refine oper_call (ts := _) (xs := #[.tmp 30]) (f := 22) rfl (enters_of Try.func22 (by kernel_rfl) rfl) rfl (R := fun w' => Below wq3.heap.size wq3 w') (v := .agg #[bn, bg]) ((given_any (HY2.out.below Hq3.out).law).mono (by rintro e w' ⟨rfl, h⟩; exact ⟨rfl, h⟩)) ?_
        rintro wq4 hbwq4
        have Hq4 := Lib.hid (btr Hq3.out hbwq4 (Nat.le_refl _))
        refine HK1.out _ _ ⟨Hq4.out, fun _ => trivial⟩ ?_
        clear HK1
        try simp only [Act.put, List.setIfInBounds_toArray, List.set_cons_zero, List.set_cons_succ]
        have HCA := Lib.hid (blk_keep HCA.out hbwq4)
        have HCB := Lib.hid (blk_keep HCB.out hbwq4)
        have hR6 : Below w3.heap.size w3 (wq4.putObj gA (.cells #[an, ag] 29)) := below_putObj Hq4.out HSA.out
        refine wpAnyX_one (i := 6) (o := { dst := none, op := _, type := _, pos := _, after := _, guard := none }) (by kernel_rfl) rfl (by rfl) (fun K1 hK1 => ?_)
        have HK1 := Lib.hid hK1; clear hK1
        refine oper_store_blk 29 (.tmp 7) (.tmp 29) rfl gA rfl rfl HCA.out size29 rfl rfl HX2.out.law.one ?_
        refine HK1.out _ _ ⟨hR6, fun _ => trivial⟩ ?_
        clear HK1
        try simp only [Act.put]
        have hB7 : (wq4.putObj gA (.cells #[an, ag] 29)).heap[gB]? = some (.cells #[.slice none 0 0, .slice none 0 0] 29 (0, 0)) := (World.putObj_heap_other (HLA.out.symm)).trans HCB.out
        have hA7 : (wq4.putObj gA (.cells #[an, ag] 29)).heap[gA]? = some (.cells #[an, ag] 29 (0, 0)) := World.putObj_heap_same (lt_blk HCA.out)
        have hR7 : Below w3.heap.size w3 ((wq4.putObj gA (.cells #[an, ag] 29)).putObj gB (.cells #[bn, bg] 29)) := below_putObj hR6 HSB.out
        refine wpAnyX_one (i := 7) (o := { dst := none, op := _, type := _, pos := _, after := _, guard := none }) (by kernel_rfl) rfl (by rfl) (fun K1 hK1 => ?_)
        have HK1 := Lib.hid hK1; clear hK1
        refine oper_store_blk 29 (.tmp 8) (.tmp 31) rfl gB rfl rfl hB7 size29 rfl rfl HY2.out.law.one ?_
        refine HK1.out _ _ ⟨hR7, fun _ => trivial⟩ ?_
        clear HK1
        try simp only [Act.put]
        refine wpAnyX_done (by kernel_rfl) ?_ _
        exact TAIL gA gB _ ⟨⟨(World.putObj_heap_other HLA.out).trans hA7, HX2.out.nx.below hR7 (Nat.le_refl _), HX2.out.gd.below hR7 (Nat.le_refl _)⟩, ⟨World.putObj_heap_same (lt_blk hB7), HY2.out.nx.below hR7 (Nat.le_refl _), HY2.out.gd.below hR7 (Nat.le_refl _)⟩, hR7⟩
      refine AllReadyX.cons (o := { dst := some 8, op := _, type := _, pos := _, after := _, guard := none }) rfl (by rfl) (fun K1 hK1 => ?_) AllReadyX.nil
      have HK1 := Lib.hid hK1; clear hK1
      have hRa := Hq1.out.alloc Hq1.out.size (.cells #[.slice none 0 0, .slice none 0 0] 29)
      go_simp
      refine HK1.out _ _ ⟨hRa, fun _ => trivial⟩ ?_
      clear HK1
      try simp only [Act.put, List.setIfInBounds_toArray, List.set_cons_zero, List.set_cons_succ]
      have cB : (wq1.alloc (.cells #[.slice none 0 0, .slice none 0 0] 29)).heap[wq1.heap.size]? = some (.cells #[.slice none 0 0, .slice none 0 0] 29 (0, 0)) := heap_newI rfl
      have hbn := (Below.refl _ wq1).alloc (Nat.le_refl _) (.cells #[.slice none 0 0, .slice none 0 0] 29)
      have HSB := Lib.hid Hq1.out.size
      obtain ⟨wq2, hw⟩ : ∃ q, q = wq1.alloc (.cells #[.slice none 0 0, .slice none 0 0] 29) := ⟨_, rfl⟩
      rw [← hw] at hRa cB ⊢
      obtain ⟨gB, hgB⟩ : ∃ q, q = wq1.heap.size := ⟨_, rfl⟩
      rw [← hgB] at cB HSB ⊢
      have Hq2 := Lib.hid hRa
      have HCB := Lib.hid cB
      clear hw hgB hRa hbn cB
      refine wpAnyX_ready (rs := [3, 4]) (by kernel_rfl) (by simp) ?_
      refine AllReadyX.cons (o := { dst := some 31, op := _, type := _, pos := _, after := _, guard := none }) rfl (by rfl) (fun K1 hK1 => ?_) ?_
      · have HK1 := Lib.hid hK1; clear hK1
        refine oper_call (ts := _) (xs := #[.tmp 30]) (f := 22) rfl (enters_of Try.func22 (by kernel_rfl) rfl) rfl (R := fun w' => Below wq2.heap.size wq2 w') (v := .agg #[bn, bg]) ((given_any (HY2.out.below Hq2.out).law).mono (by rintro e w' ⟨rfl, h⟩; exact ⟨rfl, h⟩)) ?_
        rintro wq3 hbwq3
        have Hq3 := Lib.hid (btr Hq2.out hbwq3 (Nat.le_refl _))
        refine HK1.out _ _ ⟨Hq3.out, fun _ => trivial⟩ ?_
        clear HK1
        try simp only [Act.put, List.setIfInBounds_toArray, List.set_cons_zero, List.set_cons_succ]
        have HCB := Lib.hid (blk_keep HCB.out hbwq3)
        refine wpAnyX_one (i := 4) (o := { dst := some 7, op := _, type := _, pos := _, after := _, guard := none }) (by kernel_rfl) rfl (by rfl) (fun K1 hK1 => ?_)
        have HK1 := Lib.hid hK1; clear hK1
        have hRa := Hq3.out.alloc Hq3.out.size (.cells #[.slice none 0 0, .slice none 0 0] 29)
        go_simp
        refine HK1.out _ _ ⟨hRa, fun _ => trivial⟩ ?_
        clear HK1
        try simp only [Act.put, List.setIfInBounds_toArray, List.set_cons_zero, List.set_cons_succ]
        have cA : (wq3.alloc (.cells #[.slice none 0 0, .slice none 0 0] 29)).heap[wq3.heap.size]? = some (.cells #[.slice none 0 0, .slice none 0 0] 29 (0, 0)) := heap_newI rfl
        have hbn := (Below.refl _ wq3).alloc (Nat.le_refl _) (.cells #[.slice none 0 0, .slice none 0 0] 29)
        have HLB := Lib.hid (show gB ≠ wq3.heap.size from fun e => by have := lt_blk HCB.out; omega)
        have cB := blk_keep HCB.out hbn
        have HSA := Lib.hid Hq3.out.size
        obtain ⟨wq4, hw⟩ : ∃ q, q = wq3.alloc (.cells #[.slice none 0 0, .slice none 0 0] 29) := ⟨_, rfl⟩
        rw [← hw] at hRa cA cB ⊢
        obtain ⟨gA, hgA⟩ : ∃ q, q = wq3.heap.size := ⟨_, rfl⟩
        rw [← hgA] at cA HSA HLB ⊢
        have Hq4 := Lib.hid hRa
        have HCA := Lib.hid cA
        have HCB := Lib.hid cB
        clear hw hgA hRa hbn cA cB
        have hR6 : Below w3.heap.size w3 (wq4.putObj gA (.cells #[an, ag] 29)) := below_putObj Hq4.out HSA.out
        refine wpAnyX_one (i := 6) (o := { dst := none, op := _, type := _, pos := _, after := _, guard := none }) (by kernel_rfl) rfl (by rfl) (fun K1 hK1 => ?_)
        have HK1 := Lib.hid hK1; clear hK1
        refine oper_store_blk 29 (.tmp 7) (.tmp 29) rfl gA rfl rfl HCA.out size29 rfl rfl HX2.out.law.one ?_
        refine HK1.out _ _ ⟨hR6, fun _ => trivial⟩ ?_
        clear HK1
        try simp only [Act.put]
        have hB7 : (wq4.putObj gA (.cells #[an, ag] 29)).heap[gB]? = some (.cells #[.slice none 0 0, .slice none 0 0] 29 (0, 0)) := (World.putObj_heap_other (HLB.out.symm.symm)).trans HCB.out
        have hA7 : (wq4.putObj gA (.cells #[an, ag] 29)).heap[gA]? = some (.cells #[an, ag] 29 (0, 0)) := World.putObj_heap_same (lt_blk HCA.out)
        have hR7 : Below w3.heap.size w3 ((wq4.putObj gA (.cells #[an, ag] 29)).putObj gB (.cells #[bn, bg] 29)) := below_putObj hR6 HSB.out
        refine wpAnyX_one (i := 7) (o := { dst := none, op := _, type := _, pos := _, after := _, guard := none }) (by kernel_rfl) rfl (by rfl) (fun K1 hK1 => ?_)
        have HK1 := Lib.hid hK1; clear hK1
        refine oper_store_blk 29 (.tmp 8) (.tmp 31) rfl gB rfl rfl hB7 size29 rfl rfl HY2.out.law.one ?_
        refine HK1.out _ _ ⟨hR7, fun _ => trivial⟩ ?_
        clear HK1
        try simp only [Act.put]
        refine wpAnyX_done (by kernel_rfl) ?_ _
        exact TAIL gA gB _ ⟨⟨(World.putObj_heap_other HLB.out.symm).trans hA7, HX2.out.nx.below hR7 (Nat.le_refl _), HX2.out.gd.below hR7 (Nat.le_refl _)⟩, ⟨World.putObj_heap_same (lt_blk hB7), HY2.out.nx.below hR7 (Nat.le_refl _), HY2.out.gd.below hR7 (Nat.le_refl _)⟩, hR7⟩
      refine AllReadyX.cons (o := { dst := some 7, op := _, type := _, pos := _, after := _, guard := none }) rfl (by rfl) (fun K1 hK1 => ?_) AllReadyX.nil
      have HK1 := Lib.hid hK1; clear hK1
      have hRa := Hq2.out.alloc Hq2.out.size (.cells #[.slice none 0 0, .slice none 0 0] 29)
      go_simp
      refine HK1.out _ _ ⟨hRa, fun _ => trivial⟩ ?_
      clear HK1
      try simp only [Act.put, List.setIfInBounds_toArray, List.set_cons_zero, List.set_cons_succ]
      have cA : (wq2.alloc (.cells #[.slice none 0 0, .slice none 0 0] 29)).heap[wq2.heap.size]? = some (.cells #[.slice none 0 0, .slice none 0 0] 29 (0, 0)) := heap_newI rfl
      have hbn := (Below.refl _ wq2).alloc (Nat.le_refl _) (.cells #[.slice none 0 0, .slice none 0 0] 29)
      have HLB := Lib.hid (show gB ≠ wq2.heap.size from fun e => by have := lt_blk HCB.out; omega)
      have cB := blk_keep HCB.out hbn
      have HSA := Lib.hid Hq2.out.size
      obtain ⟨wq3, hw⟩ : ∃ q, q = wq2.alloc (.cells #[.slice none 0 0, .slice none 0 0] 29) := ⟨_, rfl⟩
      rw [← hw] at hRa cA cB ⊢
      obtain ⟨gA, hgA⟩ : ∃ q, q = wq2.heap.size := ⟨_, rfl⟩
      rw [← hgA] at cA HSA HLB ⊢
      have Hq3 := Lib.hid hRa
      have HCA := Lib.hid cA
      have HCB := Lib.hid cB
      clear hw hgA hRa hbn cA cB
      refine wpAnyX_one (i := 3) (o := { dst := some 31, op := _, type := _, pos := _, after := _, guard := none }) (by kernel_rfl) rfl (by rfl) (fun K1 hK1 => ?_)
      have HK1 := Lib.hid hK1; clear hK1
      refine oper_call (ts := _) (xs := #[.tmp 30]) (f := 22) rfl (enters_of Try.func22 (by kernel_rfl) rfl) rfl (R := fun w' => Below wq3.heap.size wq3 w') (v := .agg #[bn, bg]) ((given_any (HY2.out.below Hq3.out).law).mono (by rintro e w' ⟨rfl, h⟩; exact ⟨rfl, h⟩)) ?_
      rintro wq4 hbwq4
      have Hq4 := Lib.hid (btr Hq3.out hbwq4 (Nat.le_refl _))
      refine HK1.out _ _ ⟨Hq4.out, fun _ => trivial⟩ ?_
      clear HK1
      try simp only [Act.put, List.setIfInBounds_toArray, List.set_cons_zero, List.set_cons_succ]
      have HCB := Lib.hid (blk_keep HCB.out hbwq4)
      have HCA := Lib.hid (blk_keep HCA.out hbwq4)
      have hR6 : Below w3.heap.size w3 (wq4.putObj gA (.cells #[an, ag] 29)) := below_putObj Hq4.out HSA.out
      refine wpAnyX_one (i := 6) (o := { dst := none, op := _, type := _, pos := _, after := _, guard := none }) (by kernel_rfl) rfl (by rfl) (fun K1 hK1 => ?_)
      have HK1 := Lib.hid hK1; clear hK1
      refine oper_store_blk 29 (.tmp 7) (.tmp 29) rfl gA rfl rfl HCA.out size29 rfl rfl HX2.out.law.one ?_
      refine HK1.out _ _ ⟨hR6, fun _ => trivial⟩ ?_
      clear HK1
      try simp only [Act.put]
      have hB7 : (wq4.putObj gA (.cells #[an, ag] 29)).heap[gB]? = some (.cells #[.slice none 0 0, .slice none 0 0] 29 (0, 0)) := (World.putObj_heap_other (HLB.out.symm.symm)).trans HCB.out
      have hA7 : (wq4.putObj gA (.cells #[an, ag] 29)).heap[gA]? = some (.cells #[an, ag] 29 (0, 0)) := World.putObj_heap_same (lt_blk HCA.out)
      have hR7 : Below w3.heap.size w3 ((wq4.putObj gA (.cells #[an, ag] 29)).putObj gB (.cells #[bn, bg] 29)) := below_putObj hR6 HSB.out
      refine wpAnyX_one (i := 7) (o := { dst := none, op := _, type := _, pos := _, after := _, guard := none }) (by kernel_rfl) rfl (by rfl) (fun K1 hK1 => ?_)
      have HK1 := Lib.hid hK1; clear hK1
      refine oper_store_blk 29 (.tmp 8) (.tmp 31) rfl gB rfl rfl hB7 size29 rfl rfl HY2.out.law.one ?_
      refine HK1.out _ _ ⟨hR7, fun _ => trivial⟩ ?_
      clear HK1
      try simp only [Act.put]
      refine wpAnyX_done (by kernel_rfl) ?_ _
      exact TAIL gA gB _ ⟨⟨(World.putObj_heap_other HLB.out.symm).trans hA7, HX2.out.nx.below hR7 (Nat.le_refl _), HX2.out.gd.below hR7 (Nat.le_refl _)⟩, ⟨World.putObj_heap_same (lt_blk hB7), HY2.out.nx.below hR7 (Nat.le_refl _), HY2.out.gd.below hR7 (Nat.le_refl _)⟩, hR7⟩
    refine AllReadyX.cons (o := { dst := some 7, op := _, type := _, pos := _, after := _, guard := none }) rfl (by rfl) (fun K1 hK1 => ?_) ?_
    · have HK1 := Lib.hid hK1; clear hK1
      have hRa := Hq0.out.alloc Hq0.out.size (.cells #[.slice none 0 0, .slice none 0 0] 29)
      go_simp
      refine HK1.out _ _ ⟨hRa, fun _ => trivial⟩ ?_
      clear HK1
      try simp only [Act.put, List.setIfInBounds_toArray, List.set_cons_zero, List.set_cons_succ]
      have cA : (wq0.alloc (.cells #[.slice none 0 0, .slice none 0 0] 29)).heap[wq0.heap.size]? = some (.cells #[.slice none 0 0, .slice none 0 0] 29 (0, 0)) := heap_newI rfl
      have hbn := (Below.refl _ wq0).alloc (Nat.le_refl _) (.cells #[.slice none 0 0, .slice none 0 0] 29)
      have HSA := Lib.hid Hq0.out.size
      obtain ⟨wq1, hw⟩ : ∃ q, q = wq0.alloc (.cells #[.slice none 0 0, .slice none 0 0] 29) := ⟨_, rfl⟩
      rw [← hw] at hRa cA ⊢
      obtain ⟨gA, hgA⟩ : ∃ q, q = wq0.heap.size := ⟨_, rfl⟩
      rw [← hgA] at cA HSA ⊢
      have Hq1 := Lib.hid hRa
      have HCA := Lib.hid cA
      clear hw hgA hRa hbn cA
      refine wpAnyX_ready (rs := [1, 5]) (by kernel_rfl) (by simp) ?_
      refine AllReadyX.cons (o := { dst := some 29, op := _, type := _, pos := _, after := _, guard := none }) rfl (by rfl) (fun K1 hK1 => ?_) ?_
      · have HK1 := Lib.hid hK1; clear hK1
        refine oper_call (ts := _) (xs := #[.tmp 28]) (f := 22) rfl (enters_of Try.func22 (by kernel_rfl) rfl) rfl (R := fun w' => Below wq1.heap.size wq1 w') (v := .agg #[an, ag]) ((given_any (HX2.out.below Hq1.out).law).mono (by rintro e w' ⟨rfl, h⟩; exact ⟨rfl, h⟩)) ?_
        rintro wq2 hbwq2
        have Hq2 := Lib.hid (btr Hq1.out hbwq2 (Nat.le_refl _))
        refine HK1.out _ _ ⟨Hq2.out, fun _ => trivial⟩ ?_
        clear HK1
        try simp only [Act.put, List.setIfInBounds_toArray, List.set_cons_zero, List.set_cons_succ]
        have HCA := Lib.hid (blk_keep HCA.out hbwq2)
        refine wpAnyX_ready (rs := [3, 5]) (by kernel_rfl) (by simp) ?_
        refine AllReadyX.cons (o := { dst := some 31, op := _, type := _, pos := _, after := _, guard := none }) rfl (by rfl) (fun K1 hK1 => ?_) ?_
        · have HK1 := Lib.hid hK1; clear hK1
          refine oper_call (ts := _) (xs := #[.tmp 30]) (f := 22) rfl (enters_of Try.func22 (by kernel_rfl) rfl) rfl (R := fun w' => Below wq2.heap.size wq2 w') (v := .agg #[bn, bg]) ((given_any (HY2.out.below Hq2.out).law).mono (by rintro e w' ⟨rfl, h⟩; exact ⟨rfl, h⟩)) ?_
          rintro wq3 hbwq3
          have Hq3 := Lib.hid (btr Hq2.out hbwq3 (Nat.le_refl _))
          refine HK1.out _ _ ⟨Hq3.out, fun _ => trivial⟩ ?_
          clear HK1
          try simp only [Act.put, List.setIfInBounds_toArray, List.set_cons_zero, List.set_cons_succ]
          have HCA := Lib.hid (blk_keep HCA.out hbwq3)
          refine wpAnyX_one (i := 5) (o := { dst := some 8, op := _, type := _, pos := _, after := _, guard := none }) (by kernel_rfl) rfl (by rfl) (fun K1 hK1 => ?_)
          have HK1 := Lib.hid hK1; clear hK1
          have hRa := Hq3.out.alloc Hq3.out.size (.cells #[.slice none 0 0, .slice none 0 0] 29)
          go_simp
          refine HK1.out _ _ ⟨hRa, fun _ => trivial⟩ ?_
          clear HK1
          try simp only [Act.put, List.setIfInBounds_toArray, List.set_cons_zero, List.set_cons_succ]
          have cB : (wq3.alloc (.cells #[.slice none 0 0, .slice none 0 0] 29)).heap[wq3.heap.size]? = some (.cells #[.slice none 0 0, .slice none 0 0] 29 (0, 0)) := heap_newI rfl
          have hbn := (Below.refl _ wq3).alloc (Nat.le_refl _) (.cells #[.slice none 0 0, .slice none 0 0] 29)
          have HLA := Lib.hid (show gA ≠ wq3.heap.size from fun e => by have := lt_blk HCA.out; omega)
          have cA := blk_keep HCA.out hbn
          have HSB := Lib.hid Hq3.out.size
          obtain ⟨wq4, hw⟩ : ∃ q, q = wq3.alloc (.cells #[.slice none 0 0, .slice none 0 0] 29) := ⟨_, rfl⟩
          rw [← hw] at hRa cB cA ⊢
          obtain ⟨gB, hgB⟩ : ∃ q, q = wq3.heap.size := ⟨_, rfl⟩
          rw [← hgB] at cB HSB HLA ⊢
          have Hq4 := Lib.hid hRa
          have HCB := Lib.hid cB
          have HCA := Lib.hid cA
          clear hw hgB hRa hbn cB cA
          have hR6 : Below w3.heap.size w3 (wq4.putObj gA (.cells #[an, ag] 29)) := below_putObj Hq4.out HSA.out
          refine wpAnyX_one (i := 6) (o := { dst := none, op := _, type := _, pos := _, after := _, guard := none }) (by kernel_rfl) rfl (by rfl) (fun K1 hK1 => ?_)
          have HK1 := Lib.hid hK1; clear hK1
          refine oper_store_blk 29 (.tmp 7) (.tmp 29) rfl gA rfl rfl HCA.out size29 rfl rfl HX2.out.law.one ?_
          refine HK1.out _ _ ⟨hR6, fun _ => trivial⟩ ?_
          clear HK1
          try simp only [Act.put]
          have hB7 : (wq4.putObj gA (.cells #[an, ag] 29)).heap[gB]? = some (.cells #[.slice none 0 0, .slice none 0 0] 29 (0, 0)) := (World.putObj_heap_other (HLA.out.symm)).trans HCB.out
          have hA7 : (wq4.putObj gA (.cells #[an, ag] 29)).heap[gA]? = some (.cells #[an, ag] 29 (0, 0)) := World.putObj_heap_same (lt_blk HCA.out)
          have hR7 : Below w3.heap.size w3 ((wq4.putObj gA (.cells #[an, ag] 29)).putObj gB (.cells #[bn, bg] 29)) := below_putObj hR6 HSB.out
          refine wpAnyX_one (i := 7) (o := { dst := none, op := _, type := _, pos := _, after := _, guard := none }) (by kernel_rfl) rfl (by rfl) (fun K1 hK1 => ?_)
          have HK1 := Lib.hid hK1; clear hK1
          refine oper_store_blk 29 (.tmp 8) (.tmp 31) rfl gB rfl rfl hB7 size29 rfl rfl HY2.out.law.one ?_
          refine HK1.out _ _ ⟨hR7, fun _ => trivial⟩ ?_
          clear HK1
          try simp only [Act.put]
          refine wpAnyX_done (by kernel_rfl) ?_ _
          exact TAIL gA gB _ ⟨⟨(World.putObj_heap_other HLA.out).trans hA7, HX2.out.nx.below hR7 (Nat.le_refl _), HX2.out.gd.below hR7 (Nat.le_refl _)⟩, ⟨World.putObj_heap_same (lt_blk hB7), HY2.out.nx.below hR7 (Nat.le_refl _), HY2.out.gd.below hR7 (Nat.le_refl _)⟩, hR7⟩
        refine AllReadyX.cons (o := { dst := some 8, op := _, type := _, pos := _, after := _, guard := none }) rfl (by rfl) (fun K1 hK1 => ?_) AllReadyX.nil
        have HK1 := Lib.hid hK1; clear hK1
        have hRa := Hq2.out.alloc Hq2.out.size (.cells #[.slice none 0 0, .slice none 0 0] 29)
        go_simp
        refine HK1.out _ _ ⟨hRa, fun _ => trivial⟩ ?_
        clear HK1
        try simp only [Act.put, List.setIfInBounds_toArray, List.set_cons_zero, List.set_cons_succ]
        have cB : (wq2.alloc (.cells #[.slice none 0 0, .slice none 0 0] 29)).heap[wq2.heap.size]? = some (.cells #[.slice none 0 0, .slice none 0 0] 29 (0, 0)) := heap_newI rfl
        have hbn := (Below.refl _ wq2).alloc (Nat.le_refl _) (.cells #[.slice none 0 0, .slice none 0 0] 29)
        have HLA := Lib.hid (show gA ≠ wq2.heap.size from fun e => by have := lt_blk HCA.out; omega)
        have cA := blk_keep HCA.out hbn
        have HSB := Lib.hid Hq2.out.size
        obtain ⟨wq3, hw⟩ : ∃ q, q = wq2.alloc (.cells #[.slice none 0 0, .slice none 0 0] 29) := ⟨_, rfl⟩
        rw [← hw] at hRa cB cA ⊢
        obtain ⟨gB, hgB⟩ : ∃ q, q = wq2.heap.size := ⟨_, rfl⟩
        rw [← hgB] at cB HSB HLA ⊢
        have Hq3 := Lib.hid hRa
        have HCB := Lib.hid cB
        have HCA := Lib.hid cA
        clear hw hgB hRa hbn cB cA
        refine wpAnyX_one (i := 3) (o := { dst := some 31, op := _, type := _, pos := _, after := _, guard := none }) (by kernel_rfl) rfl (by rfl) (fun K1 hK1 => ?_)
        have HK1 := Lib.hid hK1; clear hK1
        refine oper_call (ts := _) (xs := #[.tmp 30]) (f := 22) rfl (enters_of Try.func22 (by kernel_rfl) rfl) rfl (R := fun w' => Below wq3.heap.size wq3 w') (v := .agg #[bn, bg]) ((given_any (HY2.out.below Hq3.out).law).mono (by rintro e w' ⟨rfl, h⟩; exact ⟨rfl, h⟩)) ?_
        rintro wq4 hbwq4
        have Hq4 := Lib.hid (btr Hq3.out hbwq4 (Nat.le_refl _))
        refine HK1.out _ _ ⟨Hq4.out, fun _ => trivial⟩ ?_
        clear HK1
        try simp only [Act.put, List.setIfInBounds_toArray, List.set_cons_zero, List.set_cons_succ]
        have HCA := Lib.hid (blk_keep HCA.out hbwq4)
        have HCB := Lib.hid (blk_keep HCB.out hbwq4)
        have hR6 : Below w3.heap.size w3 (wq4.putObj gA (.cells #[an, ag] 29)) := below_putObj Hq4.out HSA.out
        refine wpAnyX_one (i := 6) (o := { dst := none, op := _, type := _, pos := _, after := _, guard := none }) (by kernel_rfl) rfl (by rfl) (fun K1 hK1 => ?_)
        have HK1 := Lib.hid hK1; clear hK1
        refine oper_store_blk 29 (.tmp 7) (.tmp 29) rfl gA rfl rfl HCA.out size29 rfl rfl HX2.out.law.one ?_
        refine HK1.out _ _ ⟨hR6, fun _ => trivial⟩ ?_
        clear HK1
        try simp only [Act.put]
        have hB7 : (wq4.putObj gA (.cells #[an, ag] 29)).heap[gB]? = some (.cells #[.slice none 0 0, .slice none 0 0] 29 (0, 0)) := (World.putObj_heap_other (HLA.out.symm)).trans HCB.out
        have hA7 : (wq4.putObj gA (.cells #[an, ag] 29)).heap[gA]? = some (.cells #[an, ag] 29 (0, 0)) := World.putObj_heap_same (lt_blk HCA.out)
        have hR7 : Below w3.heap.size w3 ((wq4.putObj gA (.cells #[an, ag] 29)).putObj gB (.cells #[bn, bg] 29)) := below_putObj hR6 HSB.out
        refine wpAnyX_one (i := 7) (o := { dst := none, op := _, type := _, pos := _, after := _, guard := none }) (by kernel_rfl) rfl (by rfl) (fun K1 hK1 => ?_)
        have HK1 := Lib.hid hK1; clear hK1
        refine oper_store_blk 29 (.tmp 8) (.tmp 31) rfl gB rfl rfl hB7 size29 rfl rfl HY2.out.law.one ?_
        refine HK1.out _ _ ⟨hR7, fun _ => trivial⟩ ?_
        clear HK1
        try simp only [Act.put]
        refine wpAnyX_done (by kernel_rfl) ?_ _
        exact TAIL gA gB _ ⟨⟨(World.putObj_heap_other HLA.out).trans hA7, HX2.out.nx.below hR7 (Nat.le_refl _), HX2.out.gd.below hR7 (Nat.le_refl _)⟩, ⟨World.putObj_heap_same (lt_blk hB7), HY2.out.nx.below hR7 (Nat.le_refl _), HY2.out.gd.below hR7 (Nat.le_refl _)⟩, hR7⟩
      refine AllReadyX.cons (o := { dst := some 8, op := _, type := _, pos := _, after := _, guard := none }) rfl (by rfl) (fun K1 hK1 => ?_) AllReadyX.nil
      have HK1 := Lib.hid hK1; clear hK1
      have hRa := Hq1.out.alloc Hq1.out.size (.cells #[.slice none 0 0, .slice none 0 0] 29)
      go_simp
      refine HK1.out _ _ ⟨hRa, fun _ => trivial⟩ ?_
      clear HK1
      try simp only [Act.put, List.setIfInBounds_toArray, List.set_cons_zero, List.set_cons_succ]
      have cB : (wq1.alloc (.cells #[.slice none 0 0, .slice none 0 0] 29)).heap[wq1.heap.size]? = some (.cells #[.slice none 0 0, .slice none 0 0] 29 (0, 0)) := heap_newI rfl
      have hbn := (Below.refl _ wq1).alloc (Nat.le_refl _) (.cells #[.slice none 0 0, .slice none 0 0] 29)
      have HLA := Lib.hid (show gA ≠ wq1.heap.size from fun e => by have := lt_blk HCA.out; omega)
      have cA := blk_keep HCA.out hbn
      have HSB := Lib.hid Hq1.out.size
      obtain ⟨wq2, hw⟩ : ∃ q, q = wq1.alloc (.cells #[.slice none 0 0, .slice none 0 0] 29) := ⟨_, rfl⟩
      rw [← hw] at hRa cB cA ⊢
      obtain ⟨gB, hgB⟩ : ∃ q, q = wq1.heap.size := ⟨_, rfl⟩
      rw [← hgB] at cB HSB HLA ⊢
      have Hq2 := Lib.hid hRa
      have HCB := Lib.hid cB
      have HCA := Lib.hid cA
      clear hw hgB hRa hbn cB cA
      refine wpAnyX_one (i := 1) (o := { dst := some 29, op := _, type := _, pos := _, after := _, guard := none }) (by kernel_rfl) rfl (by rfl) (fun K1 hK1 => ?_)
      have HK1 := Lib.hid hK1; clear hK1
      refine oper_call (ts := _) (xs := #[.tmp 28]) (f := 22) rfl (enters_of Try.func22 (by kernel_rfl) rfl) rfl (R := fun w' => Below wq2.heap.size wq2 w') (v := .agg #[an, ag]) ((given_any (HX2.out.below Hq2.out).law).mono (by rintro e w' ⟨rfl, h⟩; exact ⟨rfl, h⟩)) ?_
      rintro wq3 hbwq3
      have Hq3 := Lib.hid (btr Hq2.out hbwq3 (Nat.le_refl _))
      refine HK1.out _ _ ⟨Hq3.out, fun _ => trivial⟩ ?_
      clear HK1
      try simp only [Act.put, List.setIfInBounds_toArray, List.set_cons_zero, List.set_cons_succ]
      have HCA := Lib.hid (blk_keep HCA.out hbwq3)
      have HCB := Lib.hid (blk_keep HCB.out hbwq3)
      refine wpAnyX_one (i := 3) (o := { dst := some 31, op := _, type := _, pos := _, after := _, guard := none }) (by kernel_rfl) rfl (by rfl) (fun K1 hK1 => ?_)
      have HK1 := Lib.hid hK1; clear hK1
      refine oper_call (ts := _) (xs := #[.tmp 30]) (f := 22) rfl (enters_of Try.func22 (by kernel_rfl) rfl) rfl (R := fun w' => Below wq3.heap.size wq3 w') (v := .agg #[bn, bg]) ((given_any (HY2.out.below Hq3.out).law).mono (by rintro e w' ⟨rfl, h⟩; exact ⟨rfl, h⟩)) ?_
      rintro wq4 hbwq4
      have Hq4 := Lib.hid (btr Hq3.out hbwq4 (Nat.le_refl _))
      refine HK1.out _ _ ⟨Hq4.out, fun _ => trivial⟩ ?_
      clear HK1
      try simp only [Act.put, List.setIfInBounds_toArray, List.set_cons_zero, List.set_cons_succ]
      have HCA := Lib.hid (blk_keep HCA.out hbwq4)
      have HCB := Lib.hid (blk_keep HCB.out hbwq4)
      have hR6 : Below w3.heap.size w3 (wq4.putObj gA (.cells #[an, ag] 29)) := below_putObj Hq4.out HSA.out
      refine wpAnyX_one (i := 6) (o := { dst := none, op := _, type := _, pos := _, after := _, guard := none }) (by kernel_rfl) rfl (by rfl) (fun K1 hK1 => ?_)
      have HK1 := Lib.hid hK1; clear hK1
      refine oper_store_blk 29 (.tmp 7) (.tmp 29) rfl gA rfl rfl HCA.out size29 rfl rfl HX2.out.law.one ?_
      refine HK1.out _ _ ⟨hR6, fun _ => trivial⟩ ?_
      clear HK1
      try simp only [Act.put]
      have hB7 : (wq4.putObj gA (.cells #[an, ag] 29)).heap[gB]? = some (.cells #[.slice none 0 0, .slice none 0 0] 29 (0, 0)) := (World.putObj_heap_other (HLA.out.symm)).trans HCB.out
      have hA7 : (wq4.putObj gA (.cells #[an, ag] 29)).heap[gA]? = some (.cells #[an, ag] 29 (0, 0)) := World.putObj_heap_same (lt_blk HCA.out)
      have hR7 : Below w3.heap.size w3 ((wq4.putObj gA (.cells #[an, ag] 29)).putObj gB (.cells #[bn, bg] 29)) := below_putObj hR6 HSB.out
      refine wpAnyX_one (i := 7) (o := { dst := none, op := _, type := _, pos := _, after := _, guard := none }) (by kernel_rfl) rfl (by rfl) (fun K1 hK1 => ?_)
      have HK1 := Lib.hid hK1; clear hK1
      refine oper_store_blk 29 (.tmp 8) (.tmp 31) rfl gB rfl rfl hB7 size29 rfl rfl HY2.out.law.one ?_
      refine HK1.out _ _ ⟨hR7, fun _ => trivial⟩ ?_
      clear HK1
      try simp only [Act.put]
      refine wpAnyX_done (by kernel_rfl) ?_ _
      exact TAIL gA gB _ ⟨⟨(World.putObj_heap_other HLA.out).trans hA7, HX2.out.nx.below hR7 (Nat.le_refl _), HX2.out.gd.below hR7 (Nat.le_refl _)⟩, ⟨World.putObj_heap_same (lt_blk hB7), HY2.out.nx.below hR7 (Nat.le_refl _), HY2.out.gd.below hR7 (Nat.le_refl _)⟩, hR7⟩
    refine AllReadyX.cons (o := { dst := some 8, op := _, type := _, pos := _, after := _, guard := none }) rfl (by rfl) (fun K1 hK1 => ?_) AllReadyX.nil
    have HK1 := Lib.hid hK1; clear hK1
    have hRa := Hq0.out.alloc Hq0.out.size (.cells #[.slice none 0 0, .slice none 0 0] 29)
    go_simp
    refine HK1.out _ _ ⟨hRa, fun _ => trivial⟩ ?_
    clear HK1
    try simp only [Act.put, List.setIfInBounds_toArray, List.set_cons_zero, List.set_cons_succ]
    have cB : (wq0.alloc (.cells #[.slice none 0 0, .slice none 0 0] 29)).heap[wq0.heap.size]? = some (.cells #[.slice none 0 0, .slice none 0 0] 29 (0, 0)) := heap_newI rfl
    have hbn := (Below.refl _ wq0).alloc (Nat.le_refl _) (.cells #[.slice none 0 0, .slice none 0 0] 29)
    have HSB := Lib.hid Hq0.out.size
    obtain ⟨wq1, hw⟩ : ∃ q, q = wq0.alloc (.cells #[.slice none 0 0, .slice none 0 0] 29) := ⟨_, rfl⟩
    rw [← hw] at hRa cB ⊢
    obtain ⟨gB, hgB⟩ : ∃ q, q = wq0.heap.size := ⟨_, rfl⟩
    rw [← hgB] at cB HSB ⊢
    have Hq1 := Lib.hid hRa
    have HCB := Lib.hid cB
    clear hw hgB hRa hbn cB
    refine wpAnyX_ready (rs := [1, 4]) (by kernel_rfl) (by simp) ?_
    refine AllReadyX.cons (o := { dst := some 29, op := _, type := _, pos := _, after := _, guard := none }) rfl (by rfl) (fun K1 hK1 => ?_) ?_
    · have HK1 := Lib.hid hK1; clear hK1
      refine oper_call (ts := _) (xs := #[.tmp 28]) (f := 22) rfl (enters_of Try.func22 (by kernel_rfl) rfl) rfl (R := fun w' => Below wq1.heap.size wq1 w') (v := .agg #[an, ag]) ((given_any (HX2.out.below Hq1.out).law).mono (by rintro e w' ⟨rfl, h⟩; exact ⟨rfl, h⟩)) ?_
      rintro wq2 hbwq2
      have Hq2 := Lib.hid (btr Hq1.out hbwq2 (Nat.le_refl _))
      refine HK1.out _ _ ⟨Hq2.out, fun _ => trivial⟩ ?_
      clear HK1
      try simp only [Act.put, List.setIfInBounds_toArray, List.set_cons_zero, List.set_cons_succ]
      have HCB := Lib.hid (blk_keep HCB.out hbwq2)
      refine wpAnyX_ready (rs := [3, 4]) (by kernel_rfl) (by simp) ?_
      refine AllReadyX.cons (o := { dst := some 31, op := _, type := _, pos := _, after := _, guard := none }) rfl (by rfl) (fun K1 hK1 => ?_) ?_
      · have HK1 := Lib.hid hK1; clear hK1
        refine oper_call (ts := _) (xs := #[.tmp 30]) (f := 22) rfl (enters_of Try.func22 (by kernel_rfl) rfl) rfl (R := fun w' => Below wq2.heap.size wq2 w') (v := .agg #[bn, bg]) ((given_any (HY2.out.below Hq2.out).law).mono (by rintro e w' ⟨rfl, h⟩; exact ⟨rfl, h⟩)) ?_
        rintro wq3 hbwq3
        have Hq3 := Lib.hid (btr Hq2.out hbwq3 (Nat.le_refl _))
        refine HK1.out _ _ ⟨Hq3.out, fun _ => trivial⟩ ?_
        clear HK1
        try simp only [Act.put, List.setIfInBounds_toArray, List.set_cons_zero, List.set_cons_succ]
        have HCB := Lib.hid (blk_keep HCB.out hbwq3)
        refine wpAnyX_one (i := 4) (o := { dst := some 7, op := _, type := _, pos := _, after := _, guard := none }) (by kernel_rfl) rfl (by rfl) (fun K1 hK1 => ?_)
        have HK1 := Lib.hid hK1; clear hK1
        have hRa := Hq3.out.alloc Hq3.out.size (.cells #[.slice none 0 0, .slice none 0 0] 29)
        go_simp
        refine HK1.out _ _ ⟨hRa, fun _ => trivial⟩ ?_
        clear HK1
        try simp only [Act.put, List.setIfInBounds_toArray, List.set_cons_zero, List.set_cons_succ]
        have cA : (wq3.alloc (.cells #[.slice none 0 0, .slice none 0 0] 29)).heap[wq3.heap.size]? = some (.cells #[.slice none 0 0, .slice none 0 0] 29 (0, 0)) := heap_newI rfl
        have hbn := (Below.refl _ wq3).alloc (Nat.le_refl _) (.cells #[.slice none 0 0, .slice none 0 0] 29)
        have HLB := Lib.hid (show gB ≠ wq3.heap.size from fun e => by have := lt_blk HCB.out; omega)
        have cB := blk_keep HCB.out hbn
        have HSA := Lib.hid Hq3.out.size
        obtain ⟨wq4, hw⟩ : ∃ q, q = wq3.alloc (.cells #[.slice none 0 0, .slice none 0 0] 29) := ⟨_, rfl⟩
        rw [← hw] at hRa cA cB ⊢
        obtain ⟨gA, hgA⟩ : ∃ q, q = wq3.heap.size := ⟨_, rfl⟩
        rw [← hgA] at cA HSA HLB ⊢
        have Hq4 := Lib.hid hRa
        have HCA := Lib.hid cA
        have HCB := Lib.hid cB
        clear hw hgA hRa hbn cA cB
        have hR6 : Below w3.heap.size w3 (wq4.putObj gA (.cells #[an, ag] 29)) := below_putObj Hq4.out HSA.out
        refine wpAnyX_one (i := 6) (o := { dst := none, op := _, type := _, pos := _, after := _, guard := none }) (by kernel_rfl) rfl (by rfl) (fun K1 hK1 => ?_)
        have HK1 := Lib.hid hK1; clear hK1
        refine oper_store_blk 29 (.tmp 7) (.tmp 29) rfl gA rfl rfl HCA.out size29 rfl rfl HX2.out.law.one ?_
        refine HK1.out _ _ ⟨hR6, fun _ => trivial⟩ ?_
        clear HK1
        try simp only [Act.put]
        have hB7 : (wq4.putObj gA (.cells #[an, ag] 29)).heap[gB]? = some (.cells #[.slice none 0 0, .slice none 0 0] 29 (0, 0)) := (World.putObj_heap_other (HLB.out.symm.symm)).trans HCB.out
        have hA7 : (wq4.putObj gA (.cells #[an, ag] 29)).heap[gA]? = some (.cells #[an, ag] 29 (0, 0)) := World.putObj_heap_same (lt_blk HCA.out)
        have hR7 : Below w3.heap.size w3 ((wq4.putObj gA (.cells #[an, ag] 29)).putObj gB (.cells #[bn, bg] 29)) := below_putObj hR6 HSB.out
        refine wpAnyX_one (i := 7) (o := { dst := none, op := _, type := _, pos := _, after := _, guard := none }) (by kernel_rfl) rfl (by rfl) (fun K1 hK1 => ?_)
        have HK1 := Lib.hid hK1; clear hK1
        refine oper_store_blk 29 (.tmp 8) (.tmp 31) rfl gB rfl rfl hB7 size29 rfl rfl HY2.out.law.one ?_
        refine HK1.out _ _ ⟨hR7, fun _ => trivial⟩ ?_
        clear HK1
        try simp only [Act.put]
        refine wpAnyX_done (by kernel_rfl) ?_ _
        exact TAIL gA gB _ ⟨⟨(World.putObj_heap_other HLB.out.symm).trans hA7, HX2.out.nx.below hR7 (Nat.le_refl _), HX2.out.gd.below hR7 (Nat.le_refl _)⟩, ⟨World.putObj_heap_same (lt_blk hB7), HY2.out.nx.below hR7 (Nat.le_refl _), HY2.out.gd.below hR7 (Nat.le_refl _)⟩, hR7⟩
      refine AllReadyX.cons (o := { dst := some 7, op := _, type := _, pos := _, after := _, guard := none }) rfl (by rfl) (fun K1 hK1 => ?_) AllReadyX.nil
      have HK1 := Lib.hid hK1; clear hK1
      have hRa := Hq2.out.alloc Hq2.out.size (.cells #[.slice none 0 0, .slice none 0 0] 29)
      go_simp
      refine HK1.out _ _ ⟨hRa, fun _ => trivial⟩ ?_
      clear HK1
      try simp only [Act.put, List.setIfInBounds_toArray, List.set_cons_zero, List.set_cons_succ]
      have cA : (wq2.alloc (.cells #[.slice none 0 0, .slice none 0 0] 29)).heap[wq2.heap.size]? = some (.cells #[.slice none 0 0, .slice none 0 0] 29 (0, 0)) := heap_newI rfl
      have hbn := (Below.refl _ wq2).alloc (Nat.le_refl _) (.cells #[.slice none 0 0, .slice none 0 0] 29)
      have HLB := Lib.hid (show gB ≠ wq2.heap.size from fun e => by have := lt_blk HCB.out; omega)
      have cB := blk_keep HCB.out hbn
      have HSA := Lib.hid Hq2.out.size
      obtain ⟨wq3, hw⟩ : ∃ q, q = wq2.alloc (.cells #[.slice none 0 0, .slice none 0 0] 29) := ⟨_, rfl⟩
      rw [← hw] at hRa cA cB ⊢
      obtain ⟨gA, hgA⟩ : ∃ q, q = wq2.heap.size := ⟨_, rfl⟩
      rw [← hgA] at cA HSA HLB ⊢
      have Hq3 := Lib.hid hRa
      have HCA := Lib.hid cA
      have HCB := Lib.hid cB
      clear hw hgA hRa hbn cA cB
      refine wpAnyX_one (i := 3) (o := { dst := some 31, op := _, type := _, pos := _, after := _, guard := none }) (by kernel_rfl) rfl (by rfl) (fun K1 hK1 => ?_)
      have HK1 := Lib.hid hK1; clear hK1
      refine oper_call (ts := _) (xs := #[.tmp 30]) (f := 22) rfl (enters_of Try.func22 (by kernel_rfl) rfl) rfl (R := fun w' => Below wq3.heap.size wq3 w') (v := .agg #[bn, bg]) ((given_any (HY2.out.below Hq3.out).law).mono (by rintro e w' ⟨rfl, h⟩; exact ⟨rfl, h⟩)) ?_
      rintro wq4 hbwq4
      have Hq4 := Lib.hid (btr Hq3.out hbwq4 (Nat.le_refl _))
      refine HK1.out _ _ ⟨Hq4.out, fun _ => trivial⟩ ?_
      clear HK1
      try simp only [Act.put, List.setIfInBounds_toArray, List.set_cons_zero, List.set_cons_succ]
      have HCB := Lib.hid (blk_keep HCB.out hbwq4)
      have HCA := Lib.hid (blk_keep HCA.out hbwq4)
      have hR6 : Below w3.heap.size w3 (wq4.putObj gA (.cells #[an, ag] 29)) := below_putObj Hq4.out HSA.out
      refine wpAnyX_one (i := 6) (o := { dst := none, op := _, type := _, pos := _, after := _, guard := none }) (by kernel_rfl) rfl (by rfl) (fun K1 hK1 => ?_)
      have HK1 := Lib.hid hK1; clear hK1
      refine oper_store_blk 29 (.tmp 7) (.tmp 29) rfl gA rfl rfl HCA.out size29 rfl rfl HX2.out.law.one ?_
      refine HK1.out _ _ ⟨hR6, fun _ => trivial⟩ ?_
      clear HK1
      try simp only [Act.put]
      have hB7 : (wq4.putObj gA (.cells #[an, ag] 29)).heap[gB]? = some (.cells #[.slice none 0 0, .slice none 0 0] 29 (0, 0)) := (World.putObj_heap_other (HLB.out.symm.symm)).trans HCB.out
      have hA7 : (wq4.putObj gA (.cells #[an, ag] 29)).heap[gA]? = some (.cells #[an, ag] 29 (0, 0)) := World.putObj_heap_same (lt_blk HCA.out)
      have hR7 : Below w3.heap.size w3 ((wq4.putObj gA (.cells #[an, ag] 29)).putObj gB (.cells #[bn, bg] 29)) := below_putObj hR6 HSB.out
      refine wpAnyX_one (i := 7) (o := { dst := none, op := _, type := _, pos := _, after := _, guard := none }) (by kernel_rfl) rfl (by rfl) (fun K1 hK1 => ?_)
      have HK1 := Lib.hid hK1; clear hK1
      refine oper_store_blk 29 (.tmp 8) (.tmp 31) rfl gB rfl rfl hB7 size29 rfl rfl HY2.out.law.one ?_
      refine HK1.out _ _ ⟨hR7, fun _ => trivial⟩ ?_
      clear HK1
      try simp only [Act.put]
      refine wpAnyX_done (by kernel_rfl) ?_ _
      exact TAIL gA gB _ ⟨⟨(World.putObj_heap_other HLB.out.symm).trans hA7, HX2.out.nx.below hR7 (Nat.le_refl _), HX2.out.gd.below hR7 (Nat.le_refl _)⟩, ⟨World.putObj_heap_same (lt_blk hB7), HY2.out.nx.below hR7 (Nat.le_refl _), HY2.out.gd.below hR7 (Nat.le_refl _)⟩, hR7⟩
    refine AllReadyX.cons (o := { dst := some 7, op := _, type := _, pos := _, after := _, guard := none }) rfl (by rfl) (fun K1 hK1 => ?_) AllReadyX.nil
    have HK1 := Lib.hid hK1; clear hK1
    have hRa := Hq1.out.alloc Hq1.out.size (.cells #[.slice none 0 0, .slice none 0 0] 29)
    go_simp
    refine HK1.out _ _ ⟨hRa, fun _ => trivial⟩ ?_
    clear HK1
    try simp only [Act.put, List.setIfInBounds_toArray, List.set_cons_zero, List.set_cons_succ]
    have cA : (wq1.alloc (.cells #[.slice none 0 0, .slice none 0 0] 29)).heap[wq1.heap.size]? = some (.cells #[.slice none 0 0, .slice none 0 0] 29 (0, 0)) := heap_newI rfl
    have hbn := (Below.refl _ wq1).alloc (Nat.le_refl _) (.cells #[.slice none 0 0, .slice none 0 0] 29)
    have HLB := Lib.hid (show gB ≠ wq1.heap.size from fun e => by have := lt_blk HCB.out; omega)
    have cB := blk_keep HCB.out hbn
    have HSA := Lib.hid Hq1.out.size
    obtain ⟨wq2, hw⟩ : ∃ q, q = wq1.alloc (.cells #[.slice none 0 0, .slice none 0 0] 29) := ⟨_, rfl⟩
    rw [← hw] at hRa cA cB ⊢
    obtain ⟨gA, hgA⟩ : ∃ q, q = wq1.heap.size := ⟨_, rfl⟩
    rw [← hgA] at cA HSA HLB ⊢
    have Hq2 := Lib.hid hRa
    have HCA := Lib.hid cA
    have HCB := Lib.hid cB
    clear hw hgA hRa hbn cA cB
    refine wpAnyX_one (i := 1) (o := { dst := some 29, op := _, type := _, pos := _, after := _, guard := none }) (by kernel_rfl) rfl (by rfl) (fun K1 hK1 => ?_)
    have HK1 := Lib.hid hK1; clear hK1
    refine oper_call (ts := _) (xs := #[.tmp 28]) (f := 22) rfl (enters_of Try.func22 (by kernel_rfl) rfl) rfl (R := fun w' => Below wq2.heap.size wq2 w') (v := .agg #[an, ag]) ((given_any (HX2.out.below Hq2.out).law).mono (by rintro e w' ⟨rfl, h⟩; exact ⟨rfl, h⟩)) ?_
    rintro wq3 hbwq3
    have Hq3 := Lib.hid (btr Hq2.out hbwq3 (Nat.le_refl _))
    refine HK1.out _ _ ⟨Hq3.out, fun _ => trivial⟩ ?_
    clear HK1
    try simp only [Act.put, List.setIfInBounds_toArray, List.set_cons_zero, List.set_cons_succ]
    have HCB := Lib.hid (blk_keep HCB.out hbwq3)
    have HCA := Lib.hid (blk_keep HCA.out hbwq3)
    refine wpAnyX_one (i := 3) (o := { dst := some 31, op := _, type := _, pos := _, after := _, guard := none }) (by kernel_rfl) rfl (by rfl) (fun K1 hK1 => ?_)
    have HK1 := Lib.hid hK1; clear hK1
    refine oper_call (ts := _) (xs := #[.tmp 30]) (f := 22) rfl (enters_of Try.func22 (by kernel_rfl) rfl) rfl (R := fun w' => Below wq3.heap.size wq3 w') (v := .agg #[bn, bg]) ((given_any (HY2.out.below Hq3.out).law).mono (by rintro e w' ⟨rfl, h⟩; exact ⟨rfl, h⟩)) ?_
    rintro wq4 hbwq4
    have Hq4 := Lib.hid (btr Hq3.out hbwq4 (Nat.le_refl _))
    refine HK1.out _ _ ⟨Hq4.out, fun _ => trivial⟩ ?_
    clear HK1
    try simp only [Act.put, List.setIfInBounds_toArray, List.set_cons_zero, List.set_cons_succ]
    have HCB := Lib.hid (blk_keep HCB.out hbwq4)
    have HCA := Lib.hid (blk_keep HCA.out hbwq4)
    have hR6 : Below w3.heap.size w3 (wq4.putObj gA (.cells #[an, ag] 29)) := below_putObj Hq4.out HSA.out
    refine wpAnyX_one (i := 6) (o := { dst := none, op := _, type := _, pos := _, after := _, guard := none }) (by kernel_rfl) rfl (by rfl) (fun K1 hK1 => ?_)
    have HK1 := Lib.hid hK1; clear hK1
    refine oper_store_blk 29 (.tmp 7) (.tmp 29) rfl gA rfl rfl HCA.out size29 rfl rfl HX2.out.law.one ?_
    refine HK1.out _ _ ⟨hR6, fun _ => trivial⟩ ?_
    clear HK1
    try simp only [Act.put]
    have hB7 : (wq4.putObj gA (.cells #[an, ag] 29)).heap[gB]? = some (.cells #[.slice none 0 0, .slice none 0 0] 29 (0, 0)) := (World.putObj_heap_other (HLB.out.symm.symm)).trans HCB.out
    have hA7 : (wq4.putObj gA (.cells #[an, ag] 29)).heap[gA]? = some (.cells #[an, ag] 29 (0, 0)) := World.putObj_heap_same (lt_blk HCA.out)
    have hR7 : Below w3.heap.size w3 ((wq4.putObj gA (.cells #[an, ag] 29)).putObj gB (.cells #[bn, bg] 29)) := below_putObj hR6 HSB.out
    refine wpAnyX_one (i := 7) (o := { dst := none, op := _, type := _, pos := _, after := _, guard := none }) (by kernel_rfl) rfl (by rfl) (fun K1 hK1 => ?_)
    have HK1 := Lib.hid hK1; clear hK1
    refine oper_store_blk 29 (.tmp 8) (.tmp 31) rfl gB rfl rfl hB7 size29 rfl rfl HY2.out.law.one ?_
    refine HK1.out _ _ ⟨hR7, fun _ => trivial⟩ ?_
    clear HK1
    try simp only [Act.put]
    refine wpAnyX_done (by kernel_rfl) ?_ _
    exact TAIL gA gB _ ⟨⟨(World.putObj_heap_other HLB.out.symm).trans hA7, HX2.out.nx.below hR7 (Nat.le_refl _), HX2.out.gd.below hR7 (Nat.le_refl _)⟩, ⟨World.putObj_heap_same (lt_blk hB7), HY2.out.nx.below hR7 (Nat.le_refl _), HY2.out.gd.below hR7 (Nat.le_refl _)⟩, hR7⟩
  intro gA gB w4 hT4
  refine HK.out _ _ ?_; clear HK
  obtain ⟨hxA, hxB, hb34⟩ := hT4
  have HX4 := Lib.hid (HX2.out.below hb34)
  have HY4 := Lib.hid (HY2.out.below hb34)
  have HP4 := Lib.hid hxA
  have HQ4 := Lib.hid hxB
  have HBw4 := Lib.hid (HBw.out.trans (hb34.mono HG2.out))
  have HG4 := Lib.hid (Nat.le_trans HG2.out hb34.size)
  clear hxA hxB hb34 HX2 HY2 HBw HG2
  obtain ⟨cn, hcn⟩ : ∃ q, q = (countE la n).1 := ⟨_, rfl⟩
  obtain ⟨ce, hce⟩ : ∃ q, q = (countE la n).2 := ⟨_, rfl⟩
  obtain ⟨fe, hfe⟩ : ∃ q, q = firstE (chkL la) (sysL la) := ⟨_, rfl⟩
  obtain ⟨fy, hfy⟩ : ∃ q, q = nI (firstY (chkL la) (sysL la)) := ⟨_, rfl⟩
  obtain ⟨de, hde⟩ : ∃ q, q = firstE (chk2E la lb) (diffS la lb (0, 0)) := ⟨_, rfl⟩
  obtain ⟨dy, hdy⟩ : ∃ q, q = nI (firstY (chk2E la lb) (diffS la lb (0, 0))) := ⟨_, rfl⟩
  have H23 : Hid (∀ W, Below w4.heap.size w4 W → Calls Try.prog 23 #[.agg #[an, ag], .int .i64 n] W fun e w' => e = .returned (.tuple #[.int .i64 cn, .int .i64 ce]) ∧ Below W.heap.size W w') := Lib.hid fun W hW => by rw [hcn, hce]; exact count23_any (HX4.out.below hW).law
  have H24 : Hid (∀ W, Below w4.heap.size w4 W → Calls Try.prog 24 #[.agg #[an, ag], .int .i64 n] W fun e w' => e = .returned (.tuple #[.int .i64 cn, .int .i64 ce]) ∧ Below W.heap.size W w') := Lib.hid fun W hW => by rw [hcn, hce]; exact rcount_any (HP4.out.below hW).law
  have H25 : Hid (∀ W, Below w4.heap.size w4 W → Calls Try.prog 25 #[.agg #[an, ag]] W fun e w' => ∃ vy, e = .returned (.tuple #[vy, .int .i64 fe]) ∧ SlI w' vy fy ∧ Below W.heap.size W w') := Lib.hid fun W hW => by rw [hfe, hfy]; exact first25_any (HX4.out.below hW).law
  have H26 : Hid (∀ W, Below w4.heap.size w4 W → Calls Try.prog 26 #[.agg #[an, ag]] W fun e w' => ∃ vy, e = .returned (.tuple #[vy, .int .i64 fe]) ∧ SlI w' vy fy ∧ Below W.heap.size W w') := Lib.hid fun W hW => by rw [hfe, hfy]; exact rfirst_any (HP4.out.below hW).law
  have H27 : Hid (∀ W, Below w4.heap.size w4 W → Calls Try.prog 27 #[.agg #[an, ag], .agg #[bn, bg]] W fun e w' => ∃ vy, e = .returned (.tuple #[vy, .int .i64 de]) ∧ SlI w' vy dy ∧ Below W.heap.size W w') := Lib.hid fun W hW => by rw [hde, hdy]; exact differ27_any (HX4.out.below hW).law (HY4.out.below hW).law
  have H28 : Hid (∀ W, Below w4.heap.size w4 W → Calls Try.prog 28 #[.agg #[an, ag], .agg #[bn, bg]] W fun e w' => ∃ vy, e = .returned (.tuple #[vy, .int .i64 de]) ∧ SlI w' vy dy ∧ Below W.heap.size W w') := Lib.hid fun W hW => by rw [hde, hdy]; exact rdiffer_any (HP4.out.below hW).law (HQ4.out.below hW).law
  have H29 : Hid (∀ W u v (xs : List Int), SlI W u xs → SlI W v xs → Calls Try.prog 29 #[u, v] W fun e w' => e = .returned (.bool true) ∧ Below W.heap.size W w') := Lib.hid fun W u v xs hu hv => (numbers_any u v xs xs W hu hv).mono (by rintro e w' ⟨rfl, hb⟩; exact ⟨by simp, hb⟩)
  clear hcn hce hfe hfy hde hdy
  refine wp_seq_k (fun K hK => ?_)
  have HK := Lib.hid hK; clear hK
  go_wp2_with (first | (refine wpList_load_blk rfl 25 (.tmp 3) rfl _ rfl (show _ from blk_keep HX4.out.blk (Below.refl _ _)) Try.underlying25 rfl size25 rfl ?_) | (refine wpList_load_blk rfl 25 (.tmp 4) rfl _ rfl (show _ from blk_keep HY4.out.blk (Below.refl _ _)) Try.underlying25 rfl size25 rfl ?_) | (refine wpList_load_blk rfl 29 (.tmp 7) rfl _ rfl (show _ from blk_keep HP4.out.blk (Below.refl _ _)) Try.underlying29 rfl size29 rfl ?_) | (refine wpList_load_blk rfl 29 (.tmp 8) rfl _ rfl (show _ from blk_keep HQ4.out.blk (Below.refl _ _)) Try.underlying29 rfl size29 rfl ?_) | (go_at_call 23; refine (H23.out _ (Below.refl _ _)).mono ?_; rintro e w5 ⟨rfl, hb⟩; have HC5 := Lib.hid hb; have HB5 := Lib.hid hb; clear hb))
  refine HK.out _ _ ?_; clear HK
  refine wp_seq_k (fun K hK => ?_)
  have HK := Lib.hid hK; clear hK
  go_wp2_with (first | (refine wpList_load_blk rfl 25 (.tmp 3) rfl _ rfl (show _ from blk_keep HX4.out.blk HB5.out) Try.underlying25 rfl size25 rfl ?_) | (refine wpList_load_blk rfl 25 (.tmp 4) rfl _ rfl (show _ from blk_keep HY4.out.blk HB5.out) Try.underlying25 rfl size25 rfl ?_) | (refine wpList_load_blk rfl 29 (.tmp 7) rfl _ rfl (show _ from blk_keep HP4.out.blk HB5.out) Try.underlying29 rfl size29 rfl ?_) | (refine wpList_load_blk rfl 29 (.tmp 8) rfl _ rfl (show _ from blk_keep HQ4.out.blk HB5.out) Try.underlying29 rfl size29 rfl ?_) | (go_at_call 24; refine (H24.out _ HB5.out).mono ?_; rintro e w6 ⟨rfl, hb⟩; have HC6 := Lib.hid hb; have HB6 := Lib.hid (btr HB5.out hb (Nat.le_refl _)); clear hb))
  refine HK.out _ _ ?_; clear HK
  refine wp_seq_k (fun K hK => ?_)
  have HK := Lib.hid hK; clear hK
  go_wp2_with (first | (refine wpList_load_blk rfl 25 (.tmp 3) rfl _ rfl (show _ from blk_keep HX4.out.blk HB6.out) Try.underlying25 rfl size25 rfl ?_) | (refine wpList_load_blk rfl 25 (.tmp 4) rfl _ rfl (show _ from blk_keep HY4.out.blk HB6.out) Try.underlying25 rfl size25 rfl ?_) | (refine wpList_load_blk rfl 29 (.tmp 7) rfl _ rfl (show _ from blk_keep HP4.out.blk HB6.out) Try.underlying29 rfl size29 rfl ?_) | (refine wpList_load_blk rfl 29 (.tmp 8) rfl _ rfl (show _ from blk_keep HQ4.out.blk HB6.out) Try.underlying29 rfl size29 rfl ?_) | (go_at_call 25; refine (H25.out _ HB6.out).mono ?_; rintro e w7 ⟨v7, rfl, hv, hb⟩; have HC7 := Lib.hid hb; have HB7 := Lib.hid (btr HB6.out hb (Nat.le_refl _)); have HV7 := Lib.hid hv; clear hb hv))
  refine HK.out _ _ ?_; clear HK
  refine wp_seq_k (fun K hK => ?_)
  have HK := Lib.hid hK; clear hK
  go_wp2_with (first | (refine wpList_load_blk rfl 25 (.tmp 3) rfl _ rfl (show _ from blk_keep HX4.out.blk HB7.out) Try.underlying25 rfl size25 rfl ?_) | (refine wpList_load_blk rfl 25 (.tmp 4) rfl _ rfl (show _ from blk_keep HY4.out.blk HB7.out) Try.underlying25 rfl size25 rfl ?_) | (refine wpList_load_blk rfl 29 (.tmp 7) rfl _ rfl (show _ from blk_keep HP4.out.blk HB7.out) Try.underlying29 rfl size29 rfl ?_) | (refine wpList_load_blk rfl 29 (.tmp 8) rfl _ rfl (show _ from blk_keep HQ4.out.blk HB7.out) Try.underlying29 rfl size29 rfl ?_) | (go_at_call 26; refine (H26.out _ HB7.out).mono ?_; rintro e w8 ⟨v8, rfl, hv, hb⟩; have HC8 := Lib.hid hb; have HB8 := Lib.hid (btr HB7.out hb (Nat.le_refl _)); have HV8 := Lib.hid hv; clear hb hv))
  refine HK.out _ _ ?_; clear HK
  refine wp_seq_k (fun K hK => ?_)
  have HK := Lib.hid hK; clear hK
  go_wp2_with (first | (refine wpList_load_blk rfl 25 (.tmp 3) rfl _ rfl (show _ from blk_keep HX4.out.blk HB8.out) Try.underlying25 rfl size25 rfl ?_) | (refine wpList_load_blk rfl 25 (.tmp 4) rfl _ rfl (show _ from blk_keep HY4.out.blk HB8.out) Try.underlying25 rfl size25 rfl ?_) | (refine wpList_load_blk rfl 29 (.tmp 7) rfl _ rfl (show _ from blk_keep HP4.out.blk HB8.out) Try.underlying29 rfl size29 rfl ?_) | (refine wpList_load_blk rfl 29 (.tmp 8) rfl _ rfl (show _ from blk_keep HQ4.out.blk HB8.out) Try.underlying29 rfl size29 rfl ?_) | (go_at_call 27; refine (H27.out _ HB8.out).mono ?_; rintro e w9 ⟨v9, rfl, hv, hb⟩; have HC9 := Lib.hid hb; have HB9 := Lib.hid (btr HB8.out hb (Nat.le_refl _)); have HV9 := Lib.hid hv; clear hb hv))
  refine HK.out _ _ ?_; clear HK
  refine wp_seq_k (fun K hK => ?_)
  have HK := Lib.hid hK; clear hK
  go_wp2_with (first | (refine wpList_load_blk rfl 25 (.tmp 3) rfl _ rfl (show _ from blk_keep HX4.out.blk HB9.out) Try.underlying25 rfl size25 rfl ?_) | (refine wpList_load_blk rfl 25 (.tmp 4) rfl _ rfl (show _ from blk_keep HY4.out.blk HB9.out) Try.underlying25 rfl size25 rfl ?_) | (refine wpList_load_blk rfl 29 (.tmp 7) rfl _ rfl (show _ from blk_keep HP4.out.blk HB9.out) Try.underlying29 rfl size29 rfl ?_) | (refine wpList_load_blk rfl 29 (.tmp 8) rfl _ rfl (show _ from blk_keep HQ4.out.blk HB9.out) Try.underlying29 rfl size29 rfl ?_) | (go_at_call 28; refine (H28.out _ HB9.out).mono ?_; rintro e w10 ⟨v10, rfl, hv, hb⟩; have HC10 := Lib.hid hb; have HB10 := Lib.hid (btr HB9.out hb (Nat.le_refl _)); have HV10 := Lib.hid hv; clear hb hv))
  refine HK.out _ _ ?_; clear HK
  have HE1 := Lib.hid (((HV7.out.below HC8.out (Nat.le_refl _)).below HC9.out (Nat.le_refl _)).below HC10.out (Nat.le_refl _))
  have HE2 := Lib.hid ((HV8.out.below HC9.out (Nat.le_refl _)).below HC10.out (Nat.le_refl _))
  have HE3 := Lib.hid (HV9.out.below HC10.out (Nat.le_refl _))
  have HE4 := HV10
  clear HV7 HV8 HV9 HC5 HC6 HC7 HC8 HC9 HC10 HB5 HB6 HB7 HB8 HB9 H23 H24 H25 H26 H27 H28 HX4 HY4 HP4 HQ4
  have hcc : (cn == cn) = true := beq_self_eq_true cn
  have hce : (ce == ce) = true := beq_self_eq_true ce
  have hff : (fe == fe) = true := beq_self_eq_true fe
  have hdd : (de == de) = true := beq_self_eq_true de
  have H1 := Lib.hid (fun W (hW : Below w10.heap.size w10 W) => H29.out W v7 v8 fy (HE1.out.below hW (Nat.le_refl _)) (HE2.out.below hW (Nat.le_refl _)))
  have H2 := Lib.hid (fun W (hW : Below w10.heap.size w10 W) => H29.out W v9 v10 dy (HE3.out.below hW (Nat.le_refl _)) (HE4.out.below hW (Nat.le_refl _)))
  clear H29 HE1 HE2 HE3 HE4 HV10
  go_wp2_with (first | (have _m := HB12; go_at_call 20; refine (HWK.out _).mono ?_; rintro e w13 ⟨rfl, hb⟩; have HB13 := Lib.hid (btr HB12.out hb (Nat.le_refl _)); clear hb) | (have _m := HB11; go_at_call 29; refine (H2.out _ HB11.out).mono ?_; rintro e w12 ⟨rfl, hb⟩; have HB12 := Lib.hid (btr HB11.out hb (Nat.le_refl _)); clear hb) | (go_at_call 29; refine (H1.out _ (Below.refl _ _)).mono ?_; rintro e w11 ⟨rfl, hb⟩; have HB11 := Lib.hid hb; clear hb))
  go_ret
  exact ⟨rfl, HBw4.out.trans ((btr HB10.out HB13.out (Nat.le_refl _)).mono HG4.out)⟩
end Ytnjgglnpmhjmiaa
end Go.Proofs
