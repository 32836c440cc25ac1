/- Laws of rotation: the reference: Both and Either. -/
import Derived.Test.YtnjgglnpmhjmiaaSg
open Go Go.RowKit Go.YtnjgglnpmhjmiaaIt
open Rest
namespace Go.Proofs
namespace Ytnjgglnpmhjmiaa
set_option maxRecDepth 100000 in
set_option maxHeartbeats 1000000 in
theorem rboth_any {va vb : Value} {la lb : Lw} {w : World} (ha : LawA w va la) (hb : LawA w vb lb) :
    Calls Try.prog 45 #[va, vb] w fun e w' => ∃ vn vg, e = .returned (.tuple #[.agg #[vn, vg], .int .i64 (bothE la lb)]) ∧ LawA w' (.agg #[vn, vg]) (resL (tabL (bothT la lb)) (bothE la lb)) ∧ Below w.heap.size w w' := by
  obtain ⟨an, ag, rfl, ha1, ha2⟩ := ha
  obtain ⟨bn, bg, rfl, hb1, hb2⟩ := hb
  have hA0 := LawA.box (⟨_, _, rfl, ha1, ha2⟩ : LawA w (.agg #[an, ag]) la) 29
  have hA := (hA0.below ((Below.refl _ _).alloc (Nat.le_refl _) (.cells #[bn, bg] 29)))
  have hBl : LawA (w.alloc (.cells #[an, ag] 29)) (.agg #[bn, bg]) lb := LawA.below (⟨_, _, rfl, hb1, hb2⟩ : LawA w (.agg #[bn, bg]) lb) ((Below.refl _ _).alloc (Nat.le_refl _) _) (Nat.le_refl _)
  have hBX := hBl.box 29
  have hA3 := hA.below ((Below.refl _ _).alloc (Nat.le_refl _) (.cells #[.slice none 0 0, .slice none 0 0] 29))
  have hBX3 := hBX.below ((Below.refl _ _).alloc (Nat.le_refl _) (.cells #[.slice none 0 0, .slice none 0 0] 29))
  rw [World.size_alloc] at hBX3
  obtain ⟨c1, c2, c3, hB1, hz1⟩ := blkE3 (w := w) (a := .cells #[an, ag] 29) (b := .cells #[bn, bg] 29) (c := .cells #[.slice none 0 0, .slice none 0 0] 29) rfl
  obtain ⟨w1, hw1⟩ : ∃ q, q = ((w.alloc (.cells #[an, ag] 29)).alloc (.cells #[bn, bg] 29)).alloc (.cells #[.slice none 0 0, .slice none 0 0] 29) := ⟨_, rfl⟩
  obtain ⟨g2, hg2⟩ : ∃ q, q = w.heap.size := ⟨_, rfl⟩
  obtain ⟨g3, hg3⟩ : ∃ q, q = g2 + 1 := ⟨_, rfl⟩
  obtain ⟨g4, hg4⟩ : ∃ q, q = g3 + 1 := ⟨_, rfl⟩
  have HW := Lib.hid (And.intro hw1 (And.intro hg2 (And.intro hg3 hg4)))
  rw [← hw1] at hA3 hBX3 hB1 c3 hz1
  rw [← hg2] at hA3 hBX3 hB1 c3 hz1
  rw [← hg3] at hBX3
  rw [← hg3, ← hg4] at c3
  have HA := Lib.hid hA3
  have HBX := Lib.hid hBX3
  have HC := Lib.hid c3
  have HB1 := Lib.hid hB1
  have HGW := Lib.hid (show w1.heap.size = g2 + 3 ∧ g4 = g2 + 2 by omega)
  have h83 := rjoined_any (bt := true) (f := fun a b => a && b) (fun a b => by cases a <;> cases b <;> rfl) HA.out.law HBX.out.law
  obtain ⟨T, hT⟩ : ∃ T, T = bothT la lb := ⟨_, rfl⟩
  obtain ⟨E, hE⟩ : ∃ E, E = bothE la lb := ⟨_, rfl⟩
  have H83 : Hid (Calls Try.prog 83 #[.agg #[an, ag], .agg #[bn, bg], .bool true] w1 fun e w' => ∃ vn vg, e = .returned (.tuple #[.agg #[vn, vg], .int .i64 E]) ∧ LawF w1 w' (.agg #[vn, vg]) (resL (tabL T) E) ∧ Below w1.heap.size w1 w') := Lib.hid (by rw [hT, hE]; exact h83)
  rw [← hT, ← hE]
  clear ha1 ha2 hb1 hb2 hA0 hA hBl hBX hA3 hBX3 c1 c2 c3 hz1 hw1 hg2 hg3 hg4 hB1 h83 hT hE
  go_enter Try.func45, Try.ntmps45
  refine wp_seq_k (fun K hK => ?_)
  have HK := Lib.hid hK; clear hK
  go_wp2
  refine HK.out _ _ ?_; clear HK
  rw [← HW.out.1, ← HW.out.2.1, ← HW.out.2.2.1, ← HW.out.2.2.2]
  clear HW
  go_wp2_with (first | (refine wpList_load_blk rfl 29 (.tmp 2) rfl _ rfl HA.out.blk Try.underlying29 rfl size29 rfl ?_) | (refine wpList_load_blk rfl 29 (.tmp 3) rfl _ rfl HBX.out.blk Try.underlying29 rfl size29 rfl ?_) | (go_at_call 83; refine H83.out.mono ?_; rintro e w2 ⟨un, ug, rfl, hl2, hb2⟩; have HL := Lib.hid hl2; have HB2 := Lib.hid hb2; clear hl2 hb2) | (refine wpList_store_blk rfl 29 _ _ rfl _ rfl rfl (show _ from blk_keep HC.out HB2.out) size29 rfl rfl HL.out.now.one ?_))
  refine bodyPost_ret (results_agg_tmp rfl _ _ g4 rfl (World.putObj_heap_same (lt_blk (blk_keep HC.out HB2.out))) Try.underlying29 rfl size29 rfl) rfl ⟨_, _, rfl, ?_, ?_⟩
  · refine HL.out _ (by rw [World.putObj_size]; exact Nat.le_refl _) fun i hi _ => ?_
    have := HGW.out
    exact World.putObj_heap_other (by omega)
  · have := HGW.out
    exact below_putObj (HB1.out.trans (HB2.out.mono (by omega))) (by omega)
set_option maxRecDepth 100000 in
set_option maxHeartbeats 1000000 in
theorem reither_any {va vb : Value} {la lb : Lw} {w : World} (ha : LawA w va la) (hb : LawA w vb lb) :
    Calls Try.prog 47 #[va, vb] w fun e w' => ∃ vn vg, e = .returned (.tuple #[.agg #[vn, vg], .int .i64 (eitherE la lb)]) ∧ LawA w' (.agg #[vn, vg]) (resL (tabL (eitherT la lb)) (eitherE la lb)) ∧ Below w.heap.size w w' := by
  obtain ⟨an, ag, rfl, ha1, ha2⟩ := ha
  obtain ⟨bn, bg, rfl, hb1, hb2⟩ := hb
  have hA0 := LawA.box (⟨_, _, rfl, ha1, ha2⟩ : LawA w (.agg #[an, ag]) la) 29
  have hA := (hA0.below ((Below.refl _ _).alloc (Nat.le_refl _) (.cells #[bn, bg] 29)))
  have hBl : LawA (w.alloc (.cells #[an, ag] 29)) (.agg #[bn, bg]) lb := LawA.below (⟨_, _, rfl, hb1, hb2⟩ : LawA w (.agg #[bn, bg]) lb) ((Below.refl _ _).alloc (Nat.le_refl _) _) (Nat.le_refl _)
  have hBX := hBl.box 29
  have hA3 := hA.below ((Below.refl _ _).alloc (Nat.le_refl _) (.cells #[.slice none 0 0, .slice none 0 0] 29))
  have hBX3 := hBX.below ((Below.refl _ _).alloc (Nat.le_refl _) (.cells #[.slice none 0 0, .slice none 0 0] 29))
  rw [World.size_alloc] at hBX3
  obtain ⟨c1, c2, c3, hB1, hz1⟩ := blkE3 (w := w) (a := .cells #[an, ag] 29) (b := .cells #[bn, bg] 29) (c := .cells #[.slice none 0 0, .slice none 0 0] 29) rfl
  obtain ⟨w1, hw1⟩ : ∃ q, q = ((w.alloc (.cells #[an, ag] 29)).alloc (.cells #[bn, bg] 29)).alloc (.cells #[.slice none 0 0, .slice none 0 0] 29) := ⟨_, rfl⟩
  obtain ⟨g2, hg2⟩ : ∃ q, q = w.heap.size := ⟨_, rfl⟩
  obtain ⟨g3, hg3⟩ : ∃ q, q = g2 + 1 := ⟨_, rfl⟩
  obtain ⟨g4, hg4⟩ : ∃ q, q = g3 + 1 := ⟨_, rfl⟩
  have HW := Lib.hid (And.intro hw1 (And.intro hg2 (And.intro hg3 hg4)))
  rw [← hw1] at hA3 hBX3 hB1 c3 hz1
  rw [← hg2] at hA3 hBX3 hB1 c3 hz1
  rw [← hg3] at hBX3
  rw [← hg3, ← hg4] at c3
  have HA := Lib.hid hA3
  have HBX := Lib.hid hBX3
  have HC := Lib.hid c3
  have HB1 := Lib.hid hB1
  have HGW := Lib.hid (show w1.heap.size = g2 + 3 ∧ g4 = g2 + 2 by omega)
  have h83 := rjoined_any (bt := false) (f := fun a b => a || b) (fun a b => by cases a <;> cases b <;> rfl) HA.out.law HBX.out.law
  obtain ⟨T, hT⟩ : ∃ T, T = eitherT la lb := ⟨_, rfl⟩
  obtain ⟨E, hE⟩ : ∃ E, E = eitherE la lb := ⟨_, rfl⟩
  have H83 : Hid (Calls Try.prog 83 #[.agg #[an, ag], .agg #[bn, bg], .bool false] w1 fun e w' => ∃ vn vg, e = .returned (.tuple #[.agg #[vn, vg], .int .i64 E]) ∧ LawF w1 w' (.agg #[vn, vg]) (resL (tabL T) E) ∧ Below w1.heap.size w1 w') := Lib.hid (by rw [hT, hE]; exact h83)
  rw [← hT, ← hE]
  clear ha1 ha2 hb1 hb2 hA0 hA hBl hBX hA3 hBX3 c1 c2 c3 hz1 hw1 hg2 hg3 hg4 hB1 h83 hT hE
  go_enter Try.func47, Try.ntmps47
  refine wp_seq_k (fun K hK => ?_)
  have HK := Lib.hid hK; clear hK
  go_wp2
  refine HK.out _ _ ?_; clear HK
  rw [← HW.out.1, ← HW.out.2.1, ← HW.out.2.2.1, ← HW.out.2.2.2]
  clear HW
  go_wp2_with (first | (refine wpList_load_blk rfl 29 (.tmp 2) rfl _ rfl HA.out.blk Try.underlying29 rfl size29 rfl ?_) | (refine wpList_load_blk rfl 29 (.tmp 3) rfl _ rfl HBX.out.blk Try.underlying29 rfl size29 rfl ?_) | (go_at_call 83; refine H83.out.mono ?_; rintro e w2 ⟨un, ug, rfl, hl2, hb2⟩; have HL := Lib.hid hl2; have HB2 := Lib.hid hb2; clear hl2 hb2) | (refine wpList_store_blk rfl 29 _ _ rfl _ rfl rfl (show _ from blk_keep HC.out HB2.out) size29 rfl rfl HL.out.now.one ?_))
  refine bodyPost_ret (results_agg_tmp rfl _ _ g4 rfl (World.putObj_heap_same (lt_blk (blk_keep HC.out HB2.out))) Try.underlying29 rfl size29 rfl) rfl ⟨_, _, rfl, ?_, ?_⟩
  · refine HL.out _ (by rw [World.putObj_size]; exact Nat.le_refl _) fun i hi _ => ?_
    have := HGW.out
    exact World.putObj_heap_other (by omega)
  · have := HGW.out
    exact below_putObj (HB1.out.trans (HB2.out.mono (by omega))) (by omega)
end Ytnjgglnpmhjmiaa
end Go.Proofs
