/- Laws of rotation: the reference: Least. -/
import Derived.Test.YtnjgglnpmhjmiaaRt
open Go Go.RowKit Go.YtnjgglnpmhjmiaaIt
open Rest
namespace Go.Proofs
namespace Ytnjgglnpmhjmiaa
theorem storedT {w1 w2 : World} {t : TypeId} {vn vg : Value} {l : Lw} {o : Obj} (h : LawA w1 (.agg #[vn, vg]) l) (e : (w1.alloc o).putObj w1.heap.size (.cells #[vn, vg] t) = w2) : LawX w2 w1.heap.size t l vn vg ∧ Below w1.heap.size w1 w2 := by
 have hb : Below w1.heap.size w1 w2 := by rw [← e]; exact below_putObj ((Below.refl _ _).alloc (Nat.le_refl _) _) (Nat.le_refl _)
 have h1 : LawA w2 (.agg #[vn, vg]) l := h.below hb (Nat.le_refl _)
 have h2 : w2.heap[w1.heap.size]? = some (.cells #[vn, vg] t) := by rw [← e]; exact World.putObj_heap_same (by rw [sz_al]; omega)
 obtain ⟨a, b, e', hn, hg⟩ := h1
 injection e' with e'
 have e2 : [vn, vg] = [a, b] := by injection e'
 injection e2 with e3 e4
 injection e4 with e5 _
 subst e3 e5
 exact ⟨⟨h2, hn, hg⟩, hb⟩
set_option maxRecDepth 100000 in
set_option maxHeartbeats 2000000 in
theorem rleast_any {v : Value} {l : Lw} {w : World} (h : LawA w v l) : Calls Try.prog 51 #[v] w fun e w' => ∃ vn vg, e = .returned (.tuple #[.agg #[vn, vg], .int .i64 (chkL l)]) ∧ LawA w' (.agg #[vn, vg]) (resL (leastL l) (chkL l)) ∧ Below w.heap.size w w' := by
 obtain ⟨vn, vg, rfl, hn, hg⟩ := h
 have hX0 := LawA.box (⟨_, _, rfl, hn, hg⟩ : LawA w (.agg #[vn, vg]) l) 29
 obtain ⟨c1, c2, hB1, hz1⟩ := blkE2 (w := w) (a := .cells #[vn, vg] 29) (b := .cells #[.slice none 0 0, .slice none 0 0] 29) rfl
 have hX := hX0.below ((Below.refl _ _).alloc (Nat.le_refl _) (.cells #[.slice none 0 0, .slice none 0 0] 29))
 obtain ⟨w1, hw1⟩ : ∃ q, q = (w.alloc (.cells #[vn, vg] 29)).alloc (.cells #[.slice none 0 0, .slice none 0 0] 29) := ⟨_, rfl⟩
 obtain ⟨g, hgw⟩ : ∃ q, q = w.heap.size := ⟨_, rfl⟩
 obtain ⟨g2, hg2⟩ : ∃ q, q = g + 1 := ⟨_, rfl⟩
 have HW := Lib.hid (And.intro hw1 (And.intro hgw hg2))
 rw [← hw1] at hX hB1 c2 hz1
 rw [← hgw] at hX hB1 c2 hz1
 rw [← hg2] at c2
 have HX := Lib.hid hX
 have HC2 := Lib.hid c2
 have HB1 := Lib.hid hB1
 have HGW := Lib.hid (show g + 2 = w1.heap.size ∧ g2 = g + 1 from ⟨hz1.symm, hg2⟩)
 have H53 := Lib.hid (rcheck_any HX.out.law)
 obtain ⟨E, hE⟩ : ∃ E, E = chkL l := ⟨_, rfl⟩
 rw [← hE] at H53 ⊢
 have HE := Lib.hid hE
 clear hn hg hX hX0 hB1 hw1 hgw hg2 c1 c2 hz1 hE
 go_enter Try.func51, Try.ntmps51
 refine wp_seq_k (fun K hK => ?_)
 have HK := Lib.hid hK; clear hK
 go_wp2
 refine HK.out _ _ ?_; clear HK
 rw [← HW.out.1, ← HW.out.2.1, ← HW.out.2.2]
 refine wp_seq_k (fun K hK => ?_)
 have HK := Lib.hid hK; clear hK
 go_wp2_with (first | (refine wpList_load_blk rfl 29 _ rfl _ rfl HX.out.blk Try.underlying29 rfl size29 rfl ?_) | (go_at_call 53; refine H53.out.mono ?_; rintro e w2 ⟨rfl, hb2⟩; have HB2 := Lib.hid hb2; clear hb2))
 refine HK.out _ _ ?_; clear HK
 have HC3 := Lib.hid (blk_keep HC2.out HB2.out)
 by_cases h0 : E = 0
 case neg =>
  have hb0 : (E != 0) = true := by simpa using h0
  go_wp2_with (refine wpList_store_blk rfl 29 _ _ rfl _ rfl rfl HC3.out size29 rfl rfl (by simp [Value.oneCell']) ?_)
  refine bodyPost_ret (results_agg_tmp rfl _ _ g2 rfl (World.putObj_heap_same (lt_blk HC3.out)) Try.underlying29 rfl size29 rfl) rfl ⟨_, _, rfl, ?_, ?_⟩
  ·unfold resL; rw [if_neg h0]; exact lawA_nil _
  ·have := HGW.out
   exact below_putObj (HB1.out.trans (HB2.out.mono (by omega))) (by omega)
 subst h0
 have HOK := Lib.hid (chkL_ok (l := l) HE.out.symm)
 have H60 := Lib.hid (rtable_any (HX.out.below HB2.out).law HOK.out.fit)
 have HX2 := Lib.hid (HX.out.below HB2.out)
 have hb0 : ((0 : Int) != 0) = false := rfl
 refine wp_seq_k (fun K hK => ?_)
 have HK := Lib.hid hK; clear hK
 go_wp2
 refine HK.out _ _ ?_; clear HK
 refine wp_seq_k (fun K hK => ?_)
 have HK := Lib.hid hK; clear hK
 go_wp2_with (first | (refine wpList_load_blk rfl 29 _ rfl _ rfl HX2.out.blk Try.underlying29 rfl size29 rfl ?_) | (go_at_call 60; refine H60.out.mono ?_; rintro e w3 ⟨tn, tg, ts, rfl, hb3, hT⟩; have HT := Lib.hid hT; have HB3 := Lib.hid hb3; have HTL := Lib.hid (hT.law (Nat.le_refl _) fun _ _ _ => rfl); clear hb3 hT) | (refine wpList_store_blk rfl 29 _ _ rfl _ rfl rfl (heap_newI rfl) size29 rfl rfl HTL.out.one ?_))
 refine HK.out _ _ ?_; clear HK
 generalize hw4 : World.putObj _ _ _ = w4
 obtain ⟨hx4, hb4⟩ := storedT HTL.out hw4
 obtain ⟨g5, hg5⟩ : ∃ g, g = w3.heap.size := ⟨_, rfl⟩
 rw [← hg5] at hx4 ⊢
 have HX4 := Lib.hid hx4
 have HB4 := Lib.hid hb4
 have HC4 := Lib.hid (blk_keep (blk_keep HC3.out HB3.out) hb4)
 have HG5 := Lib.hid hg5
 clear hx4 hb4 hw4 hg5
 go_wp2_with (first | (refine wpList_load_blk rfl 29 _ rfl _ rfl HX4.out.blk Try.underlying29 rfl size29 rfl ?_) | (refine wpList_store_blk rfl 29 _ _ rfl _ rfl rfl HC4.out size29 rfl rfl HX4.out.law.one ?_))
 refine bodyPost_ret (results_agg_tmp rfl _ _ g2 rfl (World.putObj_heap_same (lt_blk HC4.out)) Try.underlying29 rfl size29 rfl) rfl ⟨_, _, rfl, ?_, ?_⟩
 ·have hs3 := HB2.out.size
  have hs4 := HB4.out.size
  have := HGW.out
  refine HT.out.law (by rw [World.putObj_size]; exact hs4) (fun i hi hi' => ?_)
  rw [World.putObj_heap_other (by omega)]
  exact HB4.out.block i hi'
 ·have := HGW.out
  have hs3 := HB3.out.size
  have hs2 := HB2.out.size
  exact below_putObj (((HB1.out.trans (HB2.out.mono (by omega))).trans (HB3.out.mono (by omega))).trans (HB4.out.mono (by omega))) (by omega)
end Ytnjgglnpmhjmiaa
end Go.Proofs

