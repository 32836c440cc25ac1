/- Laws of rotation: the error of two laws. -/
import Derived.Test.YtnjgglnpmhjmiaaB2
open Go Go.RowKit Go.YtnjgglnpmhjmiaaIt
open Rest
namespace Go.Proofs
namespace Ytnjgglnpmhjmiaa
def chk2E (a b : Lw) : Int := if chkL a = 0 then (if chkL b = 0 then (if a.k = b.k then 0 else 3) else chkL b) else chkL a
set_option maxRecDepth 100000 in
set_option maxHeartbeats 4000000 in
theorem check2_any {va vb : Value} {la lb : Lw} {w : World} (ha : LawA w va la) (hb : LawA w vb lb) : Calls Try.prog 69 #[va, vb] w fun e w' => e = .returned (.int .i64 (chk2E la lb)) ∧ Below w.heap.size w w' := by
 have HA := Lib.hid ha
 have HB := Lib.hid hb
 obtain ⟨an, ag, rfl, han, hag⟩ := ha
 obtain ⟨bn, bg, rfl, hbn, hbg⟩ := hb
 obtain ⟨c1, c2, hBB, hz⟩ := blkE2 (w := w) (a := .cells #[an, ag] 25) (b := .cells #[bn, bg] 25) rfl
 obtain ⟨w2, hw2⟩ : ∃ q, q = (w.alloc (.cells #[an, ag] 25)).alloc (.cells #[bn, bg] 25) := ⟨_, rfl⟩
 rw [← hw2] at c1 c2 hBB hz
 have HW := Lib.hid hw2
 clear hw2 han hag hbn hbg
 go_enter Try.func69, Try.ntmps69
 refine wp_seq_k (fun K hK => ?_)
 have HK := Lib.hid hK; clear hK
 have HC := Lib.hid (And.intro c1 (And.intro c2 (And.intro hBB hz)))
 clear c1 c2 hBB hz
 go_wp2
 refine HK.out _ _ ?_; clear HK
 rw [← HW.out]
 obtain ⟨c1, c2, hBB, hz⟩ := HC.out
 obtain ⟨g2, hg2⟩ : ∃ q, q = w.heap.size := ⟨_, rfl⟩
 obtain ⟨g3, hg3⟩ : ∃ q, q = w.heap.size + 1 := ⟨_, rfl⟩
 rw [← hg2] at c1
 rw [← hg3] at c2
 rw [← hg3, ← hg2]
 have HG := Lib.hid (And.intro hg2 (And.intro hg3 (And.intro hBB hz)))
 have HC1 := Lib.hid c1
 have HC2 := Lib.hid c2
 clear hg2 hg3 hBB hz c1 c2 HC HW
 refine wp_seq_k (fun K hK => ?_)
 have HK := Lib.hid hK; clear hK
 go_wp2_with (first | (refine wpList_load_blk rfl 25 _ rfl _ rfl HC1.out Try.underlying25 rfl size25 rfl ?_) | (refine wpList_load_blk rfl 25 _ rfl _ rfl HC2.out Try.underlying25 rfl size25 rfl ?_))
 obtain ⟨w3, hw3⟩ : ∃ q, q = w2.alloc (.cells #[an, ag, bn, bg] 25) := ⟨_, rfl⟩
 have b10 : w3.heap[w2.heap.size]? = some (.cells #[an, ag, bn, bg] 25 (0, 0)) := by rw [hw3]; exact heap_newI rfl
 have hb3 : Below w2.heap.size w2 w3 := by rw [hw3]; exact (Below.refl _ _).alloc (Nat.le_refl _) _
 try rw [← hw3]
 obtain ⟨g10, hg10⟩ : ∃ q, q = w2.heap.size := ⟨_, rfl⟩
 rw [← hg10] at b10 ⊢
 have HB3 := Lib.hid (show Below w.heap.size w w3 from btr HG.out.2.2.1 hb3 (Nat.le_refl _))
 have HX3 := Lib.hid (And.intro (blk_keep HC1.out hb3) (blk_keep HC2.out hb3))
 have FIN : Hid (∀ E w', E = chk2E la lb → Below w3.heap.size w3 w' → (Ending.returned (.int .i64 E) = Ending.returned (.int .i64 (chk2E la lb)) ∧ Below g2 w w')) := Lib.hid fun E w' hE hw => ⟨by rw [hE], by rw [HG.out.1]; exact btr HB3.out hw (Nat.le_refl _)⟩
 clear hw3 hg10 hb3
 go_loopw [12] (fun i wr => ∃ k : Nat, k ≤ 2 ∧ i = .int .i64 k ∧ Hid ((0 < k → chkL la = 0) ∧ (1 < k → chkL lb = 0)) ∧ Below w3.heap.size w3 wr) (fun i _ => 2 - (intOf i).toNat)
 case atStart => exact ⟨0, by omega, rfl, Lib.hid ⟨fun h => by omega, fun h => by omega⟩, Below.refl _ _⟩
 case round =>
  obtain ⟨k, hk, rfl, HZ, hbr⟩ := hrel
  obtain ⟨wo, rfl⟩ : ∃ q, q = wr := ⟨_, rfl⟩
  have br := blk_keep b10 hbr
  by_cases hk2 : k < 2
  ·have hki : (k : Int) < 2 := by omega
   obtain ⟨vn, vg, l, hl, hc0, hc1, hkl⟩ : ∃ vn vg l, LawA w (.agg #[vn, vg]) l ∧ wo.cell? ⟨g10, k * 2, none⟩ = some vn ∧ wo.cell? ⟨g10, k * 2 + 1, none⟩ = some vg ∧ (k = 0 ∧ l = la ∨ k = 1 ∧ l = lb) := by
    rcases (show k = 0 ∨ k = 1 by omega) with rfl | rfl
    ·exact ⟨an, ag, la, HA.out, cell_blk br, cell_blk br, .inl ⟨rfl, rfl⟩⟩
    ·exact ⟨bn, bg, lb, HB.out, cell_blk br, cell_blk br, .inr ⟨rfl, rfl⟩⟩
   have H52 := Lib.hid (fun W (hW : Below wo.heap.size wo W) => check_any (hl.below (btr (btr HB3.out hbr (Nat.le_refl _)) hW (Nat.le_refl _)) (Nat.le_refl _)))
   have hone := hl.one
   have b6 : ((wo.alloc (.cells #[.slice none 0 0, .slice none 0 0] 25)).putObj wo.heap.size (.cells #[vn, vg] 25)).heap[wo.heap.size]? = some (.cells #[vn, vg] 25 (0, 0)) := World.putObj_heap_same (by rw [World.size_alloc]; omega)
   have HAL := Lib.hid (show Below wo.heap.size wo ((wo.alloc (.cells #[.slice none 0 0, .slice none 0 0] 25)).putObj wo.heap.size (.cells #[vn, vg] 25)) from below_putObj ((Below.refl wo.heap.size wo).alloc (Nat.le_refl _) _) (Nat.le_refl _))
   have HKL := Lib.hid hkl
   have HBR := Lib.hid hbr
   obtain ⟨E, hE⟩ : ∃ E, E = chkL l := ⟨_, rfl⟩
   rw [← hE] at H52
   have HE := Lib.hid hE
   clear br hl hkl hbr hE b10
   by_cases h0 : E = 0
   case neg =>
    have hb0 : (E != 0) = true := by simpa using h0
    have hb0' : (E == 0) = false := by simpa using h0
    have HE2 : Hid (E = chk2E la lb) := Lib.hid (by
     unfold chk2E
     rcases HKL.out with ⟨_, rfl⟩ | ⟨h, rfl⟩
     ·rw [← HE.out, if_neg h0]
     ·rw [if_pos (HZ.out.1 (by omega)), ← HE.out, if_neg h0])
    clear h0
    go_wp2_with (first | (refine wpList_store_blk rfl 25 _ _ rfl _ rfl rfl (heap_newI rfl) size25 rfl rfl hone ?_) | (refine wpList_load_blk rfl 25 _ rfl _ rfl b6 Try.underlying25 rfl size25 rfl ?_) | (go_at_call 52; refine (H52.out _ HAL.out).mono ?_; rintro e w5 ⟨rfl, hb5⟩; have HB5 := Lib.hid (btr HAL.out hb5 (Nat.le_refl _)); clear hb5))
    go_ret
    exact FIN.out _ _ HE2.out (btr HBR.out HB5.out (Nat.le_refl _))
   subst h0
   go_wp2_with (first | (refine wpList_store_blk rfl 25 _ _ rfl _ rfl rfl (heap_newI rfl) size25 rfl rfl hone ?_) | (refine wpList_load_blk rfl 25 _ rfl _ rfl b6 Try.underlying25 rfl size25 rfl ?_) | (go_at_call 52; refine (H52.out _ HAL.out).mono ?_; rintro e w5 ⟨rfl, hb5⟩; have HB5 := Lib.hid (btr HAL.out hb5 (Nat.le_refl _)); clear hb5))
   refine ⟨⟨k + 1, by omega, by go_num, Lib.hid ⟨fun _ => ?_, fun h => ?_⟩, btr HBR.out HB5.out (Nat.le_refl _)⟩, by simp only [intOf]; omega⟩
   ·rcases HKL.out with ⟨_, rfl⟩ | ⟨h, rfl⟩
    ·exact HE.out.symm
    ·exact HZ.out.1 (by omega)
   ·rcases HKL.out with ⟨h', rfl⟩ | ⟨_, rfl⟩
    ·omega
    ·exact HE.out.symm
  ·have hki : ¬ (k : Int) < 2 := by omega
   have hke : k = 2 := by omega
   subst hke
   have hza := HZ.out.1 (by omega)
   have hzb := HZ.out.2 (by omega)
   have H85a := Lib.hid (fun (X : Ab wo.heap.size wo) => Calls.ab X (Nat.le_refl _) (crops_any (HA.out.below (btr (btr HB3.out hbr (Nat.le_refl _)) X.ok (Nat.le_refl _)) (Nat.le_refl _)) (chkL_ok hza).ne))
   have H85b := Lib.hid (fun (X : Ab wo.heap.size wo) => Calls.ab X (Nat.le_refl _) (crops_any (HB.out.below (btr (btr HB3.out hbr (Nat.le_refl _)) X.ok (Nat.le_refl _)) (Nat.le_refl _)) (chkL_ok hzb).ne))
   have BA : ∀ W, AbC wo.heap.size wo W → W.heap[g2]? = _ := fun W ⟨X, hX⟩ => hX ▸ blk_keep (blk_keep HX3.out.1 hbr) X.ok
   have BB : ∀ W, AbC wo.heap.size wo W → W.heap[g3]? = _ := fun W ⟨X, hX⟩ => hX ▸ blk_keep (blk_keep HX3.out.2 hbr) X.ok
   have HE : Hid (chk2E la lb = if la.k = lb.k then 0 else 3) := Lib.hid (by unfold chk2E; rw [if_pos hza, if_pos hzb])
   have HBR := Lib.hid hbr
   clear hza hzb hbr br b10
   go_wp2
   refine HK.out _ _ ?_
   clear HK
   refine wp_seq_k (fun K hK => ?_)
   have HK3 := Lib.hid hK; clear hK
   refine wp_seq_k (fun K hK => ?_)
   have HK4 := Lib.hid hK; clear hK
   refine wp_region_ab wo.heap.size wo (by kernel_rfl) (by kernel_rfl) (Below.refl _ _) ?_
   unfold AbC at *
   repeat (first | (refine wpQuiet_load_blk rfl 25 (.tmp 2) rfl _ rfl BA Try.underlying25 rfl size25 rfl ?_; simp only [Act.put, List.setIfInBounds_toArray, List.set_cons_succ, List.set_cons_zero]) | (refine wpQuiet_load_blk rfl 25 (.tmp 3) rfl _ rfl BB Try.underlying25 rfl size25 rfl ?_; simp only [Act.put, List.setIfInBounds_toArray, List.set_cons_succ, List.set_cons_zero]) | go_big_quiet_step (first | (go_at_call 85; with_reducible exact H85a.out _) | (go_at_call 85; with_reducible exact H85b.out _)))
   refine wpQuiet_nil ?_
   rintro W' ⟨X, rfl⟩
   refine HK4.out _ _ ?_; clear HK4
   have hX := X.ok
   by_cases hab : la.k = lb.k
   ·have hq : ((la.k : Int) != (lb.k : Int)) = false := by simp; omega
    have hq2 : ((la.k : Int) == (lb.k : Int)) = true := by simp; omega
    have HE2 : Hid ((0 : Int) = chk2E la lb) := Lib.hid (by rw [HE.out, if_pos hab])
    clear hab
    go_wp2
    refine HK3.out _ _ ?_
    go_wp2
    go_ret
    exact FIN.out _ _ HE2.out (btr HBR.out hX (Nat.le_refl _))
   ·have hq : ((la.k : Int) != (lb.k : Int)) = true := by simp; omega
    have hq2 : ((la.k : Int) == (lb.k : Int)) = false := by simp; omega
    have HE2 : Hid ((3 : Int) = chk2E la lb) := Lib.hid (by rw [HE.out, if_neg hab])
    clear hab
    go_wp2
    go_ret
    exact FIN.out _ _ HE2.out (btr HBR.out hX (Nat.le_refl _))
end Ytnjgglnpmhjmiaa
end Go.Proofs

