/- Laws of rotation: the chapter's examples. -/
import Derived.Test.YtnjgglnpmhjmiaaC4
open Go Go.RowKit Go.YtnjgglnpmhjmiaaIt
open Rest
namespace Go.Proofs
namespace Ytnjgglnpmhjmiaa
def lawC : Lw := ⟨[[1, 0], [2, 3], [2, 2], [2, 0]], [true, true, false, true]⟩
def lawD : Lw := ⟨[[0, 1], [0, 2], [0, 3], [3, 3]], [true, true, true, false]⟩
theorem slI_blk2 {w : World} {g : Nat} {a b : Int} {t : TypeId} (h : w.heap[g]? = some (.cells #[.int .i64 a, .int .i64 b] t)) : SlI w (.slice (some ⟨g, 0, none⟩) 2 2) [a, b] :=
 ⟨_, _, rfl, by simp, by simp, fun _ => ⟨_, _, rfl, lt_blk h, fun i hi => by
  have hi' : i < 2 := by simpa using hi
  rw [Nat.zero_add, cell_blk h]
  rcases (show i = 0 ∨ i = 1 by omega) with rfl | rfl <;> rfl⟩⟩
/-- A law of four states and two crops, block by block. -/
theorem law4 {W : World} {n0 n1 n2 n3 e f : Nat} {a0 b0 a1 b1 a2 b2 a3 b3 : Int} {p0 p1 p2 p3 : Bool} {t0 t1 t2 t3 te tf : TypeId}
  (h0 : W.heap[n0]? = some (.cells #[.int .i64 a0, .int .i64 b0] t0)) (h1 : W.heap[n1]? = some (.cells #[.int .i64 a1, .int .i64 b1] t1)) (h2 : W.heap[n2]? = some (.cells #[.int .i64 a2, .int .i64 b2] t2)) (h3 : W.heap[n3]? = some (.cells #[.int .i64 a3, .int .i64 b3] t3))
  (he : W.heap[e]? = some (.cells #[.slice (some ⟨n0, 0, none⟩) 2 2, .slice (some ⟨n1, 0, none⟩) 2 2, .slice (some ⟨n2, 0, none⟩) 2 2, .slice (some ⟨n3, 0, none⟩) 2 2] te)) (hf : W.heap[f]? = some (.cells #[.bool p0, .bool p1, .bool p2, .bool p3] tf)) :
  LawA W (.agg #[.slice (some ⟨e, 0, none⟩) 4 4, .slice (some ⟨f, 0, none⟩) 4 4]) ⟨[[a0, b0], [a1, b1], [a2, b2], [a3, b3]], [p0, p1, p2, p3]⟩ := by
 refine ⟨_, _, rfl, ⟨[.slice (some ⟨n0, 0, none⟩) 2 2, .slice (some ⟨n1, 0, none⟩) 2 2, .slice (some ⟨n2, 0, none⟩) 2 2, .slice (some ⟨n3, 0, none⟩) 2 2], ⟨_, _, rfl, by simp, by simp, fun _ => ⟨_, _, rfl, lt_blk he, fun i hi => ?_⟩⟩, rfl, fun i hi hi' => ?_⟩, ⟨_, _, rfl, by simp, by simp, fun _ => ⟨_, _, rfl, lt_blk hf, fun i hi => ?_⟩⟩⟩
 ·have hi' : i < 4 := by simpa using hi
  rw [Nat.zero_add, cell_blk he]
  rcases (show i = 0 ∨ i = 1 ∨ i = 2 ∨ i = 3 by omega) with rfl | rfl | rfl | rfl <;> rfl
 ·have hi' : i < 4 := by simpa using hi
  rcases (show i = 0 ∨ i = 1 ∨ i = 2 ∨ i = 3 by omega) with rfl | rfl | rfl | rfl
  ·exact slI_blk2 h0
  ·exact slI_blk2 h1
  ·exact slI_blk2 h2
  ·exact slI_blk2 h3
 ·have hi' : i < 4 := by simpa using hi
  rw [Nat.zero_add, cell_blk hf]
  rcases (show i = 0 ∨ i = 1 ∨ i = 2 ∨ i = 3 by omega) with rfl | rfl | rfl | rfl <;> rfl
set_option maxRecDepth 100000 in
set_option maxHeartbeats 4000000 in
theorem lawC_any (w : World) : Calls Try.prog 62 #[] w fun e w' => ∃ v, e = .returned v ∧ LawA w' v lawC ∧ Below w.heap.size w w' := by
 go_enter Try.func62, Try.ntmps62
 refine wp_seq_k (fun K hK => ?_)
 have HK := Lib.hid hK; clear hK
 go_wp2
 refine HK.out _ _ ?_; clear HK K
 generalize hw1 : World.alloc _ _ = w1
 obtain ⟨b1, hB, hs1⟩ := blkE1 hw1
 clear hw1
 obtain ⟨g, hg⟩ : ∃ g, g = w.heap.size := ⟨_, rfl⟩
 have HB := Lib.hid hB
 have HG := Lib.hid hg
 rw [← hg] at b1 hs1
 rw [← hg]
 clear hB hg
 have H1 := Lib.hid b1
 have lg : g < w1.heap.size := by omega
 have HAL := Lib.hid (show ∀ (W : World) (o : Obj), Below w1.heap.size w1 W → Below w1.heap.size w1 (W.alloc o) from fun W o h => h.alloc h.size o)
 clear b1 hs1
 go_wp2_with (refine wpList_store_blk rfl 25 _ _ rfl g rfl rfl (blk_keep H1.out (by refine HAL.out _ _ ?_; refine HAL.out _ _ ?_; refine HAL.out _ _ ?_; refine HAL.out _ _ ?_; refine HAL.out _ _ ?_; refine HAL.out _ _ ?_; exact Below.refl _ _)) size25 rfl rfl (by simp [Value.oneCell']) ?_)
 clear HAL
 generalize hw2 : World.alloc _ _ = W2
 obtain ⟨q0, q1, q2, q3, q4, q5, hB2, hs2⟩ := blkE6 hw2
 clear hw2
 have hk : ∀ {k : Nat} {o : Obj}, W2.heap[k]? = some o → w1.heap.size ≤ k → ∀ O, (W2.putObj g O).heap[k]? = some o := fun h hk O => (World.putObj_heap_other (by omega)).trans h
 have lg2 : g < W2.heap.size := by omega
 refine bodyPost_ret (results_blk rfl _ _ g rfl (World.putObj_heap_same lg2) Try.underlying25 rfl size25 rfl) rfl ⟨_, rfl, ?_, ?_⟩
 ·exact law4 (hk q0 (by omega) _) (hk q1 (by omega) _) (hk q2 (by omega) _) (hk q3 (by omega) _) (hk q4 (by omega) _) (hk q5 (by omega) _)
 ·rw [HG.out]
  exact below_putObj (btr HB.out hB2 (Nat.le_refl _)) (Nat.le_refl _)
set_option maxRecDepth 100000 in
set_option maxHeartbeats 4000000 in
theorem lawD_any (w : World) : Calls Try.prog 63 #[] w fun e w' => ∃ v, e = .returned v ∧ LawA w' v lawD ∧ Below w.heap.size w w' := by
 go_enter Try.func63, Try.ntmps63
 refine wp_seq_k (fun K hK => ?_)
 have HK := Lib.hid hK; clear hK
 go_wp2
 refine HK.out _ _ ?_; clear HK K
 generalize hw1 : World.alloc _ _ = w1
 obtain ⟨b1, hB, hs1⟩ := blkE1 hw1
 clear hw1
 obtain ⟨g, hg⟩ : ∃ g, g = w.heap.size := ⟨_, rfl⟩
 have HB := Lib.hid hB
 have HG := Lib.hid hg
 rw [← hg] at b1 hs1
 rw [← hg]
 clear hB hg
 have H1 := Lib.hid b1
 have lg : g < w1.heap.size := by omega
 have HAL := Lib.hid (show ∀ (W : World) (o : Obj), Below w1.heap.size w1 W → Below w1.heap.size w1 (W.alloc o) from fun W o h => h.alloc h.size o)
 clear b1 hs1
 go_wp2_with (refine wpList_store_blk rfl 25 _ _ rfl g rfl rfl (blk_keep H1.out (by refine HAL.out _ _ ?_; refine HAL.out _ _ ?_; refine HAL.out _ _ ?_; refine HAL.out _ _ ?_; refine HAL.out _ _ ?_; refine HAL.out _ _ ?_; exact Below.refl _ _)) size25 rfl rfl (by simp [Value.oneCell']) ?_)
 clear HAL
 generalize hw2 : World.alloc _ _ = W2
 obtain ⟨q0, q1, q2, q3, q4, q5, hB2, hs2⟩ := blkE6 hw2
 clear hw2
 have hk : ∀ {k : Nat} {o : Obj}, W2.heap[k]? = some o → w1.heap.size ≤ k → ∀ O, (W2.putObj g O).heap[k]? = some o := fun h hk O => (World.putObj_heap_other (by omega)).trans h
 have lg2 : g < W2.heap.size := by omega
 refine bodyPost_ret (results_blk rfl _ _ g rfl (World.putObj_heap_same lg2) Try.underlying25 rfl size25 rfl) rfl ⟨_, rfl, ?_, ?_⟩
 ·exact law4 (hk q0 (by omega) _) (hk q1 (by omega) _) (hk q2 (by omega) _) (hk q3 (by omega) _) (hk q4 (by omega) _) (hk q5 (by omega) _)
 ·rw [HG.out]
  exact below_putObj (btr HB.out hB2 (Nat.le_refl _)) (Nat.le_refl _)
end Ytnjgglnpmhjmiaa
end Go.Proofs
/- Laws of rotation: the examples, plainly. -/
open Go Go.RowKit Go.YtnjgglnpmhjmiaaIt
open Rest
namespace Go.Proofs
namespace Ytnjgglnpmhjmiaa
theorem exC : chkL lawC = 0 := by decide +kernel
theorem exD : chkL lawD = 0 := by decide +kernel
theorem ex_count : countE lawC 4 = (6, 0) := by decide +kernel
theorem ex_yes : allowsE lawC [0, 1, 1, 0] = 0 ∧ allowsB lawC [0, 1, 1, 0] = true := by decide +kernel
theorem ex_no : allowsE lawC [0, 1, 0] = 0 ∧ allowsB lawC [0, 1, 0] = false := by decide +kernel
theorem ex_ver : verE lawC [[], [0], [0, 0], [0, 1]] [[0], [], [0], [], [1, 0], []] = 0 := by decide +kernel
end Ytnjgglnpmhjmiaa
end Go.Proofs
/- Laws of rotation: least tables that are computed. -/
open Go Go.RowKit Go.YtnjgglnpmhjmiaaIt
open Rest
namespace Go.Proofs
namespace Ytnjgglnpmhjmiaa
theorem fut_bisim {α β : Type} {x : RSys α} {y : RSys β} (R : List (α × β)) (hk : x.k = y.k) (hR : ∀ p ∈ R, x.gd p.1 = y.gd p.2 ∧ ∀ c, c < x.k → (x.nx p.1 c, y.nx p.2 c) ∈ R) : ∀ (w : List Nat) (s : α) (t : β), (s, t) ∈ R → Fut x s w = Fut y t w
 | [], s, t, h => by rw [fut_nil, fut_nil]; exact (hR _ h).1
 | c :: w, s, t, h => by
  by_cases hc : c < x.k
  ·rw [← fut_nx hc, ← fut_nx (x := y) (by rw [← hk]; exact hc)]
   exact fut_bisim R hk hR w _ _ ((hR _ h).2 c hc)
  ·rw [fut_bad (fun h => hc (wd_cons.1 h).1), fut_bad (fun h => hc (by rw [hk]; exact (wd_cons.1 h).1))]
theorem least_words {α : Type} [DecidableEq α] {x : RSys α} {L : List (α × List Nat)} (W : List (List Nat)) (h : Walk x L) (hW : (L.all fun p => L.all fun q => decide (p.1 = q.1) || W.any fun w => Fut x p.1 w != Fut x q.1 w) = true) : LeastT x.k (Fut x x.start) (tabOf x L) := by
 refine least_of h fun s hs t ht e => ?_
 obtain ⟨p, hp, rfl⟩ := List.mem_map.1 hs
 obtain ⟨q, hq, rfl⟩ := List.mem_map.1 ht
 have h1 := List.all_eq_true.1 (List.all_eq_true.1 hW p hp) q hq
 rcases Bool.or_eq_true_iff.1 h1 with h2 | h2
 ·exact of_decide_eq_true h2
 ·obtain ⟨w, -, hw⟩ := List.any_eq_true.1 h2
  rw [e] at hw
  simp at hw
def walkC : List (Int × List Nat) := [(0, []), (1, [0]), (2, [0, 0]), (3, [0, 1])]
def walkD : List (Int × List Nat) := [(0, []), (1, [1]), (2, [1, 1]), (3, [1, 1, 1])]
def wordsC : List (List Nat) := [[], [0], [1], [0, 0], [1, 0], [0, 1], [1, 1], [1, 1, 1]]
theorem leastC : LeastT 2 (Fut (sysL lawC) 0) (tabOf (sysL lawC) walkC) := least_words (x := sysL lawC) (L := walkC) wordsC ⟨by decide +kernel⟩ (by decide +kernel)
theorem leastD : LeastT 2 (Fut (sysL lawD) 0) (tabOf (sysL lawD) walkD) := least_words (x := sysL lawD) (L := walkD) wordsC ⟨by decide +kernel⟩ (by decide +kernel)
theorem tabC : tabL (tabOf (sysL lawC) walkC) = lawC := sameL_iff.1 (by decide +kernel)
theorem tabD : tabL (tabOf (sysL lawD) walkD) = lawD := sameL_iff.1 (by decide +kernel)
theorem rest_C : restL 2 0 2 = lawC := by
 have h : Fut (ruleS 2 (restedF 0 2)) 0 = Fut (sysL lawC) 0 := funext fun w => fut_bisim (x := ruleS 2 (restedF 0 2)) (y := sysL lawC) [(0, 0), (2, 1), (-1, 2), (1, 3)] (by decide +kernel) (by decide +kernel) w 0 0 (by decide)
 show tabL (theT 2 (Fut (ruleS 2 (restedF 0 2)) 0)) = lawC
 rw [h, theT_eq leastC, tabC]
theorem within_D : withinL 2 0 3 = lawD := by
 have h : Fut (ruleS 2 (missedF 0 3)) 0 = Fut (sysL lawD) 0 := funext fun w => fut_bisim (x := ruleS 2 (missedF 0 3)) (y := sysL lawD) [(0, 0), (1, 1), (2, 2), (-1, 3)] (by decide +kernel) (by decide +kernel) w 0 0 (by decide)
 show tabL (theT 2 (Fut (ruleS 2 (missedF 0 3)) 0)) = lawD
 rw [h, theT_eq leastD, tabD]
end Ytnjgglnpmhjmiaa
end Go.Proofs
/- Laws of rotation: the examples, plainly: joined laws, first lists, starts and ends. -/
open Go Go.RowKit Go.YtnjgglnpmhjmiaaIt
open Rest
namespace Go.Proofs
namespace Ytnjgglnpmhjmiaa
def lawB : Lw := ⟨[[1, 2], [3, 4], [1, 5], [3, 3], [3, 5], [1, 3]], [true, true, true, false, true, true]⟩
def lawO : Lw := ⟨[[1, 0], [2, 3], [2, 2], [2, 0]], [false, false, true, false]⟩
def lawN : Lw := ⟨[[0, 0]], [false]⟩
def walkB : List (Int × List Nat) := [(0, []), (1, [0]), (2, [1]), (3, [0, 0]), (4, [0, 1]), (5, [1, 1])]
def wordsB : List (List Nat) := [[], [0], [1], [0, 0], [1, 0], [0, 1], [1, 1], [1, 1, 1], [1, 1, 0]]
theorem leastB : LeastT 2 (Fut (sysL lawB) 0) (tabOf (sysL lawB) walkB) := least_words (x := sysL lawB) (L := walkB) wordsB ⟨by decide +kernel⟩ (by decide +kernel)
theorem tabB : tabL (tabOf (sysL lawB) walkB) = lawB := sameL_iff.1 (by decide +kernel)
theorem leastO : LeastT 2 (Fut (sysL lawO) 0) (tabOf (sysL lawO) walkC) := least_words (x := sysL lawO) (L := walkC) wordsC ⟨by decide +kernel⟩ (by decide +kernel)
theorem tabO : tabL (tabOf (sysL lawO) walkC) = lawO := sameL_iff.1 (by decide +kernel)
theorem leastN : LeastT 2 (Fut (sysL lawN) 0) (tabOf (sysL lawN) [(0, [])]) := least_words (x := sysL lawN) (L := [(0, [])]) wordsC ⟨by decide +kernel⟩ (by decide +kernel)
theorem tabN' : tabL (tabOf (sysL lawN) [(0, [])]) = lawN := sameL_iff.1 (by decide +kernel)
theorem not_C : notL lawC = lawO := by
 have h : Fut (notS lawC) 0 = Fut (sysL lawO) 0 := funext fun w => fut_bisim (x := notS lawC) (y := sysL lawO) [(0, 0), (1, 1), (2, 2), (3, 3)] (by decide +kernel) (by decide +kernel) w 0 0 (by decide)
 show tabL (theT 2 (Fut (notS lawC) 0)) = lawO
 rw [h, theT_eq leastO, tabO]
def prsB : List (P2 × Int) := [((0, 0), 0), ((1, 0), 1), ((0, 1), 2), ((3, 1), 4), ((0, 2), 5), ((2, 0), 3), ((2, 1), 3), ((2, 2), 3), ((2, 3), 3), ((0, 3), 3), ((1, 3), 3), ((3, 3), 3)]
theorem both_T : bothT lawC lawD = tabOf (sysL lawB) walkB := by
 have h : Fut (jointS lawC lawD (0, 0) (fun a b => a && b)) (0, 0) = Fut (sysL lawB) 0 := funext fun w => fut_bisim (x := jointS lawC lawD (0, 0) (fun a b => a && b)) (y := sysL lawB) prsB (by decide +kernel) (by decide +kernel) w (0, 0) 0 (by decide)
 show theT 2 (Fut (jointS lawC lawD (0, 0) (fun a b => a && b)) (0, 0)) = _
 rw [h, theT_eq leastB]
theorem none_T : bothT lawC lawO = tabOf (sysL lawN) [(0, [])] := by
 have h : Fut (jointS lawC lawO (0, 0) (fun a b => a && b)) (0, 0) = Fut (sysL lawN) 0 := funext fun w => fut_bisim (x := jointS lawC lawO (0, 0) (fun a b => a && b)) (y := sysL lawN) [((0, 0), 0), ((1, 1), 0), ((2, 2), 0), ((3, 3), 0)] (by decide +kernel) (by decide +kernel) w (0, 0) 0 (by decide)
 show theT 2 (Fut (jointS lawC lawO (0, 0) (fun a b => a && b)) (0, 0)) = _
 rw [h, theT_eq leastN]
theorem ex_both : bothE lawC lawD = 0 ∧ bothE lawC lawO = 0 := by
 constructor
 ·show joinE lawC lawD _ = 0
  unfold joinE
  rw [if_pos (by decide +kernel), if_neg]
  have := both_T
  unfold bothT at this
  rw [this]
  decide +kernel
 ·show joinE lawC lawO _ = 0
  unfold joinE
  rw [if_pos (by decide +kernel), if_neg]
  have := none_T
  unfold bothT at this
  rw [this]
  decide +kernel
theorem ex_count3 : countE lawB 4 = (3, 0) := by decide +kernel
theorem theW_after {α : Type} [DecidableEq α] {x : RSys α} (n : Nat) (h : after x (after x n).length = after x n) : theW x = after x n := theW_eq ⟨h⟩
theorem first_of {α : Type} [DecidableEq α] {x : RSys α} (n : Nat) (h : after x (after x n).length = after x n) : firstO x = ((after x n).find? fun p => x.gd p.1).map Prod.snd := by
 unfold firstO; rw [theW_after n h]
theorem ex_differ : firstO (diffS lawC lawD (0, 0)) = some [0, 0] := by
 rw [first_of 16 (by decide +kernel)]; decide +kernel
theorem ex_first : firstO (sysL lawO) = some [0, 0] := by
 rw [first_of 4 (by decide +kernel)]; decide +kernel
theorem tell_T : tellT lawC = tabOf (sysL lawC) walkC := theT_eq leastC
theorem ex_starts : tellS lawC = [[], [0], [0, 0], [0, 1]] := by
 unfold tellS
 rw [if_pos exC, tell_T]
 rfl
theorem ex_end (i j : Nat) (r : List Nat) (h : after (diffS lawC lawC ((i : Int), (j : Int))) (after (diffS lawC lawC ((i : Int), (j : Int))) 16).length = after (diffS lawC lawC ((i : Int), (j : Int))) 16) (hr : (((after (diffS lawC lawC ((i : Int), (j : Int))) 16).find? fun p => (diffS lawC lawC ((i : Int), (j : Int))).gd p.1).map Prod.snd).getD [] = r) : endO lawC i j = r := by
 unfold endO
 rw [first_of 16 h, hr]
theorem ex_ends : tellD lawC = [[0], [], [0], [], [1, 0], []] := by
 unfold tellD
 rw [if_pos exC, tell_T, tabC]
 show [endO lawC 0 1, endO lawC 0 2, endO lawC 0 3, endO lawC 1 2, endO lawC 1 3, endO lawC 2 3] = _
 rw [ex_end 0 1 [0] (by decide +kernel) (by decide +kernel), ex_end 0 2 [] (by decide +kernel) (by decide +kernel), ex_end 0 3 [0] (by decide +kernel) (by decide +kernel), ex_end 1 2 [] (by decide +kernel) (by decide +kernel), ex_end 1 3 [1, 0] (by decide +kernel) (by decide +kernel), ex_end 2 3 [] (by decide +kernel) (by decide +kernel)]
end Ytnjgglnpmhjmiaa
end Go.Proofs
