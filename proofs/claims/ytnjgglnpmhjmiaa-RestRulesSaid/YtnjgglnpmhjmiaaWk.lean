/- Laws of rotation: the examples hold. -/
import Derived.Test.YtnjgglnpmhjmiaaC8
open Go Go.RowKit Go.YtnjgglnpmhjmiaaIt
open Rest
namespace Go.Proofs
namespace Ytnjgglnpmhjmiaa
theorem same_true (l : Lw) : sameL l l = true := sameL_iff.2 rfl
theorem storedA {w1 w2 : World} {vn vg : Value} {l : Lw} {o : Obj} (h : LawA w1 (.agg #[vn, vg]) l) (e : (w1.alloc o).putObj w1.heap.size (.cells #[vn, vg] 25) = w2) : LawX w2 w1.heap.size 25 l vn vg ∧ Below w1.heap.size w1 w2 := by
 have hb : Below w1.heap.size w1 w2 := by rw [← e]; exact below_putObj ((Below.refl _ _).alloc (Nat.le_refl _) _) (Nat.le_refl _)
 have h1 : LawA w2 (.agg #[vn, vg]) l := h.below hb (Nat.le_refl _)
 have h2 : w2.heap[w1.heap.size]? = some (.cells #[vn, vg] 25) := by rw [← e]; exact World.putObj_heap_same (by rw [sz_al]; omega)
 obtain ⟨a, b, e', hn, hg⟩ := h1
 injection e' with e'
 have e2 : [vn, vg] = [a, b] := by injection e'
 injection e2 with e3 e4
 injection e4 with e5 _
 subst e3 e5
 exact ⟨⟨h2, hn, hg⟩, hb⟩
theorem both_CD {va vb : Value} {w : World} (ha : LawA w va lawC) (hb : LawA w vb lawD) : Calls Try.prog 42 #[va, vb] w fun e w' => ∃ vn vg, e = .returned (.tuple #[.agg #[vn, vg], .int .i64 0]) ∧ LawF w w' (.agg #[vn, vg]) lawB ∧ Below w.heap.size w w' := by
 have h := both42_any ha hb
 rw [ex_both.1, both_T, tabB] at h
 exact h
theorem both_CO {va vb : Value} {w : World} (ha : LawA w va lawC) (hb : LawA w vb lawO) : Calls Try.prog 42 #[va, vb] w fun e w' => ∃ vn vg, e = .returned (.tuple #[.agg #[vn, vg], .int .i64 0]) ∧ LawF w w' (.agg #[vn, vg]) lawN ∧ Below w.heap.size w w' := by
 have h := both42_any ha hb
 rw [ex_both.2, none_T, tabN'] at h
 exact h
theorem differ_CD {va vb : Value} {w : World} (ha : LawA w va lawC) (hb : LawA w vb lawD) : Calls Try.prog 27 #[va, vb] w fun e w' => ∃ vy, e = .returned (.tuple #[vy, .int .i64 0]) ∧ SlI w' vy [0, 0] ∧ Below w.heap.size w w' := by
 have h := differ27_any ha hb
 rw [show chk2E lawC lawD = 0 by decide +kernel] at h
 unfold firstE firstY at h
 rw [ex_differ] at h
 exact h
theorem tell_C {va : Value} {w : World} (ha : LawA w va lawC) : Calls Try.prog 31 #[va] w fun e w' => ∃ vs ve, e = .returned (.tuple #[vs, ve, .int .i64 0]) ∧ SlII w' vs [[], [0], [0, 0], [0, 1]] ∧ SlII w' ve [[0], [], [0], [], [1, 0], []] ∧ Below w.heap.size w w' := by
 have h := tell31_any ha
 rw [exC, ex_starts, ex_ends] at h
 exact h
theorem not_CO {va : Value} {w : World} (ha : LawA w va lawC) : Calls Try.prog 43 #[va] w fun e w' => ∃ vn vg, e = .returned (.tuple #[.agg #[vn, vg], .int .i64 0]) ∧ LawA w' (.agg #[vn, vg]) lawO ∧ Below w.heap.size w w' := by
 have h := not43_any ha
 rw [exC, not_C] at h
 exact h
theorem first_O {va : Value} {w : World} (ha : LawA w va lawO) : Calls Try.prog 25 #[va] w fun e w' => ∃ vy, e = .returned (.tuple #[vy, .int .i64 0]) ∧ SlI w' vy [0, 0] ∧ Below w.heap.size w w' := by
 have h := first25_any ha
 rw [show chkL lawO = 0 by decide +kernel] at h
 unfold firstE firstY at h
 rw [ex_first] at h
 exact h
theorem verify_C {va vs vt : Value} {w : World} (ha : LawA w va lawC) (hs : SlII w vs [[], [0], [0, 0], [0, 1]]) (ht : SlII w vt [[0], [], [0], [], [1, 0], []]) : Calls Try.prog 34 #[va, vs, vt] w fun e w' => e = .returned (.int .i64 0) ∧ Below w.heap.size w w' := by
 have h := verify34_any ha hs ht
 rw [ex_ver] at h
 exact h
theorem numbers_eq {v u : Value} {xs : List Int} {w : World} (hx : SlI w v xs) (hy : SlI w u xs) : Calls Try.prog 29 #[v, u] w fun e w' => e = .returned (.bool true) ∧ Below w.heap.size w w' :=
 (numbers_any v u xs xs w hx hy).mono (by rintro e w' ⟨rfl, h⟩; exact ⟨by simp, h⟩)
theorem lists_eq {v u : Value} {xs : List (List Int)} {w : World} (hx : SlII w v xs) (hy : SlII w u xs) : Calls Try.prog 33 #[v, u] w fun e w' => e = .returned (.bool true) ∧ Below w.heap.size w w' :=
 (lists_any hx hy).mono (by rintro e w' ⟨rfl, h⟩; exact ⟨by simp, h⟩)
theorem laws_eq {v u : Value} {l : Lw} {w : World} (hx : LawA w v l) (hy : LawA w u l) : Calls Try.prog 54 #[v, u] w fun e w' => e = .returned (.bool true) ∧ Below w.heap.size w w' :=
 (laws_any hx hy).mono (by rintro e w' ⟨rfl, h⟩; exact ⟨by rw [same_true], h⟩)
theorem slII_four {w : World} {g : Nat} {a b c : Value} {x y z : List Int} {t : TypeId} (h : w.heap[g]? = some (.cells #[.slice none 0 0, a, b, c] t)) (ha : SlI w a x) (hb : SlI w b y) (hc : SlI w c z) : SlII w (.slice (some ⟨g, 0, none⟩) 4 4) [[], x, y, z] := by
 refine ⟨[.slice none 0 0, a, b, c], ⟨_, 4, rfl, by simp, by simp, fun _ => ⟨g, 0, rfl, lt_blk h, fun i hi => ?_⟩⟩, rfl, fun i hi _ => ?_⟩
 ·rw [Nat.zero_add, cell_blk h]
  have hi' : i < 4 := by simpa using hi
  rcases (show i = 0 ∨ i = 1 ∨ i = 2 ∨ i = 3 by omega) with rfl | rfl | rfl | rfl <;> rfl
 ·have hi' : i < 4 := by simpa using hi
  rcases (show i = 0 ∨ i = 1 ∨ i = 2 ∨ i = 3 by omega) with rfl | rfl | rfl | rfl
  ·exact slI_nil _
  ·exact ha
  ·exact hb
  ·exact hc
theorem slII_six {w : World} {g : Nat} {a b c : Value} {x y z : List Int} {t : TypeId} (h : w.heap[g]? = some (.cells #[a, .slice none 0 0, b, .slice none 0 0, c, .slice none 0 0] t)) (ha : SlI w a x) (hb : SlI w b y) (hc : SlI w c z) : SlII w (.slice (some ⟨g, 0, none⟩) 6 6) [x, [], y, [], z, []] := by
 refine ⟨[a, .slice none 0 0, b, .slice none 0 0, c, .slice none 0 0], ⟨_, 6, rfl, by simp, by simp, fun _ => ⟨g, 0, rfl, lt_blk h, fun i hi => ?_⟩⟩, rfl, fun i hi _ => ?_⟩
 ·rw [Nat.zero_add, cell_blk h]
  have hi' : i < 6 := by simpa using hi
  rcases (show i = 0 ∨ i = 1 ∨ i = 2 ∨ i = 3 ∨ i = 4 ∨ i = 5 by omega) with rfl | rfl | rfl | rfl | rfl | rfl <;> rfl
 ·have hi' : i < 6 := by simpa using hi
  rcases (show i = 0 ∨ i = 1 ∨ i = 2 ∨ i = 3 ∨ i = 4 ∨ i = 5 by omega) with rfl | rfl | rfl | rfl | rfl | rfl
  ·exact ha
  ·exact slI_nil _
  ·exact hb
  ·exact slI_nil _
  ·exact hc
  ·exact slI_nil _
/-- The law of one state. -/
theorem law1 {w : World} {p q r : Nat} {b : Bool} {t t' t'' : TypeId} (h1 : w.heap[p]? = some (.cells #[.int .i64 0, .int .i64 0] t)) (h2 : w.heap[q]? = some (.cells #[.slice (some ⟨p, 0, none⟩) 2 2] t')) (h3 : w.heap[r]? = some (.cells #[.bool b] t'')) : LawA w (.agg #[.slice (some ⟨q, 0, none⟩) 1 1, .slice (some ⟨r, 0, none⟩) 1 1]) ⟨[[0, 0]], [b]⟩ := by
 refine ⟨_, _, rfl, ⟨[.slice (some ⟨p, 0, none⟩) 2 2], ⟨_, 1, rfl, by simp, by simp, fun _ => ⟨q, 0, rfl, lt_blk h2, fun i hi => ?_⟩⟩, rfl, fun i hi hi' => ?_⟩, ⟨_, 1, rfl, by simp, by simp, fun _ => ⟨r, 0, rfl, lt_blk h3, fun i hi => ?_⟩⟩⟩
 ·rw [Nat.zero_add, cell_blk h2]
  have hi' : i < 1 := by simpa using hi
  obtain rfl : i = 0 := by omega
  rfl
 ·have hi'' : i < 1 := by simpa using hi
  obtain rfl : i = 0 := by omega
  exact slI_blk2 h1
 ·rw [Nat.zero_add, cell_blk h3]
  have hi' : i < 1 := by simpa using hi
  obtain rfl : i = 0 := by omega
  rfl
theorem storedB {W wz : World} {vn vg : Value} {l : Lw} {g : Nat} {cs : Array Value} (hG : W.heap[g]? = some (.cells cs 25)) (h1 : LawA wz (.agg #[vn, vg]) l) (e : wz = W.putObj g (.cells #[vn, vg] 25)) : LawX wz g 25 l vn vg := by
 have h2 : wz.heap[g]? = some (.cells #[vn, vg] 25) := by rw [e]; exact World.putObj_heap_same (lt_blk hG)
 obtain ⟨a, b, e', hn, hg⟩ := h1
 injection e' with e'
 have e2 : [vn, vg] = [a, b] := by injection e'
 injection e2 with e3 e4
 injection e4 with e5 _
 subst e3 e5
 exact ⟨h2, hn, hg⟩
theorem slI_blkL {w : World} {g : Nat} (xs : List Int) {t : TypeId} (h : w.heap[g]? = some (.cells (xs.map (Value.int .i64)).toArray t)) (hl : xs.length ≤ 100) : SlI w (.slice (some ⟨g, 0, none⟩) xs.length xs.length) xs :=
 ⟨_, _, rfl, by omega, Nat.le_refl _, fun _ => ⟨_, _, rfl, lt_blk h, fun i hi => by
  rw [Nat.zero_add, cell_blk h, at0_lt hi]
  simp [hi]⟩⟩
/-- A law that is all new is stored into a new variable. -/
theorem stored {w w1 w2 : World} {vn vg : Value} {l : Lw} {o : Obj} (h : LawF w w1 (.agg #[vn, vg]) l) (hb : Below w.heap.size w w1) (e : (w1.alloc o).putObj w1.heap.size (.cells #[vn, vg] 25) = w2) : LawX w2 w1.heap.size 25 l vn vg ∧ Below w.heap.size w w2 := by
 have h1 : LawA w2 (.agg #[vn, vg]) l := h w2 (by rw [← e, World.putObj_size, sz_al]; omega) fun i _ hi => by rw [← e]; exact (World.putObj_heap_other (by omega)).trans (heap_oldI hi)
 have h2 : w2.heap[w1.heap.size]? = some (.cells #[vn, vg] 25) := by rw [← e]; exact World.putObj_heap_same (by rw [sz_al]; omega)
 obtain ⟨a, b, e', hn, hg⟩ := h1
 injection e' with e'
 have e2 : [vn, vg] = [a, b] := by injection e'
 injection e2 with e3 e4
 injection e4 with e5 _
 subst e3 e5
 refine ⟨⟨h2, hn, hg⟩, ?_⟩
 rw [← e]
 exact below_putObj (hb.alloc hb.size _) hb.size
set_option maxRecDepth 100000 in
set_option maxHeartbeats 1000000 in
theorem works_any (w : World) : Calls Try.prog 20 #[] w fun e w' => e = .returned (.bool true) ∧ Below w.heap.size w w' := by
 have hr := rest15_any 2 0 2 w
 rw [show madeE 2 0 0 2 = 0 by decide, show resL (restL 2 0 2) 0 = lawC by rw [rest_C]; rfl] at hr
 have HR := Lib.hid hr
 clear hr
 go_enter Try.func20, Try.ntmps20
 refine wp_seq_k (fun K hK => ?_)
 have HK := Lib.hid hK; clear hK
 go_wp2
 refine HK.out _ _ ?_; clear HK K
 refine wp_seq_k (fun K hK => ?_)
 have HK := Lib.hid hK; clear hK
 go_wp2_with (first | (go_at_call 15; refine HR.out.mono ?_; rintro e w1 ⟨vn, vg, rfl, hl1, hb1⟩; have HL1 := Lib.hid hl1; have HB1 := Lib.hid hb1; clear hl1 hb1) | (refine wpList_store_blk rfl 25 _ _ rfl _ rfl rfl (heap_newI rfl) size25 rfl rfl HL1.out.now.one ?_))
 refine HK.out _ _ ?_; clear HK
 generalize hw2 : World.putObj _ _ _ = w2
 obtain ⟨hx2, hb2⟩ := stored HL1.out HB1.out hw2
 obtain ⟨g1, hg1⟩ : ∃ g, g = w1.heap.size := ⟨_, rfl⟩
 rw [← hg1] at hx2 ⊢
 have HX1 := Lib.hid hx2
 have HB2 := Lib.hid hb2
 clear hx2 hb2 hw2 hg1 HR
 have hr := within17_any 2 0 3 w2
 rw [show madeE 2 0 1 3 = 0 by decide, show resL (withinL 2 0 3) 0 = lawD by rw [within_D]; rfl] at hr
 have HR := Lib.hid hr
 clear hr
 refine wp_seq_k (fun K hK => ?_)
 have HK := Lib.hid hK; clear hK
 go_wp2_with (first | (go_at_call 17; refine HR.out.mono ?_; rintro e w3 ⟨vn', vg', rfl, hl3, hb3⟩; have HL3 := Lib.hid hl3; have HB3 := Lib.hid hb3; clear hl3 hb3) | (refine wpList_store_blk rfl 25 _ _ rfl _ rfl rfl (heap_newI rfl) size25 rfl rfl HL3.out.now.one ?_))
 refine HK.out _ _ ?_; clear HK
 generalize hw4 : World.putObj _ _ _ = w4
 obtain ⟨hx4, hb4⟩ := stored HL3.out HB3.out hw4
 obtain ⟨g3, hg3⟩ : ∃ g, g = w3.heap.size := ⟨_, rfl⟩
 rw [← hg3] at hx4 ⊢
 have HX3 := Lib.hid hx4
 have HB4 := Lib.hid (btr HB2.out hb4 (Nat.le_refl _))
 have HX1' := Lib.hid (HX1.out.below hb4)
 clear hx4 hb4 hw4 hg3 HR HX1
 have HC := Lib.hid (lawC_any w4)
 refine wp_seq_k (fun K hK => ?_)
 have HK := Lib.hid hK; clear hK
 go_wp2_with (first | (go_at_call 62; refine HC.out.mono ?_; rintro e wc ⟨vc, rfl, hlc, hbc⟩; have HLC := Lib.hid hlc; have HBC := Lib.hid hbc; have HAL := Lib.hid (hlc.below ((Below.refl wc.heap.size wc).alloc (Nat.le_refl _) (.cells #[.int .i64 0, .int .i64 1, .int .i64 1, .int .i64 0] 3)) (Nat.le_refl _)); clear hlc hbc) | (go_at_call 38; refine (allows38_any HAL.out (ys := [0, 1, 1, 0]) (slI_blkL [0, 1, 1, 0] (heap_newI rfl) (by decide))).mono ?_; rintro e w6 ⟨rfl, hb⟩; have HBN := Lib.hid hb; clear hb))
 refine HK.out _ _ ?_; clear HK
 have hbn : Below w4.heap.size w4 w6 := btr (HBC.out.alloc HBC.out.size _) HBN.out (Nat.le_refl _)
 have HB6 := Lib.hid (btr HB4.out hbn (Nat.le_refl _))
 have HX1 := Lib.hid (HX1'.out.below hbn)
 have HY1 := Lib.hid (HX3.out.below hbn)
 clear hbn HX1' HX3 HC HLC HBC HAL HBN
 rw [ex_yes.1, ex_yes.2]
 have HC := Lib.hid (lawC_any w6)
 refine wp_seq_k (fun K hK => ?_)
 have HK := Lib.hid hK; clear hK
 go_wp2_with (first | (go_at_call 62; refine HC.out.mono ?_; rintro e wc ⟨vc, rfl, hlc, hbc⟩; have HLC := Lib.hid hlc; have HBC := Lib.hid hbc; have HAL := Lib.hid (hlc.below ((Below.refl wc.heap.size wc).alloc (Nat.le_refl _) (.cells #[.int .i64 0, .int .i64 1, .int .i64 0] 3)) (Nat.le_refl _)); clear hlc hbc) | (go_at_call 38; refine (allows38_any HAL.out (ys := [0, 1, 0]) (slI_blkL [0, 1, 0] (heap_newI rfl) (by decide))).mono ?_; rintro e w8 ⟨rfl, hb⟩; have HBN := Lib.hid hb; clear hb))
 refine HK.out _ _ ?_; clear HK
 have hbn : Below w6.heap.size w6 w8 := btr (HBC.out.alloc HBC.out.size _) HBN.out (Nat.le_refl _)
 have HB8 := Lib.hid (btr HB6.out hbn (Nat.le_refl _))
 have HX1' := Lib.hid (HX1.out.below hbn)
 have HY1' := Lib.hid (HY1.out.below hbn)
 clear hbn HX1 HY1 HC HLC HBC HAL HBN
 rw [ex_no.1, ex_no.2]
 have HC := Lib.hid (lawC_any w8)
 refine wp_seq_k (fun K hK => ?_)
 have HK := Lib.hid hK; clear hK
 go_wp2_with (first | (go_at_call 62; refine HC.out.mono ?_; rintro e wc ⟨vc, rfl, hlc, hbc⟩; have HLC := Lib.hid hlc; have HBC := Lib.hid hbc; clear hlc hbc) | (go_at_call 23; refine (count23_any (n := 4) HLC.out).mono ?_; rintro e w10 ⟨rfl, hb⟩; have HBN := Lib.hid hb; clear hb))
 refine HK.out _ _ ?_; clear HK
 have hbn : Below w8.heap.size w8 w10 := btr HBC.out HBN.out (Nat.le_refl _)
 have HBA := Lib.hid (btr HB8.out hbn (Nat.le_refl _))
 have HX1 := Lib.hid (HX1'.out.below hbn)
 have HY1 := Lib.hid (HY1'.out.below hbn)
 clear hbn HX1' HY1' HC HLC HBC HBN
 rw [ex_count]
 have HS0 := Lib.hid (And.intro HX1.out.blk HY1.out.blk)
 refine wp_seq_k (fun K hK => ?_)
 have HK := Lib.hid hK; clear hK
 go_wp2
 refine wp_region_x (R := fun U => Below w10.heap.size w10 U) (S := fun _ => True) (z := 999) rfl ?_
 change wpAnyX _ _ _ _ _ _ _ _ _ _ w10.drew
 have Hq0 := Lib.hid (show Below w10.heap.size w10 w10.drew from (Below.refl _ _).drew)
 generalize w10.drew = wq at *
 refine wpX_kp (i := 0) (oi := ⟨some 45, _, _, _, _, none⟩) (v := ?_) rfl (fun _ _ _ h => h) ?_ ⟨(by first | exact Hq4.out | exact Hq3.out | exact Hq2.out | exact Hq1.out | exact Hq0.out), fun _ => trivial⟩ ?_
 rotate_left
 ·intro U hU
  go_simp
  all_goals with_reducible rfl
 simp only [putE]
 refine wpX_kp (i := 1) (oi := ⟨some 46, _, _, _, _, none⟩) (v := ?_) rfl (fun _ _ _ h => h) ?_ ⟨(by first | exact Hq4.out | exact Hq3.out | exact Hq2.out | exact Hq1.out | exact Hq0.out), fun _ => trivial⟩ ?_
 rotate_left
 ·intro U hU
  go_simp
  all_goals with_reducible rfl
 simp only [putE]
 refine wpX_kp (i := 2) (oi := ⟨some 47, _, _, _, _, none⟩) (v := ?_) rfl (fun _ _ _ h => h) ?_ ⟨(by first | exact Hq4.out | exact Hq3.out | exact Hq2.out | exact Hq1.out | exact Hq0.out), fun _ => trivial⟩ ?_
 rotate_left
 ·intro U hU
  go_simp
  all_goals with_reducible rfl
 simp only [putE]
 refine wpX_kp (i := 3) (oi := ⟨some 48, _, _, _, _, some (2, false)⟩) (v := ?_) rfl (fun _ _ _ h => h) ?_ ⟨(by first | exact Hq4.out | exact Hq3.out | exact Hq2.out | exact Hq1.out | exact Hq0.out), fun _ => trivial⟩ ?_
 rotate_left
 ·intro U hU
  go_simp
  all_goals with_reducible rfl
 simp only [putE]
 refine wpX_kp (i := 4) (oi := ⟨some 49, _, _, _, _, some (2, false)⟩) (v := ?_) rfl (fun _ _ _ h => h) ?_ ⟨(by first | exact Hq4.out | exact Hq3.out | exact Hq2.out | exact Hq1.out | exact Hq0.out), fun _ => trivial⟩ ?_
 rotate_left
 ·intro U hU
  go_simp
  all_goals with_reducible rfl
 simp only [putE]
 refine wpX_kp (i := 5) (oi := ⟨some 50, _, _, _, _, none⟩) (v := ?_) rfl (fun _ _ _ h => h) ?_ ⟨(by first | exact Hq4.out | exact Hq3.out | exact Hq2.out | exact Hq1.out | exact Hq0.out), fun _ => trivial⟩ ?_
 rotate_left
 ·intro U hU
  go_simp
  all_goals with_reducible rfl
 simp only [putE]
 refine wpX_kp (i := 6) (oi := ⟨some 51, _, _, _, _, none⟩) (v := ?_) rfl (fun _ _ _ h => h) ?_ ⟨(by first | exact Hq4.out | exact Hq3.out | exact Hq2.out | exact Hq1.out | exact Hq0.out), fun _ => trivial⟩ ?_
 rotate_left
 ·intro U hU
  go_simp
  all_goals with_reducible rfl
 simp only [putE]
 refine wpX_kp (i := 7) (oi := ⟨some 52, _, _, _, _, some (6, false)⟩) (v := ?_) rfl (fun _ _ _ h => h) ?_ ⟨(by first | exact Hq4.out | exact Hq3.out | exact Hq2.out | exact Hq1.out | exact Hq0.out), fun _ => trivial⟩ ?_
 rotate_left
 ·intro U hU
  go_simp
  all_goals with_reducible rfl
 simp only [putE]
 refine wpX_kp (i := 8) (oi := ⟨some 53, _, _, _, _, some (6, false)⟩) (v := ?_) rfl (fun _ _ _ h => h) ?_ ⟨(by first | exact Hq4.out | exact Hq3.out | exact Hq2.out | exact Hq1.out | exact Hq0.out), fun _ => trivial⟩ ?_
 rotate_left
 ·intro U hU
  go_simp
  all_goals with_reducible rfl
 simp only [putE]
 refine wpX_kp (i := 9) (oi := ⟨some 54, _, _, _, _, none⟩) (v := ?_) rfl (fun _ _ _ h => h) ?_ ⟨(by first | exact Hq4.out | exact Hq3.out | exact Hq2.out | exact Hq1.out | exact Hq0.out), fun _ => trivial⟩ ?_
 rotate_left
 ·intro U hU
  go_simp
  all_goals with_reducible rfl
 simp only [putE]
 refine wpX_kp (i := 10) (oi := ⟨some 55, _, _, _, _, none⟩) (v := ?_) rfl (fun _ _ _ h => h) ?_ ⟨(by first | exact Hq4.out | exact Hq3.out | exact Hq2.out | exact Hq1.out | exact Hq0.out), fun _ => trivial⟩ ?_
 rotate_left
 ·intro U hU
  go_simp
  all_goals with_reducible rfl
 simp only [putE]
 refine wpX_kp (i := 11) (oi := ⟨some 56, _, _, _, _, some (10, false)⟩) (v := ?_) rfl (fun _ _ _ h => h) ?_ ⟨(by first | exact Hq4.out | exact Hq3.out | exact Hq2.out | exact Hq1.out | exact Hq0.out), fun _ => trivial⟩ ?_
 rotate_left
 ·intro U hU
  go_simp
  all_goals with_reducible rfl
 simp only [putE]
 refine wpX_kp (i := 12) (oi := ⟨some 57, _, _, _, _, some (10, false)⟩) (v := ?_) rfl (fun _ _ _ h => h) ?_ ⟨(by first | exact Hq4.out | exact Hq3.out | exact Hq2.out | exact Hq1.out | exact Hq0.out), fun _ => trivial⟩ ?_
 rotate_left
 ·intro U hU
  go_simp
  all_goals with_reducible rfl
 simp only [putE]
 refine wpX_kp (i := 13) (oi := ⟨some 58, _, _, _, _, none⟩) (v := ?_) rfl (fun _ _ _ h => h) ?_ ⟨(by first | exact Hq4.out | exact Hq3.out | exact Hq2.out | exact Hq1.out | exact Hq0.out), fun _ => trivial⟩ ?_
 rotate_left
 ·intro U hU
  go_simp
  all_goals with_reducible rfl
 simp only [putE]
 refine wpX_kp (i := 14) (oi := ⟨some 59, _, _, _, _, none⟩) (v := ?_) rfl (fun _ _ _ h => h) ?_ ⟨(by first | exact Hq4.out | exact Hq3.out | exact Hq2.out | exact Hq1.out | exact Hq0.out), fun _ => trivial⟩ ?_
 rotate_left
 ·intro U hU
  go_simp
  all_goals with_reducible rfl
 simp only [putE]
 refine wpX_kp (i := 15) (oi := ⟨some 60, _, _, _, _, some (14, false)⟩) (v := ?_) rfl (fun _ _ _ h => h) ?_ ⟨(by first | exact Hq4.out | exact Hq3.out | exact Hq2.out | exact Hq1.out | exact Hq0.out), fun _ => trivial⟩ ?_
 rotate_left
 ·intro U hU
  go_simp
  all_goals with_reducible rfl
 simp only [putE]
 refine wpX_kp (i := 16) (oi := ⟨some 61, _, _, _, _, some (14, false)⟩) (v := ?_) rfl (fun _ _ _ h => h) ?_ ⟨(by first | exact Hq4.out | exact Hq3.out | exact Hq2.out | exact Hq1.out | exact Hq0.out), fun _ => trivial⟩ ?_
 rotate_left
 ·intro U hU
  go_simp
  all_goals with_reducible rfl
 simp only [putE]
 refine wpX_kp (i := 17) (oi := ⟨some 62, _, _, _, _, none⟩) (v := ?_) rfl (fun _ _ _ h => h) ?_ ⟨(by first | exact Hq4.out | exact Hq3.out | exact Hq2.out | exact Hq1.out | exact Hq0.out), fun _ => trivial⟩ ?_
 rotate_left
 ·intro U hU
  go_simp
  all_goals with_reducible rfl
 simp only [putE]
 refine wpX_kp (i := 18) (oi := ⟨some 63, _, _, _, _, none⟩) (v := ?_) rfl (fun _ _ _ h => h) ?_ ⟨(by first | exact Hq4.out | exact Hq3.out | exact Hq2.out | exact Hq1.out | exact Hq0.out), fun _ => trivial⟩ ?_
 rotate_left
 ·intro U hU
  go_simp
  all_goals with_reducible rfl
 simp only [putE]
 refine wpX_kp (i := 19) (oi := ⟨some 64, _, _, _, _, some (18, false)⟩) (v := ?_) rfl (fun _ _ _ h => h) ?_ ⟨(by first | exact Hq4.out | exact Hq3.out | exact Hq2.out | exact Hq1.out | exact Hq0.out), fun _ => trivial⟩ ?_
 rotate_left
 ·refine yields_load_blk 25 (.tmp 1) ?_ g1 ?_ (t := 25) (fr := (0, 0)) (cs := #[vn, vg]) (fun U hU => ?_) Try.underlying25 rfl size25 rfl
  ·rfl
  ·rfl
  ·exact blk_keep HX1.out.blk hU
 simp only [putE]
 refine wpAnyX_one (i := 20) (o := ⟨some 65, _, _, _, _, some (18, false)⟩) (by kernel_rfl) rfl (by rfl) (fun K1 hK1 => ?_)
 have HK1 := Lib.hid hK1; clear hK1
 refine oper_callg (c := .func 62) (xs := #[]) (ts := _) rfl rfl (enters_of Try.func62 (by kernel_rfl) rfl) rfl (R := fun v w' => LawA w' v lawC ∧ Below wq.heap.size wq w') ((lawC_any wq).mono (by rintro e w' ⟨v, rfl, h, h'⟩; exact ⟨v, rfl, h, h'⟩)) ?_
 rintro vwa wa ⟨hlwa, hbwa⟩
 have Hq1 := Lib.hid (btr Hq0.out hbwa (Nat.le_refl _))
 refine HK1.out _ _ ⟨Hq1.out, fun _ => trivial⟩ ?_
 clear HK1 K1
 simp only [putE]
 refine wpAnyX_one (i := 21) (o := ⟨some 66, _, _, _, _, some (18, false)⟩) (by kernel_rfl) rfl (by rfl) (fun K1 hK1 => ?_)
 have HK1 := Lib.hid hK1; clear hK1
 refine oper_call (ts := _) (xs := #[.tmp 64, .tmp 65]) (f := 54) rfl (enters_of Try.func54 (by kernel_rfl) rfl) rfl (R := fun w' => Below wa.heap.size wa w') (v := .bool (sameL lawC lawC)) ((laws_any (HX1.out.below Hq1.out).law hlwa).mono (by rintro e w' ⟨rfl, h⟩; exact ⟨rfl, h⟩)) ?_
 rintro wb hbwb
 rw [same_true]
 have Hq2 := Lib.hid (btr Hq1.out hbwb (Nat.le_refl _))
 refine HK1.out _ _ ⟨Hq2.out, fun _ => trivial⟩ ?_
 clear HK1 K1 hbwa hlwa hbwb
 simp only [putE]
 refine wpX_kp (i := 22) (oi := ⟨some 67, _, _, _, _, some (18, false)⟩) (v := ?_) rfl (fun _ _ _ h => h) ?_ ⟨(by first | exact Hq4.out | exact Hq3.out | exact Hq2.out | exact Hq1.out | exact Hq0.out), fun _ => trivial⟩ ?_
 rotate_left
 ·intro U hU
  go_simp
  all_goals with_reducible rfl
 simp only [putE]
 refine wpX_kp (i := 23) (oi := ⟨some 68, _, _, _, _, none⟩) (v := ?_) rfl (fun _ _ _ h => h) ?_ ⟨(by first | exact Hq4.out | exact Hq3.out | exact Hq2.out | exact Hq1.out | exact Hq0.out), fun _ => trivial⟩ ?_
 rotate_left
 ·intro U hU
  go_simp
  all_goals with_reducible rfl
 simp only [putE]
 refine wpX_kp (i := 24) (oi := ⟨some 69, _, _, _, _, none⟩) (v := ?_) rfl (fun _ _ _ h => h) ?_ ⟨(by first | exact Hq4.out | exact Hq3.out | exact Hq2.out | exact Hq1.out | exact Hq0.out), fun _ => trivial⟩ ?_
 rotate_left
 ·intro U hU
  go_simp
  all_goals with_reducible rfl
 simp only [putE]
 refine wpX_kp (i := 25) (oi := ⟨some 70, _, _, _, _, some (24, false)⟩) (v := ?_) rfl (fun _ _ _ h => h) ?_ ⟨(by first | exact Hq4.out | exact Hq3.out | exact Hq2.out | exact Hq1.out | exact Hq0.out), fun _ => trivial⟩ ?_
 rotate_left
 ·refine yields_load_blk 25 (.tmp 3) ?_ g3 ?_ (t := 25) (fr := (0, 0)) (cs := #[vn', vg']) (fun U hU => ?_) Try.underlying25 rfl size25 rfl
  ·rfl
  ·rfl
  ·exact blk_keep HY1.out.blk hU
 simp only [putE]
 refine wpAnyX_one (i := 26) (o := ⟨some 71, _, _, _, _, some (24, false)⟩) (by kernel_rfl) rfl (by rfl) (fun K1 hK1 => ?_)
 have HK1 := Lib.hid hK1; clear hK1
 refine oper_callg (c := .func 63) (xs := #[]) (ts := _) rfl rfl (enters_of Try.func63 (by kernel_rfl) rfl) rfl (R := fun v w' => LawA w' v lawD ∧ Below wb.heap.size wb w') ((lawD_any wb).mono (by rintro e w' ⟨v, rfl, h, h'⟩; exact ⟨v, rfl, h, h'⟩)) ?_
 rintro vwc wc ⟨hlwc, hbwc⟩
 have Hq3 := Lib.hid (btr Hq2.out hbwc (Nat.le_refl _))
 refine HK1.out _ _ ⟨Hq3.out, fun _ => trivial⟩ ?_
 clear HK1 K1
 simp only [putE]
 refine wpAnyX_one (i := 27) (o := ⟨some 72, _, _, _, _, some (24, false)⟩) (by kernel_rfl) rfl (by rfl) (fun K1 hK1 => ?_)
 have HK1 := Lib.hid hK1; clear hK1
 refine oper_call (ts := _) (xs := #[.tmp 70, .tmp 71]) (f := 54) rfl (enters_of Try.func54 (by kernel_rfl) rfl) rfl (R := fun w' => Below wc.heap.size wc w') (v := .bool (sameL lawD lawD)) ((laws_any (HY1.out.below Hq3.out).law hlwc).mono (by rintro e w' ⟨rfl, h⟩; exact ⟨rfl, h⟩)) ?_
 rintro wd hbwd
 rw [same_true]
 have Hq4 := Lib.hid (btr Hq3.out hbwd (Nat.le_refl _))
 refine HK1.out _ _ ⟨Hq4.out, fun _ => trivial⟩ ?_
 clear HK1 K1 hbwc hlwc hbwd
 simp only [putE]
 refine wpX_kp (i := 28) (oi := ⟨some 73, _, _, _, _, some (24, false)⟩) (v := ?_) rfl (fun _ _ _ h => h) ?_ ⟨(by first | exact Hq4.out | exact Hq3.out | exact Hq2.out | exact Hq1.out | exact Hq0.out), fun _ => trivial⟩ ?_
 rotate_left
 ·intro U hU
  go_simp
  all_goals with_reducible rfl
 simp only [putE]
 refine wpX_kp (i := 29) (oi := ⟨some 74, _, _, _, _, none⟩) (v := ?_) rfl (fun _ _ _ h => h) ?_ ⟨(by first | exact Hq4.out | exact Hq3.out | exact Hq2.out | exact Hq1.out | exact Hq0.out), fun _ => trivial⟩ ?_
 rotate_left
 ·intro U hU
  go_simp
  all_goals with_reducible rfl
 simp only [putE]
 refine wpX_kp (i := 30) (oi := ⟨some 75, _, _, _, _, none⟩) (v := ?_) rfl (fun _ _ _ h => h) ?_ ⟨(by first | exact Hq4.out | exact Hq3.out | exact Hq2.out | exact Hq1.out | exact Hq0.out), fun _ => trivial⟩ ?_
 rotate_left
 ·intro U hU
  go_simp
  all_goals with_reducible rfl
 simp only [putE]
 refine wpX_kp (i := 31) (oi := ⟨some 76, _, _, _, _, some (30, false)⟩) (v := ?_) rfl (fun _ _ _ h => h) ?_ ⟨(by first | exact Hq4.out | exact Hq3.out | exact Hq2.out | exact Hq1.out | exact Hq0.out), fun _ => trivial⟩ ?_
 rotate_left
 ·intro U hU
  go_simp
  all_goals with_reducible rfl
 simp only [putE]
 refine wpX_kp (i := 32) (oi := ⟨some 77, _, _, _, _, some (30, false)⟩) (v := ?_) rfl (fun _ _ _ h => h) ?_ ⟨(by first | exact Hq4.out | exact Hq3.out | exact Hq2.out | exact Hq1.out | exact Hq0.out), fun _ => trivial⟩ ?_
 rotate_left
 ·intro U hU
  go_simp
  all_goals with_reducible rfl
 simp only [putE]
 refine wpX_kp (i := 33) (oi := ⟨some 78, _, _, _, _, none⟩) (v := ?_) rfl (fun _ _ _ h => h) ?_ ⟨(by first | exact Hq4.out | exact Hq3.out | exact Hq2.out | exact Hq1.out | exact Hq0.out), fun _ => trivial⟩ ?_
 rotate_left
 ·intro U hU
  go_simp
  all_goals with_reducible rfl
 simp only [putE]
 refine wpX_kp (i := 34) (oi := ⟨some 79, _, _, _, _, none⟩) (v := ?_) rfl (fun _ _ _ h => h) ?_ ⟨(by first | exact Hq4.out | exact Hq3.out | exact Hq2.out | exact Hq1.out | exact Hq0.out), fun _ => trivial⟩ ?_
 rotate_left
 ·intro U hU
  go_simp
  all_goals with_reducible rfl
 simp only [putE]
 refine wpX_kp (i := 35) (oi := ⟨some 80, _, _, _, _, some (34, false)⟩) (v := ?_) rfl (fun _ _ _ h => h) ?_ ⟨(by first | exact Hq4.out | exact Hq3.out | exact Hq2.out | exact Hq1.out | exact Hq0.out), fun _ => trivial⟩ ?_
 rotate_left
 ·intro U hU
  go_simp
  all_goals with_reducible rfl
 simp only [putE]
 refine wpX_kp (i := 36) (oi := ⟨some 81, _, _, _, _, none⟩) (v := ?_) rfl (fun _ _ _ h => h) ?_ ⟨(by first | exact Hq4.out | exact Hq3.out | exact Hq2.out | exact Hq1.out | exact Hq0.out), fun _ => trivial⟩ ?_
 rotate_left
 ·intro U hU
  go_simp
  all_goals with_reducible rfl
 simp only [putE]
 refine wpX_kp (i := 37) (oi := ⟨some 82, _, _, _, _, none⟩) (v := ?_) rfl (fun _ _ _ h => h) ?_ ⟨(by first | exact Hq4.out | exact Hq3.out | exact Hq2.out | exact Hq1.out | exact Hq0.out), fun _ => trivial⟩ ?_
 rotate_left
 ·intro U hU
  go_simp
  all_goals with_reducible rfl
 simp only [putE]
 refine wpX_kp (i := 38) (oi := ⟨some 83, _, _, _, _, some (37, false)⟩) (v := ?_) rfl (fun _ _ _ h => h) ?_ ⟨(by first | exact Hq4.out | exact Hq3.out | exact Hq2.out | exact Hq1.out | exact Hq0.out), fun _ => trivial⟩ ?_
 rotate_left
 ·intro U hU
  go_simp
  all_goals with_reducible rfl
 simp only [putE]
 refine wpX_kp (i := 39) (oi := ⟨some 84, _, _, _, _, some (37, false)⟩) (v := ?_) rfl (fun _ _ _ h => h) ?_ ⟨(by first | exact Hq4.out | exact Hq3.out | exact Hq2.out | exact Hq1.out | exact Hq0.out), fun _ => trivial⟩ ?_
 rotate_left
 ·intro U hU
  go_simp
  all_goals with_reducible rfl
 simp only [putE]
 refine wpX_kp (i := 40) (oi := ⟨some 85, _, _, _, _, none⟩) (v := ?_) rfl (fun _ _ _ h => h) ?_ ⟨(by first | exact Hq4.out | exact Hq3.out | exact Hq2.out | exact Hq1.out | exact Hq0.out), fun _ => trivial⟩ ?_
 rotate_left
 ·intro U hU
  go_simp
  all_goals with_reducible rfl
 simp only [putE]
 refine wpAnyX_done (by kernel_rfl) ?_ _
 go_wp2
 refine HK.out _ _ ?_; clear HK
 have HBB := Lib.hid (btr HBA.out Hq4.out (Nat.le_refl _))
 clear HX1 HY1 HS0 Hq0 Hq1 Hq2 Hq3 Hq4 HBA HB8 HB6 HB4 HL1 HB1 HL3 HB3 HB2
 clear w1 w2 w3 w4 w6 w8 w10 wq wa wb wc
 refine wp_seq_k (fun K hK => ?_)
 have HK := Lib.hid hK; clear hK
 go_wp2_with (first | (go_at_call 62; refine (lawC_any _).mono ?_; rintro e wa ⟨va, rfl, hla, hba⟩; have HLA := Lib.hid hla; have HBa := Lib.hid (btr HBB.out hba (Nat.le_refl _)); clear hla hba) | (go_at_call 63; refine (lawD_any _).mono ?_; rintro e wb ⟨vb, rfl, hlb, hbb⟩; have HLB := Lib.hid hlb; have HLA2 := Lib.hid (HLA.out.below hbb (Nat.le_refl _)); have HBb := Lib.hid (btr HBa.out hbb (Nat.le_refl _)); clear hlb hbb) | (go_at_call 42; refine (both_CD HLA2.out HLB.out).mono ?_; rintro e wc ⟨vnB, vgB, rfl, hlc, hbc⟩; have HLC := Lib.hid hlc; have HBc := Lib.hid (btr HBb.out hbc (Nat.le_refl _)); clear hlc hbc) | (refine wpList_store_blk rfl 25 _ _ rfl _ rfl rfl (heap_newI rfl) size25 rfl rfl HLC.out.now.one ?_))
 refine HK.out _ _ ?_; clear HK
 generalize hw2 : World.putObj _ _ _ = w2
 obtain ⟨hx2, hb2⟩ := storedA HLC.out.now hw2
 obtain ⟨gB, hgB⟩ : ∃ g, g = wc.heap.size := ⟨_, rfl⟩
 rw [← hgB] at hx2 ⊢
 have HXB := Lib.hid hx2
 have HB2 := Lib.hid (btr HBc.out hb2 (Nat.le_refl _))
 clear hx2 hb2 hw2 hgB HLA HLB HLA2 HLC HBa HBb HBc HBB
 refine wp_seq_k (fun K hK => ?_)
 have HK := Lib.hid hK; clear hK
 go_wp2_with (first | (refine wpList_load_blk rfl 25 _ rfl _ rfl HXB.out.blk Try.underlying25 rfl size25 rfl ?_) | (go_at_call 23; refine (count23_any (n := 4) HXB.out.law).mono ?_; rintro e w3 ⟨rfl, hb⟩; rw [ex_count3]; have HB3 := Lib.hid (btr HB2.out hb (Nat.le_refl _)); clear hb))
 refine HK.out _ _ ?_; clear HK
 clear HXB HB2
 refine wp_seq_k (fun K hK => ?_)
 have HK := Lib.hid hK; clear hK
 go_wp2_with (first | (go_at_call 62; refine (lawC_any _).mono ?_; rintro e wa ⟨va, rfl, hla, hba⟩; have HLA := Lib.hid hla; have HBa := Lib.hid (btr HB3.out hba (Nat.le_refl _)); clear hla hba) | (go_at_call 63; refine (lawD_any _).mono ?_; rintro e wb ⟨vb, rfl, hlb, hbb⟩; have HLB := Lib.hid hlb; have HLA2 := Lib.hid (HLA.out.below hbb (Nat.le_refl _)); have HBb := Lib.hid (btr HBa.out hbb (Nat.le_refl _)); clear hlb hbb) | (go_at_call 27; refine (differ_CD HLA2.out HLB.out).mono ?_; rintro e w4 ⟨vx, rfl, hlc, hbc⟩; have HX := Lib.hid hlc; have HB4 := Lib.hid (btr HBb.out hbc (Nat.le_refl _)); clear hlc hbc))
 refine HK.out _ _ ?_; clear HK
 clear HLA HLB HLA2 HBa HBb HB3
 refine wp_seq_k (fun K hK => ?_)
 have HK := Lib.hid hK; clear hK
 go_wp2_with (first | (go_at_call 62; refine (lawC_any _).mono ?_; rintro e wa ⟨va, rfl, hla, hba⟩; have HLA := Lib.hid hla; have HBa := Lib.hid (btr HB4.out hba (Nat.le_refl _)); have HXa := Lib.hid (HX.out.below hba (Nat.le_refl _)); clear hla hba) | (go_at_call 31; refine (tell_C HLA.out).mono ?_; rintro e w5 ⟨vs, vt, rfl, hls, hlt, hbc⟩; have HS := Lib.hid hls; have HT := Lib.hid hlt; have HB5 := Lib.hid (btr HBa.out hbc (Nat.le_refl _)); have HX5 := Lib.hid (HXa.out.below hbc (Nat.le_refl _)); clear hls hlt hbc))
 refine HK.out _ _ ?_; clear HK
 clear HLA HBa HX HXa HB4
 refine wp_seq_k (fun K hK => ?_)
 have HK := Lib.hid hK; clear hK
 go_wp2_with (first | (go_at_call 62; refine (lawC_any _).mono ?_; rintro e wa ⟨va, rfl, hla, hba⟩; have HLA := Lib.hid hla; have HBa := Lib.hid hba; clear hla hba) | (go_at_call 43; refine (not_CO HLA.out).mono ?_; rintro e wb ⟨vnO, vgO, rfl, hlb, hbb⟩; have HLO := Lib.hid hlb; have HBb := Lib.hid (btr HBa.out hbb (Nat.le_refl _)); clear hlb hbb) | (refine wpList_store_blk rfl 25 _ _ rfl _ rfl rfl (heap_newI rfl) size25 rfl rfl HLO.out.one ?_))
 refine HK.out _ _ ?_; clear HK
 generalize hw6 : World.putObj _ _ _ = w6
 obtain ⟨hx6, hb6⟩ := storedA HLO.out hw6
 obtain ⟨gO, hgO⟩ : ∃ g, g = wb.heap.size := ⟨_, rfl⟩
 rw [← hgO] at hx6 ⊢
 have HXO := Lib.hid hx6
 have h56 := btr HBb.out hb6 (Nat.le_refl _)
 have HB6 := Lib.hid (btr HB5.out h56 (Nat.le_refl _))
 have HX6 := Lib.hid (HX5.out.below h56 (Nat.le_refl _))
 have HS6 := Lib.hid (HS.out.below h56 (Nat.le_refl _))
 have HT6 := Lib.hid (HT.out.below h56 (Nat.le_refl _))
 clear hx6 hb6 hw6 hgO h56 HLA HLO HBa HBb HX5 HS HT HB5
 refine wp_seq_k (fun K hK => ?_)
 have HK := Lib.hid hK; clear hK
 go_wp2
 refine wp_region_x (R := fun U => Below w6.heap.size w6 U) (S := fun _ => True) (z := 999) rfl ?_
 change wpAnyX _ _ _ _ _ _ _ _ _ _ w6.drew
 have Hq0 := Lib.hid (show Below w6.heap.size w6 w6.drew from (Below.refl _ _).drew)
 obtain ⟨wq, hwq⟩ : ∃ q, q = w6.drew := ⟨_, rfl⟩
 rw [← hwq] at Hq0 ⊢
 clear hwq
 refine wpX_kp (i := 1) (oi := ⟨some 116, _, _, _, _, none⟩) (v := ?_) rfl (fun _ _ _ h => h) ?_ ⟨Hq0.out, fun _ => trivial⟩ ?_
 rotate_left
 ·refine yields_load_blk 25 (.tmp 15) ?_ gO ?_ (t := 25) (fr := (0, 0)) (cs := #[vnO, vgO]) (fun U hU => ?_) Try.underlying25 rfl size25 rfl
  ·rfl
  ·rfl
  ·exact blk_keep HXO.out.blk hU
 simp only [putE]
 refine (fun (FIN : KeyP (?P9 : Prop)) => ?main9) ⟨?key9⟩
 case main9 =>
  refine wpAnyX_ready (rs := [0, 6]) (by kernel_rfl) (by simp) ?_
  refine AllReadyX.cons (o := ⟨some 115, _, _, _, _, none⟩) rfl (by rfl) (fun K1 hK1 => ?_) ?_
  ·have HK1 := Lib.hid hK1; clear hK1
   refine oper_callg (c := .func 62) (xs := #[]) (ts := _) rfl rfl (enters_of Try.func62 (by kernel_rfl) rfl) rfl (R := fun v w' => LawA w' v lawC ∧ Below wq.heap.size wq w') ((lawC_any wq).mono (by rintro e w' ⟨v, rfl, h, h'⟩; exact ⟨v, rfl, h, h'⟩)) ?_
   rintro vwa wa ⟨hlwa, hbwa⟩
   have Hq1 := Lib.hid (btr Hq0.out hbwa (Nat.le_refl _))
   refine HK1.out _ _ ⟨Hq1.out, fun _ => trivial⟩ ?_
   clear HK1
   try simp only [putE]
   refine wpAnyX_ready (rs := [2, 6]) (by kernel_rfl) (by simp) ?_
   refine AllReadyX.cons (o := ⟨some 117, _, _, _, _, none⟩) rfl (by rfl) (fun K1 hK1 => ?_) ?_
   ·have HK1 := Lib.hid hK1; clear hK1
    refine oper_callg (c := .func 42) (xs := #[.tmp 115, .tmp 116]) (ts := _) rfl rfl (enters_of Try.func42 (by kernel_rfl) rfl) rfl (R := fun v w' => ∃ vn vg, v = .tuple #[.agg #[vn, vg], .int .i64 0] ∧ LawF wa w' (.agg #[vn, vg]) lawN ∧ Below wa.heap.size wa w') ((both_CO hlwa (HXO.out.below Hq1.out).law).mono (by rintro e w' ⟨vn, vg, rfl, h, h'⟩; exact ⟨_, rfl, vn, vg, rfl, h, h'⟩)) ?_
    rintro _ wc ⟨vnN, vgN, rfl, hlN, hbN⟩
    have Hq2 := Lib.hid (btr Hq1.out hbN (Nat.le_refl _))
    refine HK1.out _ _ ⟨Hq2.out, fun _ => trivial⟩ ?_
    clear HK1
    try simp only [putE]
    refine wpX_kp (i := 3) (oi := ⟨some 114, _, _, _, _, none⟩) (v := ?_) rfl (fun _ _ _ h => h) ?_ ⟨Hq2.out, fun _ => trivial⟩ ?_
    rotate_left
    ·intro U hU
     go_simp
     all_goals with_reducible rfl
    simp only [putE]
    refine wpX_kp (i := 4) (oi := ⟨some 118, _, _, _, _, none⟩) (v := ?_) rfl (fun _ _ _ h => h) ?_ ⟨Hq2.out, fun _ => trivial⟩ ?_
    rotate_left
    ·intro U hU
     go_simp
     all_goals with_reducible rfl
    simp only [putE]
    refine wpX_kp (i := 5) (oi := ⟨some 119, _, _, _, _, none⟩) (v := ?_) rfl (fun _ _ _ h => h) ?_ ⟨Hq2.out, fun _ => trivial⟩ ?_
    rotate_left
    ·intro U hU
     go_simp
     all_goals with_reducible rfl
    simp only [putE]
    refine wpAnyX_one (i := 6) (o := ⟨some 16, _, _, _, _, none⟩) (by kernel_rfl) rfl (by rfl) (fun K1 hK1 => ?_)
    have HK1 := Lib.hid hK1; clear hK1
    go_simp
    obtain ⟨wk, hwk⟩ : ∃ q, q = wc.alloc (.cells #[.slice none 0 0, .slice none 0 0] 25) := ⟨_, rfl⟩
    rw [← hwk]
    have Hq3 := Lib.hid (show Below w6.heap.size w6 wk by rw [hwk]; exact Hq2.out.alloc Hq2.out.size _)
    have hal : Below wc.heap.size wc wk := by rw [hwk]; exact (Below.refl _ _).alloc (Nat.le_refl _) _
    have hwcz : w6.heap.size ≤ wc.heap.size := Hq2.out.size
    obtain ⟨gN, hgN⟩ : ∃ g, g = wc.heap.size := ⟨_, rfl⟩
    have lgN : w6.heap.size ≤ gN := by have := Hq2.out.size; omega
    have hgb : wk.heap[gN]? = some (.cells #[.slice none 0 0, .slice none 0 0] 25 (0, 0)) := by rw [hwk, hgN]; exact heap_newI rfl
    rw [← hgN]
    clear hwk
    refine HK1.out _ _ ⟨Hq3.out, fun _ => trivial⟩ ?_
    clear HK1
    try simp only [putE]
    have hLN : LawA wk (.agg #[vnN, vgN]) lawN := hlN.now.below hal (Nat.le_refl _)
    have hGN : wk.heap[gN]? = some (.cells #[.slice none 0 0, .slice none 0 0] 25 (0, 0)) := hgb
    refine wpAnyX_one (i := 7) (o := ⟨none, _, _, _, _, none⟩) (by kernel_rfl) rfl (by rfl) (fun K1 hK1 => ?_)
    have HK1 := Lib.hid hK1; clear hK1
    refine oper_store_blk 25 (.tmp 16) (.tmp 118) rfl gN rfl rfl hGN size25 rfl rfl hLN.one ?_
    obtain ⟨wz, hwz⟩ : ∃ q, q = wk.putObj gN (.cells #[vnN, vgN] 25) := ⟨_, rfl⟩
    rw [← hwz]
    have hLF : LawA wz (.agg #[vnN, vgN]) lawN := hlN wz (by rw [hwz, World.putObj_size]; have := hal.size; omega) (fun i _ hi => by rw [hwz]; exact (World.putObj_heap_other (by omega)).trans (hal.block i hi))
    have hBz : Below w6.heap.size w6 wz := by rw [hwz]; exact below_putObj Hq3.out lgN
    have hfin : LawX wz gN 25 lawN vnN vgN ∧ Below w6.heap.size w6 wz := ⟨storedB hGN hLF hwz, hBz⟩
    refine HK1.out _ _ ⟨hBz, fun _ => trivial⟩ ?_
    clear HK1
    try simp only [Act.put]
    refine wpX_kp (i := 8) (oi := ⟨some 17, _, _, _, _, none⟩) (v := ?_) rfl (fun _ _ _ h => h) ?_ ⟨hBz, fun _ => trivial⟩ ?_
    rotate_left
    ·intro U hU
     go_simp
     all_goals with_reducible rfl
    simp only [putE]
    refine wpAnyX_done (by kernel_rfl) ?_ _
    refine HK.out _ _ ?_
    clear hBz hGN hLN hLF hwz hal hgb hlN hbN hgN lgN Hq1 Hq2 Hq3 hlwa hbwa hwcz
    revert hfin; revert wz; revert gN; revert vgN; revert vnN; revert vwa
    exact FIN.out
   refine AllReadyX.cons (o := ⟨some 16, _, _, _, _, none⟩) rfl (by rfl) (fun K1 hK1 => ?_) AllReadyX.nil
   have HK1 := Lib.hid hK1; clear hK1
   go_simp
   obtain ⟨wk, hwk⟩ : ∃ q, q = wa.alloc (.cells #[.slice none 0 0, .slice none 0 0] 25) := ⟨_, rfl⟩
   rw [← hwk]
   have Hq2 := Lib.hid (show Below w6.heap.size w6 wk by rw [hwk]; exact Hq1.out.alloc Hq1.out.size _)
   have hal : Below wa.heap.size wa wk := by rw [hwk]; exact (Below.refl _ _).alloc (Nat.le_refl _) _
   obtain ⟨gN, hgN⟩ : ∃ g, g = wa.heap.size := ⟨_, rfl⟩
   have lgN : w6.heap.size ≤ gN := by have := Hq1.out.size; omega
   have hgb : wk.heap[gN]? = some (.cells #[.slice none 0 0, .slice none 0 0] 25 (0, 0)) := by rw [hwk, hgN]; exact heap_newI rfl
   rw [← hgN]
   have lgw := lt_blk hgb
   clear hwk hgN
   refine HK1.out _ _ ⟨Hq2.out, fun _ => trivial⟩ ?_
   clear HK1
   try simp only [putE]
   refine wpAnyX_one (i := 2) (o := ⟨some 117, _, _, _, _, none⟩) (by kernel_rfl) rfl (by rfl) (fun K1 hK1 => ?_)
   have HK1 := Lib.hid hK1; clear hK1
   refine oper_callg (c := .func 42) (xs := #[.tmp 115, .tmp 116]) (ts := _) rfl rfl (enters_of Try.func42 (by kernel_rfl) rfl) rfl (R := fun v w' => ∃ vn vg, v = .tuple #[.agg #[vn, vg], .int .i64 0] ∧ LawF wk w' (.agg #[vn, vg]) lawN ∧ Below wk.heap.size wk w') ((both_CO (hlwa.below hal (Nat.le_refl _)) (HXO.out.below Hq2.out).law).mono (by rintro e w' ⟨vn, vg, rfl, h, h'⟩; exact ⟨_, rfl, vn, vg, rfl, h, h'⟩)) ?_
   rintro _ wc ⟨vnN, vgN, rfl, hlN, hbN⟩
   have Hq3 := Lib.hid (btr Hq2.out hbN (Nat.le_refl _))
   refine HK1.out _ _ ⟨Hq3.out, fun _ => trivial⟩ ?_
   clear HK1
   try simp only [putE]
   refine wpX_kp (i := 3) (oi := ⟨some 114, _, _, _, _, none⟩) (v := ?_) rfl (fun _ _ _ h => h) ?_ ⟨Hq3.out, fun _ => trivial⟩ ?_
   rotate_left
   ·intro U hU
    go_simp
    all_goals with_reducible rfl
   simp only [putE]
   refine wpX_kp (i := 4) (oi := ⟨some 118, _, _, _, _, none⟩) (v := ?_) rfl (fun _ _ _ h => h) ?_ ⟨Hq3.out, fun _ => trivial⟩ ?_
   rotate_left
   ·intro U hU
    go_simp
    all_goals with_reducible rfl
   simp only [putE]
   refine wpX_kp (i := 5) (oi := ⟨some 119, _, _, _, _, none⟩) (v := ?_) rfl (fun _ _ _ h => h) ?_ ⟨Hq3.out, fun _ => trivial⟩ ?_
   rotate_left
   ·intro U hU
    go_simp
    all_goals with_reducible rfl
   simp only [putE]
   have hLN : LawA wc (.agg #[vnN, vgN]) lawN := hlN.now
   have hGN : wc.heap[gN]? = some (.cells #[.slice none 0 0, .slice none 0 0] 25 (0, 0)) := blk_keep hgb hbN
   refine wpAnyX_one (i := 7) (o := ⟨none, _, _, _, _, none⟩) (by kernel_rfl) rfl (by rfl) (fun K1 hK1 => ?_)
   have HK1 := Lib.hid hK1; clear hK1
   refine oper_store_blk 25 (.tmp 16) (.tmp 118) rfl gN rfl rfl hGN size25 rfl rfl hLN.one ?_
   obtain ⟨wz, hwz⟩ : ∃ q, q = wc.putObj gN (.cells #[vnN, vgN] 25) := ⟨_, rfl⟩
   rw [← hwz]
   have hLF : LawA wz (.agg #[vnN, vgN]) lawN := hlN wz (by rw [hwz, World.putObj_size]; omega) (fun i hi _ => by rw [hwz]; exact World.putObj_heap_other (by omega))
   have hBz : Below w6.heap.size w6 wz := by rw [hwz]; exact below_putObj Hq3.out lgN
   have hfin : LawX wz gN 25 lawN vnN vgN ∧ Below w6.heap.size w6 wz := ⟨storedB hGN hLF hwz, hBz⟩
   refine HK1.out _ _ ⟨hBz, fun _ => trivial⟩ ?_
   clear HK1
   try simp only [Act.put]
   refine wpX_kp (i := 8) (oi := ⟨some 17, _, _, _, _, none⟩) (v := ?_) rfl (fun _ _ _ h => h) ?_ ⟨hBz, fun _ => trivial⟩ ?_
   rotate_left
   ·intro U hU
    go_simp
    all_goals with_reducible rfl
   simp only [putE]
   refine wpAnyX_done (by kernel_rfl) ?_ _
   refine HK.out _ _ ?_
   exact FIN.out vwa vnN vgN gN wz hfin
  refine AllReadyX.cons (o := ⟨some 16, _, _, _, _, none⟩) rfl (by rfl) (fun K1 hK1 => ?_) AllReadyX.nil
  have HK1 := Lib.hid hK1; clear hK1
  go_simp
  obtain ⟨wk, hwk⟩ : ∃ q, q = wq.alloc (.cells #[.slice none 0 0, .slice none 0 0] 25) := ⟨_, rfl⟩
  rw [← hwk]
  have Hq1 := Lib.hid (show Below w6.heap.size w6 wk by rw [hwk]; exact Hq0.out.alloc Hq0.out.size _)
  have hal : Below wq.heap.size wq wk := by rw [hwk]; exact (Below.refl _ _).alloc (Nat.le_refl _) _
  obtain ⟨gN, hgN⟩ : ∃ g, g = wq.heap.size := ⟨_, rfl⟩
  have lgN : w6.heap.size ≤ gN := by have := Hq0.out.size; omega
  have hgb : wk.heap[gN]? = some (.cells #[.slice none 0 0, .slice none 0 0] 25 (0, 0)) := by rw [hwk, hgN]; exact heap_newI rfl
  rw [← hgN]
  have lgw := lt_blk hgb
  clear hwk hgN
  refine HK1.out _ _ ⟨Hq1.out, fun _ => trivial⟩ ?_
  clear HK1
  try simp only [putE]
  refine wpAnyX_one (i := 0) (o := ⟨some 115, _, _, _, _, none⟩) (by kernel_rfl) rfl (by rfl) (fun K1 hK1 => ?_)
  have HK1 := Lib.hid hK1; clear hK1
  refine oper_callg (c := .func 62) (xs := #[]) (ts := _) rfl rfl (enters_of Try.func62 (by kernel_rfl) rfl) rfl (R := fun v w' => LawA w' v lawC ∧ Below wk.heap.size wk w') ((lawC_any wk).mono (by rintro e w' ⟨v, rfl, h, h'⟩; exact ⟨v, rfl, h, h'⟩)) ?_
  rintro vwa wa ⟨hlwa, hbwa⟩
  have Hq2 := Lib.hid (btr Hq1.out hbwa (Nat.le_refl _))
  refine HK1.out _ _ ⟨Hq2.out, fun _ => trivial⟩ ?_
  clear HK1
  try simp only [putE]
  have hgb2 := blk_keep hgb hbwa
  have lgw2 := lt_blk hgb2
  refine wpAnyX_one (i := 2) (o := ⟨some 117, _, _, _, _, none⟩) (by kernel_rfl) rfl (by rfl) (fun K1 hK1 => ?_)
  have HK1 := Lib.hid hK1; clear hK1
  refine oper_callg (c := .func 42) (xs := #[.tmp 115, .tmp 116]) (ts := _) rfl rfl (enters_of Try.func42 (by kernel_rfl) rfl) rfl (R := fun v w' => ∃ vn vg, v = .tuple #[.agg #[vn, vg], .int .i64 0] ∧ LawF wa w' (.agg #[vn, vg]) lawN ∧ Below wa.heap.size wa w') ((both_CO hlwa (HXO.out.below Hq2.out).law).mono (by rintro e w' ⟨vn, vg, rfl, h, h'⟩; exact ⟨_, rfl, vn, vg, rfl, h, h'⟩)) ?_
  rintro _ wc ⟨vnN, vgN, rfl, hlN, hbN⟩
  have Hq3 := Lib.hid (btr Hq2.out hbN (Nat.le_refl _))
  refine HK1.out _ _ ⟨Hq3.out, fun _ => trivial⟩ ?_
  clear HK1
  try simp only [putE]
  refine wpX_kp (i := 3) (oi := ⟨some 114, _, _, _, _, none⟩) (v := ?_) rfl (fun _ _ _ h => h) ?_ ⟨Hq3.out, fun _ => trivial⟩ ?_
  rotate_left
  ·intro U hU
   go_simp
   all_goals with_reducible rfl
  simp only [putE]
  refine wpX_kp (i := 4) (oi := ⟨some 118, _, _, _, _, none⟩) (v := ?_) rfl (fun _ _ _ h => h) ?_ ⟨Hq3.out, fun _ => trivial⟩ ?_
  rotate_left
  ·intro U hU
   go_simp
   all_goals with_reducible rfl
  simp only [putE]
  refine wpX_kp (i := 5) (oi := ⟨some 119, _, _, _, _, none⟩) (v := ?_) rfl (fun _ _ _ h => h) ?_ ⟨Hq3.out, fun _ => trivial⟩ ?_
  rotate_left
  ·intro U hU
   go_simp
   all_goals with_reducible rfl
  simp only [putE]
  have hLN : LawA wc (.agg #[vnN, vgN]) lawN := hlN.now
  have hGN : wc.heap[gN]? = some (.cells #[.slice none 0 0, .slice none 0 0] 25 (0, 0)) := blk_keep hgb2 hbN
  refine wpAnyX_one (i := 7) (o := ⟨none, _, _, _, _, none⟩) (by kernel_rfl) rfl (by rfl) (fun K1 hK1 => ?_)
  have HK1 := Lib.hid hK1; clear hK1
  refine oper_store_blk 25 (.tmp 16) (.tmp 118) rfl gN rfl rfl hGN size25 rfl rfl hLN.one ?_
  obtain ⟨wz, hwz⟩ : ∃ q, q = wc.putObj gN (.cells #[vnN, vgN] 25) := ⟨_, rfl⟩
  rw [← hwz]
  have hLF : LawA wz (.agg #[vnN, vgN]) lawN := hlN wz (by rw [hwz, World.putObj_size]; omega) (fun i hi _ => by rw [hwz]; exact World.putObj_heap_other (by omega))
  have hBz : Below w6.heap.size w6 wz := by rw [hwz]; exact below_putObj Hq3.out lgN
  have hfin : LawX wz gN 25 lawN vnN vgN ∧ Below w6.heap.size w6 wz := ⟨storedB hGN hLF hwz, hBz⟩
  refine HK1.out _ _ ⟨hBz, fun _ => trivial⟩ ?_
  clear HK1
  try simp only [Act.put]
  refine wpX_kp (i := 8) (oi := ⟨some 17, _, _, _, _, none⟩) (v := ?_) rfl (fun _ _ _ h => h) ?_ ⟨hBz, fun _ => trivial⟩ ?_
  rotate_left
  ·intro U hU
   go_simp
   all_goals with_reducible rfl
  simp only [putE]
  refine wpAnyX_done (by kernel_rfl) ?_ _
  refine HK.out _ _ ?_
  exact FIN.out vwa vnN vgN gN wz hfin
 case key9 =>
  intro vwa vnN vgN gN w7 hfin
  have HXN := Lib.hid hfin.1
  have HB7 := Lib.hid (btr HB6.out hfin.2 (Nat.le_refl _))
  have HXO7 := Lib.hid (HXO.out.below hfin.2)
  have HX7 := Lib.hid (HX6.out.below hfin.2 (Nat.le_refl _))
  have HS7 := Lib.hid (HS6.out.below hfin.2 (Nat.le_refl _))
  have HT7 := Lib.hid (HT6.out.below hfin.2 (Nat.le_refl _))
  clear hfin HXO HX6 HS6 HT6 HK HB6 Hq0
  refine wp_seq_k (fun K hK => ?_)
  have HK := Lib.hid hK; clear hK
  go_wp2_with (first | (refine wpList_load_blk rfl 25 _ rfl _ rfl HXO7.out.blk Try.underlying25 rfl size25 rfl ?_) | (go_at_call 25; refine (first_O HXO7.out.law).mono ?_; rintro e w8 ⟨vy, rfl, hly, hby⟩; have HY := Lib.hid hly; have HB8 := Lib.hid (btr HB7.out hby (Nat.le_refl _)); have HXN8 := Lib.hid (HXN.out.below hby); have HX8 := Lib.hid (HX7.out.below hby (Nat.le_refl _)); have HS8 := Lib.hid (HS7.out.below hby (Nat.le_refl _)); have HT8 := Lib.hid (HT7.out.below hby (Nat.le_refl _)); clear hly hby))
  refine HK.out _ _ ?_; clear HK
  clear HX7 HS7 HT7 HXN HXO7 HB7
  have H0 := Lib.hid (Below.refl w8.heap.size w8)
  simp only [List.append_eq, List.cons_append, List.nil_append]
  go_wp2_with (first
   | (refine wpList_load_blk rfl 25 _ rfl _ rfl (blk_keep HXN8.out.blk H4.out) Try.underlying25 rfl size25 rfl ?_)
   | (have _m := H6; go_at_call 34; refine (verify_C HLC.out (HS8.out.below H6.out (Nat.le_refl _)) (HT8.out.below H6.out (Nat.le_refl _))).mono ?_; rintro e w7' ⟨rfl, h⟩; have H7 := Lib.hid (btr H6.out h (Nat.le_refl _)); clear h)
   | (have _m := H5; go_at_call 62; refine (lawC_any _).mono ?_; rintro e w6' ⟨vc, rfl, hl, h⟩; have HLC := Lib.hid hl; have H6 := Lib.hid (btr H5.out h (Nat.le_refl _)); clear h hl)
   | (have _m := H4; go_at_call 54; obtain ⟨c1, c2, c3, hBB, -⟩ := blkE3 (w := w4') (a := .cells #[.int .i64 0, .int .i64 0] 3) (b := .cells #[.slice (some ⟨w4'.heap.size, 0, none⟩) 2 2] 40) (c := .cells #[.bool false] 4) rfl; have hB4 := btr H4.out hBB (Nat.le_refl _); refine (laws_eq (HXN8.out.below hB4).law (law1 c1 c2 c3)).mono ?_; rintro e w5' ⟨rfl, h⟩; have H5 := Lib.hid (btr hB4 h (Nat.le_refl _)); clear h hB4 hBB c1 c2 c3)
   | (have _m := H3; go_at_call 33; obtain ⟨c1, c2, c3, c4, hBB, -⟩ := blkE4 (w := w3') (a := .cells #[.int .i64 0] 3) (b := .cells #[.int .i64 0] 3) (c := .cells #[.int .i64 1, .int .i64 0] 3) (d := .cells #[.slice (some ⟨w3'.heap.size, 0, none⟩) 1 1, .slice none 0 0, .slice (some ⟨w3'.heap.size + 1, 0, none⟩) 1 1, .slice none 0 0, .slice (some ⟨w3'.heap.size + 1 + 1, 0, none⟩) 2 2, .slice none 0 0] 40) rfl; have hB3 := btr H3.out hBB (Nat.le_refl _); refine (lists_eq (HT8.out.below hB3 (Nat.le_refl _)) (slII_six c4 (slI_blkL [0] c1 (by decide)) (slI_blkL [0] c2 (by decide)) (slI_blkL [1, 0] c3 (by decide)))).mono ?_; rintro e w4' ⟨rfl, h⟩; have H4 := Lib.hid (btr hB3 h (Nat.le_refl _)); clear h hB3 hBB c1 c2 c3 c4)
   | (have _m := H2; go_at_call 33; obtain ⟨c1, c2, c3, c4, hBB, -⟩ := blkE4 (w := w2') (a := .cells #[.int .i64 0] 3) (b := .cells #[.int .i64 0, .int .i64 0] 3) (c := .cells #[.int .i64 0, .int .i64 1] 3) (d := .cells #[.slice none 0 0, .slice (some ⟨w2'.heap.size, 0, none⟩) 1 1, .slice (some ⟨w2'.heap.size + 1, 0, none⟩) 2 2, .slice (some ⟨w2'.heap.size + 1 + 1, 0, none⟩) 2 2] 40) rfl; have hB2 := btr H2.out hBB (Nat.le_refl _); refine (lists_eq (HS8.out.below hB2 (Nat.le_refl _)) (slII_four c4 (slI_blkL [0] c1 (by decide)) (slI_blkL [0, 0] c2 (by decide)) (slI_blkL [0, 1] c3 (by decide)))).mono ?_; rintro e w3' ⟨rfl, h⟩; have H3 := Lib.hid (btr hB2 h (Nat.le_refl _)); clear h hB2 hBB c1 c2 c3 c4)
   | (have _m := H1; go_at_call 29; refine (numbers_eq (xs := [0, 0]) (HY.out.below (H1.out.alloc H1.out.size (.cells #[.int .i64 0, .int .i64 0] 3)) (Nat.le_refl _)) (slI_blkL [0, 0] (heap_newI rfl) (by decide))).mono ?_; rintro e w2' ⟨rfl, h⟩; have H2 := Lib.hid (btr (H1.out.alloc H1.out.size (.cells #[.int .i64 0, .int .i64 0] 3)) h (Nat.le_refl _)); clear h)
   | (go_at_call 29; refine (numbers_eq (xs := [0, 0]) (HX8.out.below (H0.out.alloc H0.out.size (.cells #[.int .i64 0, .int .i64 0] 3)) (Nat.le_refl _)) (slI_blkL [0, 0] (heap_newI rfl) (by decide))).mono ?_; rintro e w1' ⟨rfl, h⟩; have H1 := Lib.hid (btr (H0.out.alloc H0.out.size (.cells #[.int .i64 0, .int .i64 0] 3)) h (Nat.le_refl _)); clear h))
  go_ret
  exact ⟨rfl, btr HB8.out H7.out (Nat.le_refl _)⟩
end Ytnjgglnpmhjmiaa
end Go.Proofs

