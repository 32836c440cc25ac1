/- The closure of YardProof: a number of the table is changed. -/
import Derived.Test.YtndmjginmomfiaaPlPr
import Derived.Test.YtndmjginmomfiaaOp6
import Derived.Test.YtndmjginmomfiaaW20
import Derived.Test.YtndmjginmomfiaaLawRm
open Go Go.RowKit Go.YtndmjginmomfiaaIt
namespace Go.Proofs
namespace Ytndmjginmomfiaa
theorem results_none_ {P : Program} {fn : Func} (h : fn.results = #[]) (tmps : Array Value) (w : World) : (results fn tmps).run P w = .ok (.tuple #[]) w := by
  simp [results, h]
theorem tab_ne {W : World} {B i g0 cap0 g cap n L : Nat} {rows : List (List Int)} (hT : TabO W B (.slice (some ⟨g0, 0, none⟩) n cap0) rows) (hi : i < rows.length) (hc : W.cell? ⟨g0, i, none⟩ = some (.slice (some ⟨g, 0, none⟩) L cap)) : g ≠ g0 := by
  obtain ⟨vs, h1, h2, _⟩ := hT
  have hl : vs.length = rows.length := by have := h1.1; omega
  have hvi : i < vs.length := by omega
  have hrow := h2 i _ _ (List.getElem?_eq_getElem hvi) (List.getElem?_eq_getElem hi)
  obtain ⟨ad, cp, hv0⟩ := form_of h1
  injection hv0 with e1 e2 e3
  subst e2
  have hcc := h1.cellAt i (by omega)
  rw [hc, List.getElem?_eq_getElem hvi] at hcc
  have hv := Option.some.inj hcc
  rw [← hv] at hrow
  obtain ⟨ad2, cp2, hv2⟩ := form_of hrow
  injection hv2 with f1 f2 f3
  subst f2
  obtain ⟨cur0, hb0⟩ := row_block h1
  obtain ⟨cur, hb⟩ := row_block hrow
  rintro rfl
  rw [hb0] at hb; cases hb
/-- The number that is written. -/
def chX (n : Int) : Int := if 200 < n then 1125899906842624 else n % 8
def chT (nw room : Int) (rows : List (List Int)) (m s n : Int) : List (List Int) := rows.set (m % nw).toNat ((tabR rows (m % nw).toNat).set (s % (room + 1)).toNat (chX n))
set_option maxRecDepth 100000 in
set_option maxHeartbeats 4000000 in
theorem change_any (y : Yd) (vy : Value) (rows : List (List Int)) (ov : Value) (bo n7 B : Nat) (m s n : Int) (w : World) (hr : 0 ≤ y.room ∧ y.room ≤ 7) (hm : 0 ≤ m ∧ m < 256) (hs : 0 ≤ s ∧ s < 256) (hn : 0 ≤ n ∧ n < 256)
    (hl : 1 ≤ rows.length ∧ rows.length ≤ 2) (hrw : ∀ i, i < rows.length → (tabR rows i).length = y.room.toNat + 1) (hT : TabO w B ov rows) (ho : w.heap[bo]? = some (.cells #[ov] 25 (0, 0))) (h7 : w.heap[n7]? = some (.cells (encY y vy) 24 (0, 0))) (hbo : bo < B) (hb7 : n7 < B) :
    Calls Try.prog 36 #[.int .u8 m, .int .u8 s, .int .u8 n, .pointer (some ⟨bo, 0, none⟩), .pointer (some ⟨n7, 0, none⟩)] w fun e w' => e = .returned (.tuple #[]) ∧ TabO w' B ov (chT rows.length y.room rows m s n) ∧ Below B w w' := by
  obtain ⟨nw, hnw⟩ : ∃ nw, nw = rows.length := ⟨_, rfl⟩
  have hmn := Int.emod_nonneg m (show ((nw : Nat) : Int) ≠ 0 by omega)
  have hml := Int.emod_lt_of_pos m (show (0 : Int) < ((nw : Nat) : Int) by omega)
  have hsn := Int.emod_nonneg s (show y.room + 1 ≠ 0 by omega)
  have hsl := Int.emod_lt_of_pos s (show 0 < y.room + 1 by omega)
  obtain ⟨i, hi⟩ : ∃ i : Nat, m % (nw : Int) = i := ⟨(m % nw).toNat, by omega⟩
  obtain ⟨j, hj⟩ : ∃ j : Nat, s % (y.room + 1) = j := ⟨(s % (y.room + 1)).toNat, by omega⟩
  have hin : i < nw := by omega
  have hjr : (j : Int) ≤ y.room := by omega
  have hlen := hrw i (by rw [← hnw]; exact hin)
  obtain ⟨g0, cap0, g, cap, rfl, hg0, hg, hgl, hc0, hcj, hfz, hset⟩ := hT.at_ (i := i) (by rw [← hnw]; exact hin) (by omega)
  have hcj2 := hcj j (by omega)
  have hgne := tab_ne hT (i := i) (by rw [← hnw]; exact hin) hc0
  have hfz2 := hfz j
  have hset2 := hset j (chX n)
  have hch : chT rows.length y.room rows m s n = rows.set i ((tabR rows i).set j (chX n)) := by
    unfold chT
    rw [← hnw, hi, hj, Int.toNat_natCast, Int.toNat_natCast]
  rw [hch]
  have co := cell_blk (i := 0) ho
  have c7 := cell_blk (i := 0) h7
  simp only [encY, List.getElem?_toArray, List.getElem?_cons_zero] at co c7
  obtain ⟨L, hL⟩ : ∃ L, L = (tabR rows i).length := ⟨_, rfl⟩
  rw [← hnw] at co
  rw [← hL] at hc0 hlen
  have hjL : j < L := by omega
  have HH := Lib.hid (And.intro hset2 (And.intro hch hlen))
  have HQ := Lib.hid (show (¬ IntKind.i64.wrap (y.room + 1) = 0) ∧ ((IntKind.i64.wrap m).tmod (nw : Int) = i) ∧ ((IntKind.i64.wrap s).tmod (IntKind.i64.wrap (y.room + 1)) = j) ∧ ¬ nw = 0 from ⟨by rw [bwrap (by omega)]; omega, by rw [bwq hm, bt _ hm, hi], by rw [bwq hs, bwrap (by omega), bt _ hs, hj], by omega⟩)
  have hX : (if 200 < n then (1125899906842624 : Int) else n % 8) = chX n := rfl
  have hn8 : n.tmod 8 = n % 8 := bt _ hn
  have HX := Lib.hid hX
  clear hset hset2 hch hlen hcj hfz hi hj hmn hml hsn hsl hrw hT ho h7 hX hL hnw hl
  go_enter Try.func36, Try.ntmps36
  by_cases hn2 : 200 < n
  · have hx : chX n = 1125899906842624 := by rw [← HX.out, if_pos hn2]
    rw [hx] at HH
    have HX2 := Lib.hid hx
    clear hx
    go_wp2
    have hS : w.cell? ⟨bo, 0, none⟩ = some (.slice (some ⟨g0, 0, none⟩) nw cap0) ∧ w.cell? ⟨n7, 0, none⟩ = some (.int .i64 y.room) ∧ w.cell? ⟨g0, i, none⟩ = some (.slice (some ⟨g, 0, none⟩) L cap) := ⟨co, c7, hc0⟩
    refine wp_region_held (S := fun U => U.cell? ⟨bo, 0, none⟩ = some (.slice (some ⟨g0, 0, none⟩) nw cap0) ∧ U.cell? ⟨n7, 0, none⟩ = some (.int .i64 y.room) ∧ U.cell? ⟨g0, i, none⟩ = some (.slice (some ⟨g, 0, none⟩) L cap)) (by kernel_rfl) ?_
    change wpAnyH _ _ _ _ _ _ _ _ (World.drew w)
    refine wpAnyH_take (i := 0) (oi := { dst := some 14, op := _, type := _, pos := _, after := _, guard := none }) (v := ?_) rfl (by kernel_rfl) (by kernel_rfl) (by kernel_rfl) (fun _ _ _ h => h) (Or.inl ⟨by rfl, ?_⟩) hS ?_
    rotate_left
    · intro U hU
      obtain ⟨hU0, hU7, hUr⟩ := hU
      go_simp
      all_goals with_reducible rfl
    simp only [Act.put, List.setIfInBounds_toArray, List.set_cons_zero, List.set_cons_succ]
    refine wpAnyH_take (i := 1) (oi := { dst := some 15, op := _, type := _, pos := _, after := _, guard := none }) (v := ?_) rfl (by kernel_rfl) (by kernel_rfl) (by kernel_rfl) (fun _ _ _ h => h) (Or.inl ⟨by rfl, ?_⟩) hS ?_
    rotate_left
    · intro U hU
      obtain ⟨hU0, hU7, hUr⟩ := hU
      go_simp
      all_goals with_reducible rfl
    simp only [Act.put, List.setIfInBounds_toArray, List.set_cons_zero, List.set_cons_succ]
    refine wpAnyH_take (i := 2) (oi := { dst := some 16, op := _, type := _, pos := _, after := _, guard := none }) (v := ?_) rfl (by kernel_rfl) (by kernel_rfl) (by kernel_rfl) (fun _ _ _ h => h) (Or.inl ⟨by rfl, ?_⟩) hS ?_
    rotate_left
    · intro U hU
      obtain ⟨hU0, hU7, hUr⟩ := hU
      go_simp
      all_goals with_reducible rfl
    simp only [Act.put, List.setIfInBounds_toArray, List.set_cons_zero, List.set_cons_succ]
    refine wpAnyH_take (i := 3) (oi := { dst := some 17, op := _, type := _, pos := _, after := _, guard := none }) (v := ?_) rfl (by kernel_rfl) (by kernel_rfl) (by kernel_rfl) (fun _ _ _ h => h) (Or.inl ⟨by rfl, ?_⟩) hS ?_
    rotate_left
    · intro U hU
      obtain ⟨hU0, hU7, hUr⟩ := hU
      go_simp
      all_goals with_reducible rfl
    simp only [Act.put, List.setIfInBounds_toArray, List.set_cons_zero, List.set_cons_succ]
    refine wpAnyH_take (i := 4) (oi := { dst := some 18, op := _, type := _, pos := _, after := _, guard := none }) (v := ?_) rfl (by kernel_rfl) (by kernel_rfl) (by kernel_rfl) (fun _ _ _ h => h) (Or.inl ⟨by rfl, ?_⟩) hS ?_
    rotate_left
    · intro U hU
      obtain ⟨hU0, hU7, hUr⟩ := hU
      go_simp
      all_goals with_reducible rfl
    simp only [Act.put, List.setIfInBounds_toArray, List.set_cons_zero, List.set_cons_succ]
    refine wpAnyH_take (i := 5) (oi := { dst := some 19, op := _, type := _, pos := _, after := _, guard := none }) (v := ?_) rfl (by kernel_rfl) (by kernel_rfl) (by kernel_rfl) (fun _ _ _ h => h) (Or.inl ⟨by rfl, ?_⟩) hS ?_
    rotate_left
    · intro U hU
      obtain ⟨hU0, hU7, hUr⟩ := hU
      go_simp
      rw [if_neg HQ.out.2.2.2]
      all_goals with_reducible rfl
    simp only [Act.put, List.setIfInBounds_toArray, List.set_cons_zero, List.set_cons_succ]
    simp only [HQ.out.2.1]
    refine wpAnyH_take (i := 6) (oi := { dst := some 20, op := _, type := _, pos := _, after := _, guard := none }) (v := ?_) rfl (by kernel_rfl) (by kernel_rfl) (by kernel_rfl) (fun _ _ _ h => h) (Or.inl ⟨by rfl, ?_⟩) hS ?_
    rotate_left
    · intro U hU
      obtain ⟨hU0, hU7, hUr⟩ := hU
      go_simp
      all_goals with_reducible rfl
    simp only [Act.put, List.setIfInBounds_toArray, List.set_cons_zero, List.set_cons_succ]
    refine wpAnyH_take (i := 7) (oi := { dst := some 21, op := _, type := _, pos := _, after := _, guard := none }) (v := ?_) rfl (by kernel_rfl) (by kernel_rfl) (by kernel_rfl) (fun _ _ _ h => h) (Or.inl ⟨by rfl, ?_⟩) hS ?_
    rotate_left
    · intro U hU
      obtain ⟨hU0, hU7, hUr⟩ := hU
      go_simp
      all_goals with_reducible rfl
    simp only [Act.put, List.setIfInBounds_toArray, List.set_cons_zero, List.set_cons_succ]
    refine wpAnyH_take (i := 8) (oi := { dst := some 22, op := _, type := _, pos := _, after := _, guard := none }) (v := ?_) rfl (by kernel_rfl) (by kernel_rfl) (by kernel_rfl) (fun _ _ _ h => h) (Or.inl ⟨by rfl, ?_⟩) hS ?_
    rotate_left
    · intro U hU
      obtain ⟨hU0, hU7, hUr⟩ := hU
      go_simp
      all_goals with_reducible rfl
    simp only [Act.put, List.setIfInBounds_toArray, List.set_cons_zero, List.set_cons_succ]
    refine wpAnyH_take (i := 9) (oi := { dst := some 23, op := _, type := _, pos := _, after := _, guard := none }) (v := ?_) rfl (by kernel_rfl) (by kernel_rfl) (by kernel_rfl) (fun _ _ _ h => h) (Or.inl ⟨by rfl, ?_⟩) hS ?_
    rotate_left
    · intro U hU
      obtain ⟨hU0, hU7, hUr⟩ := hU
      go_simp
      all_goals with_reducible rfl
    simp only [Act.put, List.setIfInBounds_toArray, List.set_cons_zero, List.set_cons_succ]
    refine wpAnyH_take (i := 10) (oi := { dst := some 24, op := _, type := _, pos := _, after := _, guard := none }) (v := ?_) rfl (by kernel_rfl) (by kernel_rfl) (by kernel_rfl) (fun _ _ _ h => h) (Or.inl ⟨by rfl, ?_⟩) hS ?_
    rotate_left
    · intro U hU
      obtain ⟨hU0, hU7, hUr⟩ := hU
      go_simp
      all_goals with_reducible rfl
    simp only [Act.put, List.setIfInBounds_toArray, List.set_cons_zero, List.set_cons_succ]
    refine wpAnyH_take (i := 11) (oi := { dst := some 25, op := _, type := _, pos := _, after := _, guard := none }) (v := ?_) rfl (by kernel_rfl) (by kernel_rfl) (by kernel_rfl) (fun _ _ _ h => h) (Or.inl ⟨by rfl, ?_⟩) hS ?_
    rotate_left
    · intro U hU
      obtain ⟨hU0, hU7, hUr⟩ := hU
      go_simp
      all_goals with_reducible rfl
    simp only [Act.put, List.setIfInBounds_toArray, List.set_cons_zero, List.set_cons_succ]
    refine wpAnyH_take (i := 12) (oi := { dst := some 26, op := _, type := _, pos := _, after := _, guard := none }) (v := ?_) rfl (by kernel_rfl) (by kernel_rfl) (by kernel_rfl) (fun _ _ _ h => h) (Or.inl ⟨by rfl, ?_⟩) hS ?_
    rotate_left
    · intro U hU
      obtain ⟨hU0, hU7, hUr⟩ := hU
      go_simp
      all_goals with_reducible rfl
    simp only [Act.put, List.setIfInBounds_toArray, List.set_cons_zero, List.set_cons_succ]
    refine wpAnyH_take (i := 13) (oi := { dst := some 27, op := _, type := _, pos := _, after := _, guard := none }) (v := ?_) rfl (by kernel_rfl) (by kernel_rfl) (by kernel_rfl) (fun _ _ _ h => h) (Or.inl ⟨by rfl, ?_⟩) hS ?_
    rotate_left
    · intro U hU
      obtain ⟨hU0, hU7, hUr⟩ := hU
      go_simp
      rw [if_neg HQ.out.1]
      all_goals with_reducible rfl
    simp only [Act.put, List.setIfInBounds_toArray, List.set_cons_zero, List.set_cons_succ]
    simp only [HQ.out.2.2.1]
    refine wpAnyH_take (i := 14) (oi := { dst := some 28, op := _, type := _, pos := _, after := _, guard := none }) (v := ?_) rfl (by kernel_rfl) (by kernel_rfl) (by kernel_rfl) (fun _ _ _ h => h) (Or.inl ⟨by rfl, ?_⟩) hS ?_
    rotate_left
    · intro U hU
      obtain ⟨hU0, hU7, hUr⟩ := hU
      go_simp
      all_goals with_reducible rfl
    simp only [Act.put, List.setIfInBounds_toArray, List.set_cons_zero, List.set_cons_succ]
    refine wpAnyH_take (i := 15) (oi := { dst := some 29, op := _, type := _, pos := _, after := _, guard := none }) (v := ?_) rfl (by kernel_rfl) (by kernel_rfl) (by kernel_rfl) (fun _ _ _ h => h) (Or.inl ⟨by rfl, ?_⟩) hS ?_
    rotate_left
    · intro U hU
      obtain ⟨hU0, hU7, hUr⟩ := hU
      go_simp
      all_goals with_reducible rfl
    simp only [Act.put, List.setIfInBounds_toArray, List.set_cons_zero, List.set_cons_succ]
    have hcjd : w.drew.cell? ⟨g, j, none⟩ = some (.int .i64 (at0 (tabR rows i) j)) := hcj2
    have hfzd : w.drew.frozen? ⟨g, j, none⟩ = false := hfz2
    have hgd : g < w.drew.heap.size := hgl
    refine wpAnyH_one (i := 16) (o := { dst := none, op := _, type := _, pos := _, after := _, guard := none }) (by kernel_rfl) rfl (by rfl) (fun K1 hK1 => ?_)
    have HK1 := Lib.hid hK1; clear hK1
    go_simp
    have hbg : bo ≠ g := by omega
    have h7g : n7 ≠ g := by omega
    refine HK1.out _ _ ⟨(World.cell?_of_block (w := w) (heap_set_other hbg)).trans co, (World.cell?_of_block (w := w) (heap_set_other h7g)).trans c7, (World.cell?_of_block (w := w) (heap_set_other (fun e => hgne e.symm))).trans hc0⟩ ?_
    clear HK1 K1
    refine wpAnyH_done (by kernel_rfl) ?_ _
    have hB9 : Below B w ((w.setCell ⟨g, j, none⟩ (.int .i64 1125899906842624)).drew) := ((Below.refl _ w).setCell (p := ⟨g, j, none⟩) hg _).drew
    have hT9 := HH.out.1.below (Below.refl _ _).drew
    clear hS
    go_end0
    exact ⟨rfl, by rw [HX2.out]; exact hT9, hB9⟩
  · have hx : chX n = n % 8 := by rw [← HX.out, if_neg hn2]
    have hn80 := Int.emod_nonneg n (show (8 : Int) ≠ 0 by omega)
    have hn81 := Int.emod_lt_of_pos n (show (0 : Int) < 8 by omega)
    rw [hx] at HH
    have HX2 := Lib.hid hx
    clear hx
    go_wp2
    have hS : w.cell? ⟨bo, 0, none⟩ = some (.slice (some ⟨g0, 0, none⟩) nw cap0) ∧ w.cell? ⟨n7, 0, none⟩ = some (.int .i64 y.room) ∧ w.cell? ⟨g0, i, none⟩ = some (.slice (some ⟨g, 0, none⟩) L cap) := ⟨co, c7, hc0⟩
    refine wp_region_held (S := fun U => U.cell? ⟨bo, 0, none⟩ = some (.slice (some ⟨g0, 0, none⟩) nw cap0) ∧ U.cell? ⟨n7, 0, none⟩ = some (.int .i64 y.room) ∧ U.cell? ⟨g0, i, none⟩ = some (.slice (some ⟨g, 0, none⟩) L cap)) (by kernel_rfl) ?_
    change wpAnyH _ _ _ _ _ _ _ _ (World.drew w)
    refine wpAnyH_take (i := 0) (oi := { dst := some 14, op := _, type := _, pos := _, after := _, guard := none }) (v := ?_) rfl (by kernel_rfl) (by kernel_rfl) (by kernel_rfl) (fun _ _ _ h => h) (Or.inl ⟨by rfl, ?_⟩) hS ?_
    rotate_left
    · intro U hU
      obtain ⟨hU0, hU7, hUr⟩ := hU
      go_simp
      all_goals with_reducible rfl
    simp only [Act.put, List.setIfInBounds_toArray, List.set_cons_zero, List.set_cons_succ]
    refine wpAnyH_take (i := 1) (oi := { dst := some 15, op := _, type := _, pos := _, after := _, guard := none }) (v := ?_) rfl (by kernel_rfl) (by kernel_rfl) (by kernel_rfl) (fun _ _ _ h => h) (Or.inl ⟨by rfl, ?_⟩) hS ?_
    rotate_left
    · intro U hU
      obtain ⟨hU0, hU7, hUr⟩ := hU
      go_simp
      all_goals with_reducible rfl
    simp only [Act.put, List.setIfInBounds_toArray, List.set_cons_zero, List.set_cons_succ]
    refine wpAnyH_take (i := 2) (oi := { dst := some 16, op := _, type := _, pos := _, after := _, guard := none }) (v := ?_) rfl (by kernel_rfl) (by kernel_rfl) (by kernel_rfl) (fun _ _ _ h => h) (Or.inl ⟨by rfl, ?_⟩) hS ?_
    rotate_left
    · intro U hU
      obtain ⟨hU0, hU7, hUr⟩ := hU
      go_simp
      all_goals with_reducible rfl
    simp only [Act.put, List.setIfInBounds_toArray, List.set_cons_zero, List.set_cons_succ]
    refine wpAnyH_take (i := 3) (oi := { dst := some 17, op := _, type := _, pos := _, after := _, guard := none }) (v := ?_) rfl (by kernel_rfl) (by kernel_rfl) (by kernel_rfl) (fun _ _ _ h => h) (Or.inl ⟨by rfl, ?_⟩) hS ?_
    rotate_left
    · intro U hU
      obtain ⟨hU0, hU7, hUr⟩ := hU
      go_simp
      all_goals with_reducible rfl
    simp only [Act.put, List.setIfInBounds_toArray, List.set_cons_zero, List.set_cons_succ]
    refine wpAnyH_take (i := 4) (oi := { dst := some 18, op := _, type := _, pos := _, after := _, guard := none }) (v := ?_) rfl (by kernel_rfl) (by kernel_rfl) (by kernel_rfl) (fun _ _ _ h => h) (Or.inl ⟨by rfl, ?_⟩) hS ?_
    rotate_left
    · intro U hU
      obtain ⟨hU0, hU7, hUr⟩ := hU
      go_simp
      all_goals with_reducible rfl
    simp only [Act.put, List.setIfInBounds_toArray, List.set_cons_zero, List.set_cons_succ]
    refine wpAnyH_take (i := 5) (oi := { dst := some 19, op := _, type := _, pos := _, after := _, guard := none }) (v := ?_) rfl (by kernel_rfl) (by kernel_rfl) (by kernel_rfl) (fun _ _ _ h => h) (Or.inl ⟨by rfl, ?_⟩) hS ?_
    rotate_left
    · intro U hU
      obtain ⟨hU0, hU7, hUr⟩ := hU
      go_simp
      rw [if_neg HQ.out.2.2.2]
      all_goals with_reducible rfl
    simp only [Act.put, List.setIfInBounds_toArray, List.set_cons_zero, List.set_cons_succ]
    simp only [HQ.out.2.1]
    refine wpAnyH_take (i := 6) (oi := { dst := some 20, op := _, type := _, pos := _, after := _, guard := none }) (v := ?_) rfl (by kernel_rfl) (by kernel_rfl) (by kernel_rfl) (fun _ _ _ h => h) (Or.inl ⟨by rfl, ?_⟩) hS ?_
    rotate_left
    · intro U hU
      obtain ⟨hU0, hU7, hUr⟩ := hU
      go_simp
      all_goals with_reducible rfl
    simp only [Act.put, List.setIfInBounds_toArray, List.set_cons_zero, List.set_cons_succ]
    refine wpAnyH_take (i := 7) (oi := { dst := some 21, op := _, type := _, pos := _, after := _, guard := none }) (v := ?_) rfl (by kernel_rfl) (by kernel_rfl) (by kernel_rfl) (fun _ _ _ h => h) (Or.inl ⟨by rfl, ?_⟩) hS ?_
    rotate_left
    · intro U hU
      obtain ⟨hU0, hU7, hUr⟩ := hU
      go_simp
      all_goals with_reducible rfl
    simp only [Act.put, List.setIfInBounds_toArray, List.set_cons_zero, List.set_cons_succ]
    refine wpAnyH_take (i := 8) (oi := { dst := some 22, op := _, type := _, pos := _, after := _, guard := none }) (v := ?_) rfl (by kernel_rfl) (by kernel_rfl) (by kernel_rfl) (fun _ _ _ h => h) (Or.inl ⟨by rfl, ?_⟩) hS ?_
    rotate_left
    · intro U hU
      obtain ⟨hU0, hU7, hUr⟩ := hU
      go_simp
      all_goals with_reducible rfl
    simp only [Act.put, List.setIfInBounds_toArray, List.set_cons_zero, List.set_cons_succ]
    refine wpAnyH_take (i := 9) (oi := { dst := some 23, op := _, type := _, pos := _, after := _, guard := none }) (v := ?_) rfl (by kernel_rfl) (by kernel_rfl) (by kernel_rfl) (fun _ _ _ h => h) (Or.inl ⟨by rfl, ?_⟩) hS ?_
    rotate_left
    · intro U hU
      obtain ⟨hU0, hU7, hUr⟩ := hU
      go_simp
      all_goals with_reducible rfl
    simp only [Act.put, List.setIfInBounds_toArray, List.set_cons_zero, List.set_cons_succ]
    refine wpAnyH_take (i := 10) (oi := { dst := some 24, op := _, type := _, pos := _, after := _, guard := none }) (v := ?_) rfl (by kernel_rfl) (by kernel_rfl) (by kernel_rfl) (fun _ _ _ h => h) (Or.inl ⟨by rfl, ?_⟩) hS ?_
    rotate_left
    · intro U hU
      obtain ⟨hU0, hU7, hUr⟩ := hU
      go_simp
      all_goals with_reducible rfl
    simp only [Act.put, List.setIfInBounds_toArray, List.set_cons_zero, List.set_cons_succ]
    refine wpAnyH_take (i := 11) (oi := { dst := some 25, op := _, type := _, pos := _, after := _, guard := none }) (v := ?_) rfl (by kernel_rfl) (by kernel_rfl) (by kernel_rfl) (fun _ _ _ h => h) (Or.inl ⟨by rfl, ?_⟩) hS ?_
    rotate_left
    · intro U hU
      obtain ⟨hU0, hU7, hUr⟩ := hU
      go_simp
      all_goals with_reducible rfl
    simp only [Act.put, List.setIfInBounds_toArray, List.set_cons_zero, List.set_cons_succ]
    refine wpAnyH_take (i := 12) (oi := { dst := some 26, op := _, type := _, pos := _, after := _, guard := none }) (v := ?_) rfl (by kernel_rfl) (by kernel_rfl) (by kernel_rfl) (fun _ _ _ h => h) (Or.inl ⟨by rfl, ?_⟩) hS ?_
    rotate_left
    · intro U hU
      obtain ⟨hU0, hU7, hUr⟩ := hU
      go_simp
      all_goals with_reducible rfl
    simp only [Act.put, List.setIfInBounds_toArray, List.set_cons_zero, List.set_cons_succ]
    refine wpAnyH_take (i := 13) (oi := { dst := some 27, op := _, type := _, pos := _, after := _, guard := none }) (v := ?_) rfl (by kernel_rfl) (by kernel_rfl) (by kernel_rfl) (fun _ _ _ h => h) (Or.inl ⟨by rfl, ?_⟩) hS ?_
    rotate_left
    · intro U hU
      obtain ⟨hU0, hU7, hUr⟩ := hU
      go_simp
      rw [if_neg HQ.out.1]
      all_goals with_reducible rfl
    simp only [Act.put, List.setIfInBounds_toArray, List.set_cons_zero, List.set_cons_succ]
    simp only [HQ.out.2.2.1]
    refine wpAnyH_take (i := 14) (oi := { dst := some 28, op := _, type := _, pos := _, after := _, guard := none }) (v := ?_) rfl (by kernel_rfl) (by kernel_rfl) (by kernel_rfl) (fun _ _ _ h => h) (Or.inl ⟨by rfl, ?_⟩) hS ?_
    rotate_left
    · intro U hU
      obtain ⟨hU0, hU7, hUr⟩ := hU
      go_simp
      all_goals with_reducible rfl
    simp only [Act.put, List.setIfInBounds_toArray, List.set_cons_zero, List.set_cons_succ]
    refine wpAnyH_take (i := 15) (oi := { dst := some 29, op := _, type := _, pos := _, after := _, guard := none }) (v := ?_) rfl (by kernel_rfl) (by kernel_rfl) (by kernel_rfl) (fun _ _ _ h => h) (Or.inl ⟨by rfl, ?_⟩) hS ?_
    rotate_left
    · intro U hU
      obtain ⟨hU0, hU7, hUr⟩ := hU
      go_simp
      all_goals with_reducible rfl
    simp only [Act.put, List.setIfInBounds_toArray, List.set_cons_zero, List.set_cons_succ]
    have hcjd : w.drew.cell? ⟨g, j, none⟩ = some (.int .i64 (at0 (tabR rows i) j)) := hcj2
    have hfzd : w.drew.frozen? ⟨g, j, none⟩ = false := hfz2
    have hgd : g < w.drew.heap.size := hgl
    refine wpAnyH_one (i := 16) (o := { dst := none, op := _, type := _, pos := _, after := _, guard := none }) (by kernel_rfl) rfl (by rfl) (fun K1 hK1 => ?_)
    have HK1 := Lib.hid hK1; clear hK1
    go_simp
    have hbg : bo ≠ g := by omega
    have h7g : n7 ≠ g := by omega
    refine HK1.out _ _ ⟨(World.cell?_of_block (w := w) (heap_set_other hbg)).trans co, (World.cell?_of_block (w := w) (heap_set_other h7g)).trans c7, (World.cell?_of_block (w := w) (heap_set_other (fun e => hgne e.symm))).trans hc0⟩ ?_
    clear HK1 K1
    refine wpAnyH_done (by kernel_rfl) ?_ _
    have hB9 : Below B w ((w.setCell ⟨g, j, none⟩ (.int .i64 (n % 8))).drew) := ((Below.refl _ w).setCell (p := ⟨g, j, none⟩) hg _).drew
    have hT9 := HH.out.1.below (Below.refl _ _).drew
    clear hS
    go_end0
    exact ⟨rfl, by rw [HX2.out]; exact hT9, hB9⟩
end Ytndmjginmomfiaa
end Go.Proofs
