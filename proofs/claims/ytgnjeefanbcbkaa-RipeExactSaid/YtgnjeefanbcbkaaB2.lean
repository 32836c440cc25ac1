/- Fields: the lows and the highs of a field. -/
import Derived.Test.YtgnjeefanbcbkaaB1
open Go Go.RowKit Go.YtgnjeefanbcbkaaIt
namespace Go.Proofs
namespace Ytgnjeefanbcbkaa
/-- A year that is being filled: c weeks are done. -/
structure YB (W : World) (b n c : Nat) (L H : Nat → Int) : Prop where
  ex : ∃ cs : Array Value, W.heap[b]? = some (.cells cs 115 (0, 0)) ∧ cs.size = 61 ∧ cs[0]? = some (.int .i64 (n : Int)) ∧ ∀ w, w < c → cs[1 + w]? = some (.int .i64 (L w)) ∧ cs[31 + w]? = some (.int .i64 (H w))
theorem YB.yr {W : World} {b n : Nat} {L H : Nat → Int} (h : YB W b n n L H) : Yr W b n L H := by
  obtain ⟨cs, h1, h2, h3, h4⟩ := h.ex
  exact ⟨by rw [cell_blk h1]; exact h3, fun w hw => by rw [cell_blk h1]; exact (h4 w hw).1, fun w hw => by rw [cell_blk h1]; exact (h4 w hw).2, lt_blk h1⟩
theorem YB.keep {W W' : World} {b n c : Nat} {L H : Nat → Int} (h : YB W b n c L H) (hb : W'.heap[b]? = W.heap[b]?) : YB W' b n c L H := by
  obtain ⟨cs, h1, h2⟩ := h.ex
  exact ⟨cs, hb.trans h1, h2⟩
theorem YB.setL {W : World} {b n wn : Nat} {L H : Nat → Int} {x : Int} (h : YB W b n n L H) (hn : n ≤ 30) (hw : wn < n) : YB (W.setCell ⟨b, 1 + wn, none⟩ (.int .i64 x)) b n n (fun w => if w = wn then x else L w) H := by
  obtain ⟨cs, h1, h2, h3, h4⟩ := h.ex
  refine ⟨⟨_, heap_set_blk h1, by simp [h2], ?_, fun w hw' => ?_⟩⟩
  · rw [Array.getElem?_setIfInBounds_ne (by omega)]; exact h3
  · obtain ⟨q1, q2⟩ := h4 w hw'
    refine ⟨?_, by rw [Array.getElem?_setIfInBounds_ne (by omega)]; exact q2⟩
    by_cases e : w = wn
    · subst e; rw [Array.getElem?_setIfInBounds_self_of_lt (by omega)]; simp
    · rw [Array.getElem?_setIfInBounds_ne (by omega), if_neg e]; exact q1
theorem YB.setH {W : World} {b n wn : Nat} {L H : Nat → Int} {x : Int} (h : YB W b n n L H) (hn : n ≤ 30) (hw : wn < n) : YB (W.setCell ⟨b, 31 + wn, none⟩ (.int .i64 x)) b n n L (fun w => if w = wn then x else H w) := by
  obtain ⟨cs, h1, h2, h3, h4⟩ := h.ex
  refine ⟨⟨_, heap_set_blk h1, by simp [h2], ?_, fun w hw' => ?_⟩⟩
  · rw [Array.getElem?_setIfInBounds_ne (by omega)]; exact h3
  · obtain ⟨q1, q2⟩ := h4 w hw'
    refine ⟨by rw [Array.getElem?_setIfInBounds_ne (by omega)]; exact q1, ?_⟩
    by_cases e : w = wn
    · subst e; rw [Array.getElem?_setIfInBounds_self_of_lt (by omega)]; simp
    · rw [Array.getElem?_setIfInBounds_ne (by omega), if_neg e]; exact q2
theorem YB.free {W : World} {b n c : Nat} {L H : Nat → Int} (h : YB W b n c L H) (i : Nat) : W.frozen? ⟨b, i, none⟩ = false := by
  obtain ⟨cs, h1, -⟩ := h.ex
  exact free_blk h1
theorem wpStill_min {P : Program} {ops : Array Oper} {w : World} {Q : Act → Prop} {a : Act} {o : Oper} {rest : List Oper} (hw : Region.wanted o (yielded ops a.tmps) = true) (x y : Operand) (ats : Array TypeId)
    (ho : o.op = .call { callee := .builtin .min, args := #[x, y], argTypes := ats }) {k : IntKind} {m n : Int} (hx : a.eval x = .int k m) (hy : a.eval y = .int k n)
    (h : wpStill P ops w Q rest (a.put o.dst (.int k (min m n)))) : wpStill P ops w Q (o :: rest) a := by
  have hr : (execOp a.eval o).run P w = .ok (.value (.int k (min m n))) w := by
    unfold execOp
    simp only [ho, resolve, invoke, builtin, Sem.run_bind, Sem.run_pure, Result.andThen_ok, List.map_toArray, List.map_cons, List.map_nil, hx, hy]
    have e : (if n < m then n else m) = min m n := by rw [Int.min_def]; split <;> split <;> omega
    simp [Builtin.min_, Builtin.min2, go_sem, e]
  refine wpStill_step fun K hK => ?_
  rw [if_pos hw]
  unfold Oper.still
  rw [hr]
  exact ⟨rfl, hK _ h⟩
set_option maxRecDepth 100000 in
set_option maxHeartbeats 4000000 in
theorem year_any (n : Nat) (lo hi : Int) (v : Value) (ss : List Smp) (w : World) (hV : Val n lo hi ss) (hv : SlS w v ss) :
    Calls Try.prog 53 #[.agg #[.int .i64 (n : Int), .int .i64 lo, .int .i64 hi, v]] w fun e w' => ∃ b, e = .returned (.pointer (some ⟨b, 0, none⟩)) ∧ Yr w' b n (lowAt lo ss) (highAt hi ss) ∧ Below w.heap.size w w' ∧ w.heap.size ≤ b := by
  have HV := Lib.hid hv
  obtain ⟨ad, cap, rfl, hm, hcp, hc⟩ := hv
  go_enter Try.func53, Try.ntmps53
  refine wp_seq_k (fun K hK => ?_)
  have HK := Lib.hid hK; clear hK
  go_wp2
  refine HK.out _ _ ?_; clear HK K
  generalize hw1 : World.alloc _ _ = w1
  obtain ⟨b1, hB, hs1⟩ := blk1 hw1
  clear hw1
  have c0 := cell_blk (i := 0) b1
  simp only [List.getElem?_toArray, List.getElem?_cons_zero] at c0
  refine wp_seq_k (fun K hK => ?_)
  have HK := Lib.hid hK; clear hK
  go_wp2
  refine HK.out _ _ ?_; clear HK K
  generalize hw3 : World.alloc _ _ = w3
  obtain ⟨b3, hB3, hs3⟩ := blk1 hw3
  clear hw3
  replace b1 := blk_keep b1 hB3
  replace hB := btr hB hB3 (Nat.le_refl _)
  have hlt13 : w.heap.size < w1.heap.size := hs1
  have hY0 : YB w3 w1.heap.size n 0 (fun _ => lo) (fun _ => hi) := ⟨⟨_, b3, rfl, rfl, fun w hw => absurd hw (Nat.not_lt_zero _)⟩⟩
  generalize hp : w1.heap.size = p at *
  clear b3 hB3 hs1 hs3 c0 hp w1
  have hn30 := hV.n30
  have c0 := cell_blk (i := 0) b1
  simp only [List.getElem?_toArray, List.getElem?_cons_zero] at c0
  go_wp2
  clear c0
  have hBm0 := hB
  go_loopw [13] (fun i wr => ∃ k : Nat, k ≤ n ∧ i = .int .i64 k ∧ wr.heap[w.heap.size]? = some (.cells #[.int .i64 (n : Int), .int .i64 lo, .int .i64 hi, .slice ad ss.length cap] 26 (0, 0)) ∧ YB wr p n k (fun _ => lo) (fun _ => hi) ∧ Below w.heap.size w wr) (fun i _ => n - (intOf i).toNat)
  case atStart => exact ⟨0, Nat.zero_le _, rfl, b1, hY0, hB⟩
  case round =>
    clear b1 hY0 hB hBm0
    obtain ⟨k, hk, rfl, b1, hY, hB⟩ := hrel
    by_cases hkn : k < n
    · obtain ⟨cs, y1, y2, y3, y4⟩ := hY.ex
      have hk30 : (k : Int) < 30 := by omega
      have hk0 : (0 : Int) ≤ (k : Int) := by omega
      have HY4 := Lib.hid y4
      have HY3 := Lib.hid y3
      clear y4 y3 hY
      go_wp2
      rename_i K2 hK2
      have HK2 := Lib.hid hK2; clear hK2
      have hS0 : wr.drew.heap[w.heap.size]? = some (.cells #[.int .i64 (n : Int), .int .i64 lo, .int .i64 hi, .slice ad ss.length cap] 26 (0, 0)) := b1
      refine wp_region_held (S := fun U => U.heap[w.heap.size]? = some (.cells #[.int .i64 (n : Int), .int .i64 lo, .int .i64 hi, .slice ad ss.length cap] 26 (0, 0))) (by kernel_rfl) ?_
      change wpAnyH _ _ _ _ _ _ _ _ (World.drew wr)
      replace y1 : wr.drew.heap[p]? = some (.cells cs 115 (0, 0)) := y1
      replace hB := hB.drew
      generalize World.drew wr = wq at *
      refine wpAnyH_take (i := 0) (oi := { dst := some 16, op := _, type := _, pos := _, after := _, guard := none }) (v := ?_) rfl (by kernel_rfl) (by kernel_rfl) (by kernel_rfl) (fun _ _ _ h => h) (Or.inl ⟨by rfl, ?_⟩) (by first | exact hS0 | assumption) ?_
      rotate_left
      · intro U hU
        go_simp
        all_goals with_reducible rfl
      simp only [Act.put, List.setIfInBounds_toArray, List.set_cons_zero, List.set_cons_succ]
      refine wpAnyH_take (i := 1) (oi := { dst := some 17, op := _, type := _, pos := _, after := _, guard := none }) (v := ?_) rfl (by kernel_rfl) (by kernel_rfl) (by kernel_rfl) (fun _ _ _ h => h) (Or.inl ⟨by rfl, ?_⟩) (by first | exact hS0 | assumption) ?_
      rotate_left
      · intro U hU
        go_simp
        all_goals with_reducible rfl
      simp only [Act.put, List.setIfInBounds_toArray, List.set_cons_zero, List.set_cons_succ]
      refine wpAnyH_take (i := 2) (oi := { dst := some 18, op := _, type := _, pos := _, after := _, guard := none }) (v := ?_) rfl (by kernel_rfl) (by kernel_rfl) (by kernel_rfl) (fun _ _ _ h => h) (Or.inl ⟨by rfl, ?_⟩) (by first | exact hS0 | assumption) ?_
      rotate_left
      · intro U hU
        go_simp
        all_goals with_reducible rfl
      simp only [Act.put, List.setIfInBounds_toArray, List.set_cons_zero, List.set_cons_succ]
      refine wpAnyH_take (i := 3) (oi := { dst := some 19, op := _, type := _, pos := _, after := _, guard := none }) (v := ?_) rfl (by kernel_rfl) (by kernel_rfl) (by kernel_rfl) (fun _ _ _ h => h) (Or.inl ⟨by rfl, ?_⟩) (by first | exact hS0 | assumption) ?_
      rotate_left
      · intro U hU
        go_simp
        all_goals with_reducible rfl
      simp only [Act.put, List.setIfInBounds_toArray, List.set_cons_zero, List.set_cons_succ]
      refine wpAnyH_take (i := 4) (oi := { dst := some 20, op := _, type := _, pos := _, after := _, guard := none }) (v := ?_) rfl (by kernel_rfl) (by kernel_rfl) (by kernel_rfl) (fun _ _ _ h => h) (Or.inl ⟨by rfl, ?_⟩) (by first | exact hS0 | assumption) ?_
      rotate_left
      · intro U hU
        go_simp
        all_goals with_reducible rfl
      simp only [Act.put, List.setIfInBounds_toArray, List.set_cons_zero, List.set_cons_succ]
      refine wpAnyH_take (i := 5) (oi := { dst := some 21, op := _, type := _, pos := _, after := _, guard := none }) (v := ?_) rfl (by kernel_rfl) (by kernel_rfl) (by kernel_rfl) (fun _ _ _ h => h) (Or.inl ⟨by rfl, ?_⟩) (by first | exact hS0 | assumption) ?_
      rotate_left
      · intro U hU
        go_simp
        all_goals with_reducible rfl
      simp only [Act.put, List.setIfInBounds_toArray, List.set_cons_zero, List.set_cons_succ]
      refine wpAnyH_take (i := 6) (oi := { dst := some 22, op := _, type := _, pos := _, after := _, guard := none }) (v := ?_) rfl (by kernel_rfl) (by kernel_rfl) (by kernel_rfl) (fun _ _ _ h => h) (Or.inl ⟨by rfl, ?_⟩) (by first | exact hS0 | assumption) ?_
      rotate_left
      · intro U hU
        have u1 := cell_blk (i := 1) hU
        simp only [List.getElem?_toArray, List.getElem?_cons_zero, List.getElem?_cons_succ] at u1
        go_simp
        all_goals with_reducible rfl
      simp only [Act.put, List.setIfInBounds_toArray, List.set_cons_zero, List.set_cons_succ]
      refine wpAnyH_take (i := 7) (oi := { dst := some 23, op := _, type := _, pos := _, after := _, guard := none }) (v := ?_) rfl (by kernel_rfl) (by kernel_rfl) (by kernel_rfl) (fun _ _ _ h => h) (Or.inl ⟨by rfl, ?_⟩) (by first | exact hS0 | assumption) ?_
      rotate_left
      · intro U hU
        go_simp
        all_goals with_reducible rfl
      simp only [Act.put, List.setIfInBounds_toArray, List.set_cons_zero, List.set_cons_succ]
      refine wpAnyH_take (i := 8) (oi := { dst := some 24, op := _, type := _, pos := _, after := _, guard := none }) (v := ?_) rfl (by kernel_rfl) (by kernel_rfl) (by kernel_rfl) (fun _ _ _ h => h) (Or.inl ⟨by rfl, ?_⟩) (by first | exact hS0 | assumption) ?_
      rotate_left
      · intro U hU
        go_simp
        all_goals with_reducible rfl
      simp only [Act.put, List.setIfInBounds_toArray, List.set_cons_zero, List.set_cons_succ]
      refine wpAnyH_take (i := 9) (oi := { dst := some 25, op := _, type := _, pos := _, after := _, guard := none }) (v := ?_) rfl (by kernel_rfl) (by kernel_rfl) (by kernel_rfl) (fun _ _ _ h => h) (Or.inl ⟨by rfl, ?_⟩) (by first | exact hS0 | assumption) ?_
      rotate_left
      · intro U hU
        have u1 := cell_blk (i := 2) hU
        simp only [List.getElem?_toArray, List.getElem?_cons_zero, List.getElem?_cons_succ] at u1
        go_simp
        all_goals with_reducible rfl
      simp only [Act.put, List.setIfInBounds_toArray, List.set_cons_zero, List.set_cons_succ]
      refine wpAnyH_take (i := 10) (oi := { dst := some 26, op := _, type := _, pos := _, after := _, guard := none }) (v := ?_) rfl (by kernel_rfl) (by kernel_rfl) (by kernel_rfl) (fun _ _ _ h => h) (Or.inl ⟨by rfl, ?_⟩) (by first | exact hS0 | assumption) ?_
      rotate_left
      · intro U hU
        go_simp
        all_goals with_reducible rfl
      simp only [Act.put, List.setIfInBounds_toArray, List.set_cons_zero, List.set_cons_succ]
      refine wpAnyH_take (i := 11) (oi := { dst := some 27, op := _, type := _, pos := _, after := _, guard := none }) (v := ?_) rfl (by kernel_rfl) (by kernel_rfl) (by kernel_rfl) (fun _ _ _ h => h) (Or.inl ⟨by rfl, ?_⟩) (by first | exact hS0 | assumption) ?_
      rotate_left
      · intro U hU
        go_simp
        all_goals with_reducible rfl
      simp only [Act.put, List.setIfInBounds_toArray, List.set_cons_zero, List.set_cons_succ]
      refine wpAnyH_take (i := 12) (oi := { dst := some 28, op := _, type := _, pos := _, after := _, guard := none }) (v := ?_) rfl (by kernel_rfl) (by kernel_rfl) (by kernel_rfl) (fun _ _ _ h => h) (Or.inl ⟨by rfl, ?_⟩) (by first | exact hS0 | assumption) ?_
      rotate_left
      · intro U hU
        go_simp
        all_goals with_reducible rfl
      simp only [Act.put, List.setIfInBounds_toArray, List.set_cons_zero, List.set_cons_succ]
      refine wpAnyH_take (i := 14) (oi := { dst := some 29, op := _, type := _, pos := _, after := _, guard := none }) (v := ?_) rfl (by kernel_rfl) (by kernel_rfl) (by kernel_rfl) (fun _ _ _ h => h) (Or.inl ⟨by rfl, ?_⟩) (by first | exact hS0 | assumption) ?_
      rotate_left
      · intro U hU
        go_simp
        all_goals with_reducible rfl
      simp only [Act.put, List.setIfInBounds_toArray, List.set_cons_zero, List.set_cons_succ]
      refine wpAnyH_take (i := 15) (oi := { dst := some 30, op := _, type := _, pos := _, after := _, guard := none }) (v := ?_) rfl (by kernel_rfl) (by kernel_rfl) (by kernel_rfl) (fun _ _ _ h => h) (Or.inl ⟨by rfl, ?_⟩) (by first | exact hS0 | assumption) ?_
      rotate_left
      · intro U hU
        go_simp
        all_goals with_reducible rfl
      simp only [Act.put, List.setIfInBounds_toArray, List.set_cons_zero, List.set_cons_succ]
      have z1 : ∃ u, wq.cell? ⟨p, 1 + k, none⟩ = some u := by rw [cell_blk y1, Array.getElem?_eq_getElem (by omega)]; exact ⟨_, rfl⟩
      obtain ⟨u1, z1⟩ := z1
      have f1 := free_blk (i := 1 + k) y1
      refine wpAnyH_one (i := 13) (by kernel_rfl) rfl (by rfl) (fun K1 hK1 => ?_)
      have HK1 := Lib.hid hK1; clear hK1
      go_simp
      refine HK1.out _ _ ((heap_set_other (by omega)).trans hS0) ?_
      clear HK1 K1
      have y1' := heap_set_blk (i := 1 + k) (v := .int .i64 lo) y1
      have z2 : ∃ u, (wq.setCell ⟨p, 1 + k, none⟩ (.int .i64 lo)).cell? ⟨p, 31 + k, none⟩ = some u := by rw [cell_blk y1', Array.getElem?_eq_getElem (by simp; omega)]; exact ⟨_, rfl⟩
      obtain ⟨u2, z2⟩ := z2
      have f2 := free_blk (i := 31 + k) y1'
      refine wpAnyH_one (i := 16) (by kernel_rfl) rfl (by rfl) (fun K1 hK1 => ?_)
      have HK1 := Lib.hid hK1; clear hK1
      go_simp
      refine HK1.out _ _ ((heap_set_other (by omega)).trans hS0) ?_
      clear HK1 K1
      try simp only [Act.put, List.setIfInBounds_toArray, List.set_cons_zero, List.set_cons_succ]
      refine wpAnyH_one (i := 17) (by kernel_rfl) rfl (by rfl) (fun K1 hK1 => ?_)
      have HK1 := Lib.hid hK1; clear hK1
      go_simp
      refine HK1.out _ _ ((heap_set_other (by omega)).trans ((heap_set_other (by omega)).trans hS0)) ?_
      clear HK1 K1
      refine wpAnyH_done (by kernel_rfl) ?_ _
      have y1'' := heap_set_blk (i := 31 + k) (v := .int .i64 hi) y1'
      have hbn : ((wq.setCell ⟨p, 1 + k, none⟩ (.int .i64 lo)).setCell ⟨p, 31 + k, none⟩ (.int .i64 hi)).heap[w.heap.size]? = some (.cells #[.int .i64 (n : Int), .int .i64 lo, .int .i64 hi, .slice ad ss.length cap] 26 (0, 0)) := (heap_set_other (by omega)).trans ((heap_set_other (by omega)).trans hS0)
      have hYn : YB ((wq.setCell ⟨p, 1 + k, none⟩ (.int .i64 lo)).setCell ⟨p, 31 + k, none⟩ (.int .i64 hi)) p n (k + 1) (fun _ => lo) (fun _ => hi) := by
        refine ⟨⟨_, y1'', by simp [y2], ?_, fun w hw => ?_⟩⟩
        · rw [Array.getElem?_setIfInBounds_ne (by omega), Array.getElem?_setIfInBounds_ne (by omega)]; exact HY3.out
        · by_cases hwk : w = k
          · subst hwk
            refine ⟨?_, ?_⟩
            · rw [Array.getElem?_setIfInBounds_ne (by omega), Array.getElem?_setIfInBounds_self_of_lt (by omega)]
            · rw [Array.getElem?_setIfInBounds_self_of_lt (by simp; omega)]
          · obtain ⟨q1, q2⟩ := HY4.out w (by omega)
            refine ⟨?_, ?_⟩
            · rw [Array.getElem?_setIfInBounds_ne (by omega), Array.getElem?_setIfInBounds_ne (by omega)]; exact q1
            · rw [Array.getElem?_setIfInBounds_ne (by omega), Array.getElem?_setIfInBounds_ne (by omega)]; exact q2
      have hBn := (hB.setCell (p := ⟨p, 1 + k, none⟩) (by simp; omega) (.int .i64 lo)).setCell (p := ⟨p, 31 + k, none⟩) (by simp; omega) (.int .i64 hi)
      generalize World.setCell _ _ _ = wn at *
      clear y1 y1' y1'' z1 z2 f1 f2 hS0 hB HY3 HY4 b1
      show K2 _ _
      refine HK2.out _ _ ?_
      clear HK2 K2
      go_wp2
      go_roundw
      case rel => exact ⟨k + 1, by omega, by go_num, hbn, hYn, hBn⟩
      case measure => simp [intOf]; omega
    · have hkn' : k = n := by omega
      subst hkn'
      have c3 := cell_blk (i := 3) b1
      simp only [List.getElem?_toArray, List.getElem?_cons_zero, List.getElem?_cons_succ] at c3
      have hY0 : YB wr p k k (lowAt lo (ss.take 0)) (highAt hi (ss.take 0)) := hY
      have hp0 : w.heap.size < p := hlt13
      have HVAL := Lib.hid hV
      clear hY hV
      go_wp2
      clear c3
      go_loopw [36] (fun i wr => ∃ j : Nat, j ≤ ss.length ∧ i = .int .i64 j ∧ wr.heap[w.heap.size]? = some (.cells #[.int .i64 (k : Int), .int .i64 lo, .int .i64 hi, .slice ad ss.length cap] 26 (0, 0)) ∧ YB wr p k k (lowAt lo (ss.take j)) (highAt hi (ss.take j)) ∧ Below w.heap.size w wr) (fun i _ => ss.length - (intOf i).toNat)
      case atStart => exact ⟨0, Nat.zero_le _, rfl, b1, hY0, hB⟩
      case round =>
        clear b1 hY0 hB
        obtain ⟨j, hj, rfl, b1, hY, hB⟩ := hrel
        by_cases hjl : j < ss.length
        · obtain ⟨bs, off, rfl, hlt, hcell⟩ := hc (by omega)
          obtain ⟨p0, p1, p2⟩ := s_cells hcell (n := j) hjl rfl
          have r0 := (hB.cell (p := ⟨bs, off + j * 3, none⟩) hlt).trans p0
          have r1 := (hB.cell (p := ⟨bs, off + j * 3 + 1, none⟩) hlt).trans p1
          have r2 := (hB.cell (p := ⟨bs, off + j * 3 + 2, none⟩) hlt).trans p2
          have hok := HVAL.out.ok j hjl
          have hlp : ∀ x, lowAt lo (ss.take (j + 1)) x = if (at_ ss j).week = (x : Int) then max (lowAt lo (ss.take j) x) ((at_ ss j).val - (at_ ss j).off) else lowAt lo (ss.take j) x := fun x => by rw [List.take_succ_eq_append_getElem hjl, low_push, at_lt hjl]
          have hhp : ∀ x, highAt hi (ss.take (j + 1)) x = if (at_ ss j).week = (x : Int) then min (highAt hi (ss.take j) x) ((at_ ss j).val + (at_ ss j).off) else highAt hi (ss.take j) x := fun x => by rw [List.take_succ_eq_append_getElem hjl, high_push, at_lt hjl]
          clear hcell hc p0 p1 p2
          generalize (at_ ss j).val = x1 at *
          generalize (at_ ss j).off = x2 at *
          generalize (at_ ss j).week = x0 at *
          obtain ⟨wn, rfl⟩ := Int.eq_ofNat_of_zero_le hok.1.1
          have hwk : wn < k := by omega
          have HLP := Lib.hid hlp
          have HHP := Lib.hid hhp
          clear hlp hhp
          have HY := Lib.hid hY
          clear hY
          generalize lowAt lo (ss.take j) = L at *
          generalize highAt hi (ss.take j) = H at *
          have hw1 : IntKind.i64.wrap (x1 - x2) = x1 - x2 := by rw [IntKind.wrap_i64]; omega
          have hw2 : IntKind.i64.wrap (x1 + x2) = x1 + x2 := by rw [IntKind.wrap_i64]; omega
          have hw30 : (wn : Int) < 30 := by omega
          have hw0 : (0 : Int) ≤ (wn : Int) := by omega
          go_wp2
          rename_i K2 hK2
          have HK2 := Lib.hid hK2; clear hK2
          generalize hwa : World.alloc _ _ = wa
          obtain ⟨b6, hBa, hsa⟩ := blk1 hwa
          clear hwa r0 r1 r2
          replace b1 := blk_keep b1 hBa
          have hBB := btr hB hBa (Nat.le_refl _)
          have hp : p < wr.heap.size := HY.out.yr.lt
          have HY2 : Hid (YB wa p k k L H) := Lib.hid (HY.out.keep (hBa.block p hp))
          have hne6 : wr.heap.size ≠ p := by omega
          clear HY hB hBa hsa
          generalize wr.heap.size = p6 at *
          have s0 := cell_blk (i := 0) b6
          have s1 := cell_blk (i := 1) b6
          have s2 := cell_blk (i := 2) b6
          simp only [List.getElem?_toArray, List.getElem?_cons_zero, List.getElem?_cons_succ] at s0 s1 s2
          have yl := HY2.out.yr.lo wn hwk
          refine wp_region_still_tail 19 (by kernel_rfl) (by kernel_rfl) ?_
          simp only [List.take_succ_cons, List.take_zero, List.drop_succ_cons, List.drop_zero]
          change wpStill _ _ (World.drew wa) _ _ _
          repeat (first | (refine wpStill_max rfl (.tmp 49) (.tmp 54) _ rfl rfl rfl ?_) | still_step)
          refine wpStill_nil ?_
          change wpList _ _ _ _ _ (World.drew wa)
          replace b1 : (World.drew wa).heap[w.heap.size]? = _ := b1
          replace b6 : (World.drew wa).heap[p6]? = _ := b6
          replace s0 : (World.drew wa).cell? _ = _ := s0
          replace s1 : (World.drew wa).cell? _ = _ := s1
          replace s2 : (World.drew wa).cell? _ = _ := s2
          replace yl : (World.drew wa).cell? _ = _ := yl
          replace HY2 : Hid (YB (World.drew wa) p k k L H) := Lib.hid (HY2.out.keep rfl)
          replace hBB := hBB.drew
          generalize World.drew wa = wa at *
          have yf := HY2.out.free (1 + wn)
          go_wp2
          refine HK2.out _ _ ?_; clear HK2 K2
          have HY3 : Hid (YB (wa.setCell ⟨p, 1 + wn, none⟩ (.int .i64 (max (L wn) (x1 - x2)))) p k k (fun w => if w = wn then max (L wn) (x1 - x2) else L w) H) := Lib.hid (HY2.out.setL hn30 hwk)
          replace b1 := (heap_set_other (v := Value.int .i64 (max (L wn) (x1 - x2))) (i := 1 + wn) (show w.heap.size ≠ p by omega)).trans b1
          replace b6 := (heap_set_other (v := Value.int .i64 (max (L wn) (x1 - x2))) (i := 1 + wn) hne6).trans b6
          replace hBB := hBB.setCell (p := ⟨p, 1 + wn, none⟩) (by simp; omega) (.int .i64 (max (L wn) (x1 - x2)))
          clear s0 s1 s2 yl yf HY2
          generalize wa.setCell ⟨p, 1 + wn, none⟩ (.int .i64 (max (L wn) (x1 - x2))) = wb at *
          have s0 := cell_blk (i := 0) b6
          have s1 := cell_blk (i := 1) b6
          have s2 := cell_blk (i := 2) b6
          simp only [List.getElem?_toArray, List.getElem?_cons_zero, List.getElem?_cons_succ] at s0 s1 s2
          have yl := HY3.out.yr.hi wn hwk
          refine wp_region_still_tail 19 (by kernel_rfl) (by kernel_rfl) ?_
          simp only [List.take_succ_cons, List.take_zero, List.drop_succ_cons, List.drop_zero]
          change wpStill _ _ (World.drew wb) _ _ _
          repeat (first | (refine wpStill_min rfl (.tmp 68) (.tmp 73) _ rfl rfl rfl ?_) | still_step)
          refine wpStill_nil ?_
          change wpList _ _ _ _ _ (World.drew wb)
          replace b1 : (World.drew wb).heap[w.heap.size]? = _ := b1
          replace b6 : (World.drew wb).heap[p6]? = _ := b6
          replace s0 : (World.drew wb).cell? _ = _ := s0
          replace s1 : (World.drew wb).cell? _ = _ := s1
          replace s2 : (World.drew wb).cell? _ = _ := s2
          replace yl : (World.drew wb).cell? _ = _ := yl
          replace HY3 : Hid (YB (World.drew wb) p k k (fun w => if w = wn then max (L wn) (x1 - x2) else L w) H) := Lib.hid (HY3.out.keep rfl)
          replace hBB := hBB.drew
          generalize World.drew wb = wb at *
          have yf := HY3.out.free (31 + wn)
          have eL : lowAt lo (ss.take (j + 1)) = fun w => if w = wn then max (L wn) (x1 - x2) else L w := funext fun x => by
            rw [HLP.out x]
            by_cases e : x = wn
            · subst e; simp
            · rw [if_neg e, if_neg (by omega)]
          have eH : highAt hi (ss.take (j + 1)) = fun w => if w = wn then min (H wn) (x1 + x2) else H w := funext fun x => by
            rw [HHP.out x]
            by_cases e : x = wn
            · subst e; simp
            · rw [if_neg e, if_neg (by omega)]
          have HY4 : YB (wb.setCell ⟨p, 31 + wn, none⟩ (.int .i64 (min (H wn) (x1 + x2)))) p k k (lowAt lo (ss.take (j + 1))) (highAt hi (ss.take (j + 1))) := by
            rw [eL, eH]; exact HY3.out.setH hn30 hwk
          have b14 := (heap_set_other (v := Value.int .i64 (min (H wn) (x1 + x2))) (i := 31 + wn) (show w.heap.size ≠ p by omega)).trans b1
          have hBB4 := hBB.setCell (p := ⟨p, 31 + wn, none⟩) (by simp; omega) (.int .i64 (min (H wn) (x1 + x2)))
          clear eL eH HLP HHP HY3 b1 hBB b6 s0 s1 s2
          go_wp2
          go_roundw
          case rel => exact ⟨j + 1, by omega, by go_num, b14, HY4, hBB4⟩
          case measure => simp [intOf]; omega
        · have hje : j = ss.length := by omega
          subst hje
          rw [List.take_length] at hY
          clear hc hcp hm
          go_wp2
          go_ret
          exact ⟨p, rfl, hY.yr, hB, by omega⟩
end Ytgnjeefanbcbkaa
end Go.Proofs
