/- Fields, outright: a season takes one more truth. -/
import Derived.Test.YtgnjeefanbcbkaaE10
import Derived.Test.YtgnjeefanbcbkaaGenL
import Derived.Test.YtgnjeefanbcbkaaL7
import Derived.Great.Walk
open Go Go.RowKit Go.YtgnjeefanbcbkaaIt
namespace Go.Proofs
namespace Ytgnjeefanbcbkaa
/-- A season in memory. -/
def SeaB (W : World) (b : Nat) (s : Sea) : Prop := ∃ cs : Array Value, W.heap[b]? = some (.cells cs 77 (0, 0)) ∧ cs.size = 17 ∧ (∀ w, w < 4 → cs[w]? = some (.int .i64 (s.least w)) ∧ cs[4 + w]? = some (.int .i64 (s.most w)) ∧ cs[8 + w]? = some (.int .i64 (s.loss w)) ∧ cs[12 + w]? = some (.bool (s.peak w))) ∧ cs[16]? = some (.int .i64 (s.count : Int))
theorem SeaB.lt {W : World} {b : Nat} {s : Sea} (h : SeaB W b s) : b < W.heap.size := by
  obtain ⟨cs, h1, -⟩ := h
  exact lt_blk h1
theorem SeaB.free {W : World} {b : Nat} {s : Sea} (h : SeaB W b s) (i : Nat) : W.frozen? ⟨b, i, none⟩ = false := by
  obtain ⟨cs, h1, -⟩ := h
  exact free_blk h1
theorem SeaB.cells {W : World} {b : Nat} {s : Sea} (h : SeaB W b s) {j : Nat} (hj : j < 4) : W.cell? ⟨b, j, none⟩ = some (.int .i64 (s.least j)) ∧ W.cell? ⟨b, 4 + j, none⟩ = some (.int .i64 (s.most j)) ∧ W.cell? ⟨b, 8 + j, none⟩ = some (.int .i64 (s.loss j)) ∧ W.cell? ⟨b, 12 + j, none⟩ = some (.bool (s.peak j)) := by
  obtain ⟨cs, h1, -, h3, -⟩ := h
  obtain ⟨a, b', c, d⟩ := h3 j hj
  exact ⟨(cell_blk h1).trans a, (cell_blk h1).trans b', (cell_blk h1).trans c, (cell_blk h1).trans d⟩
theorem SeaB.cnt {W : World} {b : Nat} {s : Sea} (h : SeaB W b s) : W.cell? ⟨b, 16, none⟩ = some (.int .i64 (s.count : Int)) := by
  obtain ⟨cs, h1, -, -, h4⟩ := h
  exact (cell_blk h1).trans h4
theorem SeaB.setLeast {W : World} {b j : Nat} {s : Sea} {x : Int} (h : SeaB W b s) (hj : j < 4) : SeaB (W.setCell ⟨b, j, none⟩ (.int .i64 x)) b { s with least := fun w => if w = j then x else s.least w } := by
  obtain ⟨cs, h1, h2, h3, h4⟩ := h
  refine ⟨_, heap_set_blk h1, by simp [h2], fun w hw => ?_, ?_⟩
  · obtain ⟨a, b', c, d⟩ := h3 w hw
    refine ⟨?_, by rw [Array.getElem?_setIfInBounds_ne (by omega)]; exact b', by rw [Array.getElem?_setIfInBounds_ne (by omega)]; exact c, by rw [Array.getElem?_setIfInBounds_ne (by omega)]; exact d⟩
    by_cases hwj : w = j
    · subst hwj; simp [Array.getElem?_setIfInBounds, h2]; omega
    · rw [Array.getElem?_setIfInBounds_ne (by omega)]; simp only [if_neg hwj]; exact a
  · rw [Array.getElem?_setIfInBounds_ne (by omega)]; exact h4
theorem SeaB.setMost {W : World} {b j : Nat} {s : Sea} {x : Int} (h : SeaB W b s) (hj : j < 4) : SeaB (W.setCell ⟨b, 4 + j, none⟩ (.int .i64 x)) b { s with most := fun w => if w = j then x else s.most w } := by
  obtain ⟨cs, h1, h2, h3, h4⟩ := h
  refine ⟨_, heap_set_blk h1, by simp [h2], fun w hw => ?_, ?_⟩
  · obtain ⟨a, b', c, d⟩ := h3 w hw
    refine ⟨by rw [Array.getElem?_setIfInBounds_ne (by omega)]; exact a, ?_, by rw [Array.getElem?_setIfInBounds_ne (by omega)]; exact c, by rw [Array.getElem?_setIfInBounds_ne (by omega)]; exact d⟩
    by_cases hwj : w = j
    · subst hwj; simp [Array.getElem?_setIfInBounds, h2]; omega
    · rw [Array.getElem?_setIfInBounds_ne (by omega)]; simp only [if_neg hwj]; exact b'
  · rw [Array.getElem?_setIfInBounds_ne (by omega)]; exact h4
theorem SeaB.setLoss {W : World} {b j : Nat} {s : Sea} {x : Int} (h : SeaB W b s) (hj : j < 4) : SeaB (W.setCell ⟨b, 8 + j, none⟩ (.int .i64 x)) b { s with loss := fun w => if w = j then x else s.loss w } := by
  obtain ⟨cs, h1, h2, h3, h4⟩ := h
  refine ⟨_, heap_set_blk h1, by simp [h2], fun w hw => ?_, ?_⟩
  · obtain ⟨a, b', c, d⟩ := h3 w hw
    refine ⟨by rw [Array.getElem?_setIfInBounds_ne (by omega)]; exact a, by rw [Array.getElem?_setIfInBounds_ne (by omega)]; exact b', ?_, by rw [Array.getElem?_setIfInBounds_ne (by omega)]; exact d⟩
    by_cases hwj : w = j
    · subst hwj; simp [Array.getElem?_setIfInBounds, h2]; omega
    · rw [Array.getElem?_setIfInBounds_ne (by omega)]; simp only [if_neg hwj]; exact c
  · rw [Array.getElem?_setIfInBounds_ne (by omega)]; exact h4
theorem SeaB.setPeak {W : World} {b j : Nat} {s : Sea} {x : Bool} (h : SeaB W b s) (hj : j < 4) : SeaB (W.setCell ⟨b, 12 + j, none⟩ (.bool x)) b { s with peak := fun w => if w = j then x else s.peak w } := by
  obtain ⟨cs, h1, h2, h3, h4⟩ := h
  refine ⟨_, heap_set_blk h1, by simp [h2], fun w hw => ?_, ?_⟩
  · obtain ⟨a, b', c, d⟩ := h3 w hw
    refine ⟨by rw [Array.getElem?_setIfInBounds_ne (by omega)]; exact a, by rw [Array.getElem?_setIfInBounds_ne (by omega)]; exact b', by rw [Array.getElem?_setIfInBounds_ne (by omega)]; exact c, ?_⟩
    by_cases hwj : w = j
    · subst hwj; simp [Array.getElem?_setIfInBounds, h2]; omega
    · rw [Array.getElem?_setIfInBounds_ne (by omega)]; simp only [if_neg hwj]; exact d
  · rw [Array.getElem?_setIfInBounds_ne (by omega)]; exact h4
theorem SeaB.setCount {W : World} {b : Nat} {s : Sea} {c : Nat} (h : SeaB W b s) : SeaB (W.setCell ⟨b, 16, none⟩ (.int .i64 (c : Int))) b { s with count := c } := by
  obtain ⟨cs, h1, h2, h3, h4⟩ := h
  refine ⟨_, heap_set_blk h1, by simp [h2], fun w hw => ?_, ?_⟩
  · obtain ⟨a, b', c, d⟩ := h3 w hw
    exact ⟨by rw [Array.getElem?_setIfInBounds_ne (by omega)]; exact a, by rw [Array.getElem?_setIfInBounds_ne (by omega)]; exact b', by rw [Array.getElem?_setIfInBounds_ne (by omega)]; exact c, by rw [Array.getElem?_setIfInBounds_ne (by omega)]; exact d⟩
  · simp [h2]
/-- The first j weeks of one more truth. -/
def addP (s : Sea) (l : List Int) (j : Nat) : Sea :=
  ⟨fun w => if w < j then min (if s.count = 0 then at0 l w else s.least w) (at0 l w) else s.least w,
   fun w => if w < j then max (if s.count = 0 then at0 l w else s.most w) (at0 l w) else s.most w,
   fun w => if w < j then max (s.loss w) (topI l - at0 l w) else s.loss w,
   fun w => if w < j then s.peak w || decide (at0 l w = topI l) else s.peak w, s.count⟩
theorem addP_zero (s : Sea) (l : List Int) : addP s l 0 = s := by simp [addP]
theorem addP_all (s : Sea) (l : List Int) : { addP s l l.length with count := s.count + 1 } = addS s l := rfl
theorem topI_push (l : List Int) (x : Int) : topI (l ++ [x]) = max (topI l) x := by simp [topI]
theorem topI_take (l : List Int) {k : Nat} (hk : k < l.length) : topI (l.take (k + 1)) = max (topI (l.take k)) (at0 l k) := by
  rw [List.take_succ_eq_append_getElem hk, topI_push, at0_lt hk]
theorem bm_setC {b B i : Nat} {w W : World} {v : Value} (h : Bm b B w W) : Bm b B w (W.setCell ⟨b, i, none⟩ v) :=
  ⟨h.os, h.tape, h.output, by rw [World.size_setCell]; exact h.size, fun i hi hne => (heap_set_other hne).trans (h.block i hi hne)⟩
theorem bm_drewC {b B : Nat} {w W : World} (h : Bm b B w W) : Bm b B w W.drew := ⟨h.os, h.tape, h.output, h.size, h.block⟩
theorem SeaB.congr {W : World} {b : Nat} {s s' : Sea} (h : SeaB W b s) (e : ∀ w, w < 4 → s'.least w = s.least w ∧ s'.most w = s.most w ∧ s'.loss w = s.loss w ∧ s'.peak w = s.peak w) (hc : s'.count = s.count) : SeaB W b s' := by
  obtain ⟨cs, h1, h2, h3, h4⟩ := h
  refine ⟨cs, h1, h2, fun w hw => ?_, by rw [hc]; exact h4⟩
  obtain ⟨e1, e2, e3, e4⟩ := e w hw
  rw [e1, e2, e3, e4]
  exact h3 w hw
/-- One more week is taken. -/
theorem SeaB.week {W : World} {b j : Nat} {s s1 : Sea} {l : List Int}
    (e : ∀ w, s1.least w = (if w = j then (if s.count = 0 then at0 l j else s.least j) else (addP s l j).least w) ∧ s1.most w = (if w = j then (if s.count = 0 then at0 l j else s.most j) else (addP s l j).most w) ∧ s1.loss w = (addP s l j).loss w ∧ s1.peak w = (addP s l j).peak w) (hc : s1.count = s.count)
    (h : SeaB W b ⟨fun w => if w = j then min (s1.least j) (at0 l j) else s1.least w, fun w => if w = j then max (s1.most j) (at0 l j) else s1.most w, fun w => if w = j then max (s1.loss j) (topI l - at0 l j) else s1.loss w, fun w => if w = j then s1.peak j || decide (at0 l j = topI l) else s1.peak w, s1.count⟩) :
    SeaB W b (addP s l (j + 1)) := by
  refine h.congr (fun w _ => ?_) (by simp [addP, hc])
  obtain ⟨a, b', c, d⟩ := e w
  obtain ⟨a', b'', c', d'⟩ := e j
  simp only
  by_cases hw : w = j
  · subst hw
    rw [if_pos rfl] at a b'
    simp only [if_pos, a, b', c, d, addP, if_pos (Nat.lt_succ_self w), if_neg (Nat.lt_irrefl w)]
    exact ⟨trivial, trivial, trivial, trivial⟩
  · rw [if_neg hw] at a b'
    simp only [if_neg hw, a, b', c, d, addP]
    by_cases hj : w < j
    · simp [hj, show w < j + 1 by omega]
    · simp [hj, show ¬ w < j + 1 by omega]
theorem topI_bd {l : List Int} (h : ∀ i, i < l.length → 0 ≤ at0 l i ∧ at0 l i ≤ 24) : 0 ≤ topI l ∧ topI l ≤ 24 := by
  refine ⟨(top_ge_l l 0).1, ?_⟩
  rcases top_mem_l l 0 with e | e
  · unfold topI; omega
  · obtain ⟨i, hi, e'⟩ := List.getElem_of_mem e
    have := (h i hi).2
    rw [at0_lt hi, e'] at this
    exact this
set_option maxRecDepth 100000 in
set_option maxHeartbeats 8000000 in
theorem add_any (b : Nat) (s : Sea) (v : Value) (l : List Int) (w : World) (hv : SlI w v l) (hne : ∀ bv ov n c, v = .slice (some ⟨bv, ov, none⟩) n c → bv ≠ b) (hl : l.length ≤ 4) (hx : ∀ i, i < l.length → 0 ≤ at0 l i ∧ at0 l i ≤ 24) (hb : SeaB w b s) (hc : s.count < 1000000) :
    Calls Try.prog 71 #[.pointer (some ⟨b, 0, none⟩), v] w fun e w' => e = .returned (.tuple #[]) ∧ SeaB w' b (addS s l) ∧ Bm b w.heap.size w w' := by
  have htb := topI_bd hx
  have HV := Lib.hid hv
  have HB := Lib.hid hb
  have HX := Lib.hid hx
  obtain ⟨ad, cap, rfl, -, -, -⟩ := id hv
  clear hv hb hx
  go_enter Try.func71, Try.ntmps71
  refine wp_seq_k (fun K hK => ?_)
  have HK := Lib.hid hK; clear hK
  go_wp2
  refine HK.out _ _ ?_; clear HK K
  refine wp_seq_k (fun K hK => ?_)
  have HK := Lib.hid hK; clear hK
  go_wp2
  go_loopw [4, 11] (fun t i wr => ∃ k : Nat, k ≤ l.length ∧ t = .int .i64 (topI (l.take k)) ∧ i = .int .i64 k ∧ w = wr) (fun _ i _ => l.length - (intOf i).toNat)
  case atStart => exact ⟨0, Nat.zero_le _, rfl, rfl, rfl⟩
  case round =>
    obtain ⟨k, hk, rfl, rfl, rfl⟩ := hrel
    by_cases hkl : k < l.length
    · have hki : (k : Int) < (l.length : Int) := by omega
      obtain ⟨ad', cap', e', -, -, hcc⟩ := HV.out
      injection e' with e1 e2 e3
      subst e1 e3
      obtain ⟨bv, ov, rfl, hlt, hcell⟩ := hcc (by omega)
      have q1 := hcell k hkl
      have hts := Lib.hid (topI_take l hkl)
      clear hcell hcc e2
      go_wp2_with (refine wpList_max rfl _ _ _ rfl rfl rfl ?_)
      go_roundw
      case rel => exact ⟨k + 1, by omega, by rw [hts.out], by go_num, trivial⟩
      case measure => simp [intOf]; omega
    · have hki : ¬ (k : Int) < (l.length : Int) := by omega
      have hkk : k = l.length := by omega
      rw [hkk, List.take_length]
      clear hkk
      obtain ⟨top, htop⟩ : ∃ t, t = topI l := ⟨_, rfl⟩
      rw [← htop] at htb
      rw [← htop]
      have HTOP := Lib.hid htop
      clear htop
      go_wp2
      refine HK.out _ _ ?_; clear HK
      refine wp_seq_k (fun K hK => ?_)
      have HK := Lib.hid hK; clear hK
      go_wp2
      go_loopw [21] (fun i wr => ∃ j : Nat, j ≤ l.length ∧ i = .int .i64 j ∧ Hid (SeaB wr b (addP s l j)) ∧ Bm b w.heap.size w wr) (fun i _ => l.length - (intOf i).toNat)
      case atStart => exact ⟨0, Nat.zero_le _, rfl, Lib.hid (by rw [addP_zero]; exact HB.out), Bm.refl _ _ _⟩
      case round =>
        obtain ⟨j, hj, rfl, HS, hM⟩ := hrel
        by_cases hjl : j < l.length
        · have hji : (j : Int) < (l.length : Int) := by omega
          have hj4 : j < 4 := by omega
          have hj4i : (j : Int) < 4 := by omega
          obtain ⟨ad', cap', e', -, -, hcc⟩ := HV.out
          injection e' with e1 e2 e3
          subst e1 e3
          obtain ⟨bv, ov, rfl, hlt, hcell⟩ := hcc (by omega)
          have q1 := hcell j hjl
          have hx := HX.out j hjl
          have hcn := HS.out.cnt
          clear hcell hcc e2
          have hcs : (addP s l j).count = s.count := rfl
          rw [hcs] at hcn
          clear hcs
          have hq2 : wr.cell? ⟨bv, ov + j, none⟩ = some (.int .i64 (at0 l j)) := (World.cell?_of_block (hM.block _ hlt (hne _ _ _ _ rfl))).trans q1
          clear q1
          by_cases h0 : s.count = 0
          · have hk0 : ((s.count : Int) == 0) = true := by simp [h0]
            have H0 := Lib.hid h0
            obtain ⟨ca, cb, -, -⟩ := HS.out.cells hj4
            have f0 := HS.out.free j
            have f4 := HS.out.free (4 + j)
            clear h0
            go_wp2
            rename_i K2 hK2
            have HK2 := Lib.hid hK2; clear hK2
            refine wp_region_y (S := fun _ => True) (z := 9) rfl ?_
            refine wpAnyY_pure (i := 0) (oi := { dst := some 31, op := _, type := _, pos := _, after := _, guard := none }) (v := ?_) rfl (by kernel_rfl) (by kernel_rfl) (by kernel_rfl) (fun _ _ _ h => h) (Or.inl ⟨by rfl, ?_⟩) (fun _ => trivial) ?_
            rotate_left
            · intro U hU
              go_simp
              all_goals with_reducible rfl
            simp only [Act.put, List.setIfInBounds_toArray, List.set_cons_zero, List.set_cons_succ]
            refine wpAnyY_pure (i := 1) (oi := { dst := some 32, op := _, type := _, pos := _, after := _, guard := none }) (v := ?_) rfl (by kernel_rfl) (by kernel_rfl) (by kernel_rfl) (fun _ _ _ h => h) (Or.inl ⟨by rfl, ?_⟩) (fun _ => trivial) ?_
            rotate_left
            · intro U hU
              go_simp
              all_goals with_reducible rfl
            simp only [Act.put, List.setIfInBounds_toArray, List.set_cons_zero, List.set_cons_succ]
            refine wpAnyY_pure (i := 2) (oi := { dst := some 33, op := _, type := _, pos := _, after := _, guard := none }) (v := ?_) rfl (by kernel_rfl) (by kernel_rfl) (by kernel_rfl) (fun _ _ _ h => h) (Or.inl ⟨by rfl, ?_⟩) (fun _ => trivial) ?_
            rotate_left
            · intro U hU
              go_simp
              all_goals with_reducible rfl
            simp only [Act.put, List.setIfInBounds_toArray, List.set_cons_zero, List.set_cons_succ]
            refine wpAnyY_pure (i := 3) (oi := { dst := some 34, op := _, type := _, pos := _, after := _, guard := none }) (v := ?_) rfl (by kernel_rfl) (by kernel_rfl) (by kernel_rfl) (fun _ _ _ h => h) (Or.inl ⟨by rfl, ?_⟩) (fun _ => trivial) ?_
            rotate_left
            · intro U hU
              go_simp
              all_goals with_reducible rfl
            simp only [Act.put, List.setIfInBounds_toArray, List.set_cons_zero, List.set_cons_succ]
            refine wpAnyY_pure (i := 4) (oi := { dst := some 35, op := _, type := _, pos := _, after := _, guard := none }) (v := ?_) rfl (by kernel_rfl) (by kernel_rfl) (by kernel_rfl) (fun _ _ _ h => h) (Or.inl ⟨by rfl, ?_⟩) (fun _ => trivial) ?_
            rotate_left
            · intro U hU
              go_simp
              all_goals with_reducible rfl
            simp only [Act.put, List.setIfInBounds_toArray, List.set_cons_zero, List.set_cons_succ]
            refine wpAnyY_pure (i := 5) (oi := { dst := some 36, op := _, type := _, pos := _, after := _, guard := none }) (v := ?_) rfl (by kernel_rfl) (by kernel_rfl) (by kernel_rfl) (fun _ _ _ h => h) (Or.inl ⟨by rfl, ?_⟩) (fun _ => trivial) ?_
            rotate_left
            · intro U hU
              go_simp
              all_goals with_reducible rfl
            simp only [Act.put, List.setIfInBounds_toArray, List.set_cons_zero, List.set_cons_succ]
            refine wpAnyY_pure (i := 6) (oi := { dst := some 37, op := _, type := _, pos := _, after := _, guard := none }) (v := ?_) rfl (by kernel_rfl) (by kernel_rfl) (by kernel_rfl) (fun _ _ _ h => h) (Or.inl ⟨by rfl, ?_⟩) (fun _ => trivial) ?_
            rotate_left
            · intro U hU
              go_simp
              all_goals with_reducible rfl
            simp only [Act.put, List.setIfInBounds_toArray, List.set_cons_zero, List.set_cons_succ]
            refine wpAnyY_pure (i := 7) (oi := { dst := some 38, op := _, type := _, pos := _, after := _, guard := none }) (v := ?_) rfl (by kernel_rfl) (by kernel_rfl) (by kernel_rfl) (fun _ _ _ h => h) (Or.inl ⟨by rfl, ?_⟩) (fun _ => trivial) ?_
            rotate_left
            · intro U hU
              go_simp
              all_goals with_reducible rfl
            simp only [Act.put, List.setIfInBounds_toArray, List.set_cons_zero, List.set_cons_succ]
            refine wpAnyY_pure (i := 8) (oi := { dst := some 39, op := _, type := _, pos := _, after := _, guard := none }) (v := ?_) rfl (by kernel_rfl) (by kernel_rfl) (by kernel_rfl) (fun _ _ _ h => h) (Or.inl ⟨by rfl, ?_⟩) (fun _ => trivial) ?_
            rotate_left
            · intro U hU
              go_simp
              all_goals with_reducible rfl
            simp only [Act.put, List.setIfInBounds_toArray, List.set_cons_zero, List.set_cons_succ]
            refine wpAnyY_pure (i := 10) (oi := { dst := some 40, op := _, type := _, pos := _, after := _, guard := none }) (v := ?_) rfl (by kernel_rfl) (by kernel_rfl) (by kernel_rfl) (fun _ _ _ h => h) (Or.inl ⟨by rfl, ?_⟩) (fun _ => trivial) ?_
            rotate_left
            · intro U hU
              go_simp
              all_goals with_reducible rfl
            simp only [Act.put, List.setIfInBounds_toArray, List.set_cons_zero, List.set_cons_succ]
            refine wpAnyY_pure (i := 11) (oi := { dst := some 41, op := _, type := _, pos := _, after := _, guard := none }) (v := ?_) rfl (by kernel_rfl) (by kernel_rfl) (by kernel_rfl) (fun _ _ _ h => h) (Or.inl ⟨by rfl, ?_⟩) (fun _ => trivial) ?_
            rotate_left
            · intro U hU
              go_simp
              all_goals with_reducible rfl
            simp only [Act.put, List.setIfInBounds_toArray, List.set_cons_zero, List.set_cons_succ]
            refine wpAnyY_one (i := 9) (o := { dst := none, op := _, type := _, pos := _, after := _, guard := none }) (by kernel_rfl) rfl (by rfl) (fun K1 hK1 => ?_)
            have HK1 := Lib.hid hK1; clear hK1
            go_simp
            refine HK1.out _ _ (fun _ => trivial) ?_
            clear HK1 K1
            try simp only [Act.put, List.setIfInBounds_toArray, List.set_cons_zero, List.set_cons_succ]
            have HS1 : SeaB ((wr.setCell ⟨b, j, none⟩ (.int .i64 (at0 l j))).drew) b _ := HS.out.setLeast hj4
            obtain ⟨-, cb1, -, -⟩ := HS1.cells hj4
            have f41 := HS1.free (4 + j)
            clear ca cb f0 f4
            refine wpAnyY_pure (i := 12) (oi := { dst := some 42, op := _, type := _, pos := _, after := _, guard := none }) (v := ?_) rfl (by kernel_rfl) (by kernel_rfl) (by kernel_rfl) (fun _ _ _ h => h) (Or.inl ⟨by rfl, ?_⟩) (fun _ => trivial) ?_
            rotate_left
            · intro U hU
              go_simp
              all_goals with_reducible rfl
            simp only [Act.put, List.setIfInBounds_toArray, List.set_cons_zero, List.set_cons_succ]
            refine wpAnyY_one (i := 13) (o := { dst := none, op := _, type := _, pos := _, after := _, guard := none }) (by kernel_rfl) rfl (by rfl) (fun K1 hK1 => ?_)
            have HK1 := Lib.hid hK1; clear hK1
            go_simp
            refine HK1.out _ _ (fun _ => trivial) ?_
            clear HK1 K1
            try simp only [Act.put, List.setIfInBounds_toArray, List.set_cons_zero, List.set_cons_succ]
            have HS2 : SeaB (((wr.setCell ⟨b, j, none⟩ (.int .i64 (at0 l j))).setCell ⟨b, 4 + j, none⟩ (.int .i64 (at0 l j))).drew) b _ := HS1.setMost hj4
            refine wpAnyY_done (by kernel_rfl) ?_ _
            refine HK2.out _ _ ?_
            clear HK2 K2
            go_wp2
            have MS2 : Bm b w.heap.size w (((wr.setCell ⟨b, j, none⟩ (.int .i64 (at0 l j))).setCell ⟨b, 4 + j, none⟩ (.int .i64 (at0 l j))).drew) := bm_drewC (bm_setC (bm_setC hM))
            obtain ⟨w1, hw1⟩ : ∃ x, x = ((wr.setCell ⟨b, j, none⟩ (.int .i64 (at0 l j))).setCell ⟨b, 4 + j, none⟩ (.int .i64 (at0 l j))).drew := ⟨_, rfl⟩
            rw [← hw1] at HS2 MS2 ⊢
            obtain ⟨s1, HW1, hE, hc1⟩ : ∃ s1, Hid (SeaB w1 b s1) ∧ Hid (∀ w, s1.least w = (if w = j then (if s.count = 0 then at0 l j else s.least j) else (addP s l j).least w) ∧ s1.most w = (if w = j then (if s.count = 0 then at0 l j else s.most j) else (addP s l j).most w) ∧ s1.loss w = (addP s l j).loss w ∧ s1.peak w = (addP s l j).peak w) ∧ Hid (s1.count = s.count) := ⟨_, Lib.hid HS2, Lib.hid (fun w => by
              simp only [if_pos H0.out]
              refine ⟨?_, ?_, ?_, ?_⟩ <;> first | trivial | rfl), Lib.hid rfl⟩
            have HE := Lib.hid hE.out; have HC1 := Lib.hid hc1.out; clear hE hc1
            clear hw1 HS1 HS2
            rename_i K2 hK2
            have HK2 := Lib.hid hK2; clear hK2
            obtain ⟨ca, cb, cc, cd⟩ := HW1.out.cells hj4
            have f0 := HW1.out.free j
            obtain ⟨A, hA⟩ : ∃ x, x = s1.least j := ⟨_, rfl⟩
            obtain ⟨B, hB'⟩ : ∃ x, x = s1.most j := ⟨_, rfl⟩
            obtain ⟨C, hC⟩ : ∃ x, x = s1.loss j := ⟨_, rfl⟩
            rw [← hA] at ca
            rw [← hB'] at cb
            rw [← hC] at cc
            have HA := Lib.hid hA
            have HB' := Lib.hid hB'
            have HC := Lib.hid hC
            clear cd hA hB' hC
            have f4 := HW1.out.free (4 + j)
            have f8 := HW1.out.free (8 + j)
            have hS0 : w1.drew.cell? ⟨b, j, none⟩ = some (.int .i64 A) ∧ w1.drew.cell? ⟨b, 4 + j, none⟩ = some (.int .i64 B) ∧ w1.drew.cell? ⟨b, 8 + j, none⟩ = some (.int .i64 C) := ⟨ca, cb, cc⟩
            have kt : IntKind.i64.wrap (top - at0 l j) = top - at0 l j := c33 (by omega)
            refine wp_region_y (S := fun U => U.cell? ⟨b, j, none⟩ = some (.int .i64 A) ∧ U.cell? ⟨b, 4 + j, none⟩ = some (.int .i64 B) ∧ U.cell? ⟨b, 8 + j, none⟩ = some (.int .i64 C)) (z := 35) rfl ?_
            refine wpAnyY_pure (i := 0) (oi := { dst := some 43, op := _, type := _, pos := _, after := _, guard := none }) (v := ?_) rfl (by kernel_rfl) (by kernel_rfl) (by kernel_rfl) (fun _ _ _ h => h) (Or.inl ⟨by rfl, ?_⟩) (fun _ => hS0) ?_
            rotate_left
            · intro U hU
              go_simp
              all_goals with_reducible rfl
            simp only [Act.put, List.setIfInBounds_toArray, List.set_cons_zero, List.set_cons_succ]
            refine wpAnyY_pure (i := 1) (oi := { dst := some 44, op := _, type := _, pos := _, after := _, guard := none }) (v := ?_) rfl (by kernel_rfl) (by kernel_rfl) (by kernel_rfl) (fun _ _ _ h => h) (Or.inl ⟨by rfl, ?_⟩) (fun _ => hS0) ?_
            rotate_left
            · intro U hU
              go_simp
              all_goals with_reducible rfl
            simp only [Act.put, List.setIfInBounds_toArray, List.set_cons_zero, List.set_cons_succ]
            refine wpAnyY_pure (i := 2) (oi := { dst := some 45, op := _, type := _, pos := _, after := _, guard := none }) (v := ?_) rfl (by kernel_rfl) (by kernel_rfl) (by kernel_rfl) (fun _ _ _ h => h) (Or.inl ⟨by rfl, ?_⟩) (fun _ => hS0) ?_
            rotate_left
            · intro U hU
              go_simp
              all_goals with_reducible rfl
            simp only [Act.put, List.setIfInBounds_toArray, List.set_cons_zero, List.set_cons_succ]
            refine wpAnyY_pure (i := 3) (oi := { dst := some 46, op := _, type := _, pos := _, after := _, guard := none }) (v := ?_) rfl (by kernel_rfl) (by kernel_rfl) (by kernel_rfl) (fun _ _ _ h => h) (Or.inl ⟨by rfl, ?_⟩) (fun _ => hS0) ?_
            rotate_left
            · intro U hU
              go_simp
              all_goals with_reducible rfl
            simp only [Act.put, List.setIfInBounds_toArray, List.set_cons_zero, List.set_cons_succ]
            refine wpAnyY_pure (i := 4) (oi := { dst := some 47, op := _, type := _, pos := _, after := _, guard := none }) (v := ?_) rfl (by kernel_rfl) (by kernel_rfl) (by kernel_rfl) (fun _ _ _ h => h) (Or.inl ⟨by rfl, ?_⟩) (fun _ => hS0) ?_
            rotate_left
            · intro U hU
              go_simp
              all_goals with_reducible rfl
            simp only [Act.put, List.setIfInBounds_toArray, List.set_cons_zero, List.set_cons_succ]
            refine wpAnyY_pure (i := 5) (oi := { dst := some 48, op := _, type := _, pos := _, after := _, guard := none }) (v := ?_) rfl (by kernel_rfl) (by kernel_rfl) (by kernel_rfl) (fun _ _ _ h => h) (Or.inl ⟨by rfl, ?_⟩) (fun _ => hS0) ?_
            rotate_left
            · intro U hU
              go_simp
              all_goals with_reducible rfl
            simp only [Act.put, List.setIfInBounds_toArray, List.set_cons_zero, List.set_cons_succ]
            refine wpAnyY_pure (i := 6) (oi := { dst := some 49, op := _, type := _, pos := _, after := _, guard := none }) (v := ?_) rfl (by kernel_rfl) (by kernel_rfl) (by kernel_rfl) (fun _ _ _ h => h) (Or.inl ⟨by rfl, ?_⟩) (fun _ => hS0) ?_
            rotate_left
            · intro U hU
              go_simp
              all_goals with_reducible rfl
            simp only [Act.put, List.setIfInBounds_toArray, List.set_cons_zero, List.set_cons_succ]
            refine wpAnyY_pure (i := 7) (oi := { dst := some 50, op := _, type := _, pos := _, after := _, guard := none }) (v := ?_) rfl (by kernel_rfl) (by kernel_rfl) (by kernel_rfl) (fun _ _ _ h => h) (Or.inl ⟨by rfl, ?_⟩) (fun _ => hS0) ?_
            rotate_left
            · intro U hU
              go_simp
              all_goals with_reducible rfl
            simp only [Act.put, List.setIfInBounds_toArray, List.set_cons_zero, List.set_cons_succ]
            refine wpAnyY_pure (i := 8) (oi := { dst := some 51, op := _, type := _, pos := _, after := _, guard := none }) (v := ?_) rfl (by kernel_rfl) (by kernel_rfl) (by kernel_rfl) (fun _ _ _ h => h) (Or.inl ⟨by rfl, ?_⟩) (fun _ => hS0) ?_
            rotate_left
            · intro U hU
              go_simp
              all_goals with_reducible rfl
            simp only [Act.put, List.setIfInBounds_toArray, List.set_cons_zero, List.set_cons_succ]
            refine wpAnyY_pure (i := 9) (oi := { dst := some 52, op := _, type := _, pos := _, after := _, guard := none }) (v := ?_) rfl (by kernel_rfl) (by kernel_rfl) (by kernel_rfl) (fun _ _ _ h => h) (Or.inl ⟨by rfl, ?_⟩) (fun _ => hS0) ?_
            rotate_left
            · intro U hU
              go_simp
              all_goals with_reducible rfl
            simp only [Act.put, List.setIfInBounds_toArray, List.set_cons_zero, List.set_cons_succ]
            refine wpAnyY_pure (i := 10) (oi := { dst := some 53, op := _, type := _, pos := _, after := _, guard := none }) (v := ?_) rfl (by kernel_rfl) (by kernel_rfl) (by kernel_rfl) (fun _ _ _ h => h) (Or.inl ⟨by rfl, ?_⟩) (fun _ => hS0) ?_
            rotate_left
            · intro U hU
              go_simp
              all_goals with_reducible rfl
            simp only [Act.put, List.setIfInBounds_toArray, List.set_cons_zero, List.set_cons_succ]
            refine wpAnyY_take (i := 11) (oi := { dst := some 54, op := _, type := _, pos := _, after := _, guard := none }) (v := ?_) rfl (by kernel_rfl) (by kernel_rfl) (by kernel_rfl) (fun _ _ _ h => h) (Or.inl ⟨by rfl, ?_⟩) (fun _ => hS0) ?_
            rotate_left
            · intro U hU
              obtain ⟨ua, ub, uc⟩ := hU
              go_simp
              all_goals with_reducible rfl
            simp only [Act.put, List.setIfInBounds_toArray, List.set_cons_zero, List.set_cons_succ]
            refine wpAnyY_pure (i := 12) (oi := { dst := some 55, op := _, type := _, pos := _, after := _, guard := none }) (v := ?_) rfl (by kernel_rfl) (by kernel_rfl) (by kernel_rfl) (fun _ _ _ h => h) (Or.inl ⟨by rfl, ?_⟩) (fun _ => hS0) ?_
            rotate_left
            · intro U hU
              go_simp
              all_goals with_reducible rfl
            simp only [Act.put, List.setIfInBounds_toArray, List.set_cons_zero, List.set_cons_succ]
            refine wpAnyY_pure (i := 13) (oi := { dst := some 56, op := _, type := _, pos := _, after := _, guard := none }) (v := .int .i64 (min (A) (at0 l j))) rfl (by kernel_rfl) (by kernel_rfl) (by kernel_rfl) (fun _ _ _ h => h) (Or.inl ⟨by rfl, ?_⟩) (fun _ => hS0) ?_
            · exact yields_min (.tmp 54) (.tmp 55) #[3, 3] (by rfl) (by rfl) (by rfl)
            simp only [Act.put, List.setIfInBounds_toArray, List.set_cons_zero, List.set_cons_succ]
            refine wpAnyY_pure (i := 14) (oi := { dst := some 57, op := _, type := _, pos := _, after := _, guard := none }) (v := ?_) rfl (by kernel_rfl) (by kernel_rfl) (by kernel_rfl) (fun _ _ _ h => h) (Or.inl ⟨by rfl, ?_⟩) (fun _ => hS0) ?_
            rotate_left
            · intro U hU
              go_simp
              all_goals with_reducible rfl
            simp only [Act.put, List.setIfInBounds_toArray, List.set_cons_zero, List.set_cons_succ]
            refine wpAnyY_pure (i := 15) (oi := { dst := some 58, op := _, type := _, pos := _, after := _, guard := none }) (v := ?_) rfl (by kernel_rfl) (by kernel_rfl) (by kernel_rfl) (fun _ _ _ h => h) (Or.inl ⟨by rfl, ?_⟩) (fun _ => hS0) ?_
            rotate_left
            · intro U hU
              go_simp
              all_goals with_reducible rfl
            simp only [Act.put, List.setIfInBounds_toArray, List.set_cons_zero, List.set_cons_succ]
            refine wpAnyY_pure (i := 16) (oi := { dst := some 59, op := _, type := _, pos := _, after := _, guard := none }) (v := ?_) rfl (by kernel_rfl) (by kernel_rfl) (by kernel_rfl) (fun _ _ _ h => h) (Or.inl ⟨by rfl, ?_⟩) (fun _ => hS0) ?_
            rotate_left
            · intro U hU
              go_simp
              all_goals with_reducible rfl
            simp only [Act.put, List.setIfInBounds_toArray, List.set_cons_zero, List.set_cons_succ]
            refine wpAnyY_pure (i := 17) (oi := { dst := some 60, op := _, type := _, pos := _, after := _, guard := none }) (v := ?_) rfl (by kernel_rfl) (by kernel_rfl) (by kernel_rfl) (fun _ _ _ h => h) (Or.inl ⟨by rfl, ?_⟩) (fun _ => hS0) ?_
            rotate_left
            · intro U hU
              go_simp
              all_goals with_reducible rfl
            simp only [Act.put, List.setIfInBounds_toArray, List.set_cons_zero, List.set_cons_succ]
            refine wpAnyY_pure (i := 18) (oi := { dst := some 61, op := _, type := _, pos := _, after := _, guard := none }) (v := ?_) rfl (by kernel_rfl) (by kernel_rfl) (by kernel_rfl) (fun _ _ _ h => h) (Or.inl ⟨by rfl, ?_⟩) (fun _ => hS0) ?_
            rotate_left
            · intro U hU
              go_simp
              all_goals with_reducible rfl
            simp only [Act.put, List.setIfInBounds_toArray, List.set_cons_zero, List.set_cons_succ]
            refine wpAnyY_take (i := 19) (oi := { dst := some 62, op := _, type := _, pos := _, after := _, guard := none }) (v := ?_) rfl (by kernel_rfl) (by kernel_rfl) (by kernel_rfl) (fun _ _ _ h => h) (Or.inl ⟨by rfl, ?_⟩) (fun _ => hS0) ?_
            rotate_left
            · intro U hU
              obtain ⟨ua, ub, uc⟩ := hU
              go_simp
              all_goals with_reducible rfl
            simp only [Act.put, List.setIfInBounds_toArray, List.set_cons_zero, List.set_cons_succ]
            refine wpAnyY_pure (i := 20) (oi := { dst := some 63, op := _, type := _, pos := _, after := _, guard := none }) (v := ?_) rfl (by kernel_rfl) (by kernel_rfl) (by kernel_rfl) (fun _ _ _ h => h) (Or.inl ⟨by rfl, ?_⟩) (fun _ => hS0) ?_
            rotate_left
            · intro U hU
              go_simp
              all_goals with_reducible rfl
            simp only [Act.put, List.setIfInBounds_toArray, List.set_cons_zero, List.set_cons_succ]
            refine wpAnyY_pure (i := 21) (oi := { dst := some 64, op := _, type := _, pos := _, after := _, guard := none }) (v := .int .i64 (max (B) (at0 l j))) rfl (by kernel_rfl) (by kernel_rfl) (by kernel_rfl) (fun _ _ _ h => h) (Or.inl ⟨by rfl, ?_⟩) (fun _ => hS0) ?_
            · exact yields_max (.tmp 62) (.tmp 63) #[3, 3] (by rfl) (by rfl) (by rfl)
            simp only [Act.put, List.setIfInBounds_toArray, List.set_cons_zero, List.set_cons_succ]
            refine wpAnyY_pure (i := 22) (oi := { dst := some 65, op := _, type := _, pos := _, after := _, guard := none }) (v := ?_) rfl (by kernel_rfl) (by kernel_rfl) (by kernel_rfl) (fun _ _ _ h => h) (Or.inl ⟨by rfl, ?_⟩) (fun _ => hS0) ?_
            rotate_left
            · intro U hU
              go_simp
              all_goals with_reducible rfl
            simp only [Act.put, List.setIfInBounds_toArray, List.set_cons_zero, List.set_cons_succ]
            refine wpAnyY_pure (i := 23) (oi := { dst := some 66, op := _, type := _, pos := _, after := _, guard := none }) (v := ?_) rfl (by kernel_rfl) (by kernel_rfl) (by kernel_rfl) (fun _ _ _ h => h) (Or.inl ⟨by rfl, ?_⟩) (fun _ => hS0) ?_
            rotate_left
            · intro U hU
              go_simp
              all_goals with_reducible rfl
            simp only [Act.put, List.setIfInBounds_toArray, List.set_cons_zero, List.set_cons_succ]
            refine wpAnyY_pure (i := 24) (oi := { dst := some 67, op := _, type := _, pos := _, after := _, guard := none }) (v := ?_) rfl (by kernel_rfl) (by kernel_rfl) (by kernel_rfl) (fun _ _ _ h => h) (Or.inl ⟨by rfl, ?_⟩) (fun _ => hS0) ?_
            rotate_left
            · intro U hU
              go_simp
              all_goals with_reducible rfl
            simp only [Act.put, List.setIfInBounds_toArray, List.set_cons_zero, List.set_cons_succ]
            refine wpAnyY_pure (i := 25) (oi := { dst := some 68, op := _, type := _, pos := _, after := _, guard := none }) (v := ?_) rfl (by kernel_rfl) (by kernel_rfl) (by kernel_rfl) (fun _ _ _ h => h) (Or.inl ⟨by rfl, ?_⟩) (fun _ => hS0) ?_
            rotate_left
            · intro U hU
              go_simp
              all_goals with_reducible rfl
            simp only [Act.put, List.setIfInBounds_toArray, List.set_cons_zero, List.set_cons_succ]
            refine wpAnyY_pure (i := 26) (oi := { dst := some 69, op := _, type := _, pos := _, after := _, guard := none }) (v := ?_) rfl (by kernel_rfl) (by kernel_rfl) (by kernel_rfl) (fun _ _ _ h => h) (Or.inl ⟨by rfl, ?_⟩) (fun _ => hS0) ?_
            rotate_left
            · intro U hU
              go_simp
              all_goals with_reducible rfl
            simp only [Act.put, List.setIfInBounds_toArray, List.set_cons_zero, List.set_cons_succ]
            refine wpAnyY_take (i := 27) (oi := { dst := some 70, op := _, type := _, pos := _, after := _, guard := none }) (v := ?_) rfl (by kernel_rfl) (by kernel_rfl) (by kernel_rfl) (fun _ _ _ h => h) (Or.inl ⟨by rfl, ?_⟩) (fun _ => hS0) ?_
            rotate_left
            · intro U hU
              obtain ⟨ua, ub, uc⟩ := hU
              go_simp
              all_goals with_reducible rfl
            simp only [Act.put, List.setIfInBounds_toArray, List.set_cons_zero, List.set_cons_succ]
            refine wpAnyY_pure (i := 28) (oi := { dst := some 71, op := _, type := _, pos := _, after := _, guard := none }) (v := ?_) rfl (by kernel_rfl) (by kernel_rfl) (by kernel_rfl) (fun _ _ _ h => h) (Or.inl ⟨by rfl, ?_⟩) (fun _ => hS0) ?_
            rotate_left
            · intro U hU
              go_simp
              all_goals with_reducible rfl
            simp only [Act.put, List.setIfInBounds_toArray, List.set_cons_zero, List.set_cons_succ]
            refine wpAnyY_pure (i := 29) (oi := { dst := some 72, op := _, type := _, pos := _, after := _, guard := none }) (v := ?_) rfl (by kernel_rfl) (by kernel_rfl) (by kernel_rfl) (fun _ _ _ h => h) (Or.inl ⟨by rfl, ?_⟩) (fun _ => hS0) ?_
            rotate_left
            · intro U hU
              go_simp
              all_goals with_reducible rfl
            simp only [Act.put, List.setIfInBounds_toArray, List.set_cons_zero, List.set_cons_succ]
            refine wpAnyY_pure (i := 30) (oi := { dst := some 73, op := _, type := _, pos := _, after := _, guard := none }) (v := ?_) rfl (by kernel_rfl) (by kernel_rfl) (by kernel_rfl) (fun _ _ _ h => h) (Or.inl ⟨by rfl, ?_⟩) (fun _ => hS0) ?_
            rotate_left
            · intro U hU
              go_simp
              all_goals with_reducible rfl
            simp only [Act.put, List.setIfInBounds_toArray, List.set_cons_zero, List.set_cons_succ]
            refine wpAnyY_pure (i := 31) (oi := { dst := some 74, op := _, type := _, pos := _, after := _, guard := none }) (v := .int .i64 (max (C) (top - at0 l j))) rfl (by kernel_rfl) (by kernel_rfl) (by kernel_rfl) (fun _ _ _ h => h) (Or.inl ⟨by rfl, ?_⟩) (fun _ => hS0) ?_
            · exact yields_max (.tmp 70) (.tmp 73) #[3, 3] (by rfl) (by rfl) (by rfl)
            simp only [Act.put, List.setIfInBounds_toArray, List.set_cons_zero, List.set_cons_succ]
            refine wpAnyY_pure (i := 32) (oi := { dst := some 75, op := _, type := _, pos := _, after := _, guard := none }) (v := ?_) rfl (by kernel_rfl) (by kernel_rfl) (by kernel_rfl) (fun _ _ _ h => h) (Or.inl ⟨by rfl, ?_⟩) (fun _ => hS0) ?_
            rotate_left
            · intro U hU
              go_simp
              all_goals with_reducible rfl
            simp only [Act.put, List.setIfInBounds_toArray, List.set_cons_zero, List.set_cons_succ]
            refine wpAnyY_pure (i := 33) (oi := { dst := some 76, op := _, type := _, pos := _, after := _, guard := none }) (v := ?_) rfl (by kernel_rfl) (by kernel_rfl) (by kernel_rfl) (fun _ _ _ h => h) (Or.inl ⟨by rfl, ?_⟩) (fun _ => hS0) ?_
            rotate_left
            · intro U hU
              go_simp
              all_goals with_reducible rfl
            simp only [Act.put, List.setIfInBounds_toArray, List.set_cons_zero, List.set_cons_succ]
            refine wpAnyY_pure (i := 34) (oi := { dst := some 77, op := _, type := _, pos := _, after := _, guard := none }) (v := ?_) rfl (by kernel_rfl) (by kernel_rfl) (by kernel_rfl) (fun _ _ _ h => h) (Or.inl ⟨by rfl, ?_⟩) (fun _ => hS0) ?_
            rotate_left
            · intro U hU
              go_simp
              all_goals with_reducible rfl
            simp only [Act.put, List.setIfInBounds_toArray, List.set_cons_zero, List.set_cons_succ]
            refine wpAnyY_pure (i := 36) (oi := { dst := some 78, op := _, type := _, pos := _, after := _, guard := none }) (v := ?_) rfl (by kernel_rfl) (by kernel_rfl) (by kernel_rfl) (fun _ _ _ h => h) (Or.inl ⟨by rfl, ?_⟩) (fun _ => hS0) ?_
            rotate_left
            · intro U hU
              go_simp
              all_goals with_reducible rfl
            simp only [Act.put, List.setIfInBounds_toArray, List.set_cons_zero, List.set_cons_succ]
            refine wpAnyY_pure (i := 37) (oi := { dst := some 79, op := _, type := _, pos := _, after := _, guard := none }) (v := ?_) rfl (by kernel_rfl) (by kernel_rfl) (by kernel_rfl) (fun _ _ _ h => h) (Or.inl ⟨by rfl, ?_⟩) (fun _ => hS0) ?_
            rotate_left
            · intro U hU
              go_simp
              all_goals with_reducible rfl
            simp only [Act.put, List.setIfInBounds_toArray, List.set_cons_zero, List.set_cons_succ]
            refine wpAnyY_pure (i := 40) (oi := { dst := some 81, op := _, type := _, pos := _, after := _, guard := none }) (v := ?_) rfl (by kernel_rfl) (by kernel_rfl) (by kernel_rfl) (fun _ _ _ h => h) (Or.inl ⟨by rfl, ?_⟩) (fun _ => hS0) ?_
            rotate_left
            · intro U hU
              go_simp
              all_goals with_reducible rfl
            simp only [Act.put, List.setIfInBounds_toArray, List.set_cons_zero, List.set_cons_succ]
            refine wpAnyY_pure (i := 41) (oi := { dst := some 82, op := _, type := _, pos := _, after := _, guard := none }) (v := ?_) rfl (by kernel_rfl) (by kernel_rfl) (by kernel_rfl) (fun _ _ _ h => h) (Or.inl ⟨by rfl, ?_⟩) (fun _ => hS0) ?_
            rotate_left
            · intro U hU
              go_simp
              all_goals with_reducible rfl
            simp only [Act.put, List.setIfInBounds_toArray, List.set_cons_zero, List.set_cons_succ]
            refine wpAnyY_one (i := 35) (o := { dst := none, op := _, type := _, pos := _, after := _, guard := none }) (by kernel_rfl) rfl (by rfl) (fun K1 hK1 => ?_)
            have HK1 := Lib.hid hK1; clear hK1
            go_simp
            refine HK1.out _ _ (fun h => by simp at h) ?_
            clear HK1 K1
            try simp only [Act.put, List.setIfInBounds_toArray, List.set_cons_zero, List.set_cons_succ]
            have HT1 : SeaB ((w1.setCell ⟨b, j, none⟩ (.int .i64 (min A (at0 l j)))).drew) b _ := HW1.out.setLeast hj4
            obtain ⟨-, cb, -, -⟩ := HT1.cells hj4
            refine wpAnyY_pure (i := 38) (oi := { dst := some 80, op := _, type := _, pos := _, after := _, guard := none }) (v := ?_) rfl (by kernel_rfl) (by kernel_rfl) (by kernel_rfl) (fun _ _ _ h => h) (Or.inl ⟨by rfl, ?_⟩) (fun h => by simp at h) ?_
            rotate_left
            · intro U hU
              go_simp
              all_goals with_reducible rfl
            simp only [Act.put, List.setIfInBounds_toArray, List.set_cons_zero, List.set_cons_succ]
            refine wpAnyY_one (i := 39) (o := { dst := none, op := _, type := _, pos := _, after := _, guard := none }) (by kernel_rfl) rfl (by rfl) (fun K1 hK1 => ?_)
            have HK1 := Lib.hid hK1; clear hK1
            go_simp
            refine HK1.out _ _ (fun h => by simp at h) ?_
            clear HK1 K1
            try simp only [Act.put, List.setIfInBounds_toArray, List.set_cons_zero, List.set_cons_succ]
            have HT2 : SeaB (((w1.setCell ⟨b, j, none⟩ (.int .i64 (min A (at0 l j)))).setCell ⟨b, 4 + j, none⟩ (.int .i64 (max B (at0 l j)))).drew) b _ := HT1.setMost hj4
            obtain ⟨-, -, cc, -⟩ := HT2.cells hj4
            refine wpAnyY_pure (i := 42) (oi := { dst := some 83, op := _, type := _, pos := _, after := _, guard := none }) (v := ?_) rfl (by kernel_rfl) (by kernel_rfl) (by kernel_rfl) (fun _ _ _ h => h) (Or.inl ⟨by rfl, ?_⟩) (fun h => by simp at h) ?_
            rotate_left
            · intro U hU
              go_simp
              all_goals with_reducible rfl
            simp only [Act.put, List.setIfInBounds_toArray, List.set_cons_zero, List.set_cons_succ]
            refine wpAnyY_one (i := 43) (o := { dst := none, op := _, type := _, pos := _, after := _, guard := none }) (by kernel_rfl) rfl (by rfl) (fun K1 hK1 => ?_)
            have HK1 := Lib.hid hK1; clear hK1
            go_simp
            refine HK1.out _ _ (fun h => by simp at h) ?_
            clear HK1 K1
            try simp only [Act.put, List.setIfInBounds_toArray, List.set_cons_zero, List.set_cons_succ]
            have HT3 : SeaB ((((w1.setCell ⟨b, j, none⟩ (.int .i64 (min A (at0 l j)))).setCell ⟨b, 4 + j, none⟩ (.int .i64 (max B (at0 l j)))).setCell ⟨b, 8 + j, none⟩ (.int .i64 (max C (top - at0 l j)))).drew) b _ := HT2.setLoss hj4
            have MT3 : Bm b w.heap.size w ((((w1.setCell ⟨b, j, none⟩ (.int .i64 (min A (at0 l j)))).setCell ⟨b, 4 + j, none⟩ (.int .i64 (max B (at0 l j)))).setCell ⟨b, 8 + j, none⟩ (.int .i64 (max C (top - at0 l j)))).drew) := bm_drewC (bm_setC (bm_setC (bm_setC MS2)))
            refine wpAnyY_done (by kernel_rfl) ?_ _
            refine HK2.out _ _ ?_
            clear HK2 K2
            obtain ⟨w3, hw3⟩ : ∃ x, x = (((w1.setCell ⟨b, j, none⟩ (.int .i64 (min A (at0 l j)))).setCell ⟨b, 4 + j, none⟩ (.int .i64 (max B (at0 l j)))).setCell ⟨b, 8 + j, none⟩ (.int .i64 (max C (top - at0 l j)))).drew := ⟨_, rfl⟩
            rw [← hw3] at HT3 MT3 ⊢
            clear hw3 HT1 HT2 ca cb cc f0 f4 f8 hS0 MS2
            have H3 := Lib.hid HT3
            clear HT3
            obtain ⟨-, -, -, cd⟩ := H3.out.cells hj4
            have f12 := H3.out.free (12 + j)
            obtain ⟨D, hD⟩ : ∃ x, x = s1.peak j := ⟨_, rfl⟩
            simp only at cd
            rw [← hD] at cd
            have HD := Lib.hid hD
            clear hD
            have hS0 : w3.drew.cell? ⟨b, 12 + j, none⟩ = some (.bool D) := cd
            go_wp2
            by_cases hDt : D = true
            · subst hDt
              refine wp_region_y (S := fun U => U.cell? ⟨b, 12 + j, none⟩ = some (.bool true)) (z := 16) rfl ?_
              refine wpAnyY_pure (i := 0) (oi := { dst := some 84, op := _, type := _, pos := _, after := _, guard := none }) (v := ?_) rfl (by kernel_rfl) (by kernel_rfl) (by kernel_rfl) (fun _ _ _ h => h) (Or.inl ⟨by rfl, ?_⟩) (fun _ => hS0) ?_
              rotate_left
              · intro U hU
                go_simp
                all_goals with_reducible rfl
              simp only [Act.put, List.setIfInBounds_toArray, List.set_cons_zero, List.set_cons_succ]
              refine wpAnyY_pure (i := 1) (oi := { dst := some 85, op := _, type := _, pos := _, after := _, guard := none }) (v := ?_) rfl (by kernel_rfl) (by kernel_rfl) (by kernel_rfl) (fun _ _ _ h => h) (Or.inl ⟨by rfl, ?_⟩) (fun _ => hS0) ?_
              rotate_left
              · intro U hU
                go_simp
                all_goals with_reducible rfl
              simp only [Act.put, List.setIfInBounds_toArray, List.set_cons_zero, List.set_cons_succ]
              refine wpAnyY_pure (i := 2) (oi := { dst := some 86, op := _, type := _, pos := _, after := _, guard := none }) (v := ?_) rfl (by kernel_rfl) (by kernel_rfl) (by kernel_rfl) (fun _ _ _ h => h) (Or.inl ⟨by rfl, ?_⟩) (fun _ => hS0) ?_
              rotate_left
              · intro U hU
                go_simp
                all_goals with_reducible rfl
              simp only [Act.put, List.setIfInBounds_toArray, List.set_cons_zero, List.set_cons_succ]
              refine wpAnyY_pure (i := 3) (oi := { dst := some 87, op := _, type := _, pos := _, after := _, guard := none }) (v := ?_) rfl (by kernel_rfl) (by kernel_rfl) (by kernel_rfl) (fun _ _ _ h => h) (Or.inl ⟨by rfl, ?_⟩) (fun _ => hS0) ?_
              rotate_left
              · intro U hU
                go_simp
                all_goals with_reducible rfl
              simp only [Act.put, List.setIfInBounds_toArray, List.set_cons_zero, List.set_cons_succ]
              refine wpAnyY_pure (i := 4) (oi := { dst := some 88, op := _, type := _, pos := _, after := _, guard := none }) (v := ?_) rfl (by kernel_rfl) (by kernel_rfl) (by kernel_rfl) (fun _ _ _ h => h) (Or.inl ⟨by rfl, ?_⟩) (fun _ => hS0) ?_
              rotate_left
              · intro U hU
                go_simp
                all_goals with_reducible rfl
              simp only [Act.put, List.setIfInBounds_toArray, List.set_cons_zero, List.set_cons_succ]
              refine wpAnyY_pure (i := 5) (oi := { dst := some 89, op := _, type := _, pos := _, after := _, guard := none }) (v := ?_) rfl (by kernel_rfl) (by kernel_rfl) (by kernel_rfl) (fun _ _ _ h => h) (Or.inl ⟨by rfl, ?_⟩) (fun _ => hS0) ?_
              rotate_left
              · intro U hU
                go_simp
                all_goals with_reducible rfl
              simp only [Act.put, List.setIfInBounds_toArray, List.set_cons_zero, List.set_cons_succ]
              refine wpAnyY_pure (i := 6) (oi := { dst := some 90, op := _, type := _, pos := _, after := _, guard := none }) (v := ?_) rfl (by kernel_rfl) (by kernel_rfl) (by kernel_rfl) (fun _ _ _ h => h) (Or.inl ⟨by rfl, ?_⟩) (fun _ => hS0) ?_
              rotate_left
              · intro U hU
                go_simp
                all_goals with_reducible rfl
              simp only [Act.put, List.setIfInBounds_toArray, List.set_cons_zero, List.set_cons_succ]
              refine wpAnyY_take (i := 7) (oi := { dst := some 91, op := _, type := _, pos := _, after := _, guard := none }) (v := ?_) rfl (by kernel_rfl) (by kernel_rfl) (by kernel_rfl) (fun _ _ _ h => h) (Or.inl ⟨by rfl, ?_⟩) (fun _ => hS0) ?_
              rotate_left
              · intro U hU
                have ud := hU
                go_simp
                all_goals with_reducible rfl
              simp only [Act.put, List.setIfInBounds_toArray, List.set_cons_zero, List.set_cons_succ]
              refine wpAnyY_pure (i := 8) (oi := { dst := some 92, op := _, type := _, pos := _, after := _, guard := none }) (v := ?_) rfl (by kernel_rfl) (by kernel_rfl) (by kernel_rfl) (fun _ _ _ h => h) (Or.inl ⟨by rfl, ?_⟩) (fun _ => hS0) ?_
              rotate_left
              · intro U hU
                go_simp
                all_goals with_reducible rfl
              simp only [Act.put, List.setIfInBounds_toArray, List.set_cons_zero, List.set_cons_succ]
              refine wpAnyY_pure (i := 9) (oi := { dst := some 93, op := _, type := _, pos := _, after := _, guard := some (8, false) }) (v := undef) rfl (by kernel_rfl) (by kernel_rfl) (by kernel_rfl) (fun _ _ _ h => h) (Or.inr ⟨by rfl, rfl⟩) (fun _ => hS0) ?_
              simp only [Act.put, List.setIfInBounds_toArray, List.set_cons_zero, List.set_cons_succ]
              refine wpAnyY_pure (i := 10) (oi := { dst := some 94, op := _, type := _, pos := _, after := _, guard := some (8, false) }) (v := undef) rfl (by kernel_rfl) (by kernel_rfl) (by kernel_rfl) (fun _ _ _ h => h) (Or.inr ⟨by rfl, rfl⟩) (fun _ => hS0) ?_
              simp only [Act.put, List.setIfInBounds_toArray, List.set_cons_zero, List.set_cons_succ]
              refine wpAnyY_pure (i := 11) (oi := { dst := some 95, op := _, type := _, pos := _, after := _, guard := some (8, false) }) (v := undef) rfl (by kernel_rfl) (by kernel_rfl) (by kernel_rfl) (fun _ _ _ h => h) (Or.inr ⟨by rfl, rfl⟩) (fun _ => hS0) ?_
              simp only [Act.put, List.setIfInBounds_toArray, List.set_cons_zero, List.set_cons_succ]
              refine wpAnyY_pure (i := 12) (oi := { dst := some 96, op := _, type := _, pos := _, after := _, guard := none }) (v := ?_) rfl (by kernel_rfl) (by kernel_rfl) (by kernel_rfl) (fun _ _ _ h => h) (Or.inl ⟨by rfl, ?_⟩) (fun _ => hS0) ?_
              rotate_left
              · intro U hU
                go_simp
                all_goals with_reducible rfl
              simp only [Act.put, List.setIfInBounds_toArray, List.set_cons_zero, List.set_cons_succ]
              refine wpAnyY_pure (i := 13) (oi := { dst := some 97, op := _, type := _, pos := _, after := _, guard := none }) (v := ?_) rfl (by kernel_rfl) (by kernel_rfl) (by kernel_rfl) (fun _ _ _ h => h) (Or.inl ⟨by rfl, ?_⟩) (fun _ => hS0) ?_
              rotate_left
              · intro U hU
                go_simp
                all_goals with_reducible rfl
              simp only [Act.put, List.setIfInBounds_toArray, List.set_cons_zero, List.set_cons_succ]
              refine wpAnyY_pure (i := 14) (oi := { dst := some 98, op := _, type := _, pos := _, after := _, guard := none }) (v := ?_) rfl (by kernel_rfl) (by kernel_rfl) (by kernel_rfl) (fun _ _ _ h => h) (Or.inl ⟨by rfl, ?_⟩) (fun _ => hS0) ?_
              rotate_left
              · intro U hU
                go_simp
                all_goals with_reducible rfl
              simp only [Act.put, List.setIfInBounds_toArray, List.set_cons_zero, List.set_cons_succ]
              refine wpAnyY_pure (i := 15) (oi := { dst := some 99, op := _, type := _, pos := _, after := _, guard := none }) (v := ?_) rfl (by kernel_rfl) (by kernel_rfl) (by kernel_rfl) (fun _ _ _ h => h) (Or.inl ⟨by rfl, ?_⟩) (fun _ => hS0) ?_
              rotate_left
              · intro U hU
                go_simp
                all_goals with_reducible rfl
              simp only [Act.put, List.setIfInBounds_toArray, List.set_cons_zero, List.set_cons_succ]
              refine wpAnyY_one (i := 16) (o := { dst := none, op := _, type := _, pos := _, after := _, guard := none }) (by kernel_rfl) rfl (by rfl) (fun K1 hK1 => ?_)
              have HK1 := Lib.hid hK1; clear hK1
              go_simp
              refine HK1.out _ _ (fun h => by simp at h) ?_
              clear HK1 K1
              try simp only [Act.put, List.setIfInBounds_toArray, List.set_cons_zero, List.set_cons_succ]
              refine wpAnyY_done (by kernel_rfl) ?_ _
              have HF : SeaB (w3.setCell ⟨b, 12 + j, none⟩ (.bool true)).drew b _ := H3.out.setPeak (x := true) hj4
              have MF : Bm b w.heap.size w (w3.setCell ⟨b, 12 + j, none⟩ (.bool true)).drew := bm_drewC (bm_setC MT3)
              obtain ⟨w4, hw4⟩ : ∃ x, x = (w3.setCell ⟨b, 12 + j, none⟩ (.bool true)).drew := ⟨_, rfl⟩
              rw [← hw4] at HF MF ⊢
              have HG := Lib.hid HF
              clear hw4 HF hS0 cd f12
              go_wp2
              go_roundw
              case rel =>
                refine ⟨j + 1, by omega, by go_num, Lib.hid (SeaB.week HE.out HC1.out (HG.out.congr (fun w _ => ?_) rfl)), MF⟩
                have e1 := HA.out; have e2 := HB'.out; have e3 := HC.out; have e4 := HD.out; have e5 := HTOP.out
                subst e1 e2 e3 e5
                refine ⟨rfl, rfl, rfl, ?_⟩
                simp only [← e4]
                by_cases hwj : w = j
                · simp [hwj]
                · simp [hwj]
              case measure => simp [intOf]; omega
            · have hDf : D = false := by simpa using hDt
              subst hDf
              clear hDt
              have eqT : ((at0 l j == top) = true) = (at0 l j = top) := by simp
              refine wp_region_y (S := fun U => U.cell? ⟨b, 12 + j, none⟩ = some (.bool false)) (z := 16) rfl ?_
              refine wpAnyY_pure (i := 0) (oi := { dst := some 84, op := _, type := _, pos := _, after := _, guard := none }) (v := ?_) rfl (by kernel_rfl) (by kernel_rfl) (by kernel_rfl) (fun _ _ _ h => h) (Or.inl ⟨by rfl, ?_⟩) (fun _ => hS0) ?_
              rotate_left
              · intro U hU
                go_simp
                all_goals with_reducible rfl
              simp only [Act.put, List.setIfInBounds_toArray, List.set_cons_zero, List.set_cons_succ]
              refine wpAnyY_pure (i := 1) (oi := { dst := some 85, op := _, type := _, pos := _, after := _, guard := none }) (v := ?_) rfl (by kernel_rfl) (by kernel_rfl) (by kernel_rfl) (fun _ _ _ h => h) (Or.inl ⟨by rfl, ?_⟩) (fun _ => hS0) ?_
              rotate_left
              · intro U hU
                go_simp
                all_goals with_reducible rfl
              simp only [Act.put, List.setIfInBounds_toArray, List.set_cons_zero, List.set_cons_succ]
              refine wpAnyY_pure (i := 2) (oi := { dst := some 86, op := _, type := _, pos := _, after := _, guard := none }) (v := ?_) rfl (by kernel_rfl) (by kernel_rfl) (by kernel_rfl) (fun _ _ _ h => h) (Or.inl ⟨by rfl, ?_⟩) (fun _ => hS0) ?_
              rotate_left
              · intro U hU
                go_simp
                all_goals with_reducible rfl
              simp only [Act.put, List.setIfInBounds_toArray, List.set_cons_zero, List.set_cons_succ]
              refine wpAnyY_pure (i := 3) (oi := { dst := some 87, op := _, type := _, pos := _, after := _, guard := none }) (v := ?_) rfl (by kernel_rfl) (by kernel_rfl) (by kernel_rfl) (fun _ _ _ h => h) (Or.inl ⟨by rfl, ?_⟩) (fun _ => hS0) ?_
              rotate_left
              · intro U hU
                go_simp
                all_goals with_reducible rfl
              simp only [Act.put, List.setIfInBounds_toArray, List.set_cons_zero, List.set_cons_succ]
              refine wpAnyY_pure (i := 4) (oi := { dst := some 88, op := _, type := _, pos := _, after := _, guard := none }) (v := ?_) rfl (by kernel_rfl) (by kernel_rfl) (by kernel_rfl) (fun _ _ _ h => h) (Or.inl ⟨by rfl, ?_⟩) (fun _ => hS0) ?_
              rotate_left
              · intro U hU
                go_simp
                all_goals with_reducible rfl
              simp only [Act.put, List.setIfInBounds_toArray, List.set_cons_zero, List.set_cons_succ]
              refine wpAnyY_pure (i := 5) (oi := { dst := some 89, op := _, type := _, pos := _, after := _, guard := none }) (v := ?_) rfl (by kernel_rfl) (by kernel_rfl) (by kernel_rfl) (fun _ _ _ h => h) (Or.inl ⟨by rfl, ?_⟩) (fun _ => hS0) ?_
              rotate_left
              · intro U hU
                go_simp
                all_goals with_reducible rfl
              simp only [Act.put, List.setIfInBounds_toArray, List.set_cons_zero, List.set_cons_succ]
              refine wpAnyY_pure (i := 6) (oi := { dst := some 90, op := _, type := _, pos := _, after := _, guard := none }) (v := ?_) rfl (by kernel_rfl) (by kernel_rfl) (by kernel_rfl) (fun _ _ _ h => h) (Or.inl ⟨by rfl, ?_⟩) (fun _ => hS0) ?_
              rotate_left
              · intro U hU
                go_simp
                all_goals with_reducible rfl
              simp only [Act.put, List.setIfInBounds_toArray, List.set_cons_zero, List.set_cons_succ]
              refine wpAnyY_take (i := 7) (oi := { dst := some 91, op := _, type := _, pos := _, after := _, guard := none }) (v := ?_) rfl (by kernel_rfl) (by kernel_rfl) (by kernel_rfl) (fun _ _ _ h => h) (Or.inl ⟨by rfl, ?_⟩) (fun _ => hS0) ?_
              rotate_left
              · intro U hU
                have ud := hU
                go_simp
                all_goals with_reducible rfl
              simp only [Act.put, List.setIfInBounds_toArray, List.set_cons_zero, List.set_cons_succ]
              refine wpAnyY_pure (i := 8) (oi := { dst := some 92, op := _, type := _, pos := _, after := _, guard := none }) (v := ?_) rfl (by kernel_rfl) (by kernel_rfl) (by kernel_rfl) (fun _ _ _ h => h) (Or.inl ⟨by rfl, ?_⟩) (fun _ => hS0) ?_
              rotate_left
              · intro U hU
                go_simp
                all_goals with_reducible rfl
              simp only [Act.put, List.setIfInBounds_toArray, List.set_cons_zero, List.set_cons_succ]
              refine wpAnyY_pure (i := 9) (oi := { dst := some 93, op := _, type := _, pos := _, after := _, guard := some (8, false) }) (v := ?_) rfl (by kernel_rfl) (by kernel_rfl) (by kernel_rfl) (fun _ _ _ h => h) (Or.inl ⟨by rfl, ?_⟩) (fun _ => hS0) ?_
              rotate_left
              · intro U hU
                go_simp
                all_goals with_reducible rfl
              simp only [Act.put, List.setIfInBounds_toArray, List.set_cons_zero, List.set_cons_succ]
              refine wpAnyY_pure (i := 10) (oi := { dst := some 94, op := _, type := _, pos := _, after := _, guard := some (8, false) }) (v := ?_) rfl (by kernel_rfl) (by kernel_rfl) (by kernel_rfl) (fun _ _ _ h => h) (Or.inl ⟨by rfl, ?_⟩) (fun _ => hS0) ?_
              rotate_left
              · intro U hU
                go_simp
                all_goals with_reducible rfl
              simp only [Act.put, List.setIfInBounds_toArray, List.set_cons_zero, List.set_cons_succ]
              refine wpAnyY_pure (i := 11) (oi := { dst := some 95, op := _, type := _, pos := _, after := _, guard := some (8, false) }) (v := ?_) rfl (by kernel_rfl) (by kernel_rfl) (by kernel_rfl) (fun _ _ _ h => h) (Or.inl ⟨by rfl, ?_⟩) (fun _ => hS0) ?_
              rotate_left
              · intro U hU
                go_simp
                all_goals with_reducible rfl
              simp only [Act.put, List.setIfInBounds_toArray, List.set_cons_zero, List.set_cons_succ]
              refine wpAnyY_pure (i := 12) (oi := { dst := some 96, op := _, type := _, pos := _, after := _, guard := none }) (v := ?_) rfl (by kernel_rfl) (by kernel_rfl) (by kernel_rfl) (fun _ _ _ h => h) (Or.inl ⟨by rfl, ?_⟩) (fun _ => hS0) ?_
              rotate_left
              · intro U hU
                go_simp
                all_goals with_reducible rfl
              simp only [Act.put, List.setIfInBounds_toArray, List.set_cons_zero, List.set_cons_succ]
              refine wpAnyY_pure (i := 13) (oi := { dst := some 97, op := _, type := _, pos := _, after := _, guard := none }) (v := ?_) rfl (by kernel_rfl) (by kernel_rfl) (by kernel_rfl) (fun _ _ _ h => h) (Or.inl ⟨by rfl, ?_⟩) (fun _ => hS0) ?_
              rotate_left
              · intro U hU
                go_simp
                all_goals with_reducible rfl
              simp only [Act.put, List.setIfInBounds_toArray, List.set_cons_zero, List.set_cons_succ]
              refine wpAnyY_pure (i := 14) (oi := { dst := some 98, op := _, type := _, pos := _, after := _, guard := none }) (v := ?_) rfl (by kernel_rfl) (by kernel_rfl) (by kernel_rfl) (fun _ _ _ h => h) (Or.inl ⟨by rfl, ?_⟩) (fun _ => hS0) ?_
              rotate_left
              · intro U hU
                go_simp
                all_goals with_reducible rfl
              simp only [Act.put, List.setIfInBounds_toArray, List.set_cons_zero, List.set_cons_succ]
              refine wpAnyY_pure (i := 15) (oi := { dst := some 99, op := _, type := _, pos := _, after := _, guard := none }) (v := ?_) rfl (by kernel_rfl) (by kernel_rfl) (by kernel_rfl) (fun _ _ _ h => h) (Or.inl ⟨by rfl, ?_⟩) (fun _ => hS0) ?_
              rotate_left
              · intro U hU
                go_simp
                all_goals with_reducible rfl
              simp only [Act.put, List.setIfInBounds_toArray, List.set_cons_zero, List.set_cons_succ]
              refine wpAnyY_one (i := 16) (o := { dst := none, op := _, type := _, pos := _, after := _, guard := none }) (by kernel_rfl) rfl (by rfl) (fun K1 hK1 => ?_)
              have HK1 := Lib.hid hK1; clear hK1
              go_simp
              refine HK1.out _ _ (fun h => by simp at h) ?_
              clear HK1 K1
              try simp only [Act.put, List.setIfInBounds_toArray, List.set_cons_zero, List.set_cons_succ]
              refine wpAnyY_done (by kernel_rfl) ?_ _
              have HF : SeaB (w3.setCell ⟨b, 12 + j, none⟩ (.bool (at0 l j == top))).drew b _ := H3.out.setPeak (x := (at0 l j == top)) hj4
              have MF : Bm b w.heap.size w (w3.setCell ⟨b, 12 + j, none⟩ (.bool (at0 l j == top))).drew := bm_drewC (bm_setC MT3)
              obtain ⟨w4, hw4⟩ : ∃ x, x = (w3.setCell ⟨b, 12 + j, none⟩ (.bool (at0 l j == top))).drew := ⟨_, rfl⟩
              rw [← hw4] at HF MF ⊢
              have HG := Lib.hid HF
              clear hw4 HF hS0 cd f12
              go_wp2
              go_roundw
              case rel =>
                refine ⟨j + 1, by omega, by go_num, Lib.hid (SeaB.week HE.out HC1.out (HG.out.congr (fun w _ => ?_) rfl)), MF⟩
                have e1 := HA.out; have e2 := HB'.out; have e3 := HC.out; have e4 := HD.out; have e5 := HTOP.out
                subst e1 e2 e3 e5
                refine ⟨rfl, rfl, rfl, ?_⟩
                simp only [← e4]
                by_cases hwj : w = j
                · simp [hwj]; rw [Bool.eq_iff_iff]; simp
                · simp [hwj]
              case measure => simp [intOf]; omega
          · have hk0 : ((s.count : Int) == 0) = false := by simp [h0]
            have H0 := Lib.hid h0
            clear h0
            obtain ⟨s1, HW1, HE, HC1⟩ : ∃ s1, Hid (SeaB wr b s1) ∧ Hid (∀ w, s1.least w = (if w = j then (if s.count = 0 then at0 l j else s.least j) else (addP s l j).least w) ∧ s1.most w = (if w = j then (if s.count = 0 then at0 l j else s.most j) else (addP s l j).most w) ∧ s1.loss w = (addP s l j).loss w ∧ s1.peak w = (addP s l j).peak w) ∧ Hid (s1.count = s.count) := ⟨addP s l j, HS, Lib.hid (fun w => by
              refine ⟨?_, ?_, rfl, rfl⟩
              · by_cases hwj : w = j
                · simp [addP, hwj, if_neg H0.out]
                · simp [hwj]
              · by_cases hwj : w = j
                · simp [addP, hwj, if_neg H0.out]
                · simp [hwj]), Lib.hid rfl⟩
            have MS2 := hM
            clear HS hM
            go_wp2
            rename_i K2 hK2
            have HK2 := Lib.hid hK2; clear hK2
            obtain ⟨ca, cb, cc, cd⟩ := HW1.out.cells hj4
            have f0 := HW1.out.free j
            obtain ⟨A, hA⟩ : ∃ x, x = s1.least j := ⟨_, rfl⟩
            obtain ⟨B, hB'⟩ : ∃ x, x = s1.most j := ⟨_, rfl⟩
            obtain ⟨C, hC⟩ : ∃ x, x = s1.loss j := ⟨_, rfl⟩
            rw [← hA] at ca
            rw [← hB'] at cb
            rw [← hC] at cc
            have HA := Lib.hid hA
            have HB' := Lib.hid hB'
            have HC := Lib.hid hC
            clear cd hA hB' hC
            have f4 := HW1.out.free (4 + j)
            have f8 := HW1.out.free (8 + j)
            have hS0 : wr.drew.cell? ⟨b, j, none⟩ = some (.int .i64 A) ∧ wr.drew.cell? ⟨b, 4 + j, none⟩ = some (.int .i64 B) ∧ wr.drew.cell? ⟨b, 8 + j, none⟩ = some (.int .i64 C) := ⟨ca, cb, cc⟩
            have kt : IntKind.i64.wrap (top - at0 l j) = top - at0 l j := c33 (by omega)
            refine wp_region_y (S := fun U => U.cell? ⟨b, j, none⟩ = some (.int .i64 A) ∧ U.cell? ⟨b, 4 + j, none⟩ = some (.int .i64 B) ∧ U.cell? ⟨b, 8 + j, none⟩ = some (.int .i64 C)) (z := 35) rfl ?_
            refine wpAnyY_pure (i := 0) (oi := { dst := some 43, op := _, type := _, pos := _, after := _, guard := none }) (v := ?_) rfl (by kernel_rfl) (by kernel_rfl) (by kernel_rfl) (fun _ _ _ h => h) (Or.inl ⟨by rfl, ?_⟩) (fun _ => hS0) ?_
            rotate_left
            · intro U hU
              go_simp
              all_goals with_reducible rfl
            simp only [Act.put, List.setIfInBounds_toArray, List.set_cons_zero, List.set_cons_succ]
            refine wpAnyY_pure (i := 1) (oi := { dst := some 44, op := _, type := _, pos := _, after := _, guard := none }) (v := ?_) rfl (by kernel_rfl) (by kernel_rfl) (by kernel_rfl) (fun _ _ _ h => h) (Or.inl ⟨by rfl, ?_⟩) (fun _ => hS0) ?_
            rotate_left
            · intro U hU
              go_simp
              all_goals with_reducible rfl
            simp only [Act.put, List.setIfInBounds_toArray, List.set_cons_zero, List.set_cons_succ]
            refine wpAnyY_pure (i := 2) (oi := { dst := some 45, op := _, type := _, pos := _, after := _, guard := none }) (v := ?_) rfl (by kernel_rfl) (by kernel_rfl) (by kernel_rfl) (fun _ _ _ h => h) (Or.inl ⟨by rfl, ?_⟩) (fun _ => hS0) ?_
            rotate_left
            · intro U hU
              go_simp
              all_goals with_reducible rfl
            simp only [Act.put, List.setIfInBounds_toArray, List.set_cons_zero, List.set_cons_succ]
            refine wpAnyY_pure (i := 3) (oi := { dst := some 46, op := _, type := _, pos := _, after := _, guard := none }) (v := ?_) rfl (by kernel_rfl) (by kernel_rfl) (by kernel_rfl) (fun _ _ _ h => h) (Or.inl ⟨by rfl, ?_⟩) (fun _ => hS0) ?_
            rotate_left
            · intro U hU
              go_simp
              all_goals with_reducible rfl
            simp only [Act.put, List.setIfInBounds_toArray, List.set_cons_zero, List.set_cons_succ]
            refine wpAnyY_pure (i := 4) (oi := { dst := some 47, op := _, type := _, pos := _, after := _, guard := none }) (v := ?_) rfl (by kernel_rfl) (by kernel_rfl) (by kernel_rfl) (fun _ _ _ h => h) (Or.inl ⟨by rfl, ?_⟩) (fun _ => hS0) ?_
            rotate_left
            · intro U hU
              go_simp
              all_goals with_reducible rfl
            simp only [Act.put, List.setIfInBounds_toArray, List.set_cons_zero, List.set_cons_succ]
            refine wpAnyY_pure (i := 5) (oi := { dst := some 48, op := _, type := _, pos := _, after := _, guard := none }) (v := ?_) rfl (by kernel_rfl) (by kernel_rfl) (by kernel_rfl) (fun _ _ _ h => h) (Or.inl ⟨by rfl, ?_⟩) (fun _ => hS0) ?_
            rotate_left
            · intro U hU
              go_simp
              all_goals with_reducible rfl
            simp only [Act.put, List.setIfInBounds_toArray, List.set_cons_zero, List.set_cons_succ]
            refine wpAnyY_pure (i := 6) (oi := { dst := some 49, op := _, type := _, pos := _, after := _, guard := none }) (v := ?_) rfl (by kernel_rfl) (by kernel_rfl) (by kernel_rfl) (fun _ _ _ h => h) (Or.inl ⟨by rfl, ?_⟩) (fun _ => hS0) ?_
            rotate_left
            · intro U hU
              go_simp
              all_goals with_reducible rfl
            simp only [Act.put, List.setIfInBounds_toArray, List.set_cons_zero, List.set_cons_succ]
            refine wpAnyY_pure (i := 7) (oi := { dst := some 50, op := _, type := _, pos := _, after := _, guard := none }) (v := ?_) rfl (by kernel_rfl) (by kernel_rfl) (by kernel_rfl) (fun _ _ _ h => h) (Or.inl ⟨by rfl, ?_⟩) (fun _ => hS0) ?_
            rotate_left
            · intro U hU
              go_simp
              all_goals with_reducible rfl
            simp only [Act.put, List.setIfInBounds_toArray, List.set_cons_zero, List.set_cons_succ]
            refine wpAnyY_pure (i := 8) (oi := { dst := some 51, op := _, type := _, pos := _, after := _, guard := none }) (v := ?_) rfl (by kernel_rfl) (by kernel_rfl) (by kernel_rfl) (fun _ _ _ h => h) (Or.inl ⟨by rfl, ?_⟩) (fun _ => hS0) ?_
            rotate_left
            · intro U hU
              go_simp
              all_goals with_reducible rfl
            simp only [Act.put, List.setIfInBounds_toArray, List.set_cons_zero, List.set_cons_succ]
            refine wpAnyY_pure (i := 9) (oi := { dst := some 52, op := _, type := _, pos := _, after := _, guard := none }) (v := ?_) rfl (by kernel_rfl) (by kernel_rfl) (by kernel_rfl) (fun _ _ _ h => h) (Or.inl ⟨by rfl, ?_⟩) (fun _ => hS0) ?_
            rotate_left
            · intro U hU
              go_simp
              all_goals with_reducible rfl
            simp only [Act.put, List.setIfInBounds_toArray, List.set_cons_zero, List.set_cons_succ]
            refine wpAnyY_pure (i := 10) (oi := { dst := some 53, op := _, type := _, pos := _, after := _, guard := none }) (v := ?_) rfl (by kernel_rfl) (by kernel_rfl) (by kernel_rfl) (fun _ _ _ h => h) (Or.inl ⟨by rfl, ?_⟩) (fun _ => hS0) ?_
            rotate_left
            · intro U hU
              go_simp
              all_goals with_reducible rfl
            simp only [Act.put, List.setIfInBounds_toArray, List.set_cons_zero, List.set_cons_succ]
            refine wpAnyY_take (i := 11) (oi := { dst := some 54, op := _, type := _, pos := _, after := _, guard := none }) (v := ?_) rfl (by kernel_rfl) (by kernel_rfl) (by kernel_rfl) (fun _ _ _ h => h) (Or.inl ⟨by rfl, ?_⟩) (fun _ => hS0) ?_
            rotate_left
            · intro U hU
              obtain ⟨ua, ub, uc⟩ := hU
              go_simp
              all_goals with_reducible rfl
            simp only [Act.put, List.setIfInBounds_toArray, List.set_cons_zero, List.set_cons_succ]
            refine wpAnyY_pure (i := 12) (oi := { dst := some 55, op := _, type := _, pos := _, after := _, guard := none }) (v := ?_) rfl (by kernel_rfl) (by kernel_rfl) (by kernel_rfl) (fun _ _ _ h => h) (Or.inl ⟨by rfl, ?_⟩) (fun _ => hS0) ?_
            rotate_left
            · intro U hU
              go_simp
              all_goals with_reducible rfl
            simp only [Act.put, List.setIfInBounds_toArray, List.set_cons_zero, List.set_cons_succ]
            refine wpAnyY_pure (i := 13) (oi := { dst := some 56, op := _, type := _, pos := _, after := _, guard := none }) (v := .int .i64 (min (A) (at0 l j))) rfl (by kernel_rfl) (by kernel_rfl) (by kernel_rfl) (fun _ _ _ h => h) (Or.inl ⟨by rfl, ?_⟩) (fun _ => hS0) ?_
            · exact yields_min (.tmp 54) (.tmp 55) #[3, 3] (by rfl) (by rfl) (by rfl)
            simp only [Act.put, List.setIfInBounds_toArray, List.set_cons_zero, List.set_cons_succ]
            refine wpAnyY_pure (i := 14) (oi := { dst := some 57, op := _, type := _, pos := _, after := _, guard := none }) (v := ?_) rfl (by kernel_rfl) (by kernel_rfl) (by kernel_rfl) (fun _ _ _ h => h) (Or.inl ⟨by rfl, ?_⟩) (fun _ => hS0) ?_
            rotate_left
            · intro U hU
              go_simp
              all_goals with_reducible rfl
            simp only [Act.put, List.setIfInBounds_toArray, List.set_cons_zero, List.set_cons_succ]
            refine wpAnyY_pure (i := 15) (oi := { dst := some 58, op := _, type := _, pos := _, after := _, guard := none }) (v := ?_) rfl (by kernel_rfl) (by kernel_rfl) (by kernel_rfl) (fun _ _ _ h => h) (Or.inl ⟨by rfl, ?_⟩) (fun _ => hS0) ?_
            rotate_left
            · intro U hU
              go_simp
              all_goals with_reducible rfl
            simp only [Act.put, List.setIfInBounds_toArray, List.set_cons_zero, List.set_cons_succ]
            refine wpAnyY_pure (i := 16) (oi := { dst := some 59, op := _, type := _, pos := _, after := _, guard := none }) (v := ?_) rfl (by kernel_rfl) (by kernel_rfl) (by kernel_rfl) (fun _ _ _ h => h) (Or.inl ⟨by rfl, ?_⟩) (fun _ => hS0) ?_
            rotate_left
            · intro U hU
              go_simp
              all_goals with_reducible rfl
            simp only [Act.put, List.setIfInBounds_toArray, List.set_cons_zero, List.set_cons_succ]
            refine wpAnyY_pure (i := 17) (oi := { dst := some 60, op := _, type := _, pos := _, after := _, guard := none }) (v := ?_) rfl (by kernel_rfl) (by kernel_rfl) (by kernel_rfl) (fun _ _ _ h => h) (Or.inl ⟨by rfl, ?_⟩) (fun _ => hS0) ?_
            rotate_left
            · intro U hU
              go_simp
              all_goals with_reducible rfl
            simp only [Act.put, List.setIfInBounds_toArray, List.set_cons_zero, List.set_cons_succ]
            refine wpAnyY_pure (i := 18) (oi := { dst := some 61, op := _, type := _, pos := _, after := _, guard := none }) (v := ?_) rfl (by kernel_rfl) (by kernel_rfl) (by kernel_rfl) (fun _ _ _ h => h) (Or.inl ⟨by rfl, ?_⟩) (fun _ => hS0) ?_
            rotate_left
            · intro U hU
              go_simp
              all_goals with_reducible rfl
            simp only [Act.put, List.setIfInBounds_toArray, List.set_cons_zero, List.set_cons_succ]
            refine wpAnyY_take (i := 19) (oi := { dst := some 62, op := _, type := _, pos := _, after := _, guard := none }) (v := ?_) rfl (by kernel_rfl) (by kernel_rfl) (by kernel_rfl) (fun _ _ _ h => h) (Or.inl ⟨by rfl, ?_⟩) (fun _ => hS0) ?_
            rotate_left
            · intro U hU
              obtain ⟨ua, ub, uc⟩ := hU
              go_simp
              all_goals with_reducible rfl
            simp only [Act.put, List.setIfInBounds_toArray, List.set_cons_zero, List.set_cons_succ]
            refine wpAnyY_pure (i := 20) (oi := { dst := some 63, op := _, type := _, pos := _, after := _, guard := none }) (v := ?_) rfl (by kernel_rfl) (by kernel_rfl) (by kernel_rfl) (fun _ _ _ h => h) (Or.inl ⟨by rfl, ?_⟩) (fun _ => hS0) ?_
            rotate_left
            · intro U hU
              go_simp
              all_goals with_reducible rfl
            simp only [Act.put, List.setIfInBounds_toArray, List.set_cons_zero, List.set_cons_succ]
            refine wpAnyY_pure (i := 21) (oi := { dst := some 64, op := _, type := _, pos := _, after := _, guard := none }) (v := .int .i64 (max (B) (at0 l j))) rfl (by kernel_rfl) (by kernel_rfl) (by kernel_rfl) (fun _ _ _ h => h) (Or.inl ⟨by rfl, ?_⟩) (fun _ => hS0) ?_
            · exact yields_max (.tmp 62) (.tmp 63) #[3, 3] (by rfl) (by rfl) (by rfl)
            simp only [Act.put, List.setIfInBounds_toArray, List.set_cons_zero, List.set_cons_succ]
            refine wpAnyY_pure (i := 22) (oi := { dst := some 65, op := _, type := _, pos := _, after := _, guard := none }) (v := ?_) rfl (by kernel_rfl) (by kernel_rfl) (by kernel_rfl) (fun _ _ _ h => h) (Or.inl ⟨by rfl, ?_⟩) (fun _ => hS0) ?_
            rotate_left
            · intro U hU
              go_simp
              all_goals with_reducible rfl
            simp only [Act.put, List.setIfInBounds_toArray, List.set_cons_zero, List.set_cons_succ]
            refine wpAnyY_pure (i := 23) (oi := { dst := some 66, op := _, type := _, pos := _, after := _, guard := none }) (v := ?_) rfl (by kernel_rfl) (by kernel_rfl) (by kernel_rfl) (fun _ _ _ h => h) (Or.inl ⟨by rfl, ?_⟩) (fun _ => hS0) ?_
            rotate_left
            · intro U hU
              go_simp
              all_goals with_reducible rfl
            simp only [Act.put, List.setIfInBounds_toArray, List.set_cons_zero, List.set_cons_succ]
            refine wpAnyY_pure (i := 24) (oi := { dst := some 67, op := _, type := _, pos := _, after := _, guard := none }) (v := ?_) rfl (by kernel_rfl) (by kernel_rfl) (by kernel_rfl) (fun _ _ _ h => h) (Or.inl ⟨by rfl, ?_⟩) (fun _ => hS0) ?_
            rotate_left
            · intro U hU
              go_simp
              all_goals with_reducible rfl
            simp only [Act.put, List.setIfInBounds_toArray, List.set_cons_zero, List.set_cons_succ]
            refine wpAnyY_pure (i := 25) (oi := { dst := some 68, op := _, type := _, pos := _, after := _, guard := none }) (v := ?_) rfl (by kernel_rfl) (by kernel_rfl) (by kernel_rfl) (fun _ _ _ h => h) (Or.inl ⟨by rfl, ?_⟩) (fun _ => hS0) ?_
            rotate_left
            · intro U hU
              go_simp
              all_goals with_reducible rfl
            simp only [Act.put, List.setIfInBounds_toArray, List.set_cons_zero, List.set_cons_succ]
            refine wpAnyY_pure (i := 26) (oi := { dst := some 69, op := _, type := _, pos := _, after := _, guard := none }) (v := ?_) rfl (by kernel_rfl) (by kernel_rfl) (by kernel_rfl) (fun _ _ _ h => h) (Or.inl ⟨by rfl, ?_⟩) (fun _ => hS0) ?_
            rotate_left
            · intro U hU
              go_simp
              all_goals with_reducible rfl
            simp only [Act.put, List.setIfInBounds_toArray, List.set_cons_zero, List.set_cons_succ]
            refine wpAnyY_take (i := 27) (oi := { dst := some 70, op := _, type := _, pos := _, after := _, guard := none }) (v := ?_) rfl (by kernel_rfl) (by kernel_rfl) (by kernel_rfl) (fun _ _ _ h => h) (Or.inl ⟨by rfl, ?_⟩) (fun _ => hS0) ?_
            rotate_left
            · intro U hU
              obtain ⟨ua, ub, uc⟩ := hU
              go_simp
              all_goals with_reducible rfl
            simp only [Act.put, List.setIfInBounds_toArray, List.set_cons_zero, List.set_cons_succ]
            refine wpAnyY_pure (i := 28) (oi := { dst := some 71, op := _, type := _, pos := _, after := _, guard := none }) (v := ?_) rfl (by kernel_rfl) (by kernel_rfl) (by kernel_rfl) (fun _ _ _ h => h) (Or.inl ⟨by rfl, ?_⟩) (fun _ => hS0) ?_
            rotate_left
            · intro U hU
              go_simp
              all_goals with_reducible rfl
            simp only [Act.put, List.setIfInBounds_toArray, List.set_cons_zero, List.set_cons_succ]
            refine wpAnyY_pure (i := 29) (oi := { dst := some 72, op := _, type := _, pos := _, after := _, guard := none }) (v := ?_) rfl (by kernel_rfl) (by kernel_rfl) (by kernel_rfl) (fun _ _ _ h => h) (Or.inl ⟨by rfl, ?_⟩) (fun _ => hS0) ?_
            rotate_left
            · intro U hU
              go_simp
              all_goals with_reducible rfl
            simp only [Act.put, List.setIfInBounds_toArray, List.set_cons_zero, List.set_cons_succ]
            refine wpAnyY_pure (i := 30) (oi := { dst := some 73, op := _, type := _, pos := _, after := _, guard := none }) (v := ?_) rfl (by kernel_rfl) (by kernel_rfl) (by kernel_rfl) (fun _ _ _ h => h) (Or.inl ⟨by rfl, ?_⟩) (fun _ => hS0) ?_
            rotate_left
            · intro U hU
              go_simp
              all_goals with_reducible rfl
            simp only [Act.put, List.setIfInBounds_toArray, List.set_cons_zero, List.set_cons_succ]
            refine wpAnyY_pure (i := 31) (oi := { dst := some 74, op := _, type := _, pos := _, after := _, guard := none }) (v := .int .i64 (max (C) (top - at0 l j))) rfl (by kernel_rfl) (by kernel_rfl) (by kernel_rfl) (fun _ _ _ h => h) (Or.inl ⟨by rfl, ?_⟩) (fun _ => hS0) ?_
            · exact yields_max (.tmp 70) (.tmp 73) #[3, 3] (by rfl) (by rfl) (by rfl)
            simp only [Act.put, List.setIfInBounds_toArray, List.set_cons_zero, List.set_cons_succ]
            refine wpAnyY_pure (i := 32) (oi := { dst := some 75, op := _, type := _, pos := _, after := _, guard := none }) (v := ?_) rfl (by kernel_rfl) (by kernel_rfl) (by kernel_rfl) (fun _ _ _ h => h) (Or.inl ⟨by rfl, ?_⟩) (fun _ => hS0) ?_
            rotate_left
            · intro U hU
              go_simp
              all_goals with_reducible rfl
            simp only [Act.put, List.setIfInBounds_toArray, List.set_cons_zero, List.set_cons_succ]
            refine wpAnyY_pure (i := 33) (oi := { dst := some 76, op := _, type := _, pos := _, after := _, guard := none }) (v := ?_) rfl (by kernel_rfl) (by kernel_rfl) (by kernel_rfl) (fun _ _ _ h => h) (Or.inl ⟨by rfl, ?_⟩) (fun _ => hS0) ?_
            rotate_left
            · intro U hU
              go_simp
              all_goals with_reducible rfl
            simp only [Act.put, List.setIfInBounds_toArray, List.set_cons_zero, List.set_cons_succ]
            refine wpAnyY_pure (i := 34) (oi := { dst := some 77, op := _, type := _, pos := _, after := _, guard := none }) (v := ?_) rfl (by kernel_rfl) (by kernel_rfl) (by kernel_rfl) (fun _ _ _ h => h) (Or.inl ⟨by rfl, ?_⟩) (fun _ => hS0) ?_
            rotate_left
            · intro U hU
              go_simp
              all_goals with_reducible rfl
            simp only [Act.put, List.setIfInBounds_toArray, List.set_cons_zero, List.set_cons_succ]
            refine wpAnyY_pure (i := 36) (oi := { dst := some 78, op := _, type := _, pos := _, after := _, guard := none }) (v := ?_) rfl (by kernel_rfl) (by kernel_rfl) (by kernel_rfl) (fun _ _ _ h => h) (Or.inl ⟨by rfl, ?_⟩) (fun _ => hS0) ?_
            rotate_left
            · intro U hU
              go_simp
              all_goals with_reducible rfl
            simp only [Act.put, List.setIfInBounds_toArray, List.set_cons_zero, List.set_cons_succ]
            refine wpAnyY_pure (i := 37) (oi := { dst := some 79, op := _, type := _, pos := _, after := _, guard := none }) (v := ?_) rfl (by kernel_rfl) (by kernel_rfl) (by kernel_rfl) (fun _ _ _ h => h) (Or.inl ⟨by rfl, ?_⟩) (fun _ => hS0) ?_
            rotate_left
            · intro U hU
              go_simp
              all_goals with_reducible rfl
            simp only [Act.put, List.setIfInBounds_toArray, List.set_cons_zero, List.set_cons_succ]
            refine wpAnyY_pure (i := 40) (oi := { dst := some 81, op := _, type := _, pos := _, after := _, guard := none }) (v := ?_) rfl (by kernel_rfl) (by kernel_rfl) (by kernel_rfl) (fun _ _ _ h => h) (Or.inl ⟨by rfl, ?_⟩) (fun _ => hS0) ?_
            rotate_left
            · intro U hU
              go_simp
              all_goals with_reducible rfl
            simp only [Act.put, List.setIfInBounds_toArray, List.set_cons_zero, List.set_cons_succ]
            refine wpAnyY_pure (i := 41) (oi := { dst := some 82, op := _, type := _, pos := _, after := _, guard := none }) (v := ?_) rfl (by kernel_rfl) (by kernel_rfl) (by kernel_rfl) (fun _ _ _ h => h) (Or.inl ⟨by rfl, ?_⟩) (fun _ => hS0) ?_
            rotate_left
            · intro U hU
              go_simp
              all_goals with_reducible rfl
            simp only [Act.put, List.setIfInBounds_toArray, List.set_cons_zero, List.set_cons_succ]
            refine wpAnyY_one (i := 35) (o := { dst := none, op := _, type := _, pos := _, after := _, guard := none }) (by kernel_rfl) rfl (by rfl) (fun K1 hK1 => ?_)
            have HK1 := Lib.hid hK1; clear hK1
            go_simp
            refine HK1.out _ _ (fun h => by simp at h) ?_
            clear HK1 K1
            try simp only [Act.put, List.setIfInBounds_toArray, List.set_cons_zero, List.set_cons_succ]
            have HT1 : SeaB ((wr.setCell ⟨b, j, none⟩ (.int .i64 (min A (at0 l j)))).drew) b _ := HW1.out.setLeast hj4
            obtain ⟨-, cb, -, -⟩ := HT1.cells hj4
            refine wpAnyY_pure (i := 38) (oi := { dst := some 80, op := _, type := _, pos := _, after := _, guard := none }) (v := ?_) rfl (by kernel_rfl) (by kernel_rfl) (by kernel_rfl) (fun _ _ _ h => h) (Or.inl ⟨by rfl, ?_⟩) (fun h => by simp at h) ?_
            rotate_left
            · intro U hU
              go_simp
              all_goals with_reducible rfl
            simp only [Act.put, List.setIfInBounds_toArray, List.set_cons_zero, List.set_cons_succ]
            refine wpAnyY_one (i := 39) (o := { dst := none, op := _, type := _, pos := _, after := _, guard := none }) (by kernel_rfl) rfl (by rfl) (fun K1 hK1 => ?_)
            have HK1 := Lib.hid hK1; clear hK1
            go_simp
            refine HK1.out _ _ (fun h => by simp at h) ?_
            clear HK1 K1
            try simp only [Act.put, List.setIfInBounds_toArray, List.set_cons_zero, List.set_cons_succ]
            have HT2 : SeaB (((wr.setCell ⟨b, j, none⟩ (.int .i64 (min A (at0 l j)))).setCell ⟨b, 4 + j, none⟩ (.int .i64 (max B (at0 l j)))).drew) b _ := HT1.setMost hj4
            obtain ⟨-, -, cc, -⟩ := HT2.cells hj4
            refine wpAnyY_pure (i := 42) (oi := { dst := some 83, op := _, type := _, pos := _, after := _, guard := none }) (v := ?_) rfl (by kernel_rfl) (by kernel_rfl) (by kernel_rfl) (fun _ _ _ h => h) (Or.inl ⟨by rfl, ?_⟩) (fun h => by simp at h) ?_
            rotate_left
            · intro U hU
              go_simp
              all_goals with_reducible rfl
            simp only [Act.put, List.setIfInBounds_toArray, List.set_cons_zero, List.set_cons_succ]
            refine wpAnyY_one (i := 43) (o := { dst := none, op := _, type := _, pos := _, after := _, guard := none }) (by kernel_rfl) rfl (by rfl) (fun K1 hK1 => ?_)
            have HK1 := Lib.hid hK1; clear hK1
            go_simp
            refine HK1.out _ _ (fun h => by simp at h) ?_
            clear HK1 K1
            try simp only [Act.put, List.setIfInBounds_toArray, List.set_cons_zero, List.set_cons_succ]
            have HT3 : SeaB ((((wr.setCell ⟨b, j, none⟩ (.int .i64 (min A (at0 l j)))).setCell ⟨b, 4 + j, none⟩ (.int .i64 (max B (at0 l j)))).setCell ⟨b, 8 + j, none⟩ (.int .i64 (max C (top - at0 l j)))).drew) b _ := HT2.setLoss hj4
            have MT3 : Bm b w.heap.size w ((((wr.setCell ⟨b, j, none⟩ (.int .i64 (min A (at0 l j)))).setCell ⟨b, 4 + j, none⟩ (.int .i64 (max B (at0 l j)))).setCell ⟨b, 8 + j, none⟩ (.int .i64 (max C (top - at0 l j)))).drew) := bm_drewC (bm_setC (bm_setC (bm_setC MS2)))
            refine wpAnyY_done (by kernel_rfl) ?_ _
            refine HK2.out _ _ ?_
            clear HK2 K2
            obtain ⟨w3, hw3⟩ : ∃ x, x = (((wr.setCell ⟨b, j, none⟩ (.int .i64 (min A (at0 l j)))).setCell ⟨b, 4 + j, none⟩ (.int .i64 (max B (at0 l j)))).setCell ⟨b, 8 + j, none⟩ (.int .i64 (max C (top - at0 l j)))).drew := ⟨_, rfl⟩
            rw [← hw3] at HT3 MT3 ⊢
            clear hw3 HT1 HT2 ca cb cc f0 f4 f8 hS0 MS2
            have H3 := Lib.hid HT3
            clear HT3
            obtain ⟨-, -, -, cd⟩ := H3.out.cells hj4
            have f12 := H3.out.free (12 + j)
            obtain ⟨D, hD⟩ : ∃ x, x = s1.peak j := ⟨_, rfl⟩
            simp only at cd
            rw [← hD] at cd
            have HD := Lib.hid hD
            clear hD
            have hS0 : w3.drew.cell? ⟨b, 12 + j, none⟩ = some (.bool D) := cd
            go_wp2
            by_cases hDt : D = true
            · subst hDt
              refine wp_region_y (S := fun U => U.cell? ⟨b, 12 + j, none⟩ = some (.bool true)) (z := 16) rfl ?_
              refine wpAnyY_pure (i := 0) (oi := { dst := some 84, op := _, type := _, pos := _, after := _, guard := none }) (v := ?_) rfl (by kernel_rfl) (by kernel_rfl) (by kernel_rfl) (fun _ _ _ h => h) (Or.inl ⟨by rfl, ?_⟩) (fun _ => hS0) ?_
              rotate_left
              · intro U hU
                go_simp
                all_goals with_reducible rfl
              simp only [Act.put, List.setIfInBounds_toArray, List.set_cons_zero, List.set_cons_succ]
              refine wpAnyY_pure (i := 1) (oi := { dst := some 85, op := _, type := _, pos := _, after := _, guard := none }) (v := ?_) rfl (by kernel_rfl) (by kernel_rfl) (by kernel_rfl) (fun _ _ _ h => h) (Or.inl ⟨by rfl, ?_⟩) (fun _ => hS0) ?_
              rotate_left
              · intro U hU
                go_simp
                all_goals with_reducible rfl
              simp only [Act.put, List.setIfInBounds_toArray, List.set_cons_zero, List.set_cons_succ]
              refine wpAnyY_pure (i := 2) (oi := { dst := some 86, op := _, type := _, pos := _, after := _, guard := none }) (v := ?_) rfl (by kernel_rfl) (by kernel_rfl) (by kernel_rfl) (fun _ _ _ h => h) (Or.inl ⟨by rfl, ?_⟩) (fun _ => hS0) ?_
              rotate_left
              · intro U hU
                go_simp
                all_goals with_reducible rfl
              simp only [Act.put, List.setIfInBounds_toArray, List.set_cons_zero, List.set_cons_succ]
              refine wpAnyY_pure (i := 3) (oi := { dst := some 87, op := _, type := _, pos := _, after := _, guard := none }) (v := ?_) rfl (by kernel_rfl) (by kernel_rfl) (by kernel_rfl) (fun _ _ _ h => h) (Or.inl ⟨by rfl, ?_⟩) (fun _ => hS0) ?_
              rotate_left
              · intro U hU
                go_simp
                all_goals with_reducible rfl
              simp only [Act.put, List.setIfInBounds_toArray, List.set_cons_zero, List.set_cons_succ]
              refine wpAnyY_pure (i := 4) (oi := { dst := some 88, op := _, type := _, pos := _, after := _, guard := none }) (v := ?_) rfl (by kernel_rfl) (by kernel_rfl) (by kernel_rfl) (fun _ _ _ h => h) (Or.inl ⟨by rfl, ?_⟩) (fun _ => hS0) ?_
              rotate_left
              · intro U hU
                go_simp
                all_goals with_reducible rfl
              simp only [Act.put, List.setIfInBounds_toArray, List.set_cons_zero, List.set_cons_succ]
              refine wpAnyY_pure (i := 5) (oi := { dst := some 89, op := _, type := _, pos := _, after := _, guard := none }) (v := ?_) rfl (by kernel_rfl) (by kernel_rfl) (by kernel_rfl) (fun _ _ _ h => h) (Or.inl ⟨by rfl, ?_⟩) (fun _ => hS0) ?_
              rotate_left
              · intro U hU
                go_simp
                all_goals with_reducible rfl
              simp only [Act.put, List.setIfInBounds_toArray, List.set_cons_zero, List.set_cons_succ]
              refine wpAnyY_pure (i := 6) (oi := { dst := some 90, op := _, type := _, pos := _, after := _, guard := none }) (v := ?_) rfl (by kernel_rfl) (by kernel_rfl) (by kernel_rfl) (fun _ _ _ h => h) (Or.inl ⟨by rfl, ?_⟩) (fun _ => hS0) ?_
              rotate_left
              · intro U hU
                go_simp
                all_goals with_reducible rfl
              simp only [Act.put, List.setIfInBounds_toArray, List.set_cons_zero, List.set_cons_succ]
              refine wpAnyY_take (i := 7) (oi := { dst := some 91, op := _, type := _, pos := _, after := _, guard := none }) (v := ?_) rfl (by kernel_rfl) (by kernel_rfl) (by kernel_rfl) (fun _ _ _ h => h) (Or.inl ⟨by rfl, ?_⟩) (fun _ => hS0) ?_
              rotate_left
              · intro U hU
                have ud := hU
                go_simp
                all_goals with_reducible rfl
              simp only [Act.put, List.setIfInBounds_toArray, List.set_cons_zero, List.set_cons_succ]
              refine wpAnyY_pure (i := 8) (oi := { dst := some 92, op := _, type := _, pos := _, after := _, guard := none }) (v := ?_) rfl (by kernel_rfl) (by kernel_rfl) (by kernel_rfl) (fun _ _ _ h => h) (Or.inl ⟨by rfl, ?_⟩) (fun _ => hS0) ?_
              rotate_left
              · intro U hU
                go_simp
                all_goals with_reducible rfl
              simp only [Act.put, List.setIfInBounds_toArray, List.set_cons_zero, List.set_cons_succ]
              refine wpAnyY_pure (i := 9) (oi := { dst := some 93, op := _, type := _, pos := _, after := _, guard := some (8, false) }) (v := undef) rfl (by kernel_rfl) (by kernel_rfl) (by kernel_rfl) (fun _ _ _ h => h) (Or.inr ⟨by rfl, rfl⟩) (fun _ => hS0) ?_
              simp only [Act.put, List.setIfInBounds_toArray, List.set_cons_zero, List.set_cons_succ]
              refine wpAnyY_pure (i := 10) (oi := { dst := some 94, op := _, type := _, pos := _, after := _, guard := some (8, false) }) (v := undef) rfl (by kernel_rfl) (by kernel_rfl) (by kernel_rfl) (fun _ _ _ h => h) (Or.inr ⟨by rfl, rfl⟩) (fun _ => hS0) ?_
              simp only [Act.put, List.setIfInBounds_toArray, List.set_cons_zero, List.set_cons_succ]
              refine wpAnyY_pure (i := 11) (oi := { dst := some 95, op := _, type := _, pos := _, after := _, guard := some (8, false) }) (v := undef) rfl (by kernel_rfl) (by kernel_rfl) (by kernel_rfl) (fun _ _ _ h => h) (Or.inr ⟨by rfl, rfl⟩) (fun _ => hS0) ?_
              simp only [Act.put, List.setIfInBounds_toArray, List.set_cons_zero, List.set_cons_succ]
              refine wpAnyY_pure (i := 12) (oi := { dst := some 96, op := _, type := _, pos := _, after := _, guard := none }) (v := ?_) rfl (by kernel_rfl) (by kernel_rfl) (by kernel_rfl) (fun _ _ _ h => h) (Or.inl ⟨by rfl, ?_⟩) (fun _ => hS0) ?_
              rotate_left
              · intro U hU
                go_simp
                all_goals with_reducible rfl
              simp only [Act.put, List.setIfInBounds_toArray, List.set_cons_zero, List.set_cons_succ]
              refine wpAnyY_pure (i := 13) (oi := { dst := some 97, op := _, type := _, pos := _, after := _, guard := none }) (v := ?_) rfl (by kernel_rfl) (by kernel_rfl) (by kernel_rfl) (fun _ _ _ h => h) (Or.inl ⟨by rfl, ?_⟩) (fun _ => hS0) ?_
              rotate_left
              · intro U hU
                go_simp
                all_goals with_reducible rfl
              simp only [Act.put, List.setIfInBounds_toArray, List.set_cons_zero, List.set_cons_succ]
              refine wpAnyY_pure (i := 14) (oi := { dst := some 98, op := _, type := _, pos := _, after := _, guard := none }) (v := ?_) rfl (by kernel_rfl) (by kernel_rfl) (by kernel_rfl) (fun _ _ _ h => h) (Or.inl ⟨by rfl, ?_⟩) (fun _ => hS0) ?_
              rotate_left
              · intro U hU
                go_simp
                all_goals with_reducible rfl
              simp only [Act.put, List.setIfInBounds_toArray, List.set_cons_zero, List.set_cons_succ]
              refine wpAnyY_pure (i := 15) (oi := { dst := some 99, op := _, type := _, pos := _, after := _, guard := none }) (v := ?_) rfl (by kernel_rfl) (by kernel_rfl) (by kernel_rfl) (fun _ _ _ h => h) (Or.inl ⟨by rfl, ?_⟩) (fun _ => hS0) ?_
              rotate_left
              · intro U hU
                go_simp
                all_goals with_reducible rfl
              simp only [Act.put, List.setIfInBounds_toArray, List.set_cons_zero, List.set_cons_succ]
              refine wpAnyY_one (i := 16) (o := { dst := none, op := _, type := _, pos := _, after := _, guard := none }) (by kernel_rfl) rfl (by rfl) (fun K1 hK1 => ?_)
              have HK1 := Lib.hid hK1; clear hK1
              go_simp
              refine HK1.out _ _ (fun h => by simp at h) ?_
              clear HK1 K1
              try simp only [Act.put, List.setIfInBounds_toArray, List.set_cons_zero, List.set_cons_succ]
              refine wpAnyY_done (by kernel_rfl) ?_ _
              have HF : SeaB (w3.setCell ⟨b, 12 + j, none⟩ (.bool true)).drew b _ := H3.out.setPeak (x := true) hj4
              have MF : Bm b w.heap.size w (w3.setCell ⟨b, 12 + j, none⟩ (.bool true)).drew := bm_drewC (bm_setC MT3)
              obtain ⟨w4, hw4⟩ : ∃ x, x = (w3.setCell ⟨b, 12 + j, none⟩ (.bool true)).drew := ⟨_, rfl⟩
              rw [← hw4] at HF MF ⊢
              have HG := Lib.hid HF
              clear hw4 HF hS0 cd f12
              go_wp2
              go_roundw
              case rel =>
                refine ⟨j + 1, by omega, by go_num, Lib.hid (SeaB.week HE.out HC1.out (HG.out.congr (fun w _ => ?_) rfl)), MF⟩
                have e1 := HA.out; have e2 := HB'.out; have e3 := HC.out; have e4 := HD.out; have e5 := HTOP.out
                subst e1 e2 e3 e5
                refine ⟨rfl, rfl, rfl, ?_⟩
                simp only [← e4]
                by_cases hwj : w = j
                · simp [hwj]
                · simp [hwj]
              case measure => simp [intOf]; omega
            · have hDf : D = false := by simpa using hDt
              subst hDf
              clear hDt
              have eqT : ((at0 l j == top) = true) = (at0 l j = top) := by simp
              refine wp_region_y (S := fun U => U.cell? ⟨b, 12 + j, none⟩ = some (.bool false)) (z := 16) rfl ?_
              refine wpAnyY_pure (i := 0) (oi := { dst := some 84, op := _, type := _, pos := _, after := _, guard := none }) (v := ?_) rfl (by kernel_rfl) (by kernel_rfl) (by kernel_rfl) (fun _ _ _ h => h) (Or.inl ⟨by rfl, ?_⟩) (fun _ => hS0) ?_
              rotate_left
              · intro U hU
                go_simp
                all_goals with_reducible rfl
              simp only [Act.put, List.setIfInBounds_toArray, List.set_cons_zero, List.set_cons_succ]
              refine wpAnyY_pure (i := 1) (oi := { dst := some 85, op := _, type := _, pos := _, after := _, guard := none }) (v := ?_) rfl (by kernel_rfl) (by kernel_rfl) (by kernel_rfl) (fun _ _ _ h => h) (Or.inl ⟨by rfl, ?_⟩) (fun _ => hS0) ?_
              rotate_left
              · intro U hU
                go_simp
                all_goals with_reducible rfl
              simp only [Act.put, List.setIfInBounds_toArray, List.set_cons_zero, List.set_cons_succ]
              refine wpAnyY_pure (i := 2) (oi := { dst := some 86, op := _, type := _, pos := _, after := _, guard := none }) (v := ?_) rfl (by kernel_rfl) (by kernel_rfl) (by kernel_rfl) (fun _ _ _ h => h) (Or.inl ⟨by rfl, ?_⟩) (fun _ => hS0) ?_
              rotate_left
              · intro U hU
                go_simp
                all_goals with_reducible rfl
              simp only [Act.put, List.setIfInBounds_toArray, List.set_cons_zero, List.set_cons_succ]
              refine wpAnyY_pure (i := 3) (oi := { dst := some 87, op := _, type := _, pos := _, after := _, guard := none }) (v := ?_) rfl (by kernel_rfl) (by kernel_rfl) (by kernel_rfl) (fun _ _ _ h => h) (Or.inl ⟨by rfl, ?_⟩) (fun _ => hS0) ?_
              rotate_left
              · intro U hU
                go_simp
                all_goals with_reducible rfl
              simp only [Act.put, List.setIfInBounds_toArray, List.set_cons_zero, List.set_cons_succ]
              refine wpAnyY_pure (i := 4) (oi := { dst := some 88, op := _, type := _, pos := _, after := _, guard := none }) (v := ?_) rfl (by kernel_rfl) (by kernel_rfl) (by kernel_rfl) (fun _ _ _ h => h) (Or.inl ⟨by rfl, ?_⟩) (fun _ => hS0) ?_
              rotate_left
              · intro U hU
                go_simp
                all_goals with_reducible rfl
              simp only [Act.put, List.setIfInBounds_toArray, List.set_cons_zero, List.set_cons_succ]
              refine wpAnyY_pure (i := 5) (oi := { dst := some 89, op := _, type := _, pos := _, after := _, guard := none }) (v := ?_) rfl (by kernel_rfl) (by kernel_rfl) (by kernel_rfl) (fun _ _ _ h => h) (Or.inl ⟨by rfl, ?_⟩) (fun _ => hS0) ?_
              rotate_left
              · intro U hU
                go_simp
                all_goals with_reducible rfl
              simp only [Act.put, List.setIfInBounds_toArray, List.set_cons_zero, List.set_cons_succ]
              refine wpAnyY_pure (i := 6) (oi := { dst := some 90, op := _, type := _, pos := _, after := _, guard := none }) (v := ?_) rfl (by kernel_rfl) (by kernel_rfl) (by kernel_rfl) (fun _ _ _ h => h) (Or.inl ⟨by rfl, ?_⟩) (fun _ => hS0) ?_
              rotate_left
              · intro U hU
                go_simp
                all_goals with_reducible rfl
              simp only [Act.put, List.setIfInBounds_toArray, List.set_cons_zero, List.set_cons_succ]
              refine wpAnyY_take (i := 7) (oi := { dst := some 91, op := _, type := _, pos := _, after := _, guard := none }) (v := ?_) rfl (by kernel_rfl) (by kernel_rfl) (by kernel_rfl) (fun _ _ _ h => h) (Or.inl ⟨by rfl, ?_⟩) (fun _ => hS0) ?_
              rotate_left
              · intro U hU
                have ud := hU
                go_simp
                all_goals with_reducible rfl
              simp only [Act.put, List.setIfInBounds_toArray, List.set_cons_zero, List.set_cons_succ]
              refine wpAnyY_pure (i := 8) (oi := { dst := some 92, op := _, type := _, pos := _, after := _, guard := none }) (v := ?_) rfl (by kernel_rfl) (by kernel_rfl) (by kernel_rfl) (fun _ _ _ h => h) (Or.inl ⟨by rfl, ?_⟩) (fun _ => hS0) ?_
              rotate_left
              · intro U hU
                go_simp
                all_goals with_reducible rfl
              simp only [Act.put, List.setIfInBounds_toArray, List.set_cons_zero, List.set_cons_succ]
              refine wpAnyY_pure (i := 9) (oi := { dst := some 93, op := _, type := _, pos := _, after := _, guard := some (8, false) }) (v := ?_) rfl (by kernel_rfl) (by kernel_rfl) (by kernel_rfl) (fun _ _ _ h => h) (Or.inl ⟨by rfl, ?_⟩) (fun _ => hS0) ?_
              rotate_left
              · intro U hU
                go_simp
                all_goals with_reducible rfl
              simp only [Act.put, List.setIfInBounds_toArray, List.set_cons_zero, List.set_cons_succ]
              refine wpAnyY_pure (i := 10) (oi := { dst := some 94, op := _, type := _, pos := _, after := _, guard := some (8, false) }) (v := ?_) rfl (by kernel_rfl) (by kernel_rfl) (by kernel_rfl) (fun _ _ _ h => h) (Or.inl ⟨by rfl, ?_⟩) (fun _ => hS0) ?_
              rotate_left
              · intro U hU
                go_simp
                all_goals with_reducible rfl
              simp only [Act.put, List.setIfInBounds_toArray, List.set_cons_zero, List.set_cons_succ]
              refine wpAnyY_pure (i := 11) (oi := { dst := some 95, op := _, type := _, pos := _, after := _, guard := some (8, false) }) (v := ?_) rfl (by kernel_rfl) (by kernel_rfl) (by kernel_rfl) (fun _ _ _ h => h) (Or.inl ⟨by rfl, ?_⟩) (fun _ => hS0) ?_
              rotate_left
              · intro U hU
                go_simp
                all_goals with_reducible rfl
              simp only [Act.put, List.setIfInBounds_toArray, List.set_cons_zero, List.set_cons_succ]
              refine wpAnyY_pure (i := 12) (oi := { dst := some 96, op := _, type := _, pos := _, after := _, guard := none }) (v := ?_) rfl (by kernel_rfl) (by kernel_rfl) (by kernel_rfl) (fun _ _ _ h => h) (Or.inl ⟨by rfl, ?_⟩) (fun _ => hS0) ?_
              rotate_left
              · intro U hU
                go_simp
                all_goals with_reducible rfl
              simp only [Act.put, List.setIfInBounds_toArray, List.set_cons_zero, List.set_cons_succ]
              refine wpAnyY_pure (i := 13) (oi := { dst := some 97, op := _, type := _, pos := _, after := _, guard := none }) (v := ?_) rfl (by kernel_rfl) (by kernel_rfl) (by kernel_rfl) (fun _ _ _ h => h) (Or.inl ⟨by rfl, ?_⟩) (fun _ => hS0) ?_
              rotate_left
              · intro U hU
                go_simp
                all_goals with_reducible rfl
              simp only [Act.put, List.setIfInBounds_toArray, List.set_cons_zero, List.set_cons_succ]
              refine wpAnyY_pure (i := 14) (oi := { dst := some 98, op := _, type := _, pos := _, after := _, guard := none }) (v := ?_) rfl (by kernel_rfl) (by kernel_rfl) (by kernel_rfl) (fun _ _ _ h => h) (Or.inl ⟨by rfl, ?_⟩) (fun _ => hS0) ?_
              rotate_left
              · intro U hU
                go_simp
                all_goals with_reducible rfl
              simp only [Act.put, List.setIfInBounds_toArray, List.set_cons_zero, List.set_cons_succ]
              refine wpAnyY_pure (i := 15) (oi := { dst := some 99, op := _, type := _, pos := _, after := _, guard := none }) (v := ?_) rfl (by kernel_rfl) (by kernel_rfl) (by kernel_rfl) (fun _ _ _ h => h) (Or.inl ⟨by rfl, ?_⟩) (fun _ => hS0) ?_
              rotate_left
              · intro U hU
                go_simp
                all_goals with_reducible rfl
              simp only [Act.put, List.setIfInBounds_toArray, List.set_cons_zero, List.set_cons_succ]
              refine wpAnyY_one (i := 16) (o := { dst := none, op := _, type := _, pos := _, after := _, guard := none }) (by kernel_rfl) rfl (by rfl) (fun K1 hK1 => ?_)
              have HK1 := Lib.hid hK1; clear hK1
              go_simp
              refine HK1.out _ _ (fun h => by simp at h) ?_
              clear HK1 K1
              try simp only [Act.put, List.setIfInBounds_toArray, List.set_cons_zero, List.set_cons_succ]
              refine wpAnyY_done (by kernel_rfl) ?_ _
              have HF : SeaB (w3.setCell ⟨b, 12 + j, none⟩ (.bool (at0 l j == top))).drew b _ := H3.out.setPeak (x := (at0 l j == top)) hj4
              have MF : Bm b w.heap.size w (w3.setCell ⟨b, 12 + j, none⟩ (.bool (at0 l j == top))).drew := bm_drewC (bm_setC MT3)
              obtain ⟨w4, hw4⟩ : ∃ x, x = (w3.setCell ⟨b, 12 + j, none⟩ (.bool (at0 l j == top))).drew := ⟨_, rfl⟩
              rw [← hw4] at HF MF ⊢
              have HG := Lib.hid HF
              clear hw4 HF hS0 cd f12
              go_wp2
              go_roundw
              case rel =>
                refine ⟨j + 1, by omega, by go_num, Lib.hid (SeaB.week HE.out HC1.out (HG.out.congr (fun w _ => ?_) rfl)), MF⟩
                have e1 := HA.out; have e2 := HB'.out; have e3 := HC.out; have e4 := HD.out; have e5 := HTOP.out
                subst e1 e2 e3 e5
                refine ⟨rfl, rfl, rfl, ?_⟩
                simp only [← e4]
                by_cases hwj : w = j
                · simp [hwj]; rw [Bool.eq_iff_iff]; simp
                · simp [hwj]
              case measure => simp [intOf]; omega
        · have hji : ¬ (j : Int) < (l.length : Int) := by omega
          have hjj : j = l.length := by omega
          rw [hjj] at HS
          have hcn := HS.out.cnt
          have hfr := HS.out.free 16
          have k1 := c33 (q := (s.count : Int) + 1) (by omega)
          have hcs : (addP s l l.length).count = s.count := rfl
          rw [hcs] at hcn
          clear hcs hjj
          go_wp2
          refine HK.out _ _ ?_; clear HK
          go_wp2
          have hS2 := HS.out.setCount (c := s.count + 1)
          rw [addP_all] at hS2
          have hM2 : Bm b w.heap.size w (wr.setCell ⟨b, 16, none⟩ (.int .i64 ((s.count : Int) + 1))) := ⟨hM.os, hM.tape, hM.output, by rw [World.size_setCell]; exact hM.size, fun i hi hne => (heap_set_other hne).trans (hM.block i hi hne)⟩
          exact Go.Great.bodyPost_end0 rfl rfl ⟨rfl, hS2, hM2⟩
end Ytgnjeefanbcbkaa
end Go.Proofs
/- Generic: a list of numbers that is copied by append to an empty list, and a number put behind it. -/
open Go Go.RowKit Go.YtgnjeefanbcbkaaIt
namespace Go.Proofs
namespace Ytgnjeefanbcbkaa
theorem one_ints (xs : List Int) : ∀ u ∈ xs.map (Value.int .i64), u.oneCell' = true := by
  intro u hu
  obtain ⟨x, -, rfl⟩ := List.mem_map.1 hu
  rfl
theorem own_formI {W : World} {base n : Nat} {e : TypeId} {v : Value} {xs : List Value} (h : W.ownsRow base e 1 v n xs) (h0 : 0 < n) : ∃ g c, v = .slice (some ⟨g, 0, none⟩) n c := by
  rcases h.2 with ⟨_, h1⟩ | ⟨g, cap, cur, e1, _⟩
  · omega
  · exact ⟨g, cap, e1⟩
/-- append([]int{}, xs...) -/
theorem oper_copy {o : Oper} {a : Act} {K : Act → World → Prop} {Q : Exit → Act → World → Prop} (s x : Operand) (ho : o.op = .call { callee := .builtin .append, args := #[s, x], argTypes := #[41, 41] })
    {W w : World} {g : Nat} {vb : Value} {xs : List Int} (hv : SlI w vb xs) (hl : xs.length ≤ 10000) (hs : a.eval s = .slice (some ⟨g, 0, none⟩) 0 0) (hx : a.eval x = vb)
    (hg : w.heap[g]? = some (Obj.cells #[] 3 (0, 0))) (hB : Below W.heap.size W w) (hBg : W.heap.size ≤ g)
    (h : ∀ v' w', w'.ownsRow W.heap.size 3 1 v' xs.length (xs.map (.int .i64)) → Below W.heap.size W w' → (∀ b, b < w.heap.size → b ≠ g → w'.heap[b]? = w.heap[b]?) → (v'.ownBlock = some g ∨ v'.ownBlock = some w.heap.size) → K (a.put o.dst v') w') : o.wp Try.prog a w K Q := by
  obtain ⟨ad, cap, rfl, hm, hc, hcc⟩ := hv
  obtain ⟨i3, hi3, hy1, hy2, hy3⟩ := info_parts info3
  have hown : w.ownsRow W.heap.size 3 1 (.slice (some ⟨g, 0, none⟩) 0 0) 0 [] := ⟨rfl, .inr ⟨g, 0, #[], rfl, hBg, hg, by decide, by decide, rfl, rfl⟩⟩
  have hrd := reads_of_slI (⟨ad, cap, rfl, hm, hc, hcc⟩ : SlI w (.slice ad xs.length cap) xs)
  have hb := lt_blk hg
  refine wp_append_any w s x 41 ho W.heap.size 3 i3 (.int .i64 0) 1 8 Try.underlying41 hi3 hy1 hy2 hy3 rfl (by decide) _ 0 [] hs hown _ ad xs.length cap _ hx hrd (one_ints xs) (Nat.le_trans (by omega : 0 + xs.length ≤ 10000) (by decide)) (by omega) (by omega) ?_
  intro v' w' r1 r2 r3
  rw [Nat.zero_add, List.nil_append] at r1
  have hk : ∀ b, b < w.heap.size → b ≠ g → w'.heap[b]? = w.heap[b]? := fun b hb hne => r2.block b hb (fun e => hne (Option.some.inj e))
  refine h v' w' r1 ⟨r2.os.trans hB.os, r2.tape.trans hB.tape, r2.output.trans hB.output, Nat.le_trans hB.size r2.size, fun b hb => (hk b (Nat.lt_of_lt_of_le hb hB.size) (by omega)).trans (hB.block b hb)⟩ hk (r3.imp_left fun e => e)
/-- append(v, i) -/
theorem oper_push {o : Oper} {a : Act} {K : Act → World → Prop} {Q : Exit → Act → World → Prop} (s x : Operand) (ho : o.op = .call { callee := .builtin .append, args := #[s, x], argTypes := #[41, 41] })
    {W w : World} {g : Nat} {v : Value} {xs : List Int} {i : Int} (hr : w.ownsRow W.heap.size 3 1 v xs.length (xs.map (.int .i64))) (hl : xs.length ≤ 10000) (hs : a.eval s = v) (hx : a.eval x = .slice (some ⟨g, 0, none⟩) 1 1)
    (hg : w.heap[g]? = some (Obj.cells #[.int .i64 i] 3 (0, 0))) (hB : Below W.heap.size W w)
    (h : ∀ v' w', w'.ownsRow W.heap.size 3 1 v' (xs.length + 1) ((xs ++ [i]).map (.int .i64)) → Below W.heap.size W w' → K (a.put o.dst v') w') : o.wp Try.prog a w K Q := by
  obtain ⟨i3, hi3, hy1, hy2, hy3⟩ := info_parts info3
  have hrd := reads_of_slI (slI_new (xs := [i]) (cap := 1) (by simp) (by simp) hg : SlI w (.slice (some ⟨g, 0, none⟩) 1 1) [i])
  have hws := hB.size
  refine wp_append_any w s x 41 ho W.heap.size 3 i3 (.int .i64 0) 1 8 Try.underlying41 hi3 hy1 hy2 hy3 rfl (by decide) _ xs.length _ hs hr _ (some ⟨g, 0, none⟩) 1 1 _ hx hrd (one_ints [i]) (Nat.le_trans (by omega : xs.length + 1 ≤ 10001) (by decide)) (by omega) hws ?_
  intro v' w' r1 r2 r3
  rw [← List.map_append] at r1
  refine h v' w' r1 ⟨r2.os.trans hB.os, r2.tape.trans hB.tape, r2.output.trans hB.output, Nat.le_trans hB.size r2.size, fun b hb => (r2.block b (Nat.lt_of_lt_of_le hb hB.size) (fun e => by have := (hr.lt b e.symm).1; omega)).trans (hB.block b hb)⟩
theorem wpList_copy {ops : Array Oper} {rest : List Oper} {o : Oper} {a : Act} {Q : Exit → Act → World → Prop} (hgd : o.guard = none) (s x : Operand) (ho : o.op = .call { callee := .builtin .append, args := #[s, x], argTypes := #[41, 41] })
    {W w : World} {g : Nat} {vb : Value} {xs : List Int} (hv : SlI w vb xs) (hl : xs.length ≤ 10000) (hs : a.eval s = .slice (some ⟨g, 0, none⟩) 0 0) (hx : a.eval x = vb)
    (hg : w.heap[g]? = some (Obj.cells #[] 3 (0, 0))) (hB : Below W.heap.size W w) (hBg : W.heap.size ≤ g)
    (h : ∀ v' w', w'.ownsRow W.heap.size 3 1 v' xs.length (xs.map (.int .i64)) → Below W.heap.size W w' → wpList Try.prog ops Q rest (a.put o.dst v') w') : wpList Try.prog ops Q (o :: rest) a w :=
  wpList_plain hgd fun _ hK => oper_copy s x ho hv hl hs hx hg hB hBg fun v' w' r1 r2 _ _ => hK _ _ (h v' w' r1 r2)
theorem wpList_push {ops : Array Oper} {rest : List Oper} {o : Oper} {a : Act} {Q : Exit → Act → World → Prop} (hgd : o.guard = none) (s x : Operand) (ho : o.op = .call { callee := .builtin .append, args := #[s, x], argTypes := #[41, 41] })
    {W w : World} {g : Nat} {v : Value} {xs : List Int} {i : Int} (hr : w.ownsRow W.heap.size 3 1 v xs.length (xs.map (.int .i64))) (hl : xs.length ≤ 10000) (hs : a.eval s = v) (hx : a.eval x = .slice (some ⟨g, 0, none⟩) 1 1)
    (hg : w.heap[g]? = some (Obj.cells #[.int .i64 i] 3 (0, 0))) (hB : Below W.heap.size W w)
    (h : ∀ v' w', w'.ownsRow W.heap.size 3 1 v' (xs.length + 1) ((xs ++ [i]).map (.int .i64)) → Below W.heap.size W w' → wpList Try.prog ops Q rest (a.put o.dst v') w') : wpList Try.prog ops Q (o :: rest) a w :=
  wpList_plain hgd fun _ hK => oper_push s x ho hr hl hs hx hg hB fun v' w' r1 r2 => hK _ _ (h v' w' r1 r2)
end Ytgnjeefanbcbkaa
end Go.Proofs
/- Fields, outright: all truths of a small field are tried. -/
open Go Go.RowKit Go.YtgnjeefanbcbkaaIt
namespace Go.Proofs
namespace Ytgnjeefanbcbkaa
/-- A slice of numbers that does not lie in block b. -/
def SlX (b : Nat) (w : World) (v : Value) (xs : List Int) : Prop := SlI w v xs ∧ ∀ bv ov n c, v = .slice (some ⟨bv, ov, none⟩) n c → bv ≠ b
theorem SlX.bm {b B : Nat} {w w' : World} {v : Value} {xs : List Int} (h : SlX b w v xs) (hb : Bm b B w w') (hB : w.heap.size ≤ B) : SlX b w' v xs := by
  obtain ⟨⟨ad, cap, hv, hmx, hp, hc⟩, hn⟩ := h
  refine ⟨⟨ad, cap, hv, hmx, hp, fun h0 => ?_⟩, hn⟩
  obtain ⟨bv, off, ha, hlt, hcell⟩ := hc h0
  have hne : bv ≠ b := hn bv off xs.length cap (by rw [hv, ha])
  exact ⟨bv, off, ha, Nat.lt_of_lt_of_le hlt hb.size, fun i hi => (World.cell?_of_block (w := w) (hb.block bv (Nat.lt_of_lt_of_le hlt hB) hne)).trans (hcell i hi)⟩
theorem SlX.below {b B : Nat} {w w' : World} {v : Value} {xs : List Int} (h : SlX b w v xs) (hb : Below B w w') (hB : w.heap.size ≤ B) : SlX b w' v xs := ⟨h.1.below hb hB, h.2⟩
theorem SeaB.below {W W' : World} {b B : Nat} {s : Sea} (h : SeaB W b s) (hb : Below B W W') (hB : W.heap.size ≤ B) : SeaB W' b s := by
  obtain ⟨cs, h1, h2⟩ := h
  exact ⟨cs, blk_below h1 hb (Nat.lt_of_lt_of_le (lt_blk h1) hB), h2⟩
/-- The lists of the first i numbers. -/
def preL (lo hi : Nat → Int) (k : Nat) (b : List Int) (i : Nat) : List (List Int) := (List.range i).flatMap fun (i : Nat) => if okX b (lo b.length + i) = true then enL lo hi k (b ++ [lo b.length + i]) else []
theorem preL_all (lo hi : Nat → Int) (k : Nat) (b : List Int) : preL lo hi k b (hi b.length - lo b.length + 1).toNat = enL lo hi (k + 1) b := rfl
theorem preL_succ (lo hi : Nat → Int) (k : Nat) (b : List Int) (i : Nat) : preL lo hi k b (i + 1) = preL lo hi k b i ++ (if okX b (lo b.length + i) = true then enL lo hi k (b ++ [lo b.length + i]) else []) := by
  simp [preL, List.range_succ]
theorem preL_le (lo hi : Nat → Int) (k : Nat) (b : List Int) {i j : Nat} (h : i ≤ j) : (preL lo hi k b i).length ≤ (preL lo hi k b j).length := by
  induction j with
  | zero => rw [show i = 0 by omega]; exact Nat.le_refl _
  | succ j ih =>
    rcases (show i = j + 1 ∨ i ≤ j by omega) with rfl | h'
    · exact Nat.le_refl _
    · have := ih h'; rw [preL_succ, List.length_append]; omega
theorem fold_count : ∀ (ls : List (List Int)) (s : Sea), (ls.foldl addS s).count = s.count + ls.length
  | [], s => rfl
  | l :: ls, s => by rw [List.foldl_cons, fold_count ls]; simp [addS]; omega
theorem enL_card {lo hi : Nat → Int} (h : ∀ w, 0 ≤ lo w ∧ hi w ≤ 24) : ∀ (k : Nat) (b : List Int), (enL lo hi k b).length ≤ 25 ^ k
  | 0, b => Nat.le_refl _
  | k + 1, b => by
    have hp : ∀ i, (preL lo hi k b i).length ≤ i * 25 ^ k := by
      intro i
      induction i with
      | zero => simp [preL]
      | succ i ih =>
        rw [preL_succ, List.length_append, Nat.succ_mul]
        have : (if okX b (lo b.length + i) = true then enL lo hi k (b ++ [lo b.length + i]) else []).length ≤ 25 ^ k := by
          split
          · exact enL_card h k _
          · simp
        omega
    rw [← preL_all]
    refine Nat.le_trans (hp _) ?_
    have h1 := (h b.length).1
    have h2 := (h b.length).2
    rw [Nat.pow_succ, Nat.mul_comm]
    exact Nat.mul_le_mul_left _ (by omega)
set_option maxRecDepth 100000 in
set_option maxHeartbeats 8000000 in
theorem walk_any (b : Nat) (vl vh : Value) (L H : List Int) (hn : L.length ≤ 4) (hLH : H.length = L.length) (hbd : ∀ w, (0 ≤ at0 L w ∧ at0 L w ≤ 24) ∧ 0 ≤ at0 H w ∧ at0 H w ≤ 24) :
    ∀ (k : Nat) (B : List Int) (vb : Value) (s : Sea) (w : World), B.length + k = L.length → (∀ i, i < B.length → 0 ≤ at0 B i ∧ at0 B i ≤ 24) → SlX b w vl L → SlX b w vh H → SlX b w vb B → SeaB w b s → s.count + (enL (at0 L) (at0 H) k B).length < 1000000 →
      Calls Try.prog 36 #[.pointer (some ⟨b, 0, none⟩), vl, vh, vb] w fun e w' => e = .returned (.tuple #[]) ∧ SeaB w' b ((enL (at0 L) (at0 H) k B).foldl addS s) ∧ Bm b w.heap.size w w' := by
  intro k
  induction k with
  | zero =>
    intro B vb s w hk hB hl hh hb hs hc
    have hadd := add_any b s vb B w hb.1 hb.2 (by omega) hB hs (by omega)
    have HA := Lib.hid hadd
    obtain ⟨⟨al, cl, rfl, -, -, -⟩, -⟩ := id hl
    obtain ⟨⟨ab, cb, rfl, -, -, -⟩, -⟩ := id hb
    have hkk : B.length = L.length := by omega
    have ht : ((B.length : Int) == (L.length : Int)) = true := by simp [hkk]
    clear hadd hl hh hb hs hkk
    go_enter Try.func36, Try.ntmps36
    go_wp2_with (go_at_call 71; refine HA.out.mono ?_; rintro e w2 ⟨rfl, hS, hM⟩)
    exact bodyPost_ret (results_none rfl _ _ _) rfl ⟨rfl, hS, hM⟩
  | succ k ih =>
    intro B vb s w hk hB hl hh hb hs hc
    have IH := Lib.hid ih
    clear ih
    obtain ⟨m, hm⟩ : ∃ m, m = B.length := ⟨_, rfl⟩
    have hm3 : m ≤ 3 := by omega
    obtain ⟨N, hN⟩ : ∃ N, N = (at0 H m - at0 L m + 1).toNat := ⟨_, rfl⟩
    have hcn : ∀ i, i ≤ N → ((preL (at0 L) (at0 H) k B i).foldl addS s).count + 0 ≤ s.count + (preL (at0 L) (at0 H) k B i).length ∧ (preL (at0 L) (at0 H) k B i).length ≤ (enL (at0 L) (at0 H) (k + 1) B).length := fun i hi => ⟨by rw [fold_count]; omega, by
      rw [← preL_all, ← hm, ← hN]; exact preL_le _ _ _ _ hi⟩
    have HCN := Lib.hid hcn
    have HK := Lib.hid hk
    have HM := Lib.hid hm
    have HNN := Lib.hid hN
    have HBB := Lib.hid hB
    have HV := Lib.hid (And.intro hl (And.intro hh hb))
    have HS := Lib.hid hs
    have HC := Lib.hid hc
    have hbL := hbd m
    have hmk : m + (k + 1) = L.length := by omega
    obtain ⟨⟨al, cl, rfl, -, -, gl⟩, -⟩ := id hl
    obtain ⟨⟨ah, ch, rfl, -, -, gh⟩, -⟩ := id hh
    obtain ⟨⟨ab, cb, rfl, -, -, gb⟩, -⟩ := id hb
    obtain ⟨bl, ol, rfl, ltl, cel⟩ := gl (by omega)
    obtain ⟨bh, oh, rfl, lth, ceh⟩ := gh (by omega)
    have ql := cel m (by omega)
    have qh := ceh m (by omega)
    have nel := hl.2 _ _ _ _ rfl
    have neh := hh.2 _ _ _ _ rfl
    have HG := Lib.hid gb
    have HLH := Lib.hid hLH
    have ht : ((m : Int) == (L.length : Int)) = false := by simp; omega
    have hmi : (m : Int) < (L.length : Int) := by omega
    have hmi2 : (m : Int) < (H.length : Int) := by omega
    rw [← hm] at HG ⊢
    clear hLH hcn hk hm hN hB hl hh hb hs hc cel ceh gl gh gb hmk
    go_enter Try.func36, Try.ntmps36
    go_wp2
    go_loopw [9] (fun x wr => ∃ i : Nat, i ≤ N ∧ x = .int .i64 (at0 L m + i) ∧ Hid (SeaB wr b ((preL (at0 L) (at0 H) k B i).foldl addS s)) ∧ Bm b w.heap.size w wr) (fun x _ => N - (intOf x - at0 L m).toNat)
    case atStart => exact ⟨0, Nat.zero_le _, by simp, HS, Bm.refl _ _ _⟩
    case round =>
      obtain ⟨i, hi, rfl, HSi, hM⟩ := hrel
      have qh' : wr.cell? ⟨bh, oh + m, none⟩ = some (.int .i64 (at0 H m)) := (World.cell?_of_block (hM.block _ lth neh)).trans qh
      by_cases hiN : i < N
      · have hle : at0 L m + (i : Int) ≤ at0 H m := by have := HNN.out; omega
        have kx : IntKind.i64.wrap (at0 L m + (i : Int) + 1) = at0 L m + ((i + 1 : Nat) : Int) := by rw [c33 (by omega)]; omega
        obtain ⟨X, hX⟩ : ∃ X, X = at0 L m + (i : Int) := ⟨_, rfl⟩
        rw [← hX] at hle kx ⊢
        have HX := Lib.hid hX
        clear hX
        by_cases hm2 : m < 2
        · have hmt : ((m : Int) < 2) := by omega
          go_wp2
          rename_i K2 hK2
          have HK2 := Lib.hid hK2; clear hK2
          go_quiet (fail)
          refine HK2.out _ _ ?_
          clear HK2 K2
          have ho : okX B (at0 L m + (i : Int)) = true := by unfold okX; rw [← HM.out]; simp [hm2]
          rw [← HX.out] at ho
          have HO := Lib.hid ho
          clear ho
          obtain ⟨w5, hw5⟩ : ∃ x, x = wr.drewN nq := ⟨_, rfl⟩
          have hM5 : Bm b w.heap.size w w5 := by rw [hw5]; exact ⟨hM.os, hM.tape, hM.output, hM.size, hM.block⟩
          have HS5 : Hid (SeaB w5 b ((preL (at0 L) (at0 H) k B i).foldl addS s)) := Lib.hid (by rw [hw5]; exact HSi.out)
          rw [← hw5]
          have hSb := (HV.out.2.2.bm hM5 (Nat.le_refl _)).1
          rw [← HM.out] at hSb
          have hbl : B.length ≤ 10000 := by have := HM.out; omega
          have hA7 := (Below.refl _ w5).alloc (Nat.le_refl _) (.cells #[] 3)
          have hS7 := hSb.below hA7 (Nat.le_refl _)
          have HX7 := Lib.hid (And.intro hbl (And.intro hA7 hS7))
          have HM5 := Lib.hid hM5
          clear hw5 hSb hbl hA7 hS7 hM5
          go_wp2_with (first | (at_builtin; refine wpList_push rfl _ _ rfl (W := w5) (w := w8.alloc (.cells #[.int .i64 X] 3)) (g := w8.heap.size) (xs := B) (i := X) (r8.alloc _) HX7.out.1 rfl rfl (heap_newI rfl) (hb8.alloc hb8.size _) ?_; intro v9 w9 r9 hb9; obtain ⟨g9, c9, hv9⟩ := own_formI r9 (Nat.succ_pos _); subst hv9) | (at_builtin; refine wpList_copy rfl _ _ rfl (W := w5) HX7.out.2.2 HX7.out.1 rfl rfl (heap_newI rfl) HX7.out.2.1 (Nat.le_refl _) ?_; intro v8 w8 r8 hb8; obtain ⟨a8, c8, hv8⟩ := form_of r8; subst hv8))
          have hM9 : Bm b w.heap.size w w9 := HM5.out.trans (Bm.of (hb9.mono HM5.out.size))
          have hS9 := HS5.out.below hb9 (Nat.le_refl _)
          have hgb : b < g9 := Nat.lt_of_lt_of_le HS5.out.lt (r9.lt g9 rfl).1
          have hSl9 : SlI w9 (.slice (some ⟨g9, 0, none⟩) (B.length + 1) c9) (B ++ [X]) := by
            have h := slI_own (xs := B ++ [X]) r9 (by simp) (by have := HX7.out.1; simp only [List.length_append, List.length_cons, List.length_nil]; omega)
            exact h
          have hcall := IH.out (B ++ [X]) (.slice (some ⟨g9, 0, none⟩) (B.length + 1) c9) ((preL (at0 L) (at0 H) k B i).foldl addS s) w9 (by have := HK.out; simp; omega) (fun q hq => by
              rw [at0_push]
              simp only [List.length_append, List.length_cons, List.length_nil] at hq
              by_cases hqb : q < B.length
              · rw [if_pos hqb]; exact HBB.out q hqb
              · rw [if_neg hqb, if_pos (by omega)]; have := HX.out; have := hbL; omega)
            (HV.out.1.bm hM9 (Nat.le_refl _)) (HV.out.2.1.bm hM9 (Nat.le_refl _)) ⟨hSl9, fun bv ov n c e => by injection e with e _ _; injection e with e; injection e with e _; omega⟩ hS9 (by
              have h1 := HCN.out (i + 1) (by omega)
              have h2 := HC.out
              rw [fold_count]
              have h3 : (preL (at0 L) (at0 H) k B (i + 1)).length = (preL (at0 L) (at0 H) k B i).length + (enL (at0 L) (at0 H) k (B ++ [X])).length := by
                rw [preL_succ, List.length_append]
                rw [← HM.out, ← HX.out] at *
                rw [if_pos HO.out]
              omega)
          refine hcall.mono ?_
          rintro e w10 ⟨rfl, hS10, hM10⟩
          clear hcall
          have hSN : Hid (SeaB w10 b ((preL (at0 L) (at0 H) k B (i + 1)).foldl addS s)) := Lib.hid (by
            rw [preL_succ, List.foldl_append, ← HM.out, ← HX.out, if_pos HO.out]
            exact hS10)
          have hMN : Bm b w.heap.size w w10 := hM9.trans (hM10.mono hM9.size)
          clear hS10 hM10 hM9 hS9 hSl9 hgb r9 hb9 r8 hb8 HSi hM HS5 HM5 HX7
          go_wp2
          go_roundw
          case rel => exact ⟨i + 1, by omega, rfl, hSN, hMN⟩
          case measure => simp [intOf]; have := HX.out; omega
        · have hmt : ¬ ((m : Int) < 2) := by omega
          have HB2 := HBB.out
          obtain ⟨bb, ob, rfl, ltb, ceb⟩ := HG.out (by have := HM.out; omega)
          have neb := HV.out.2.2.2 _ _ _ _ rfl
          have q1 : wr.cell? ⟨bb, ob + (m - 1), none⟩ = some (.int .i64 (at0 B (m - 1))) := (World.cell?_of_block (hM.block _ ltb neb)).trans (ceb (m - 1) (by have := HM.out; omega))
          have q2 : wr.cell? ⟨bb, ob + (m - 2), none⟩ = some (.int .i64 (at0 B (m - 2))) := (World.cell?_of_block (hM.block _ ltb neb)).trans (ceb (m - 2) (by have := HM.out; omega))
          have b1 := HB2 (m - 1) (by have := HM.out; omega)
          have b2 := HB2 (m - 2) (by have := HM.out; omega)
          have hx0 : 0 ≤ X ∧ X ≤ 24 := by have := HX.out; omega
          have k1 : IntKind.i64.wrap ((m : Int) - 1) = ((m - 1 : Nat) : Int) := by rw [c33 (by omega)]; omega
          have k2 : IntKind.i64.wrap ((m : Int) - 2) = ((m - 2 : Nat) : Int) := by rw [c33 (by omega)]; omega
          have i1 : ((m - 1 : Nat) : Int) < (m : Int) := by omega
          have i2 : ((m - 2 : Nat) : Int) < (m : Int) := by omega
          have k3 : IntKind.i64.wrap (X - at0 B (m - 1)) = X - at0 B (m - 1) := c33 (by omega)
          have k4 : IntKind.i64.wrap (at0 B (m - 1) - at0 B (m - 2)) = at0 B (m - 1) - at0 B (m - 2) := c33 (by omega)
          clear HB2 ceb b1 b2 hx0
          go_wp2
          rename_i K2 hK2
          have HK2 := Lib.hid hK2; clear hK2
          go_quiet (fail)
          refine HK2.out _ _ ?_
          clear HK2 K2
          by_cases ho : X - at0 B (m - 1) ≤ at0 B (m - 1) - at0 B (m - 2)
          · have hok : okX B X = true := by unfold okX; rw [← HM.out]; simp [ho]
            have HO := Lib.hid hok
            clear hok
            obtain ⟨w5, hw5⟩ : ∃ x, x = wr.drewN nq := ⟨_, rfl⟩
            have hM5 : Bm b w.heap.size w w5 := by rw [hw5]; exact ⟨hM.os, hM.tape, hM.output, hM.size, hM.block⟩
            have HS5 : Hid (SeaB w5 b ((preL (at0 L) (at0 H) k B i).foldl addS s)) := Lib.hid (by rw [hw5]; exact HSi.out)
            rw [← hw5]
            have hSb := (HV.out.2.2.bm hM5 (Nat.le_refl _)).1
            rw [← HM.out] at hSb
            have hbl : B.length ≤ 10000 := by have := HM.out; omega
            have hA7 := (Below.refl _ w5).alloc (Nat.le_refl _) (.cells #[] 3)
            have hS7 := hSb.below hA7 (Nat.le_refl _)
            have HX7 := Lib.hid (And.intro hbl (And.intro hA7 hS7))
            have HM5 := Lib.hid hM5
            clear hw5 hSb hbl hA7 hS7 hM5
            go_wp2_with (first | (at_builtin; refine wpList_push rfl _ _ rfl (W := w5) (w := w8.alloc (.cells #[.int .i64 X] 3)) (g := w8.heap.size) (xs := B) (i := X) (r8.alloc _) HX7.out.1 rfl rfl (heap_newI rfl) (hb8.alloc hb8.size _) ?_; intro v9 w9 r9 hb9; obtain ⟨g9, c9, hv9⟩ := own_formI r9 (Nat.succ_pos _); subst hv9) | (at_builtin; refine wpList_copy rfl _ _ rfl (W := w5) HX7.out.2.2 HX7.out.1 rfl rfl (heap_newI rfl) HX7.out.2.1 (Nat.le_refl _) ?_; intro v8 w8 r8 hb8; obtain ⟨a8, c8, hv8⟩ := form_of r8; subst hv8))
            have hM9 : Bm b w.heap.size w w9 := HM5.out.trans (Bm.of (hb9.mono HM5.out.size))
            have hS9 := HS5.out.below hb9 (Nat.le_refl _)
            have hgb : b < g9 := Nat.lt_of_lt_of_le HS5.out.lt (r9.lt g9 rfl).1
            have hSl9 : SlI w9 (.slice (some ⟨g9, 0, none⟩) (B.length + 1) c9) (B ++ [X]) := by
              have h := slI_own (xs := B ++ [X]) r9 (by simp) (by have := HX7.out.1; simp only [List.length_append, List.length_cons, List.length_nil]; omega)
              exact h
            have hcall := IH.out (B ++ [X]) (.slice (some ⟨g9, 0, none⟩) (B.length + 1) c9) ((preL (at0 L) (at0 H) k B i).foldl addS s) w9 (by have := HK.out; simp; omega) (fun q hq => by
                rw [at0_push]
                simp only [List.length_append, List.length_cons, List.length_nil] at hq
                by_cases hqb : q < B.length
                · rw [if_pos hqb]; exact HBB.out q hqb
                · rw [if_neg hqb, if_pos (by omega)]; have := HX.out; have := hbL; omega)
              (HV.out.1.bm hM9 (Nat.le_refl _)) (HV.out.2.1.bm hM9 (Nat.le_refl _)) ⟨hSl9, fun bv ov n c e => by injection e with e _ _; injection e with e; injection e with e _; omega⟩ hS9 (by
                have h1 := HCN.out (i + 1) (by omega)
                have h2 := HC.out
                rw [fold_count]
                have h3 : (preL (at0 L) (at0 H) k B (i + 1)).length = (preL (at0 L) (at0 H) k B i).length + (enL (at0 L) (at0 H) k (B ++ [X])).length := by
                  rw [preL_succ, List.length_append]
                  rw [← HM.out, ← HX.out] at *
                  rw [if_pos HO.out]
                omega)
            refine hcall.mono ?_
            rintro e w10 ⟨rfl, hS10, hM10⟩
            clear hcall
            have hSN : Hid (SeaB w10 b ((preL (at0 L) (at0 H) k B (i + 1)).foldl addS s)) := Lib.hid (by
              rw [preL_succ, List.foldl_append, ← HM.out, ← HX.out, if_pos HO.out]
              exact hS10)
            have hMN : Bm b w.heap.size w w10 := hM9.trans (hM10.mono hM9.size)
            clear hS10 hM10 hM9 hS9 hSl9 hgb r9 hb9 r8 hb8 HSi hM HS5 HM5 HX7
            go_wp2
            go_roundw
            case rel => exact ⟨i + 1, by omega, rfl, hSN, hMN⟩
            case measure => simp [intOf]; have := HX.out; omega
          · have hok : ¬ okX B X = true := by unfold okX; rw [← HM.out]; simp [ho, hm2]
            have HO := Lib.hid hok
            clear hok
            have hSN : Hid (SeaB (wr.drewN nq) b ((preL (at0 L) (at0 H) k B (i + 1)).foldl addS s)) := Lib.hid (by
              rw [preL_succ, List.foldl_append, ← HM.out, ← HX.out, if_neg HO.out]
              exact HSi.out)
            have hMN : Bm b w.heap.size w (wr.drewN nq) := ⟨hM.os, hM.tape, hM.output, hM.size, hM.block⟩
            obtain ⟨w5, hw5⟩ : ∃ x, x = wr.drewN nq := ⟨_, rfl⟩
            rw [← hw5] at hSN hMN ⊢
            clear hw5 HSi hM
            go_wp2
            go_roundw
            case rel => exact ⟨i + 1, by omega, rfl, hSN, hMN⟩
            case measure => simp [intOf]; have := HX.out; omega
      · have hle : ¬ at0 L m + (i : Int) ≤ at0 H m := by have := HNN.out; omega
        have hiN2 : i = N := by omega
        rw [hiN2] at HSi
        clear hiN2
        go_wp2
        refine Go.Great.bodyPost_end0 rfl rfl ⟨rfl, ?_, hM⟩
        have h := HSi.out
        rw [HNN.out, HM.out, preL_all] at h
        exact h
end Ytgnjeefanbcbkaa
end Go.Proofs
