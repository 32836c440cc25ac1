/- The laws' own functions: large, given. -/
import Derived.Test.YtndmjginmomfiaaR5
open Go Go.RowKit Go.YtndmjginmomfiaaIt
namespace Go.Proofs
namespace Ytndmjginmomfiaa
def largeB (y : Yd) : Bool := (decide (12 < y.room) && decide (y.room ≤ 60)) || decide ((20 : Int) < (y.ws.length : Int))
set_option maxRecDepth 100000 in
theorem large_any (y : Yd) (v : Value) (w : World) (hw : SlW w v y.ws) :
    Calls Try.prog 13 #[.agg (encY y v)] w fun e w' => e = .returned (.bool (largeB y)) ∧ Below w.heap.size w w' := by
  obtain ⟨ad, cap, rfl, hmx, hcp, -⟩ := hw
  obtain ⟨R, hR⟩ : ∃ R, R = largeB y := ⟨_, rfl⟩
  have HR := Lib.hid hR
  rw [← hR]
  clear hR
  by_cases h1 : 12 < y.room
  · by_cases h2 : y.room ≤ 60
    · have HX := Lib.hid (show R = true by rw [HR.out]; unfold largeB; simp [h1, h2])
      clear HR
      go_enter Try.func13, Try.ntmps13
      refine wp_seq_k (fun K hK => ?_)
      have HK := Lib.hid hK; clear hK
      go_wp2
      refine HK.out _ _ ?_; clear HK K
      generalize hw1 : World.alloc _ _ = w1
      obtain ⟨b1, hB, hs1⟩ := blk1 hw1
      clear hw1
      have c0 := cell_blk (i := 0) b1
      have c3 := cell_blk (i := 3) b1
      simp only [encY, List.getElem?_toArray, List.getElem?_cons_zero, List.getElem?_cons_succ] at c0 c3
      go_wp2
      go_ret
      exact ⟨by rw [HX.out]; rfl, hB⟩
    · have HX := Lib.hid (show R = (decide (y.room ≤ 60) || decide ((20 : Int) < (y.ws.length : Int))) by rw [HR.out]; unfold largeB; rw [decide_eq_true h1]; rfl)
      clear HR
      go_enter Try.func13, Try.ntmps13
      refine wp_seq_k (fun K hK => ?_)
      have HK := Lib.hid hK; clear hK
      go_wp2
      refine HK.out _ _ ?_; clear HK K
      generalize hw1 : World.alloc _ _ = w1
      obtain ⟨b1, hB, hs1⟩ := blk1 hw1
      clear hw1
      have c0 := cell_blk (i := 0) b1
      have c3 := cell_blk (i := 3) b1
      simp only [encY, List.getElem?_toArray, List.getElem?_cons_zero, List.getElem?_cons_succ] at c0 c3
      go_wp2
      go_ret
      exact ⟨by rw [HX.out]; rfl, hB⟩
  · have HX := Lib.hid (show R = decide ((20 : Int) < (y.ws.length : Int)) by rw [HR.out]; unfold largeB; rw [decide_eq_false h1]; rfl)
    clear HR
    go_enter Try.func13, Try.ntmps13
    refine wp_seq_k (fun K hK => ?_)
    have HK := Lib.hid hK; clear hK
    go_wp2
    refine HK.out _ _ ?_; clear HK K
    generalize hw1 : World.alloc _ _ = w1
    obtain ⟨b1, hB, hs1⟩ := blk1 hw1
    clear hw1
    have c0 := cell_blk (i := 0) b1
    have c3 := cell_blk (i := 3) b1
    simp only [encY, List.getElem?_toArray, List.getElem?_cons_zero, List.getElem?_cons_succ] at c0 c3
    go_wp2
    go_ret
    exact ⟨by rw [HX.out]; rfl, hB⟩
theorem info86 : (Try.prog.info? 86).map (fun i => (i.zero, i.size, i.bytes)) = some (some (.agg #[.int .i64 0, .int .i64 0, .int .i64 0, .int .i64 0]), 4, 32) := by kernel_rfl
theorem flatW_take (ws : List Wt) {k : Nat} (h : k < ws.length) : (ws.take (k + 1)).flatMap encW = (ws.take k).flatMap encW ++ [.int .i64 ws[k].comes, .int .i64 ws[k].lo, .int .i64 ws[k].hi, .int .i64 ws[k].next] := by
  rw [List.take_succ_eq_append_getElem h, List.flatMap_append]; rfl
set_option maxRecDepth 100000 in
set_option maxHeartbeats 4000000 in
theorem given_any (y : Yd) (v : Value) (w : World) (hw : SlW w v y.ws) (hl : y.ws.length ≤ 20) :
    Calls Try.prog 15 #[.agg (encY y v)] w fun e w' => ∃ v', e = .returned (.agg (encY y v')) ∧ SlW w' v' y.ws ∧ Below w.heap.size w w' := by
  obtain ⟨i86, hi, hz1, hz2, hz3⟩ := info_parts info86
  have HI := Lib.hid (And.intro hi (And.intro hz1 (And.intro hz2 hz3)))
  clear hi hz1 hz2 hz3
  obtain ⟨ad, cap, rfl, hmx, hcp, hc⟩ := hw
  have HC := Lib.hid hc
  clear hc
  go_enter Try.func15, Try.ntmps15
  refine wp_seq_k (fun K hK => ?_)
  have HK := Lib.hid hK; clear hK
  go_wp2
  refine HK.out _ _ ?_; clear HK K
  generalize hw1 : World.alloc _ _ = w1
  obtain ⟨b1, b2, hB1, hs1⟩ := blk2 hw1
  clear hw1
  have c0 := cell_blk (i := 0) b1
  have c1 := cell_blk (i := 1) b1
  have c2 := cell_blk (i := 2) b1
  simp only [encY, List.getElem?_toArray, List.getElem?_cons_zero, List.getElem?_cons_succ] at c0 c1 c2
  refine wp_seq_k (fun K hK => ?_)
  have HK := Lib.hid hK; clear hK
  go_wp2
  refine HK.out _ _ ?_; clear HK K
  generalize hw2 : World.alloc _ _ = w2
  obtain ⟨b3, hB2, hs2⟩ := blk1 hw2
  clear hw2 c0 c1 c2
  replace b1 := blk_keep b1 hB2
  replace b2 := blk_keep b2 hB2
  have hB := hB1.trans (hB2.mono hB1.size)
  clear hB1 hB2
  have b3' : w2.heap[w1.heap.size]? = some (.cells (encY y (.slice none 0 0)) 31 (0, 0)) := b3
  clear b3
  refine wp_seq_k (fun K hK => ?_)
  have HK := Lib.hid hK; clear hK
  go_wp2
  go_loopw [4] (fun i wr => ∃ (k : Nat) (q : Value), k ≤ y.ws.length ∧ i = .int .i64 k ∧ wr.heap[w.heap.size]? = some (.cells (encY y (.slice ad y.ws.length cap)) 24 (0, 0)) ∧ wr.heap[w.heap.size + 1]? = some (.cells #[.int .i64 0, .int .i64 0, .int .i64 0, .slice none 0 0] 31 (0, 0)) ∧ wr.heap[w1.heap.size]? = some (.cells (encY y q) 31 (0, 0)) ∧ wr.ownsRow w2.heap.size 86 4 q k ((y.ws.take k).flatMap encW) ∧ Below w.heap.size w wr ∧ w2.heap.size ≤ wr.heap.size) (fun i _ => y.ws.length - (intOf i).toNat)
  case atStart => exact ⟨0, _, Nat.zero_le _, rfl, b1, b2, b3', World.ownsRow_nil _ _ _ _, hB, Nat.le_refl _⟩
  case round =>
    clear b1 b2 b3' hB
    obtain ⟨k, q, hk, rfl, b1, b2, b3, hrow, hB, hsz⟩ := hrel
    have c3 := cell_blk (i := 3) b1
    simp only [encY, List.getElem?_toArray, List.getElem?_cons_zero, List.getElem?_cons_succ] at c3
    by_cases hkn : k < y.ws.length
    · obtain ⟨b, off, rfl, hlt, hcell⟩ := HC.out (by omega)
      obtain ⟨q0, q1, q2, q3⟩ := wt_cells hcell (n := k) hkn rfl
      replace q0 := (hB.cell (p := ⟨b, off + k * 4, none⟩) hlt).trans q0
      replace q1 := (hB.cell (p := ⟨b, off + k * 4 + 1, none⟩) hlt).trans q1
      replace q2 := (hB.cell (p := ⟨b, off + k * 4 + 2, none⟩) hlt).trans q2
      replace q3 := (hB.cell (p := ⟨b, off + k * 4 + 3, none⟩) hlt).trans q3
      have HFT := Lib.hid (flatW_take y.ws hkn)
      generalize y.ws[k].comes = p0 at *
      generalize y.ws[k].lo = p1 at *
      generalize y.ws[k].hi = p2 at *
      generalize y.ws[k].next = p3 at *
      obtain ⟨aq, cq, rfl⟩ := form_of hrow
      have d3 := cell_blk (i := 3) b3
      simp only [encY, List.getElem?_toArray, List.getElem?_cons_zero, List.getElem?_cons_succ] at d3
      have hl1 := lt_blk b1
      have hl3 := lt_blk b3
      have hbs := hB.size
      have hki0 : (0 : Int) ≤ (k : Int) := by omega
      have hki1 : (k : Int) < (y.ws.length : Int) := by omega
      clear hcell
      go_wp2
      obtain ⟨SS, hSS⟩ : ∃ SS : World → Prop, SS = fun W => W.cell? ⟨w.heap.size, 3, none⟩ = some (.slice (some ⟨b, off, none⟩) y.ws.length cap) ∧ W.cell? ⟨b, off + k * 4, none⟩ = some (.int .i64 p0) ∧ W.cell? ⟨b, off + k * 4 + 1, none⟩ = some (.int .i64 p1) ∧ W.cell? ⟨b, off + k * 4 + 2, none⟩ = some (.int .i64 p2) ∧ W.cell? ⟨b, off + k * 4 + 3, none⟩ = some (.int .i64 p3) := ⟨_, rfl⟩
      have hS : SS (World.drew wr) := by rw [hSS]; exact ⟨c3, q0, q1, q2, q3⟩
      have hltb : b < w.heap.size := hlt
      have HS2 : ∀ W', Below w1.heap.size wr W' → SS W' := fun W' hW => by
        rw [hSS]
        exact ⟨(hW.cell (p := ⟨w.heap.size, 3, none⟩) (by show w.heap.size < w1.heap.size; omega)).trans c3, (hW.cell (p := ⟨b, off + k * 4, none⟩) (by show b < w1.heap.size; omega)).trans q0, (hW.cell (p := ⟨b, off + k * 4 + 1, none⟩) (by show b < w1.heap.size; omega)).trans q1, (hW.cell (p := ⟨b, off + k * 4 + 2, none⟩) (by show b < w1.heap.size; omega)).trans q2, (hW.cell (p := ⟨b, off + k * 4 + 3, none⟩) (by show b < w1.heap.size; omega)).trans q3⟩
      have hbX : Below w2.heap.size wr (wr.alloc (.cells #[.int .i64 p0, .int .i64 p1, .int .i64 p2, .int .i64 p3] 86)).drew := ((Below.refl _ _).alloc hsz _).drew
      have hrX : (wr.alloc (.cells #[.int .i64 p0, .int .i64 p1, .int .i64 p2, .int .i64 p3] 86)).drew.ownsRow w2.heap.size 86 4 (.slice aq k cq) k ((y.ws.take k).flatMap encW) := (hrow.alloc _).drew
      refine wp_region_held (S := SS) (by kernel_rfl) ?_
      change wpAnyH _ _ _ _ _ _ _ _ (World.drew wr)
      refine wpAnyH_take (i := 0) (oi := { dst := some 19, op := _, type := _, pos := _, after := _, guard := none }) (v := ?_) rfl (by kernel_rfl) (by kernel_rfl) (by kernel_rfl) (fun _ _ _ h => h) (Or.inl ⟨by rfl, ?_⟩) hS ?_
      rotate_left
      · intro U hU
        go_simp
        all_goals with_reducible rfl
      simp only [Act.put, List.setIfInBounds_toArray, List.set_cons_zero, List.set_cons_succ]
      refine wpAnyH_take (i := 2) (oi := { dst := some 21, op := _, type := _, pos := _, after := _, guard := none }) (v := ?_) rfl (by kernel_rfl) (by kernel_rfl) (by kernel_rfl) (fun _ _ _ h => h) (Or.inl ⟨by rfl, ?_⟩) hS ?_
      rotate_left
      · intro U hU
        go_simp
        all_goals with_reducible rfl
      simp only [Act.put, List.setIfInBounds_toArray, List.set_cons_zero, List.set_cons_succ]
      refine wpAnyH_take (i := 3) (oi := { dst := some 22, op := _, type := _, pos := _, after := _, guard := none }) (v := ?_) rfl (by kernel_rfl) (by kernel_rfl) (by kernel_rfl) (fun _ _ _ h => h) (Or.inl ⟨by rfl, ?_⟩) hS ?_
      rotate_left
      · intro U hU
        rw [hSS] at hU
        obtain ⟨u2, u3, u4, u5, u6⟩ := hU
        go_simp
        all_goals with_reducible rfl
      simp only [Act.put, List.setIfInBounds_toArray, List.set_cons_zero, List.set_cons_succ]
      refine wpAnyH_take (i := 4) (oi := { dst := some 23, op := _, type := _, pos := _, after := _, guard := none }) (v := ?_) rfl (by kernel_rfl) (by kernel_rfl) (by kernel_rfl) (fun _ _ _ h => h) (Or.inl ⟨by rfl, ?_⟩) hS ?_
      rotate_left
      · intro U hU
        go_simp
        all_goals with_reducible rfl
      simp only [Act.put, List.setIfInBounds_toArray, List.set_cons_zero, List.set_cons_succ]
      refine wpAnyH_take (i := 5) (oi := { dst := some 24, op := _, type := _, pos := _, after := _, guard := none }) (v := ?_) rfl (by kernel_rfl) (by kernel_rfl) (by kernel_rfl) (fun _ _ _ h => h) (Or.inl ⟨by rfl, ?_⟩) hS ?_
      rotate_left
      · intro U hU
        rw [hSS] at hU
        obtain ⟨u2, u3, u4, u5, u6⟩ := hU
        go_simp
        all_goals with_reducible rfl
      simp only [Act.put, List.setIfInBounds_toArray, List.set_cons_zero, List.set_cons_succ]
      refine wpAnyH_take (i := 6) (oi := { dst := some 25, op := _, type := _, pos := _, after := _, guard := none }) (v := ?_) rfl (by kernel_rfl) (by kernel_rfl) (by kernel_rfl) (fun _ _ _ h => h) (Or.inl ⟨by rfl, ?_⟩) hS ?_
      rotate_left
      · intro U hU
        rw [hSS] at hU
        obtain ⟨u2, u3, u4, u5, u6⟩ := hU
        go_simp
        all_goals with_reducible rfl
      simp only [Act.put, List.setIfInBounds_toArray, List.set_cons_zero, List.set_cons_succ]
      refine wpAnyH_ready (rs := [1, 7]) (by kernel_rfl) (by simp) ?_
      refine AllReadyH.cons (o := { dst := some 20, op := _, type := _, pos := _, after := _, guard := none }) rfl (fun K1 hK1 => ?_) ?_
      · rw [if_pos (by rfl)]
        have HK1 := Lib.hid hK1; clear hK1
        go_simp
        refine HK1.out _ _ hS ?_
        clear HK1 K1
        intro _
        refine wpAnyH_one (i := 7) (o := { dst := some 26, op := _, type := _, pos := _, after := _, guard := none }) (by kernel_rfl) rfl (by rfl) (fun K1 hK1 => ?_)
        have HK1 := Lib.hid hK1; clear hK1
        go_simp
        refine HK1.out _ _ (HS2 _ (hbX.mono (by omega))) ?_
        clear HK1 K1
        refine wpAnyH_one (i := 8) (o := { dst := some 27, op := Op.call { callee := Callee.builtin Builtin.append, args := #[Operand.tmp 20, Operand.tmp 26], argTypes := _ }, type := _, pos := _, after := _, guard := none }) (by kernel_rfl) rfl (by rfl) (fun K1 hK1 => ?_)
        have HK1 := Lib.hid hK1; clear hK1
        refine oper_append_own (.tmp 20) (.tmp 26) 29 rfl w2.heap.size 86 i86 (.agg #[.int .i64 0, .int .i64 0, .int .i64 0, .int .i64 0]) 4 32 Try.underlying29 HI.out.1 HI.out.2.1 HI.out.2.2.1 HI.out.2.2.2 rfl (by decide) (.slice aq k cq) k _ rfl hrX ⟨wr.heap.size, 0, none⟩ 1 1 [.int .i64 p0, .int .i64 p1, .int .i64 p2, .int .i64 p3] rfl rfl (cell_newL (W := wr) (xs := [.int .i64 p0, .int .i64 p1, .int .i64 p2, .int .i64 p3]) rfl) (by simp [Value.oneCell']) (Nat.le_trans (by omega : k + 1 ≤ 50) (by decide)) (by omega) (by show w2.heap.size ≤ (wr.alloc _).heap.size; rw [World.size_alloc]; omega) ?_
        intro v' w6 r1 r2
        obtain ⟨a6, c6, rfl⟩ := form_of r1
        have hb6 : Below w2.heap.size wr w6 := grown_below r2 hrX (Nat.le_refl _) (by show w2.heap.size ≤ (wr.alloc _).heap.size; rw [World.size_alloc]; omega) hbX
        have d36 := blk_below b3 hb6 (by omega)
        have e3 := cell_blk (i := 3) d36
        have f3 := free_blk (i := 3) d36
        simp only [encY, List.getElem?_toArray, List.getElem?_cons_zero, List.getElem?_cons_succ] at e3
        refine HK1.out _ _ (HS2 _ (hb6.mono (by omega))) ?_
        clear HK1 K1
        simp only [Act.put, List.setIfInBounds_toArray, List.set_cons_zero, List.set_cons_succ]
        refine wpAnyH_one (i := 9) (o := { dst := some 28, op := _, type := _, pos := _, after := _, guard := none }) (by kernel_rfl) rfl (by rfl) (fun K1 hK1 => ?_)
        have HK1 := Lib.hid hK1; clear hK1
        go_simp
        refine HK1.out _ _ (HS2 _ (hb6.mono (by omega))) ?_
        clear HK1 K1
        refine wpAnyH_one (i := 10) (o := { dst := none, op := _, type := _, pos := _, after := _, guard := none }) (by kernel_rfl) rfl (by rfl) (fun K1 hK1 => ?_)
        have HK1 := Lib.hid hK1; clear hK1
        go_simp
        refine HK1.out _ _ (HS2 _ ((hb6.mono (show w1.heap.size ≤ w2.heap.size by omega)).setCell (p := ⟨w1.heap.size, 3, none⟩) (Nat.le_refl _) _)) ?_
        clear HK1 K1
        refine wpAnyH_done (by kernel_rfl) ?_ _
        rw [← HFT.out] at r1
        have hf1 := (heap_set_other (v := (.slice a6 (k + 1) c6)) (b' := w1.heap.size) (i := 3) (show w.heap.size ≠ w1.heap.size by omega)).trans (blk_below b1 hb6 (by omega))
        have hf2 := (heap_set_other (v := (.slice a6 (k + 1) c6)) (b' := w1.heap.size) (i := 3) (show w.heap.size + 1 ≠ w1.heap.size by omega)).trans (blk_below b2 hb6 (by omega))
        have hf3 : (w6.setCell ⟨w1.heap.size, 3, none⟩ (.slice a6 (k + 1) c6)).heap[w1.heap.size]? = some (.cells (encY y (.slice a6 (k + 1) c6)) 31 (0, 0)) := by rw [heap_set_blk d36]; rfl
        have hf4 := row_set_other (b := w1.heap.size) (i := 3) (x := (.slice a6 (k + 1) c6)) r1 (fun h => by have := (r1.lt _ h).1; omega)
        have hf5 := (hB.trans (hb6.mono (by omega))).setCell (p := ⟨w1.heap.size, 3, none⟩) (show w.heap.size ≤ w1.heap.size by omega) (.slice a6 (k + 1) c6)
        have hf6 : w2.heap.size ≤ (w6.setCell ⟨w1.heap.size, 3, none⟩ (.slice a6 (k + 1) c6)).heap.size := by have := hb6.size; rw [World.size_setCell]; omega
        generalize w6.setCell ⟨w1.heap.size, 3, none⟩ (.slice a6 (k + 1) c6) = w7 at *
        clear hS HS2 hbX hrX hSS hb6 r1 r2 d36 e3 f3 b1 b2 b3 hrow hB c3 d3 q0 q1 q2 q3
        go_wp2
        go_roundw
        case rel => exact ⟨k + 1, _, by omega, by go_num, hf1, hf2, hf3, hf4, hf5, hf6⟩
        case measure => simp [intOf]; omega
      refine AllReadyH.cons (o := { dst := some 26, op := _, type := _, pos := _, after := _, guard := none }) rfl (fun K1 hK1 => ?_) ?_
      · rw [if_pos (by rfl)]
        have HK1 := Lib.hid hK1; clear hK1
        go_simp
        refine HK1.out _ _ (HS2 _ (hbX.mono (by omega))) ?_
        clear HK1 K1
        intro _
        have d3X : (wr.alloc (.cells #[.int .i64 p0, .int .i64 p1, .int .i64 p2, .int .i64 p3] 86)).drew.cell? ⟨w1.heap.size, 3, none⟩ = some (.slice aq k cq) := (hbX.cell (p := ⟨w1.heap.size, 3, none⟩) (by show w1.heap.size < w2.heap.size; omega)).trans d3
        refine wpAnyH_one (i := 1) (o := { dst := some 20, op := _, type := _, pos := _, after := _, guard := none }) (by kernel_rfl) rfl (by rfl) (fun K1 hK1 => ?_)
        have HK1 := Lib.hid hK1; clear hK1
        go_simp
        refine HK1.out _ _ (HS2 _ (hbX.mono (by omega))) ?_
        clear HK1 K1
        refine wpAnyH_one (i := 8) (o := { dst := some 27, op := Op.call { callee := Callee.builtin Builtin.append, args := #[Operand.tmp 20, Operand.tmp 26], argTypes := _ }, type := _, pos := _, after := _, guard := none }) (by kernel_rfl) rfl (by rfl) (fun K1 hK1 => ?_)
        have HK1 := Lib.hid hK1; clear hK1
        refine oper_append_own (.tmp 20) (.tmp 26) 29 rfl w2.heap.size 86 i86 (.agg #[.int .i64 0, .int .i64 0, .int .i64 0, .int .i64 0]) 4 32 Try.underlying29 HI.out.1 HI.out.2.1 HI.out.2.2.1 HI.out.2.2.2 rfl (by decide) (.slice aq k cq) k _ rfl hrX ⟨wr.heap.size, 0, none⟩ 1 1 [.int .i64 p0, .int .i64 p1, .int .i64 p2, .int .i64 p3] rfl rfl (cell_newL (W := wr) (xs := [.int .i64 p0, .int .i64 p1, .int .i64 p2, .int .i64 p3]) rfl) (by simp [Value.oneCell']) (Nat.le_trans (by omega : k + 1 ≤ 50) (by decide)) (by omega) (by show w2.heap.size ≤ (wr.alloc _).heap.size; rw [World.size_alloc]; omega) ?_
        intro v' w6 r1 r2
        obtain ⟨a6, c6, rfl⟩ := form_of r1
        have hb6 : Below w2.heap.size wr w6 := grown_below r2 hrX (Nat.le_refl _) (by show w2.heap.size ≤ (wr.alloc _).heap.size; rw [World.size_alloc]; omega) hbX
        have d36 := blk_below b3 hb6 (by omega)
        have e3 := cell_blk (i := 3) d36
        have f3 := free_blk (i := 3) d36
        simp only [encY, List.getElem?_toArray, List.getElem?_cons_zero, List.getElem?_cons_succ] at e3
        refine HK1.out _ _ (HS2 _ (hb6.mono (by omega))) ?_
        clear HK1 K1
        simp only [Act.put, List.setIfInBounds_toArray, List.set_cons_zero, List.set_cons_succ]
        refine wpAnyH_one (i := 9) (o := { dst := some 28, op := _, type := _, pos := _, after := _, guard := none }) (by kernel_rfl) rfl (by rfl) (fun K1 hK1 => ?_)
        have HK1 := Lib.hid hK1; clear hK1
        go_simp
        refine HK1.out _ _ (HS2 _ (hb6.mono (by omega))) ?_
        clear HK1 K1
        refine wpAnyH_one (i := 10) (o := { dst := none, op := _, type := _, pos := _, after := _, guard := none }) (by kernel_rfl) rfl (by rfl) (fun K1 hK1 => ?_)
        have HK1 := Lib.hid hK1; clear hK1
        go_simp
        refine HK1.out _ _ (HS2 _ ((hb6.mono (show w1.heap.size ≤ w2.heap.size by omega)).setCell (p := ⟨w1.heap.size, 3, none⟩) (Nat.le_refl _) _)) ?_
        clear HK1 K1
        refine wpAnyH_done (by kernel_rfl) ?_ _
        rw [← HFT.out] at r1
        have hf1 := (heap_set_other (v := (.slice a6 (k + 1) c6)) (b' := w1.heap.size) (i := 3) (show w.heap.size ≠ w1.heap.size by omega)).trans (blk_below b1 hb6 (by omega))
        have hf2 := (heap_set_other (v := (.slice a6 (k + 1) c6)) (b' := w1.heap.size) (i := 3) (show w.heap.size + 1 ≠ w1.heap.size by omega)).trans (blk_below b2 hb6 (by omega))
        have hf3 : (w6.setCell ⟨w1.heap.size, 3, none⟩ (.slice a6 (k + 1) c6)).heap[w1.heap.size]? = some (.cells (encY y (.slice a6 (k + 1) c6)) 31 (0, 0)) := by rw [heap_set_blk d36]; rfl
        have hf4 := row_set_other (b := w1.heap.size) (i := 3) (x := (.slice a6 (k + 1) c6)) r1 (fun h => by have := (r1.lt _ h).1; omega)
        have hf5 := (hB.trans (hb6.mono (by omega))).setCell (p := ⟨w1.heap.size, 3, none⟩) (show w.heap.size ≤ w1.heap.size by omega) (.slice a6 (k + 1) c6)
        have hf6 : w2.heap.size ≤ (w6.setCell ⟨w1.heap.size, 3, none⟩ (.slice a6 (k + 1) c6)).heap.size := by have := hb6.size; rw [World.size_setCell]; omega
        generalize w6.setCell ⟨w1.heap.size, 3, none⟩ (.slice a6 (k + 1) c6) = w7 at *
        clear hS HS2 hbX hrX hSS hb6 r1 r2 d36 e3 f3 b1 b2 b3 hrow hB c3 d3 q0 q1 q2 q3
        go_wp2
        go_roundw
        case rel => exact ⟨k + 1, _, by omega, by go_num, hf1, hf2, hf3, hf4, hf5, hf6⟩
        case measure => simp [intOf]; omega
      exact AllReadyH.nil
    · have hke : k = y.ws.length := by omega
      rw [hke, List.take_length] at hrow
      have hsl := slG_own encW_len hrow rfl (by omega)
      have HSL := Lib.hid (fun o => slG_own encW_len (row_putO (o := o) hrow (show w.heap.size + 1 < w2.heap.size by omega)) rfl (by omega))
      have hq4 : (encY y q).size = 4 := rfl
      have hq1 : (encY y q).all (·.oneCell') = true := by obtain ⟨_, _, rfl, _⟩ := hsl; simp [encY, Value.oneCell']
      have hb2w := lt_blk b2
      clear hke hrow hsl
      go_wp2
      refine HK.out _ _ ?_; clear HK
      go_wp2_with (first | (refine wpList_load_blk rfl 31 _ rfl _ rfl b3 Try.underlying31 rfl size31 hq4 ?_) | (refine wpList_store_blk rfl 31 _ _ rfl _ rfl rfl b2 size31 hq4 rfl hq1 ?_))
      refine bodyPost_ret (results_blk rfl _ _ (w.heap.size + 1) rfl (World.putObj_heap_same hb2w) Try.underlying31 rfl size31 hq4) rfl ⟨q, rfl, ?_, below_putObj hB (by omega)⟩
      exact HSL.out _
end Ytndmjginmomfiaa
end Go.Proofs
