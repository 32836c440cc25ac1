/- What can follow an order: steps. -/
import Derived.Test.YtndmjginmomfiaaPlSt
import Derived.Test.YtndmjginmomfiaaW20
import Derived.Test.YtndmjginmomfiaaGenE
open Go Go.RowKit Go.YtndmjginmomfiaaIt
namespace Go.Proofs
namespace Ytndmjginmomfiaa
abbrev SlS (w : World) (v : Value) (xs : List Stp) : Prop := SlG encS 4 w v xs
theorem size77 : (Try.prog.info? 77).map (·.size) = some 4 := by kernel_rfl
theorem info77 : (Try.prog.info? 77).map (fun i => (i.zero, i.size, i.bytes)) = some (some (.agg #[.int .i64 0, .int .i64 0, .int .i64 0, .bool false]), 4, 32) := by kernel_rfl
set_option maxRecDepth 100000 in
set_option maxHeartbeats 4000000 in
theorem steps_any (y : Yd) (v : Value) (s : Int) (m : Nat) (o : Int) (w : World) (ok : Ok y) (hw : SlW w v y.ws) (hm : m < y.ws.length) (hs : 0 ≤ s ∧ s ≤ 60) (ho : 0 ≤ o ∧ o ≤ 40) :
    Calls Try.prog 37 #[.agg (encY y v), .int .i64 s, .int .i64 m, .int .i64 o] w fun e w' => ∃ u, e = .returned u ∧ SlS w' u (stpL y s m o) ∧ Below w.heap.size w w' := by
  obtain ⟨i77, hi77, hz1, hz2, hz3⟩ := info_parts info77
  have HI := Lib.hid (And.intro hi77 (And.intro hz1 (And.intro hz2 hz3)))
  clear hi77 hz1 hz2 hz3
  have hn0 := ok.n0
  have hn1 := ok.n1
  have HOK := Lib.hid ok
  obtain ⟨ad, cap, rfl, hmx, hcp, hc⟩ := hw
  obtain ⟨b, off, rfl, hlt, hcell⟩ := hc (by omega)
  have HC := Lib.hid (fun W (hW : Below w.heap.size w W) => (fun i hi f u hu => (hW.cell (p := ⟨b, _, none⟩) hlt).trans (hcell i hi f u hu) : ∀ i (h : i < y.ws.length) f u, (encW y.ws[i])[f]? = some u → W.cell? ⟨b, off + i * 4 + f, none⟩ = some u))
  clear hc hcell ok
  obtain ⟨n, hn⟩ : ∃ n, n = y.ws.length := ⟨_, rfl⟩
  simp only [encY]
  rw [← hn] at hmx hcp hn0 hn1 hm ⊢
  have HN := Lib.hid hn
  clear hn
  go_enter Try.func37, Try.ntmps37
  refine wp_seq_k (fun K hK => ?_)
  have HK := Lib.hid hK; clear hK
  go_wp2
  refine HK.out _ _ ?_; clear HK K
  generalize hw1 : World.alloc _ _ = w1
  obtain ⟨b1, hB, hs1⟩ := blk1 hw1
  clear hw1
  have c13 := cell_blk (i := 3) b1
  have c10 := cell_blk (i := 0) b1
  simp only [List.getElem?_toArray, List.getElem?_cons_zero, List.getElem?_cons_succ] at c13 c10
  go_wp2
  clear c13 c10
  go_loopw [9, 17] (fun q i wr => ∃ k : Nat, k ≤ n ∧ i = .int .i64 k ∧ wr.ownsRow (w.heap.size + 1) 77 4 q (stpN y s m o k).length ((stpN y s m o k).flatMap encS) ∧ wr.heap[w.heap.size]? = some (.cells #[.int .i64 y.room, .int .i64 y.most, .int .i64 y.lots, .slice (some ⟨b, off, none⟩) n cap] 24 (0, 0)) ∧ Below w.heap.size w wr ∧ w.heap.size + 1 ≤ wr.heap.size) (fun _ i _ => n - (intOf i).toNat)
  case atStart => exact ⟨0, Nat.zero_le _, rfl, World.ownsRow_nil _ _ _ _, b1, hB, hs1⟩
  case round =>
    clear b1 hB hs1
    obtain ⟨k, hk, rfl, hrow, b1, hB, hsz⟩ := hrel
    obtain ⟨aq, cq, rfl⟩ := form_of hrow
    by_cases hkn : k < n
    · have hkl : k < y.ws.length := by rw [← HN.out]; exact hkn
      have hml : m < y.ws.length := by rw [← HN.out]; exact hm
      have hlt2 := Nat.lt_of_lt_of_le hlt hB.size
      obtain ⟨c0, c1, c2, c3⟩ := wt_cells (HC.out wr hB) (n := k) hkl rfl
      have hx := at_lt hkl
      rw [← hx] at c0 c1 c2 c3
      clear hx
      have hek := HOK.out.each k hkl
      have hem := HOK.out.each m hml
      have hwd := wid_le HOK.out hkl
      have hcb := come_bound HOK.out hkl hs (show 0 ≤ o ∧ o ≤ 80 by omega)
      have hln := stpN_len HOK.out s m o (k := k) (by omega)
      have hT := nx_test HOK.out (k := k) hml
      obtain ⟨x0, hx0⟩ : ∃ x, x = (y.at_ k).comes := ⟨_, rfl⟩
      obtain ⟨x1, hx1⟩ : ∃ x, x = (y.at_ k).lo := ⟨_, rfl⟩
      obtain ⟨x2, hx2⟩ : ∃ x, x = (y.at_ k).hi := ⟨_, rfl⟩
      obtain ⟨x3, hx3⟩ : ∃ x, x = (y.at_ k).next := ⟨_, rfl⟩
      have hwx : wid y k = (x2 - x1 + 1).toNat := by rw [hx1, hx2]; rfl
      have HWX := Lib.hid hwx
      clear hwx
      unfold come at hcb
      rw [← hx0, ← hx1, ← hx2, ← hx3] at hek
      rw [← hx0] at hcb c0
      rw [← hx1] at c1
      rw [← hx2] at c2
      rw [← hx3] at c3
      have HX := Lib.hid (And.intro hx0 (And.intro hx1 hx2))
      clear hx0 hx1 hx2 hx3
      obtain ⟨xn, hxn⟩ : ∃ x, x = (y.at_ m).next := ⟨_, rfl⟩
      rw [← hxn] at hT hem
      have HXN := Lib.hid hxn
      clear hxn
      have HT := Lib.hid hT
      clear hT
      go_wp2
      generalize hwA : World.alloc _ _ = wA
      obtain ⟨bx, hBA, hsA⟩ := blk1 hwA
      clear hwA
      replace hrow := row_below hrow hBA
      replace b1 := blk_keep b1 hBA
      replace hB := btr hB hBA (Nat.le_refl _)
      clear c0 c1 c2 c3 hBA
      generalize wr.heap.size = so at *
      go_loopw [9, 12] (fun q c wr => ∃ j : Nat, j ≤ wid y k ∧ (nx y m k = false → j = 0) ∧ c = .int .i64 (x1 + j) ∧ wr.ownsRow (w.heap.size + 1) 77 4 q ((stpN y s m o k).length + j) ((stpN y s m o k ++ stpR y s o k j).flatMap encS) ∧ wr.heap[w.heap.size]? = some (.cells #[.int .i64 y.room, .int .i64 y.most, .int .i64 y.lots, .slice (some ⟨b, off, none⟩) n cap] 24 (0, 0)) ∧ wr.heap[so]? = some (.cells #[.int .i64 x0, .int .i64 x1, .int .i64 x2, .int .i64 x3] 58 (0, 0)) ∧ Below w.heap.size w wr ∧ w.heap.size + 1 ≤ wr.heap.size) (fun _ c _ => wid y k - (intOf c - x1).toNat)
      case atStart => exact ⟨0, Nat.zero_le _, fun _ => rfl, by simp, by simpa [stpR] using hrow, b1, bx, hB, by omega⟩
      case round =>
        clear b1 bx hB hrow
        obtain ⟨j, hj, hj0, rfl, hrow, b1, bx, hB, hsi⟩ := hrel
        obtain ⟨aq, cq, rfl⟩ := form_of hrow
        obtain ⟨q0, q1, q2, q3⟩ := wt_cells (HC.out wr hB) (n := m) hml rfl
        rw [← at_lt hml, ← HXN.out] at q3
        clear q0 q1 q2
        have d0 := cell_blk (i := 0) bx
        have d1 := cell_blk (i := 1) bx
        have d2 := cell_blk (i := 2) bx
        have e0 := cell_blk (i := 0) b1
        have e3 := cell_blk (i := 3) b1
        simp only [List.getElem?_toArray, List.getElem?_cons_zero, List.getElem?_cons_succ] at d0 d1 d2 e0 e3
        by_cases hnx : nx y m k = true
        · have hT1 : (bits .and .i64 (xn / 2 ^ k) 1 = 1) = True := by rw [HT.out, hnx]; simp
          have hT2 : (bits .and .i64 (xn / 2 ^ k) 1 == 1) = true := by rw [beq_iff_eq, hT1]; trivial
          by_cases hjw : j < wid y k
          · have hcx : x1 + (j : Int) ≤ x2 := by have := HWX.out; omega
            by_cases hg0 : 0 ≤ s + o * x0 / 1000 - (x1 + (j : Int))
            · by_cases hg1 : s + o * x0 / 1000 - (x1 + (j : Int)) ≤ y.room
              · go_wp2_with (at_builtin; (refine wpList_append_own _ rfl _ _ 74 rfl (w.heap.size + 1) 77 i77 (.agg #[.int .i64 0, .int .i64 0, .int .i64 0, .bool false]) 4 32 Try.underlying74 HI.out.1 HI.out.2.1 HI.out.2.2.1 HI.out.2.2.2 rfl (by decide) _ _ _ rfl (hrow.alloc _) ⟨wr.heap.size, 0, none⟩ 1 1 [.int .i64 k, .int .i64 (x1 + j), .int .i64 (s + o * x0 / 1000 - (x1 + j)), .bool true] rfl rfl (cell_newL (xs := [.int .i64 k, .int .i64 (x1 + j), .int .i64 (s + o * x0 / 1000 - (x1 + j)), .bool true]) rfl) (by simp [Value.oneCell']) (Nat.le_trans (by omega : (stpN y s m o k).length + j + 1 ≤ 400) (by decide)) (by omega) (by rw [World.size_alloc]; omega) ?_; intro v' w6 g1 g2 _; obtain ⟨a6, c6, rfl⟩ := form_of g1))
                obtain ⟨hoth, hsz6, _, _, _⟩ := append_same1 hrow g2
                have hbn : Below w.heap.size w w6 := grown_below1 g2 hrow (by omega) (by omega) hB
                have hf1 := (hoth w.heap.size (by omega) (own_ne hrow b1 (by decide))).trans b1
                have hf2 := (hoth so (lt_blk bx) (own_ne hrow bx (by decide))).trans bx
                have hst : encS (stpA y s o k j) = [.int .i64 k, .int .i64 (x1 + j), .int .i64 (s + o * x0 / 1000 - (x1 + j)), .bool true] := by
                  unfold stpA stpC come encS
                  rw [← HX.out.1, ← HX.out.2.1]
                  rw [decide_eq_true hg0, decide_eq_true hg1]; rfl
                have hf7 : (stpN y s m o k ++ stpR y s o k (j + 1)).flatMap encS = (stpN y s m o k ++ stpR y s o k j).flatMap encS ++ [.int .i64 k, .int .i64 (x1 + j), .int .i64 (s + o * x0 / 1000 - (x1 + j)), .bool true] := by rw [stpR_succ, ← List.append_assoc, List.flatMap_append, List.flatMap_singleton, hst]
                go_roundw
                case rel => exact ⟨j + 1, by omega, fun h => (by rw [hnx] at h; cases h), (by congr 1; push_cast; omega), by rw [hf7, ← Nat.add_assoc]; exact g1, hf1, hf2, hbn, by omega⟩
                case measure => simp [intOf]; omega
              · go_wp2_with (at_builtin; (refine wpList_append_own _ rfl _ _ 74 rfl (w.heap.size + 1) 77 i77 (.agg #[.int .i64 0, .int .i64 0, .int .i64 0, .bool false]) 4 32 Try.underlying74 HI.out.1 HI.out.2.1 HI.out.2.2.1 HI.out.2.2.2 rfl (by decide) _ _ _ rfl (hrow.alloc _) ⟨wr.heap.size, 0, none⟩ 1 1 [.int .i64 k, .int .i64 (x1 + j), .int .i64 (s + o * x0 / 1000 - (x1 + j)), .bool false] rfl rfl (cell_newL (xs := [.int .i64 k, .int .i64 (x1 + j), .int .i64 (s + o * x0 / 1000 - (x1 + j)), .bool false]) rfl) (by simp [Value.oneCell']) (Nat.le_trans (by omega : (stpN y s m o k).length + j + 1 ≤ 400) (by decide)) (by omega) (by rw [World.size_alloc]; omega) ?_; intro v' w6 g1 g2 _; obtain ⟨a6, c6, rfl⟩ := form_of g1))
                obtain ⟨hoth, hsz6, _, _, _⟩ := append_same1 hrow g2
                have hbn : Below w.heap.size w w6 := grown_below1 g2 hrow (by omega) (by omega) hB
                have hf1 := (hoth w.heap.size (by omega) (own_ne hrow b1 (by decide))).trans b1
                have hf2 := (hoth so (lt_blk bx) (own_ne hrow bx (by decide))).trans bx
                have hst : encS (stpA y s o k j) = [.int .i64 k, .int .i64 (x1 + j), .int .i64 (s + o * x0 / 1000 - (x1 + j)), .bool false] := by
                  unfold stpA stpC come encS
                  rw [← HX.out.1, ← HX.out.2.1]
                  rw [decide_eq_true hg0, decide_eq_false hg1]; rfl
                have hf7 : (stpN y s m o k ++ stpR y s o k (j + 1)).flatMap encS = (stpN y s m o k ++ stpR y s o k j).flatMap encS ++ [.int .i64 k, .int .i64 (x1 + j), .int .i64 (s + o * x0 / 1000 - (x1 + j)), .bool false] := by rw [stpR_succ, ← List.append_assoc, List.flatMap_append, List.flatMap_singleton, hst]
                go_roundw
                case rel => exact ⟨j + 1, by omega, fun h => (by rw [hnx] at h; cases h), (by congr 1; push_cast; omega), by rw [hf7, ← Nat.add_assoc]; exact g1, hf1, hf2, hbn, by omega⟩
                case measure => simp [intOf]; omega
            · go_wp2_with (at_builtin; (refine wpList_append_own _ rfl _ _ 74 rfl (w.heap.size + 1) 77 i77 (.agg #[.int .i64 0, .int .i64 0, .int .i64 0, .bool false]) 4 32 Try.underlying74 HI.out.1 HI.out.2.1 HI.out.2.2.1 HI.out.2.2.2 rfl (by decide) _ _ _ rfl (hrow.alloc _) ⟨wr.heap.size, 0, none⟩ 1 1 [.int .i64 k, .int .i64 (x1 + j), .int .i64 (s + o * x0 / 1000 - (x1 + j)), .bool false] rfl rfl (cell_newL (xs := [.int .i64 k, .int .i64 (x1 + j), .int .i64 (s + o * x0 / 1000 - (x1 + j)), .bool false]) rfl) (by simp [Value.oneCell']) (Nat.le_trans (by omega : (stpN y s m o k).length + j + 1 ≤ 400) (by decide)) (by omega) (by rw [World.size_alloc]; omega) ?_; intro v' w6 g1 g2 _; obtain ⟨a6, c6, rfl⟩ := form_of g1))
              obtain ⟨hoth, hsz6, _, _, _⟩ := append_same1 hrow g2
              have hbn : Below w.heap.size w w6 := grown_below1 g2 hrow (by omega) (by omega) hB
              have hf1 := (hoth w.heap.size (by omega) (own_ne hrow b1 (by decide))).trans b1
              have hf2 := (hoth so (lt_blk bx) (own_ne hrow bx (by decide))).trans bx
              have hst : encS (stpA y s o k j) = [.int .i64 k, .int .i64 (x1 + j), .int .i64 (s + o * x0 / 1000 - (x1 + j)), .bool false] := by
                unfold stpA stpC come encS
                rw [← HX.out.1, ← HX.out.2.1]
                rw [decide_eq_false hg0]; rfl
              have hf7 : (stpN y s m o k ++ stpR y s o k (j + 1)).flatMap encS = (stpN y s m o k ++ stpR y s o k j).flatMap encS ++ [.int .i64 k, .int .i64 (x1 + j), .int .i64 (s + o * x0 / 1000 - (x1 + j)), .bool false] := by rw [stpR_succ, ← List.append_assoc, List.flatMap_append, List.flatMap_singleton, hst]
              go_roundw
              case rel => exact ⟨j + 1, by omega, fun h => (by rw [hnx] at h; cases h), (by congr 1; push_cast; omega), by rw [hf7, ← Nat.add_assoc]; exact g1, hf1, hf2, hbn, by omega⟩
              case measure => simp [intOf]; omega
          · have hjw2 : j = wid y k := by omega
            have hcx : ¬ x1 + (j : Int) ≤ x2 := by have := HWX.out; omega
            go_wp2
            go_roundw
            case rel => exact ⟨k + 1, by omega, by go_num, by rw [stpN_succ, if_pos hnx, List.length_append, stpR_len, ← hjw2]; exact hrow, b1, hB, hsi⟩
            case measure => simp [intOf]; omega
        · have hT1 : (bits .and .i64 (xn / 2 ^ k) 1 = 1) = False := by rw [HT.out]; simp [hnx]
          have hj00 := hj0 (by simpa using hnx)
          subst hj00
          have hcx : x1 ≤ x2 := hek.2.2.2.1
          have hT2 : (bits .and .i64 (xn / 2 ^ k) 1 == 1) = false := by rw [beq_eq_false_iff_ne]; intro h; rw [hT1] at h; exact h
          go_wp2
          go_roundw
          case rel => exact ⟨k + 1, by omega, by go_num, by rw [stpN_succ, if_neg hnx, List.append_nil]; simpa [stpR] using hrow, b1, hB, hsi⟩
          case measure => simp [intOf]; omega
    · have hkn2 : k = n := by omega
      subst hkn2
      go_wp2
      go_ret
      refine ⟨_, rfl, slG_own (enc := encS) (sz := 4) (fun _ => rfl) (by unfold stpL; rw [← HN.out]; exact hrow) (by unfold stpL; rw [← HN.out]) (by unfold stpL; rw [← HN.out]; have := stpN_len HOK.out s m o (k := k) (by rw [← HN.out]; omega); omega), hB⟩
end Ytndmjginmomfiaa
end Go.Proofs
