/- The reference's Check says what the program's says, for any work. -/
import Derived.Test.YteileadcmekkoaaStk
open Go Go.RowKit Go.YteileadcmekkoaaIt
namespace Go.Proofs
namespace Yteileadcmekkoaa
theorem size31 : (Try.prog.info? 31).map (·.size) = some 2 := by kernel_rfl
set_option maxRecDepth 100000 in
set_option maxHeartbeats 8000000 in
theorem rcheck_any (n : Int) (v : Value) (ws : List Wa) (w : World) (hv : SlA w v ws) :
    Calls Try.prog 23 #[.agg #[.int .i64 n, v]] w fun e w' => e = .returned (.int .i64 (chkE n ws)) ∧ Below w.heap.size w w' := by
  have HV := Lib.hid hv
  obtain ⟨ad, cap, rfl, hm, hcp, hc⟩ := hv
  obtain ⟨R, hR⟩ : ∃ R, R = chkE n ws := ⟨_, rfl⟩
  rw [← hR]
  have HR := Lib.hid hR
  clear hR
  go_enter Try.func23, Try.ntmps23
  refine wp_seq_k (fun K hK => ?_)
  have HK := Lib.hid hK; clear hK
  go_wp2
  refine HK.out _ _ ?_; clear HK K
  generalize hw1 : World.alloc _ _ = w1
  obtain ⟨b1, hB, hs1⟩ := blk1 hw1
  clear hw1
  have c0 := cell_blk (i := 0) b1
  have c1 := cell_blk (i := 1) b1
  simp only [List.getElem?_toArray, List.getElem?_cons_zero, List.getElem?_cons_succ] at c0 c1
  obtain ⟨q1, hq1⟩ : ∃ q, q = btw 1 n 10 := ⟨_, rfl⟩
  have h1 := is_any n 1 10 w1
  rw [← hq1] at h1
  have HQ1 := Lib.hid hq1
  clear hq1
  cases q1
  · have hRv : R = 2 := by rw [HR.out]; unfold chkE; rw [if_pos HQ1.out.symm]
    clear HR
    subst hRv
    go_wp2_with (go_at_call 61; refine h1.mono ?_; rintro e w2 ⟨rfl, hw2⟩; subst hw2)
    go_ret
    exact ⟨rfl, hB⟩
  · have hn := btw_true.1 HQ1.out.symm
    by_cases hl : 40 < ws.length
    · have hRv : R = 1 := by rw [HR.out]; unfold chkE; rw [if_neg (by rw [← HQ1.out]; simp), if_pos hl]
      clear HR
      subst hRv
      have hlb : ((ws.length : Int) > 40) = True := by simp; omega
      go_wp2_with (go_at_call 61; refine h1.mono ?_; rintro e w2 ⟨rfl, hw2⟩; subst hw2)
      go_ret
      exact ⟨rfl, hB⟩
    · have hRv : R = if rowsE n ws ≠ 0 then rowsE n ws else chkE n ws := by
        rw [HR.out]
        by_cases h0 : rowsE n ws = 0
        · rw [if_neg (by simpa using h0)]
        · rw [if_pos h0]; unfold chkE; rw [if_neg (by rw [← HQ1.out]; simp), if_neg hl, if_pos h0]
      have HRV := Lib.hid hRv
      have hlb : ((ws.length : Int) > 40) = False := by simp; omega
      clear hRv
      go_wp2_with (go_at_call 61; refine h1.mono ?_; rintro e w2 ⟨rfl, hw2⟩; subst hw2)
      go_loopw [3] (fun i wr => ∃ k : Nat, i = .int .i64 k ∧ k ≤ ws.length ∧ rowsE n ws = rowsE n (ws.drop k) ∧ wr.heap[w.heap.size]? = some (.cells #[.int .i64 n, .slice ad ws.length cap] 31 (0, 0)) ∧ Below w.heap.size w wr) (fun i _ => ws.length - (intOf i).toNat)
      case atStart => exact ⟨0, rfl, Nat.zero_le _, rfl, b1, hB⟩
      case round =>
        clear b1 hB c0 c1 h1
        obtain ⟨k, rfl, hk, hrow, b1, hB⟩ := hrel
        have HROW := Lib.hid hrow
        clear hrow
        by_cases hkl : k < ws.length
        · obtain ⟨b, off, rfl, hlt, hcell⟩ := hc (by omega)
          obtain ⟨q0, q1, q2, q3, q4⟩ := a_cells hcell (n := k) hkl rfl
          have r0 := (hB.cell (p := ⟨b, off + k * 5, none⟩) hlt).trans q0
          have r1 := (hB.cell (p := ⟨b, off + k * 5 + 1, none⟩) hlt).trans q1
          have r2 := (hB.cell (p := ⟨b, off + k * 5 + 2, none⟩) hlt).trans q2
          have r3 := (hB.cell (p := ⟨b, off + k * 5 + 3, none⟩) hlt).trans q3
          have r4 := (hB.cell (p := ⟨b, off + k * 5 + 4, none⟩) hlt).trans q4
          have hdr := rowsE_drop (n := n) hkl
          have HDR := Lib.hid hdr
          clear hcell hc q0 q1 q2 q3 q4 hdr
          generalize hx : at_ ws k = x at *
          clear hx
          obtain ⟨x0, x1, x2, x3, x4⟩ := x
          simp only at r0 r1 r2 r3 r4
          have e0 := cell_blk (i := 0) b1
          have e1 := cell_blk (i := 1) b1
          simp only [List.getElem?_toArray, List.getElem?_cons_zero, List.getElem?_cons_succ] at e0 e1
          have hkli : (k : Int) < (ws.length : Int) := by omega
          have z1 := lt_blk b1
          have hbE : badE n ⟨x0, x1, x2, x3, x4⟩ = if (!btw 0 x0 (n - 1) || !btw 0 x1 (n - 1)) = true then 5 else if (!goodW x2 x3 x4) = true then 2 else 0 := rfl
          have h1 := fun W => is_any x0 0 (n - 1) W
          have h2 := fun W => is_any x1 0 (n - 1) W
          have h3 := fun W => in_any x2 x3 0 10000 W
          have h4 := fun W => is_any x4 0 4 W
          have hgw : goodW x2 x3 x4 = (decide (0 ≤ x2) && decide (x2 ≤ x3) && decide (x3 ≤ 10000) && btw 0 x4 4) := rfl
          rw [hgw] at hbE
          obtain ⟨p1, hp1⟩ : ∃ q, q = btw 0 x0 (n - 1) := ⟨_, rfl⟩
          obtain ⟨p2, hp2⟩ : ∃ q, q = btw 0 x1 (n - 1) := ⟨_, rfl⟩
          obtain ⟨p3, hp3⟩ : ∃ q, q = (decide (0 ≤ x2) && decide (x2 ≤ x3) && decide (x3 ≤ 10000)) := ⟨_, rfl⟩
          obtain ⟨p4, hp4⟩ : ∃ q, q = btw 0 x4 4 := ⟨_, rfl⟩
          rw [← hp1] at h1 hbE
          rw [← hp2] at h2 hbE
          rw [← hp3] at h3 hbE
          rw [← hp4] at h4 hbE
          have H1 := Lib.hid h1
          have H2 := Lib.hid h2
          have H3 := Lib.hid h3
          have H4 := Lib.hid h4
          clear hp1 hp2 hp3 hp4 h1 h2 h3 h4 hgw
          have hE : Below wr.heap.size wr (wr.alloc (Obj.cells #[Value.int IntKind.i64 x0, Value.int IntKind.i64 x1, Value.int IntKind.i64 x2, Value.int IntKind.i64 x3, Value.int IntKind.i64 x4] 91)) := (Below.refl _ _).alloc (Nat.le_refl _) _
          have hB2 := btr hB hE (Nat.le_refl _)
          have hRR : badE n ⟨x0, x1, x2, x3, x4⟩ ≠ 0 → R = badE n ⟨x0, x1, x2, x3, x4⟩ := fun h => by
            have h5 : rowsE n ws = badE n ⟨x0, x1, x2, x3, x4⟩ := by rw [HROW.out, HDR.out, if_neg h]
            rw [HRV.out, h5, if_pos h]
          have hRZ : badE n ⟨x0, x1, x2, x3, x4⟩ = 0 → rowsE n ws = rowsE n (ws.drop (k + 1)) := fun h => by rw [HROW.out, HDR.out, if_pos h]
          have HRR := Lib.hid hRR
          have HRZ := Lib.hid hRZ
          have HBE := Lib.hid hbE
          clear hRR hRZ hbE
          cases p1
          · have hRv : R = 5 := by rw [HRR.out (by rw [HBE.out]; simp), HBE.out]; simp
            clear HRR HRZ HBE HRV HR HROW HDR
            subst hRv
            go_wp2_with (go_at_call 61; refine (H1.out _).mono ?_; rintro e w2 ⟨rfl, hw2⟩; subst hw2)
            go_ret
            exact ⟨rfl, hB2⟩
          · cases p2
            · have hRv : R = 5 := by rw [HRR.out (by rw [HBE.out]; simp), HBE.out]; simp
              clear HRR HRZ HBE HRV HR HROW HDR
              subst hRv
              go_wp2_with (first | (go_at_call 61; have := hc1; refine (H2.out _).mono ?_; rintro e w2 ⟨rfl, hw2⟩; subst hw2) | (go_at_call 61; refine (H1.out _).mono ?_; rintro e w2 ⟨rfl, hw2⟩; subst hw2; have hc1 : True := trivial))
              go_ret
              exact ⟨rfl, hB2⟩
            · have bX : (wr.alloc (Obj.cells #[Value.int IntKind.i64 x0, Value.int IntKind.i64 x1, Value.int IntKind.i64 x2, Value.int IntKind.i64 x3, Value.int IntKind.i64 x4] 91)).heap[wr.heap.size]? = _ := heap_newI rfl
              have c4 := cell_blk (i := 4) bX
              simp only [List.getElem?_toArray, List.getElem?_cons_zero, List.getElem?_cons_succ] at c4
              cases p3
              · have hRv : R = 2 := by rw [HRR.out (by rw [HBE.out]; simp), HBE.out]; simp
                clear HRR HRZ HBE HRV HR HROW HDR
                subst hRv
                go_wp2_with (first | (go_at_call 61; have := hc2; refine (H4.out _).mono ?_; rintro e w2 ⟨rfl, hw2⟩; subst hw2) | (go_at_call 61; have := hc1; refine (H2.out _).mono ?_; rintro e w2 ⟨rfl, hw2⟩; subst hw2; have hc2 : True := trivial) | (go_at_call 61; refine (H1.out _).mono ?_; rintro e w2 ⟨rfl, hw2⟩; subst hw2; have hc1 : True := trivial) | (go_at_call 62; refine (H3.out _).mono ?_; rintro e w2 ⟨rfl, hb2⟩; have g4 := (hb2.cell (p := ⟨wr.heap.size, 4, none⟩) (lt_blk bX)).trans c4))
                go_ret
                exact ⟨rfl, btr hB2 hb2 (Nat.le_refl _)⟩
              · cases p4
                · have hRv : R = 2 := by rw [HRR.out (by rw [HBE.out]; simp), HBE.out]; simp
                  clear HRR HRZ HBE HRV HR HROW HDR
                  subst hRv
                  go_wp2_with (first | (go_at_call 61; have := hc2; refine (H4.out _).mono ?_; rintro e w2 ⟨rfl, hw2⟩; subst hw2) | (go_at_call 61; have := hc1; refine (H2.out _).mono ?_; rintro e w2 ⟨rfl, hw2⟩; subst hw2; have hc2 : True := trivial) | (go_at_call 61; refine (H1.out _).mono ?_; rintro e w2 ⟨rfl, hw2⟩; subst hw2; have hc1 : True := trivial) | (go_at_call 62; refine (H3.out _).mono ?_; rintro e w2 ⟨rfl, hb2⟩; have g4 := (hb2.cell (p := ⟨wr.heap.size, 4, none⟩) (lt_blk bX)).trans c4))
                  go_ret
                  exact ⟨rfl, btr hB2 hb2 (Nat.le_refl _)⟩
                · have hz := Lib.hid (HRZ.out (by rw [HBE.out]; simp))
                  clear HRR HRZ HBE HROW HDR
                  go_wp2_with (first | (go_at_call 61; have := hc2; refine (H4.out _).mono ?_; rintro e w2 ⟨rfl, hw2⟩; subst hw2) | (go_at_call 61; have := hc1; refine (H2.out _).mono ?_; rintro e w2 ⟨rfl, hw2⟩; subst hw2; have hc2 : True := trivial) | (go_at_call 61; refine (H1.out _).mono ?_; rintro e w2 ⟨rfl, hw2⟩; subst hw2; have hc1 : True := trivial) | (go_at_call 62; refine (H3.out _).mono ?_; rintro e w2 ⟨rfl, hb2⟩; have g4 := (hb2.cell (p := ⟨wr.heap.size, 4, none⟩) (lt_blk bX)).trans c4))
                  go_roundw
                  case rel => exact ⟨k + 1, by go_num, by omega, hz.out, blk_keep (blk_keep b1 hE) hb2, btr hB2 hb2 (Nat.le_refl _)⟩
                  case measure => simp [intOf]; omega
        · have hke : k = ws.length := by omega
          have hr0 : rowsE n ws = 0 := by rw [HROW.out, hke, List.drop_length]; rfl
          have hRc : R = chkE n ws := by rw [HRV.out, if_neg (by simpa using hr0)]
          clear HROW HRV
          obtain ⟨m, hnm, hV⟩ := val_of HQ1.out.symm (by omega) hr0
          subst hnm
          have hcv := chk_of hV
          rw [hcv] at hRc
          have h63 := stuck_any m _ ws wr (HV.out.below hB (Nat.le_refl _)) hV
          have H63 := Lib.hid h63
          have HRC := Lib.hid hRc
          have hkl2 : ¬ ((k : Int) < (ws.length : Int)) := by omega
          clear hRc hcv h63 HR hV hr0 HQ1 hc
          have e1 := cell_blk (i := 1) b1
          simp only [List.getElem?_toArray, List.getElem?_cons_zero, List.getElem?_cons_succ] at e1
          by_cases hns : NS ws
          · have hRv : R = 0 := by rw [HRC.out, if_pos hns]
            subst hRv
            go_wp2_with (first | (refine wpList_load_blk rfl 31 _ rfl _ rfl b1 Try.underlying31 rfl size31 rfl ?_) | (go_at_call 63; refine H63.out.mono ?_; rintro e w2 ⟨⟨bb, rfl, hbb⟩, hb2⟩; have hbf : bb = false := (by cases bb; rfl; exact absurd hns (hbb.1 rfl)); subst hbf))
            go_ret
            exact ⟨rfl, btr hB hb2 (Nat.le_refl _)⟩
          · have hRv : R = 16 := by rw [HRC.out, if_neg hns]
            subst hRv
            go_wp2_with (first | (refine wpList_load_blk rfl 31 _ rfl _ rfl b1 Try.underlying31 rfl size31 rfl ?_) | (go_at_call 63; refine H63.out.mono ?_; rintro e w2 ⟨⟨bb, rfl, hbb⟩, hb2⟩; have hbf : bb = true := hbb.2 hns; subst hbf))
            go_ret
            exact ⟨rfl, btr hB hb2 (Nat.le_refl _)⟩
end Yteileadcmekkoaa
end Go.Proofs
