/- Fields: the reference's Check. -/
import Derived.Test.YtgnjeefanbcbkaaB1
open Go Go.RowKit Go.YtgnjeefanbcbkaaIt
namespace Go.Proofs
namespace Ytgnjeefanbcbkaa
theorem size35 : (Try.prog.info? 35).map (·.size) = some 4 := by kernel_rfl
set_option maxRecDepth 100000 in
set_option maxHeartbeats 4000000 in
theorem rcheck_any (n lo hi : Int) (v : Value) (ss : List Smp) (w : World) (hv : SlS w v ss) :
    Calls Try.prog 19 #[.agg #[.int .i64 n, .int .i64 lo, .int .i64 hi, v]] w fun e w' => e = .returned (.int .i64 (chkE n lo hi ss)) ∧ Below w.heap.size w w' := by
  have HV := Lib.hid hv
  obtain ⟨ad, cap, rfl, hm, hcp, hc⟩ := hv
  obtain ⟨R, hR⟩ : ∃ R, R = chkE n lo hi ss := ⟨_, rfl⟩
  rw [← hR]
  have HR := Lib.hid hR
  clear hR
  go_enter Try.func19, Try.ntmps19
  refine wp_seq_k (fun K hK => ?_)
  have HK := Lib.hid hK; clear hK
  go_wp2
  refine HK.out _ _ ?_; clear HK K
  generalize hw1 : World.alloc _ _ = w1
  obtain ⟨b1, hB, hs1⟩ := blk1 hw1
  clear hw1
  have c0 := cell_blk (i := 0) b1
  have c1 := cell_blk (i := 1) b1
  have c2 := cell_blk (i := 2) b1
  have c3 := cell_blk (i := 3) b1
  simp only [List.getElem?_toArray, List.getElem?_cons_zero, List.getElem?_cons_succ] at c0 c1 c2 c3
  have h51 := fun (a x b : Int) W => is_any x a b W
  have H51 := Lib.hid h51
  clear h51
  obtain ⟨q1, hq1⟩ : ∃ q, q = btw 1 n 30 := ⟨_, rfl⟩
  obtain ⟨q2, hq2⟩ : ∃ q, q = btw 0 lo hi := ⟨_, rfl⟩
  obtain ⟨q3, hq3⟩ : ∃ q, q = decide (hi > 30000) := ⟨_, rfl⟩
  have hhd : headB n lo hi = (!q1 || !q2 || q3) := by unfold headB; rw [← hq1, ← hq2, ← hq3]
  have HHD := Lib.hid hhd
  have HQ3 := Lib.hid hq3
  replace hq1 := hq1.symm
  replace hq2 := hq2.symm
  replace hq3 := hq3.symm
  clear hhd
  cases q1 <;> cases q2 <;> cases q3
  case true.true.false =>
    have hq4 : ¬ (hi > 30000) := by simpa using hq3
    by_cases hl : 100 < ss.length
    · have hRv : R = 1 := by rw [HR.out]; unfold chkE; rw [if_neg (by rw [HHD.out]; simp), if_pos hl]
      clear HR
      subst hRv
      have hlb : ((ss.length : Int) > 100) = True := by simp; omega
      go_wp2_with (go_at_call 52; refine (H51.out _ _ _ _).mono ?_; rintro e w2 ⟨rfl, rfl⟩)
      go_ret
      exact ⟨rfl, hB⟩
    · have hRv : R = rowsE n ss := by rw [HR.out]; unfold chkE; rw [if_neg (by rw [HHD.out]; simp), if_neg hl]
      have HRV := Lib.hid hRv
      have hn := btw_true.1 hq1
      have hlb : ((ss.length : Int) > 100) = False := by simp; omega
      clear hRv
      go_wp2_with (go_at_call 52; refine (H51.out _ _ _ _).mono ?_; rintro e w2 ⟨rfl, rfl⟩)
      go_loopw [3] (fun i wr => ∃ k : Nat, i = .int .i64 k ∧ k ≤ ss.length ∧ rowsE n ss = rowsE n (ss.drop k) ∧ wr.heap[w.heap.size]? = some (.cells #[.int .i64 n, .int .i64 lo, .int .i64 hi, .slice ad ss.length cap] 35 (0, 0)) ∧ Below w.heap.size w wr) (fun i _ => ss.length - (intOf i).toNat)
      case atStart => exact ⟨0, rfl, Nat.zero_le _, rfl, b1, hB⟩
      case round =>
        clear b1 hB c0 c1 c2 c3
        obtain ⟨k, rfl, hk, hrow, b1, hB⟩ := hrel
        have HROW := Lib.hid hrow
        clear hrow
        by_cases hkl : k < ss.length
        · obtain ⟨b, off, rfl, hlt, hcell⟩ := hc (by omega)
          obtain ⟨p0, p1, p2⟩ := s_cells hcell (n := k) hkl rfl
          have r0 := (hB.cell (p := ⟨b, off + k * 3, none⟩) hlt).trans p0
          have r1 := (hB.cell (p := ⟨b, off + k * 3 + 1, none⟩) hlt).trans p1
          have r2 := (hB.cell (p := ⟨b, off + k * 3 + 2, none⟩) hlt).trans p2
          have hdr := rowsE_drop (n := n) hkl
          clear hcell hc p0 p1 p2
          have e0 := cell_blk (i := 0) b1
          have e3 := cell_blk (i := 3) b1
          simp only [List.getElem?_toArray, List.getElem?_cons_zero, List.getElem?_cons_succ] at e0 e3
          have hbe : badE n (at_ ss k) = if btw 0 (at_ ss k).week (n - 1) = false then 5 else if (!btw 0 (at_ ss k).val 30000 || !btw 0 (at_ ss k).off 30000) = true then 2 else 0 := rfl
          obtain ⟨E, hE⟩ : ∃ E, E = badE n (at_ ss k) := ⟨_, rfl⟩
          rw [← hE] at hdr hbe
          have HDR := Lib.hid hdr
          clear hdr hE
          generalize (at_ ss k).week = x0 at *
          generalize (at_ ss k).val = x1 at *
          generalize (at_ ss k).off = x2 at *
          have hw1 : IntKind.i64.wrap (n - 1) = n - 1 := by rw [IntKind.wrap_i64]; omega
          have hEb : Below wr.heap.size wr (wr.alloc (Obj.cells #[Value.int IntKind.i64 x0, Value.int IntKind.i64 x1, Value.int IntKind.i64 x2] 104)) := (Below.refl _ _).alloc (Nat.le_refl _) _
          have hB2 := btr hB hEb (Nat.le_refl _)
          have b12 := blk_keep b1 hEb
          have hl1 := lt_blk b1
          have hRR : E ≠ 0 → R = E := fun h => by rw [HRV.out, HROW.out, HDR.out, if_neg h]
          have hRZ : E = 0 → rowsE n ss = rowsE n (ss.drop (k + 1)) := fun h => by rw [HROW.out, HDR.out, if_pos h]
          have HRR := Lib.hid hRR
          have HRZ := Lib.hid hRZ
          have HBE := Lib.hid hbe
          clear hRR hRZ hbe
          obtain ⟨p1, hp1⟩ : ∃ q, q = btw 0 x0 (n - 1) := ⟨_, rfl⟩
          obtain ⟨p2, hp2⟩ : ∃ q, q = btw 0 x1 30000 := ⟨_, rfl⟩
          obtain ⟨p3, hp3⟩ : ∃ q, q = btw 0 x2 30000 := ⟨_, rfl⟩
          have HP1 := Lib.hid hp1
          have HP2 := Lib.hid hp2
          have HP3 := Lib.hid hp3
          replace hp1 := hp1.symm
          replace hp2 := hp2.symm
          replace hp3 := hp3.symm
          cases p1
          · have hRv : R = 5 := by rw [HRR.out (by rw [HBE.out, ← HP1.out]; simp), HBE.out, ← HP1.out]; simp
            clear HRR HRZ HBE HRV HR HROW HDR
            subst hRv
            go_wp2_with (go_at_call 52; refine (H51.out _ _ _ _).mono ?_; rintro e w2 ⟨rfl, rfl⟩)
            go_ret
            exact ⟨rfl, hB2⟩
          · cases p2
            · have hRv : R = 2 := by rw [HRR.out (by rw [HBE.out, ← HP1.out, ← HP2.out]; simp), HBE.out, ← HP1.out, ← HP2.out]; simp
              clear HRR HRZ HBE HRV HR HROW HDR
              subst hRv
              go_wp2_with (go_at_call 52; refine (H51.out _ _ _ _).mono ?_; rintro e w2 ⟨rfl, rfl⟩)
              go_ret
              exact ⟨rfl, hB2⟩
            · cases p3
              · have hRv : R = 2 := by rw [HRR.out (by rw [HBE.out, ← HP1.out, ← HP2.out, ← HP3.out]; simp), HBE.out, ← HP1.out, ← HP2.out, ← HP3.out]; simp
                clear HRR HRZ HBE HRV HR HROW HDR
                subst hRv
                go_wp2_with (go_at_call 52; refine (H51.out _ _ _ _).mono ?_; rintro e w2 ⟨rfl, rfl⟩)
                go_ret
                exact ⟨rfl, hB2⟩
              · have hz := Lib.hid (HRZ.out (by rw [HBE.out, ← HP1.out, ← HP2.out, ← HP3.out]; simp))
                clear HRR HRZ HBE HROW HDR
                go_wp2_with (go_at_call 52; refine (H51.out _ _ _ _).mono ?_; rintro e w2 ⟨rfl, rfl⟩)
                go_roundw
                case rel => exact ⟨k + 1, by go_num, by omega, hz.out, b12, hB2⟩
                case measure => simp [intOf]; omega
        · have hke : k = ss.length := by omega
          have e3 := cell_blk (i := 3) b1
          simp only [List.getElem?_toArray, List.getElem?_cons_zero, List.getElem?_cons_succ] at e3
          have hr0 : R = 0 := by rw [HRV.out, HROW.out, hke, List.drop_length]; rfl
          clear HROW HRV HR hke
          subst hr0
          go_wp2
          go_ret
          exact ⟨rfl, hB⟩
  all_goals
    have hRv : R = 2 := by rw [HR.out]; unfold chkE; rw [if_pos (by rw [HHD.out]; rfl)]
    clear HR
    subst hRv
    go_wp2_with (go_at_call 52; refine (H51.out _ _ _ _).mono ?_; rintro e w2 ⟨rfl, rfl⟩)
    go_ret
    exact ⟨rfl, hB⟩
end Ytgnjeefanbcbkaa
end Go.Proofs
