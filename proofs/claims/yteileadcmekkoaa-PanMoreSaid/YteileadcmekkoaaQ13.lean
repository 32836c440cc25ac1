/- Pans: works are checked. -/
import Derived.Test.YteileadcmekkoaaQ12
open Go Go.RowKit Go.YteileadcmekkoaaIt
namespace Go.Proofs
namespace Yteileadcmekkoaa
/-- What is wrong with a wait. -/
def badE (n : Int) (x : Wa) : Int := if (!btw 0 x.f (n - 1) || !btw 0 x.t (n - 1)) = true then 5 else if (!goodW x.lo x.hi x.b) = true then 2 else 0
def rowsE (n : Int) : List Wa → Int
  | [] => 0
  | x :: l => if badE n x = 0 then rowsE n l else badE n x
open Classical in
/-- What is wrong with a work. -/
noncomputable def chkE (n : Int) (ws : List Wa) : Int := if btw 1 n 10 = false then 2 else if 40 < ws.length then 1 else if rowsE n ws ≠ 0 then rowsE n ws else if NS ws then 0 else 16
theorem badE_zero {n : Int} {x : Wa} : badE n x = 0 ↔ (0 ≤ x.f ∧ x.f < n) ∧ (0 ≤ x.t ∧ x.t < n) ∧ (0 ≤ x.lo ∧ x.lo ≤ x.hi) ∧ x.hi ≤ 10000 ∧ (0 ≤ x.b ∧ x.b ≤ 4) := by
  unfold badE goodW btw
  by_cases h1 : (0 ≤ x.f ∧ x.f ≤ n - 1) <;> by_cases h2 : (0 ≤ x.t ∧ x.t ≤ n - 1) <;> by_cases h3 : 0 ≤ x.lo <;> by_cases h4 : x.lo ≤ x.hi <;> by_cases h5 : x.hi ≤ 10000 <;> by_cases h6 : (0 ≤ x.b ∧ x.b ≤ 4) <;> simp [h1, h2, h3, h4, h5, h6] <;> omega
theorem rowsE_zero {n : Int} : ∀ {ws : List Wa}, rowsE n ws = 0 ↔ ∀ i, i < ws.length → badE n (at_ ws i) = 0
  | [] => ⟨fun _ i hi => by simp at hi, fun _ => rfl⟩
  | x :: l => by
    unfold rowsE
    by_cases h : badE n x = 0
    · rw [if_pos h, rowsE_zero]
      refine ⟨fun hl i hi => ?_, fun hl i hi => ?_⟩
      · cases i with
        | zero => exact h
        | succ i => exact hl i (by simpa using hi)
      · exact hl (i + 1) (by simpa using hi)
    · rw [if_neg h]
      exact ⟨fun h2 => absurd h2 h, fun hl => absurd (hl 0 (by simp)) h⟩
theorem rowsE_drop {n : Int} {ws : List Wa} {k : Nat} (hk : k < ws.length) : rowsE n (ws.drop k) = if badE n (at_ ws k) = 0 then rowsE n (ws.drop (k + 1)) else badE n (at_ ws k) := by
  rw [List.drop_eq_getElem_cons hk, at_lt hk]; rfl
theorem val_of {n : Int} {ws : List Wa} (h1 : btw 1 n 10 = true) (h2 : ws.length ≤ 40) (h3 : rowsE n ws = 0) : ∃ m : Nat, n = m ∧ Val m ws := by
  have hn := btw_true.1 h1
  obtain ⟨m, rfl⟩ := Int.eq_ofNat_of_zero_le (show 0 ≤ n by omega)
  refine ⟨m, rfl, by omega, h2, fun i hi => ?_⟩
  exact badE_zero.1 (rowsE_zero.1 h3 i hi)
theorem chk_ok {n : Int} {ws : List Wa} (h : chkE n ws = 0) : ∃ m : Nat, n = m ∧ Val m ws ∧ NS ws := by
  unfold chkE at h
  by_cases h1 : btw 1 n 10 = false
  · rw [if_pos h1] at h; omega
  · rw [if_neg h1] at h
    by_cases h2 : 40 < ws.length
    · rw [if_pos h2] at h; omega
    · rw [if_neg h2] at h
      by_cases h3 : rowsE n ws = 0
      · rw [if_neg (by simpa using h3)] at h
        obtain ⟨m, e, hv⟩ := val_of (by simpa using h1) (by omega) h3
        by_cases h4 : NS ws
        · exact ⟨m, e, hv, h4⟩
        · rw [if_neg h4] at h; omega
      · rw [if_pos h3] at h; exact absurd h h3
theorem chk_val {m : Nat} {ws : List Wa} (h : Val m ws) : btw 1 m 10 = true ∧ ws.length ≤ 40 ∧ rowsE m ws = 0 := by
  have := h.n1
  exact ⟨btw_true.2 (by omega), h.len, rowsE_zero.2 fun i hi => badE_zero.2 (h.ok i hi)⟩
open Classical in
theorem chk_of {m : Nat} {ws : List Wa} (h : Val m ws) : chkE m ws = if NS ws then 0 else 16 := by
  obtain ⟨h1, h2, h3⟩ := chk_val h
  unfold chkE
  rw [if_neg (by rw [h1]; simp), if_neg (by omega), if_neg (by simpa using h3)]
set_option maxRecDepth 100000 in
set_option maxHeartbeats 4000000 in
theorem check_any (n : Int) (v : Value) (ws : List Wa) (w : World) (hv : SlA w v ws) :
    Calls Try.prog 22 #[.agg #[.int .i64 n, v]] w fun e w' => e = .returned (.int .i64 (chkE n ws)) ∧ Below w.heap.size w w' := by
  have HV := Lib.hid hv
  obtain ⟨ad, cap, rfl, hm, hcp, hc⟩ := hv
  obtain ⟨R, hR⟩ : ∃ R, R = chkE n ws := ⟨_, rfl⟩
  rw [← hR]
  have HR := Lib.hid hR
  clear hR
  go_enter Try.func22, Try.ntmps22
  refine wp_seq_k (fun K hK => ?_)
  have HK := Lib.hid hK; clear hK
  go_wp2
  refine HK.out _ _ ?_; clear HK K
  generalize hw1 : World.alloc _ _ = w1
  obtain ⟨b1, hB, hs1⟩ := blk1 hw1
  clear hw1
  have c0 := cell_blk (i := 0) b1
  have c1 := cell_blk (i := 1) b1
  simp only [List.getElem?_toArray, List.getElem?_cons_zero, List.getElem?_cons_succ] at c0 c1
  have h58 := fun (a x b : Int) W => between_any a x b W
  obtain ⟨q1, hq1⟩ : ∃ q, q = btw 1 n 10 := ⟨_, rfl⟩
  have h1 := between_any 1 n 10 w1
  rw [← hq1] at h1
  have HQ1 := Lib.hid hq1
  clear hq1
  cases q1
  · have hRv : R = 2 := by rw [HR.out]; unfold chkE; rw [if_pos HQ1.out.symm]
    clear HR
    subst hRv
    go_wp2_with (go_at_call 58; refine h1.mono ?_; rintro e w2 ⟨rfl, hw2⟩; subst hw2)
    go_ret
    exact ⟨rfl, hB⟩
  · have hn := btw_true.1 HQ1.out.symm
    by_cases hl : 40 < ws.length
    · have hRv : R = 1 := by rw [HR.out]; unfold chkE; rw [if_neg (by rw [← HQ1.out]; simp), if_pos hl]
      clear HR
      subst hRv
      have hlb : ((ws.length : Int) > 40) = True := by simp; omega
      go_wp2_with (go_at_call 58; refine h1.mono ?_; rintro e w2 ⟨rfl, hw2⟩; subst hw2)
      go_ret
      exact ⟨rfl, hB⟩
    · have hRv : R = if rowsE n ws ≠ 0 then rowsE n ws else chkE n ws := by
        rw [HR.out]
        by_cases h0 : rowsE n ws = 0
        · rw [if_neg (by simpa using h0)]
        · rw [if_pos h0]; unfold chkE; rw [if_neg (by rw [← HQ1.out]; simp), if_neg hl, if_pos h0]
      have HRV := Lib.hid hRv
      have hlb : ((ws.length : Int) > 40) = False := by simp; omega
      clear hRv
      go_wp2_with (go_at_call 58; refine h1.mono ?_; rintro e w2 ⟨rfl, hw2⟩; subst hw2)
      go_loopw [20] (fun i wr => ∃ k : Nat, i = .int .i64 k ∧ k ≤ ws.length ∧ rowsE n ws = rowsE n (ws.drop k) ∧ wr.heap[w.heap.size]? = some (.cells #[.int .i64 n, .slice ad ws.length cap] 24 (0, 0)) ∧ Below w.heap.size w wr) (fun i _ => ws.length - (intOf i).toNat)
      case atStart => exact ⟨0, rfl, Nat.zero_le _, rfl, b1, hB⟩
      case round =>
        clear b1 hB c0 c1 h1
        obtain ⟨k, rfl, hk, hrow, b1, hB⟩ := hrel
        have HROW := Lib.hid hrow
        clear hrow
        by_cases hkl : k < ws.length
        · obtain ⟨b, off, rfl, hlt, hcell⟩ := hc (by omega)
          obtain ⟨q0, q1, q2, q3, q4⟩ := a_cells hcell (n := k) hkl rfl
          have r0 := (hB.cell (p := ⟨b, off + k * 5, none⟩) hlt).trans q0
          have r1 := (hB.cell (p := ⟨b, off + k * 5 + 1, none⟩) hlt).trans q1
          have r2 := (hB.cell (p := ⟨b, off + k * 5 + 2, none⟩) hlt).trans q2
          have r3 := (hB.cell (p := ⟨b, off + k * 5 + 3, none⟩) hlt).trans q3
          have r4 := (hB.cell (p := ⟨b, off + k * 5 + 4, none⟩) hlt).trans q4
          have hdr := rowsE_drop (n := n) hkl
          have HDR := Lib.hid hdr
          clear hcell hc q0 q1 q2 q3 q4 hdr
          generalize hx : at_ ws k = x at *
          clear hx
          obtain ⟨x0, x1, x2, x3, x4⟩ := x
          simp only at r0 r1 r2 r3 r4
          have e0 := cell_blk (i := 0) b1
          simp only [List.getElem?_toArray, List.getElem?_cons_zero] at e0
          have z1 := lt_blk b1
          have hbE : badE n ⟨x0, x1, x2, x3, x4⟩ = if (!btw 0 x0 (n - 1) || !btw 0 x1 (n - 1)) = true then 5 else if (!goodW x2 x3 x4) = true then 2 else 0 := rfl
          have h1 := fun W => between_any 0 x0 (n - 1) W
          have h2 := fun W => between_any 0 x1 (n - 1) W
          have h3 := fun W => wgood_any x0 x1 x2 x3 x4 W
          obtain ⟨p1, hp1⟩ : ∃ q, q = btw 0 x0 (n - 1) := ⟨_, rfl⟩
          obtain ⟨p2, hp2⟩ : ∃ q, q = btw 0 x1 (n - 1) := ⟨_, rfl⟩
          obtain ⟨p3, hp3⟩ : ∃ q, q = goodW x2 x3 x4 := ⟨_, rfl⟩
          rw [← hp1] at h1 hbE
          rw [← hp2] at h2 hbE
          rw [← hp3] at h3 hbE
          have H1 := Lib.hid h1
          have H2 := Lib.hid h2
          have H3 := Lib.hid h3
          clear hp1 hp2 hp3 h1 h2 h3
          have hE : Below wr.heap.size wr (wr.alloc (Obj.cells #[Value.int IntKind.i64 x0, Value.int IntKind.i64 x1, Value.int IntKind.i64 x2, Value.int IntKind.i64 x3, Value.int IntKind.i64 x4] 82)) := (Below.refl _ _).alloc (Nat.le_refl _) _
          have hB2 := btr hB hE (Nat.le_refl _)
          have hRR : badE n ⟨x0, x1, x2, x3, x4⟩ ≠ 0 → R = badE n ⟨x0, x1, x2, x3, x4⟩ := fun h => by
            have h5 : rowsE n ws = badE n ⟨x0, x1, x2, x3, x4⟩ := by rw [HROW.out, HDR.out, if_neg h]
            rw [HRV.out, h5, if_pos h]
          have hRZ : badE n ⟨x0, x1, x2, x3, x4⟩ = 0 → rowsE n ws = rowsE n (ws.drop (k + 1)) := fun h => by rw [HROW.out, HDR.out, if_pos h]
          have HRR := Lib.hid hRR
          have HRZ := Lib.hid hRZ
          have HBE := Lib.hid hbE
          clear hRR hRZ hbE
          cases p1
          · have hRv : R = 5 := by rw [HRR.out (by rw [HBE.out]; simp), HBE.out]; simp
            clear HRR HRZ HBE HRV HR HROW HDR
            subst hRv
            go_wp2_with (go_at_call 58; refine (H1.out _).mono ?_; rintro e w2 ⟨rfl, hw2⟩; subst hw2)
            go_ret
            exact ⟨rfl, hB2⟩
          · cases p2
            · have hRv : R = 5 := by rw [HRR.out (by rw [HBE.out]; simp), HBE.out]; simp
              clear HRR HRZ HBE HRV HR HROW HDR
              subst hRv
              go_wp2_with (first | (go_at_call 58; have := hc1; refine (H2.out _).mono ?_; rintro e w2 ⟨rfl, hw2⟩; subst hw2) | (go_at_call 58; refine (H1.out _).mono ?_; rintro e w2 ⟨rfl, hw2⟩; subst hw2; have hc1 : True := trivial))
              go_ret
              exact ⟨rfl, hB2⟩
            · cases p3
              · have hRv : R = 2 := by rw [HRR.out (by rw [HBE.out]; simp), HBE.out]; simp
                clear HRR HRZ HBE HRV HR HROW HDR
                subst hRv
                go_wp2_with (first | (go_at_call 58; have := hc1; refine (H2.out _).mono ?_; rintro e w2 ⟨rfl, hw2⟩; subst hw2) | (go_at_call 58; refine (H1.out _).mono ?_; rintro e w2 ⟨rfl, hw2⟩; subst hw2; have hc1 : True := trivial) | (go_at_call 59; refine (H3.out _).mono ?_; rintro e w2 ⟨rfl, hb2⟩))
                go_ret
                exact ⟨rfl, btr hB2 hb2 (Nat.le_refl _)⟩
              · have hz := Lib.hid (HRZ.out (by rw [HBE.out]; simp))
                clear HRR HRZ HBE HROW HDR
                go_wp2_with (first | (go_at_call 58; have := hc1; refine (H2.out _).mono ?_; rintro e w2 ⟨rfl, hw2⟩; subst hw2) | (go_at_call 58; refine (H1.out _).mono ?_; rintro e w2 ⟨rfl, hw2⟩; subst hw2; have hc1 : True := trivial) | (go_at_call 59; refine (H3.out _).mono ?_; rintro e w2 ⟨rfl, hb2⟩))
                go_roundw
                case rel => exact ⟨k + 1, by go_num, by omega, hz.out, blk_keep (blk_keep b1 hE) hb2, btr hB2 hb2 (Nat.le_refl _)⟩
                case measure => simp [intOf]; omega
        · have hke : k = ws.length := by omega
          have hr0 : rowsE n ws = 0 := by rw [HROW.out, hke, List.drop_length]; rfl
          have hRc : R = chkE n ws := by rw [HRV.out, if_neg (by simpa using hr0)]
          clear HROW HRV
          obtain ⟨m, hnm, hV⟩ := val_of HQ1.out.symm (by omega) hr0
          subst hnm
          have hcv := chk_of hV
          rw [hcv] at hRc
          have h60 := order_any m _ ws wr hV (HV.out.below hB (Nat.le_refl _))
          have HRC := Lib.hid hRc
          have HH := Lib.hid h60
          clear hRc hcv h60 HR hV hke hr0 HQ1 h58 hc
          have e0 := cell_blk (i := 0) b1
          have z1 := lt_blk b1
          by_cases hns : NS ws
          · have hRv : R = 0 := by rw [HRC.out, if_pos hns]
            have HNS := Lib.hid hns
            clear HRC hns
            subst hRv
            go_wp2_with (first | (refine wpList_load_blk rfl 24 _ rfl _ rfl b1 Try.underlying24 rfl size24 rfl ?_) | (go_at_call 60; refine HH.out.mono ?_; rintro e w2 ⟨⟨u, l, bb, rfl, -, -, hbb⟩, hb2⟩; obtain rfl : bb = true := hbb.2 HNS.out; clear hbb))
            go_ret
            exact ⟨rfl, btr hB hb2 (Nat.le_refl _)⟩
          · have hRv : R = 16 := by rw [HRC.out, if_neg hns]
            have HNS := Lib.hid hns
            clear HRC hns
            subst hRv
            go_wp2_with (first | (refine wpList_load_blk rfl 24 _ rfl _ rfl b1 Try.underlying24 rfl size24 rfl ?_) | (go_at_call 60; refine HH.out.mono ?_; rintro e w2 ⟨⟨u, l, bb, rfl, -, -, hbb⟩, hb2⟩; obtain rfl : bb = false := (by cases bb; rfl; exact absurd (hbb.1 rfl) HNS.out); clear hbb))
            go_ret
            exact ⟨rfl, btr hB hb2 (Nat.le_refl _)⟩
end Yteileadcmekkoaa
end Go.Proofs
