/- The reference: is, in, Check. -/
import Derived.Test.YtndmjginmomfiaaWorks
open Go Go.RowKit Go.YtndmjginmomfiaaIt
namespace Go.Proofs
namespace Ytndmjginmomfiaa
theorem is_any (n lo hi : Int) (w : World) :
    Calls Try.prog 46 #[.int .i64 n, .int .i64 lo, .int .i64 hi] w fun e w' => e = .returned (.bool (btw lo n hi)) ∧ w = w' := by
  unfold btw
  by_cases h1 : lo ≤ n <;> by_cases h2 : n ≤ hi
  all_goals
    go_enter Try.func46, Try.ntmps46
    go_wp2
    go_ret
    simp [h1, h2]
def inB (lo hi mx : Int) : Bool := decide (0 ≤ lo ∧ lo ≤ hi ∧ hi ≤ mx)
set_option maxRecDepth 100000 in
theorem in_any (lo hi mx : Int) (w : World) :
    Calls Try.prog 47 #[.agg #[.int .i64 lo, .int .i64 hi], .int .i64 mx] w fun e w' => e = .returned (.bool (inB lo hi mx)) ∧ Below w.heap.size w w' := by
  have hb : Below w.heap.size w (w.alloc (.cells #[.int .i64 lo, .int .i64 hi] 56)) := (Below.refl _ _).alloc (Nat.le_refl _) _
  unfold inB
  by_cases h1 : 0 ≤ lo <;> by_cases h2 : lo ≤ hi <;> by_cases h3 : hi ≤ mx
  all_goals
    go_enter Try.func47, Try.ntmps47
    go_wp2
    go_ret
    refine ⟨?_, hb⟩
    simp [h1, h2, h3]
theorem wE_ref (n : Nat) (x : Wt) : wE n x = if (!btw 0 x.comes 1000 || !inB x.lo x.hi 60) = true then 2 else if btw 1 x.next (2 ^ n - 1) = true then 0 else 5 := by
  unfold wE
  have e : (decide (x.lo < 0) || !btw x.lo x.hi 60) = !inB x.lo x.hi 60 := by
    unfold btw inB
    rw [Bool.eq_iff_iff]
    simp
  rw [e]
theorem size31 : (Try.prog.info? 31).map (·.size) = some 4 := by kernel_rfl
theorem size86 : (Try.prog.info? 86).map (·.size) = some 4 := by kernel_rfl
set_option maxRecDepth 100000 in
set_option maxHeartbeats 2000000 in
theorem rcheck_any (y : Yd) (v : Value) (w : World) (hw : SlW w v y.ws) :
    Calls Try.prog 22 #[.agg (encY y v)] w fun e w' => e = .returned (.int .i64 (chkE y)) ∧ Below w.heap.size w w' := by
  obtain ⟨ad, cap, rfl, hm, hcp, hc⟩ := hw
  have HC := Lib.hid hc
  clear hc
  have hce : chkE y = if (!btw 0 y.room 60 || (!btw 0 y.most 40 || !btw 1 y.lots 40)) = true then 2 else if y.ws.length = 0 then 4 else if 4 < y.ws.length then 1 else wsE y.ws.length y.ws := rfl
  obtain ⟨R, hR⟩ : ∃ R, R = chkE y := ⟨_, rfl⟩
  rw [← hR] at hce ⊢
  have HCE := Lib.hid hce
  clear hce hR
  go_enter Try.func22, Try.ntmps22
  refine wp_seq_k (fun K hK => ?_)
  have HK := Lib.hid hK; clear hK
  go_wp2
  refine HK.out _ _ ?_; clear HK K
  generalize hw1 : World.alloc _ _ = w1
  obtain ⟨b1, hB, hs1⟩ := blk1 hw1
  clear hw1
  have c0 := cell_blk (i := 0) b1
  have c1 := cell_blk (i := 1) b1
  have c2 := cell_blk (i := 2) b1
  have c3 := cell_blk (i := 3) b1
  simp only [encY, List.getElem?_toArray, List.getElem?_cons_zero, List.getElem?_cons_succ] at c0 c1 c2 c3
  cases e1 : btw 0 y.room 60
  · have HR := Lib.hid (show R = 2 by rw [HCE.out]; simp [e1])
    go_wp2_with (go_at_call 46; (with_reducible refine (is_any _ _ _ _).mono ?_); rintro e w' ⟨rfl, rfl⟩)
    go_ret
    exact ⟨by rw [HR.out]; rfl, hB⟩
  cases e2 : btw 0 y.most 40
  · have HR := Lib.hid (show R = 2 by rw [HCE.out]; simp [e2])
    go_wp2_with (go_at_call 46; (with_reducible refine (is_any _ _ _ _).mono ?_); rintro e w' ⟨rfl, rfl⟩)
    go_ret
    exact ⟨by rw [HR.out]; rfl, hB⟩
  cases e3 : btw 1 y.lots 40
  · have HR := Lib.hid (show R = 2 by rw [HCE.out]; simp [e3])
    go_wp2_with (go_at_call 46; (with_reducible refine (is_any _ _ _ _).mono ?_); rintro e w' ⟨rfl, rfl⟩)
    go_ret
    exact ⟨by rw [HR.out]; rfl, hB⟩
  have HCF := HCE.out
  simp only [e1, e2, e3, Bool.not_true, Bool.or_self, Bool.false_eq_true, if_false] at HCF
  by_cases h0 : y.ws.length = 0
  · have HR := Lib.hid (show R = 4 by rw [HCF, if_pos h0])
    have he0 : ((y.ws.length : Int) == 0) = true := by simp [h0]
    clear HCF HCE
    go_wp2_with (go_at_call 46; (with_reducible refine (is_any _ _ _ _).mono ?_); rintro e w' ⟨rfl, rfl⟩)
    go_ret
    exact ⟨by rw [HR.out]; rfl, hB⟩
  rw [if_neg h0] at HCF
  have he0 : ((y.ws.length : Int) == 0) = false := by simp [h0]
  by_cases h4 : 4 < y.ws.length
  · have HR := Lib.hid (show R = 1 by rw [HCF, if_pos h4])
    have h4i : (4 : Int) < (y.ws.length : Int) := by omega
    clear HCF HCE h0
    go_wp2_with (go_at_call 46; (with_reducible refine (is_any _ _ _ _).mono ?_); rintro e w' ⟨rfl, rfl⟩)
    go_ret
    exact ⟨by rw [HR.out]; rfl, hB⟩
  rw [if_neg h4] at HCF
  have HR := Lib.hid HCF
  have h4i : ¬ (4 : Int) < (y.ws.length : Int) := by omega
  clear HCF HCE h0
  go_wp2_with (go_at_call 46; (with_reducible refine (is_any _ _ _ _).mono ?_); rintro e w' ⟨rfl, rfl⟩)
  have hl4 : y.ws.length ≤ 4 := by omega
  have hsv := shl_val hl4
  have HSV := Lib.hid hsv
  clear hsv c0 c1 c2 e1 e2 e3
  go_loopw [3] (fun i wr => ∃ k : Nat, k ≤ y.ws.length ∧ i = .int .i64 k ∧ R = wsE y.ws.length (y.ws.drop k) ∧ Below w.heap.size w wr ∧ wr.heap[w.heap.size]? = some (.cells (encY y (.slice ad y.ws.length cap)) 31 (0, 0))) (fun i _ => y.ws.length - (intOf i).toNat)
  case atStart => exact ⟨0, Nat.zero_le _, rfl, by rw [List.drop_zero]; exact HR.out, hB, b1⟩
  case round =>
    obtain ⟨k, hk, rfl, hRk, hb, b1⟩ := hrel
    have c3 := cell_blk (i := 3) b1
    simp only [encY, List.getElem?_toArray, List.getElem?_cons_zero, List.getElem?_cons_succ] at c3
    by_cases hkn : k < y.ws.length
    · obtain ⟨b, off, rfl, hlt, hcell⟩ := HC.out (by omega)
      obtain ⟨q0, q1, q2, q3⟩ := wt_cells hcell (n := k) hkn rfl
      replace q0 := (hb.cell (p := ⟨b, off + k * 4, none⟩) hlt).trans q0
      replace q1 := (hb.cell (p := ⟨b, off + k * 4 + 1, none⟩) hlt).trans q1
      replace q2 := (hb.cell (p := ⟨b, off + k * 4 + 2, none⟩) hlt).trans q2
      replace q3 := (hb.cell (p := ⟨b, off + k * 4 + 3, none⟩) hlt).trans q3
      rw [List.drop_eq_getElem_cons hkn] at hRk
      unfold wsE at hRk
      rw [wE_ref] at hRk
      generalize y.ws[k].comes = p0 at *
      generalize y.ws[k].lo = p1 at *
      generalize y.ws[k].hi = p2 at *
      generalize y.ws[k].next = p3 at *
      have hlb := lt_blk b1
      have HRK := Lib.hid hRk
      refine wp_seq_k (fun K hK => ?_)
      have HK1 := Lib.hid hK; clear hK
      go_wp2
      refine HK1.out _ _ ?_; clear HK1
      refine wp_seq_k (fun K hK => ?_)
      have HK1 := Lib.hid hK; clear hK
      refine wp_block ?_
      refine wp_seq_k (fun K2 hK2 => ?_)
      have HK2 := Lib.hid hK2; clear hK2
      go_wp2
      refine HK2.out _ _ ?_; clear HK2
      generalize hw4 : World.alloc _ _ = w4
      obtain ⟨bX, hE, hs4⟩ := blk1 hw4
      have b1' := blk_keep b1 hE
      have hb' := hb.trans (hE.mono hb.size)
      clear hE hw4 hRk hcell hB hb b1 HR q0 q1 q2 q3 c3 hlb
      have c3 := cell_blk (i := 3) b1'
      have x0 := cell_blk (i := 0) bX
      have x1 := cell_blk (i := 1) bX
      have x2 := cell_blk (i := 2) bX
      have x3 := cell_blk (i := 3) bX
      simp only [encY, List.getElem?_toArray, List.getElem?_cons_zero, List.getElem?_cons_succ] at c3 x0 x1 x2 x3
      have hl1 := lt_blk b1'
      have hlx := lt_blk bX
      have HX := Lib.hid (And.intro hb' b1')
      have hin := in_any p1 p2 60 w4
      have hsv : wrap64 (wrap64 (2 ^ y.ws.length) - 1) = 2 ^ y.ws.length - 1 := HSV.out
      clear b1' bX hb'
      cases e1 : btw 0 p0 1000
      · have HR := Lib.hid (show R = 2 by rw [HRK.out]; simp [e1])
        clear HRK
        go_wp2_with (go_at_call 46; (with_reducible refine (is_any _ _ _ _).mono ?_); rintro e w' ⟨rfl, rfl⟩)
        go_ret
        exact ⟨by rw [HR.out]; rfl, HX.out.1⟩
      cases e2 : inB p1 p2 60
      · rw [e2] at hin
        have HR := Lib.hid (show R = 2 by rw [HRK.out]; simp [e1, e2])
        clear HRK
        go_wp2_with (first | (go_at_call 46; (with_reducible refine (is_any _ _ _ _).mono ?_); rintro e w' ⟨rfl, rfl⟩) | (go_at_call 47; refine hin.mono ?_; rintro e w5 ⟨rfl, hb5⟩))
        go_ret
        exact ⟨by rw [HR.out]; rfl, HX.out.1.trans (hb5.mono HX.out.1.size)⟩
      rw [e2] at hin
      cases e3 : btw 1 p3 (2 ^ y.ws.length - 1)
      · have HR := Lib.hid (show R = 5 by rw [HRK.out]; simp [e1, e2, e3])
        clear HRK
        go_wp2_with (first | (go_at_call 46; (with_reducible refine (is_any _ _ _ _).mono ?_); rintro e w' ⟨rfl, rfl⟩) | (go_at_call 47; refine hin.mono ?_; rintro e w5 ⟨rfl, hb5⟩; replace c3 := (hb5.cell (p := ⟨w.heap.size, 3, none⟩) hl1).trans c3; replace x3 := (hb5.cell (p := ⟨wr.heap.size, 3, none⟩) hlx).trans x3))
        go_quiet ((go_at_call 46; exact calls_quiet_same (is_any _ _ _ _)))
        go_wp2
        go_ret
        exact ⟨by rw [HR.out]; rfl, below_drewN (HX.out.1.trans (hb5.mono HX.out.1.size)) _⟩
      · have HR := Lib.hid (show R = wsE y.ws.length (y.ws.drop (k + 1)) by rw [HRK.out]; simp [e1, e2, e3])
        clear HRK
        go_wp2_with (first | (go_at_call 46; (with_reducible refine (is_any _ _ _ _).mono ?_); rintro e w' ⟨rfl, rfl⟩) | (go_at_call 47; refine hin.mono ?_; rintro e w5 ⟨rfl, hb5⟩; replace c3 := (hb5.cell (p := ⟨w.heap.size, 3, none⟩) hl1).trans c3; replace x3 := (hb5.cell (p := ⟨wr.heap.size, 3, none⟩) hlx).trans x3))
        go_quiet ((go_at_call 46; exact calls_quiet_same (is_any _ _ _ _)))
        go_wp2
        refine HK1.out _ _ ?_; clear HK1
        go_wp2
        go_roundw
        case rel => exact ⟨k + 1, by omega, by go_num, HR.out, below_drewN (HX.out.1.trans (hb5.mono HX.out.1.size)) _, blk_keep (blk_keep HX.out.2 hb5) (below_drewN (Below.refl _ _) _)⟩
        case measure => simp [intOf]; omega
    · have hR0 : R = 0 := by rw [hRk, List.drop_eq_nil_of_le (by omega)]; rfl
      have HR0 := Lib.hid hR0
      clear hRk hR0 HR
      go_wp2
      go_ret
      exact ⟨by rw [HR0.out]; rfl, hb⟩
end Ytndmjginmomfiaa
end Go.Proofs
