/- Check: whether a yard is valid. -/
import Derived.Test.YtndmjginmomfiaaW8
open Go Go.RowKit Go.YtndmjginmomfiaaIt
namespace Go.Proofs
namespace Ytndmjginmomfiaa
def wE (n : Nat) (x : Wt) : Int := if (!btw 0 x.comes 1000 || (decide (x.lo < 0) || !btw x.lo x.hi 60)) = true then 2 else if btw 1 x.next (2 ^ n - 1) = true then 0 else 5
def wsE (n : Nat) : List Wt → Int
  | [] => 0
  | x :: xs => if wE n x = 0 then wsE n xs else wE n x
def chkE (y : Yd) : Int := if (!btw 0 y.room 60 || (!btw 0 y.most 40 || !btw 1 y.lots 40)) = true then 2 else if y.ws.length = 0 then 4 else if 4 < y.ws.length then 1 else wsE y.ws.length y.ws
theorem wE_zero {n : Nat} {x : Wt} : wE n x = 0 ↔ 0 ≤ x.comes ∧ x.comes ≤ 1000 ∧ 0 ≤ x.lo ∧ x.lo ≤ x.hi ∧ x.hi ≤ 60 ∧ 1 ≤ x.next ∧ x.next ≤ 2 ^ n - 1 := by
  unfold wE btw
  split
  · rename_i h
    simp at h
    constructor
    · intro h; cases h
    · omega
  · rename_i h
    simp at h
    split
    · rename_i h2
      simp at h2
      simp; omega
    · rename_i h2
      simp at h2
      constructor
      · intro h; cases h
      · omega
theorem wsE_zero {n : Nat} : ∀ {xs : List Wt}, wsE n xs = 0 ↔ ∀ x ∈ xs, wE n x = 0
  | [] => by simp [wsE]
  | x :: xs => by
    unfold wsE
    by_cases h : wE n x = 0
    · rw [if_pos h, wsE_zero]; simp [h]
    · rw [if_neg h]; simp [h]
theorem chk_ok {y : Yd} : chkE y = 0 ↔ Ok y := by
  unfold chkE
  by_cases h : (!btw 0 y.room 60 || (!btw 0 y.most 40 || !btw 1 y.lots 40)) = true
  · rw [if_pos h]
    constructor
    · intro h; cases h
    · intro ok
      have := ok.room0; have := ok.room1; have := ok.most0; have := ok.most1; have := ok.lots0; have := ok.lots1
      simp [btw] at h; omega
  · rw [if_neg h]
    simp [btw] at h
    by_cases h0 : y.ws.length = 0
    · rw [if_pos h0]
      constructor
      · intro h; cases h
      · intro ok; have := ok.n0; omega
    · rw [if_neg h0]
      by_cases h4 : 4 < y.ws.length
      · rw [if_pos h4]
        constructor
        · intro h; cases h
        · intro ok; have := ok.n1; omega
      · rw [if_neg h4, wsE_zero]
        constructor
        · intro hx
          refine ⟨by omega, by omega, by omega, by omega, by omega, by omega, by omega, by omega, fun m hm => ?_⟩
          rw [at_lt hm]
          exact wE_zero.1 (hx _ (List.getElem_mem hm))
        · intro ok x hx
          obtain ⟨m, hm, rfl⟩ := List.getElem_of_mem hx
          have := ok.each m hm
          rw [at_lt hm] at this
          exact wE_zero.2 this
theorem shl_val {n : Nat} (h : n ≤ 4) : wrap64 (wrap64 (2 ^ n) - 1) = 2 ^ n - 1 := by
  have h1 : 2 ^ n ≤ 2 ^ 4 := Nat.pow_le_pow_right (by omega) h
  have h0 : 0 < 2 ^ n := Nat.two_pow_pos n
  have e : ((2 : Int) ^ n) = ((2 ^ n : Nat) : Int) := by push_cast; rfl
  rw [e]
  generalize 2 ^ n = z at *
  unfold wrap64
  omega
set_option maxRecDepth 100000 in
set_option maxHeartbeats 2000000 in
theorem check_any (y : Yd) (v : Value) (w : World) (hw : SlW w v y.ws) :
    Calls Try.prog 21 #[.agg (encY y v)] w fun e w' => e = .returned (.int .i64 (chkE y)) ∧ Below w.heap.size w w' := by
  obtain ⟨ad, cap, rfl, hm, hcp, hc⟩ := hw
  have HC := Lib.hid hc
  clear hc
  have hce : chkE y = if (!btw 0 y.room 60 || (!btw 0 y.most 40 || !btw 1 y.lots 40)) = true then 2 else if y.ws.length = 0 then 4 else if 4 < y.ws.length then 1 else wsE y.ws.length y.ws := rfl
  obtain ⟨R, hR⟩ : ∃ R, R = chkE y := ⟨_, rfl⟩
  rw [← hR] at hce ⊢
  have HCE := Lib.hid hce
  clear hce hR
  go_enter Try.func21, Try.ntmps21
  refine wp_seq_k (fun K hK => ?_)
  have HK := Lib.hid hK; clear hK
  go_wp2
  refine HK.out _ _ ?_; clear HK K
  generalize hw1 : World.alloc _ _ = w1
  obtain ⟨b1, hB, hs1⟩ := blk1 hw1
  clear hw1
  have c0 := cell_blk (i := 0) b1
  have c1 := cell_blk (i := 1) b1
  have c2 := cell_blk (i := 2) b1
  have c3 := cell_blk (i := 3) b1
  simp only [encY, List.getElem?_toArray, List.getElem?_cons_zero, List.getElem?_cons_succ] at c0 c1 c2 c3
  cases e1 : btw 0 y.room 60
  · have HR := Lib.hid (show R = 2 by rw [HCE.out]; simp [e1])
    go_wp2_with (go_at_call 45; (with_reducible refine (between_any _ _ _ _).mono ?_); rintro e w' ⟨rfl, rfl⟩)
    go_ret
    exact ⟨by rw [HR.out]; rfl, hB⟩
  cases e2 : btw 0 y.most 40
  · have HR := Lib.hid (show R = 2 by rw [HCE.out]; simp [e2])
    go_wp2_with (go_at_call 45; (with_reducible refine (between_any _ _ _ _).mono ?_); rintro e w' ⟨rfl, rfl⟩)
    go_ret
    exact ⟨by rw [HR.out]; rfl, hB⟩
  cases e3 : btw 1 y.lots 40
  · have HR := Lib.hid (show R = 2 by rw [HCE.out]; simp [e3])
    go_wp2_with (go_at_call 45; (with_reducible refine (between_any _ _ _ _).mono ?_); rintro e w' ⟨rfl, rfl⟩)
    go_ret
    exact ⟨by rw [HR.out]; rfl, hB⟩
  have HCF := HCE.out
  simp only [e1, e2, e3, Bool.not_true, Bool.or_self, Bool.false_eq_true, if_false] at HCF
  by_cases h0 : y.ws.length = 0
  · have HR := Lib.hid (show R = 4 by rw [HCF, if_pos h0])
    have he0 : ((y.ws.length : Int) == 0) = true := by simp [h0]
    clear HCF HCE
    go_wp2_with (go_at_call 45; (with_reducible refine (between_any _ _ _ _).mono ?_); rintro e w' ⟨rfl, rfl⟩)
    go_ret
    exact ⟨by rw [HR.out]; rfl, hB⟩
  rw [if_neg h0] at HCF
  have he0 : ((y.ws.length : Int) == 0) = false := by simp [h0]
  by_cases h4 : 4 < y.ws.length
  · have HR := Lib.hid (show R = 1 by rw [HCF, if_pos h4])
    have h4i : (4 : Int) < (y.ws.length : Int) := by omega
    clear HCF HCE h0
    go_wp2_with (go_at_call 45; (with_reducible refine (between_any _ _ _ _).mono ?_); rintro e w' ⟨rfl, rfl⟩)
    go_ret
    exact ⟨by rw [HR.out]; rfl, hB⟩
  rw [if_neg h4] at HCF
  have HR := Lib.hid HCF
  have h4i : ¬ (4 : Int) < (y.ws.length : Int) := by omega
  clear HCF HCE h0
  go_wp2_with (go_at_call 45; (with_reducible refine (between_any _ _ _ _).mono ?_); rintro e w' ⟨rfl, rfl⟩)
  have hl4 : y.ws.length ≤ 4 := by omega
  have hsv := shl_val hl4
  have HSV := Lib.hid hsv
  clear hsv c0 c1 c2 e1 e2 e3
  go_loopw [35] (fun i wr => ∃ k : Nat, k ≤ y.ws.length ∧ i = .int .i64 k ∧ R = wsE y.ws.length (y.ws.drop k) ∧ Below w.heap.size w wr ∧ wr.heap[w.heap.size]? = some (.cells (encY y (.slice ad y.ws.length cap)) 24 (0, 0))) (fun i _ => y.ws.length - (intOf i).toNat)
  case atStart => exact ⟨0, Nat.zero_le _, rfl, by rw [List.drop_zero]; exact HR.out, hB, b1⟩
  case round =>
    obtain ⟨k, hk, rfl, hRk, hb, b1⟩ := hrel
    by_cases hkn : k < y.ws.length
    · obtain ⟨b, off, rfl, hlt, hcell⟩ := HC.out (by omega)
      obtain ⟨q0, q1, q2, q3⟩ := wt_cells hcell (n := k) hkn rfl
      replace q0 := (hb.cell (p := ⟨b, off + k * 4, none⟩) hlt).trans q0
      replace q1 := (hb.cell (p := ⟨b, off + k * 4 + 1, none⟩) hlt).trans q1
      replace q2 := (hb.cell (p := ⟨b, off + k * 4 + 2, none⟩) hlt).trans q2
      replace q3 := (hb.cell (p := ⟨b, off + k * 4 + 3, none⟩) hlt).trans q3
      rw [List.drop_eq_getElem_cons hkn] at hRk
      unfold wsE wE at hRk
      generalize y.ws[k].comes = p0 at *
      generalize y.ws[k].lo = p1 at *
      generalize y.ws[k].hi = p2 at *
      generalize y.ws[k].next = p3 at *
      have c3 := cell_blk (i := 3) b1
      simp only [encY, List.getElem?_toArray, List.getElem?_cons_zero, List.getElem?_cons_succ] at c3
      have hlb := lt_blk b1
      have HRK := Lib.hid hRk
      have hE : Below wr.heap.size wr (wr.alloc (.cells #[.int .i64 p0, .int .i64 p1, .int .i64 p2, .int .i64 p3] 58)) := (Below.refl _ _).alloc (Nat.le_refl _) _
      have HX := Lib.hid (And.intro hb (And.intro b1 hE))
      clear hRk hcell hB hb b1 hE HR
      cases e1 : btw 0 p0 1000
      · have HR := Lib.hid (show R = 2 by rw [HRK.out]; simp [e1])
        clear HRK
        go_wp2_with (go_at_call 45; (with_reducible refine (between_any _ _ _ _).mono ?_); rintro e w' ⟨rfl, rfl⟩)
        go_ret
        exact ⟨by rw [HR.out]; rfl, HX.out.1.trans (HX.out.2.2.mono HX.out.1.size)⟩
      by_cases hlo : p1 < 0
      · have HR := Lib.hid (show R = 2 by rw [HRK.out]; simp [e1, hlo])
        clear HRK
        go_wp2_with (go_at_call 45; (with_reducible refine (between_any _ _ _ _).mono ?_); rintro e w' ⟨rfl, rfl⟩)
        go_ret
        exact ⟨by rw [HR.out]; rfl, HX.out.1.trans (HX.out.2.2.mono HX.out.1.size)⟩
      cases e2 : btw p1 p2 60
      · have HR := Lib.hid (show R = 2 by rw [HRK.out]; simp [e1, hlo, e2])
        clear HRK
        go_wp2_with (go_at_call 45; (with_reducible refine (between_any _ _ _ _).mono ?_); rintro e w' ⟨rfl, rfl⟩)
        go_ret
        exact ⟨by rw [HR.out]; rfl, HX.out.1.trans (HX.out.2.2.mono HX.out.1.size)⟩
      have hsv : wrap64 (wrap64 (2 ^ y.ws.length) - 1) = 2 ^ y.ws.length - 1 := HSV.out
      cases e3 : btw 1 p3 (2 ^ y.ws.length - 1)
      · have HR := Lib.hid (show R = 5 by rw [HRK.out]; simp [e1, hlo, e2, e3])
        clear HRK
        go_wp2_with (go_at_call 45; (with_reducible refine (between_any _ _ _ _).mono ?_); rintro e w' ⟨rfl, rfl⟩)
        go_quiet ((go_at_call 45; exact calls_quiet_same (between_any _ _ _ _)))
        go_wp2
        go_ret
        exact ⟨by rw [HR.out]; rfl, below_drewN (HX.out.1.trans (HX.out.2.2.mono HX.out.1.size)) _⟩
      · have HR := Lib.hid (show R = wsE y.ws.length (y.ws.drop (k + 1)) by rw [HRK.out]; simp [e1, hlo, e2, e3])
        clear HRK
        go_wp2_with (go_at_call 45; (with_reducible refine (between_any _ _ _ _).mono ?_); rintro e w' ⟨rfl, rfl⟩)
        go_quiet ((go_at_call 45; exact calls_quiet_same (between_any _ _ _ _)))
        go_wp2
        go_roundw
        case rel => exact ⟨k + 1, by omega, by go_num, HR.out, below_drewN (HX.out.1.trans (HX.out.2.2.mono HX.out.1.size)) _, blk_keep HX.out.2.1 (below_drewN HX.out.2.2 _)⟩
        case measure => simp [intOf]; omega
    · have hR0 : R = 0 := by rw [hRk, List.drop_eq_nil_of_le (by omega)]; rfl
      have HR0 := Lib.hid hR0
      clear hRk hR0 HR
      go_wp2
      go_ret
      exact ⟨by rw [HR0.out]; rfl, hb⟩
end Ytndmjginmomfiaa
end Go.Proofs
