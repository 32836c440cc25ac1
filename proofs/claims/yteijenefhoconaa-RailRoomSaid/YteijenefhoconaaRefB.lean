/- The reference: numbers within bounds, trains in a section, the section that a train moves to. -/
import Derived.Test.YteijenefhoconaaSmall
open Go Go.RowKit Go.YteijenefhoconaaIt
namespace Go.Proofs
namespace Yteijenefhoconaa
theorem is80_any (lo n hi : Int) (w : World) :
    Calls Try.prog 80 #[.int .i64 n, .int .i64 lo, .int .i64 hi] w fun e w' => e = .returned (.bool (btw lo n hi)) ∧ w = w' := by
  unfold btw
  by_cases h1 : lo ≤ n <;> by_cases h2 : n ≤ hi
  all_goals
    go_enter Try.func80, Try.ntmps80
    go_wp2
    go_ret
    simp [h1, h2]
theorem is_any (lo n hi : Int) (w : World) :
    Calls Try.prog 61 #[.int .i64 n, .int .i64 lo, .int .i64 hi] w fun e w' => e = .returned (.bool (btw lo n hi)) ∧ w = w' := by
  have h := is80_any lo n hi w
  obtain ⟨b, hb⟩ : ∃ b, b = btw lo n hi := ⟨_, rfl⟩
  rw [← hb] at h ⊢
  clear hb
  go_enter Try.func61, Try.ntmps61
  go_wp2_with (go_at_call 80; refine h.mono ?_; rintro e w' ⟨rfl, rfl⟩)
  go_ret
  exact ⟨rfl, rfl⟩
/-- Train i of a list is on the way, in section s. -/
def isIn (ts : List Tn) (s : Int) (i : Nat) : Bool := tAt ts i == s && tAt ts i != tTo ts i
def inT (ts : List Tn) (s : Int) : Nat := ((List.range ts.length).filter (isIn ts s)).length
def inN (ts : List Tn) (s : Int) (k : Nat) : Nat := ((List.range k).filter (isIn ts s)).length
theorem inN_succ (ts : List Tn) (s : Int) (k : Nat) : inN ts s (k + 1) = inN ts s k + if isIn ts s k then 1 else 0 := by
  unfold inN; rw [List.range_succ, List.filter_append, List.length_append]; congr 1
  by_cases h : isIn ts s k = true <;> simp [h]
theorem inN_le (ts : List Tn) (s : Int) (k : Nat) : inN ts s k ≤ k := by
  unfold inN; exact Nat.le_trans (List.length_filter_le _ _) (by simp)
set_option maxRecDepth 100000 in
set_option maxHeartbeats 1000000 in
theorem in_any (vt : Value) (ts : List Tn) (s : Int) (w : World) (ht : SlT w vt ts) :
    Calls Try.prog 63 #[vt, .int .i64 s] w fun e w' => e = .returned (.int .i64 (inT ts s)) ∧ Below w.heap.size w w' := by
  obtain ⟨ad, cap, rfl, hm, hc⟩ := ht
  obtain ⟨n, hn⟩ : ∃ n, n = ts.length := ⟨_, rfl⟩
  rw [← hn] at hm hc ⊢
  have HN := Lib.hid hn
  clear hn
  go_enter Try.func63, Try.ntmps63
  go_wp2
  go_loopw [5, 6] (fun c i wr => ∃ k : Nat, k ≤ n ∧ i = .int .i64 k ∧ c = .int .i64 (inN ts s k) ∧ Below w.heap.size w wr) (fun _ i _ => n - (intOf i).toNat)
  case atStart => exact ⟨0, Nat.zero_le _, rfl, rfl, Below.refl _ _⟩
  case round =>
    obtain ⟨k, hk, rfl, rfl, hb⟩ := hrel
    have hle := inN_le ts s k
    have hsu := inN_succ ts s k
    by_cases hkn : k < n
    · obtain ⟨b, off, rfl, hlt, hcell⟩ := hc (by omega)
      have h1 := (hb.cell (p := ⟨b, off + k * 2, none⟩) hlt).trans (hcell k hkn).1
      have h2 := (hb.cell (p := ⟨b, off + k * 2 + 1, none⟩) hlt).trans (hcell k hkn).2
      unfold isIn at hsu
      generalize tAt ts k = a at *
      generalize tTo ts k = t at *
      have HS := Lib.hid hsu
      clear hsu hcell hc
      by_cases hs : a = s
      · by_cases hq : a = t
        · have e1 : (a == s) = true := by simp [hs]
          have e2 : (a != t) = false := by simp [hq]
          have HE := Lib.hid (And.intro e1 e2)
          clear hs hq
          go_wp2
          go_quiet (fail)
          go_wp2
          go_roundw
          case rel => exact ⟨k + 1, by omega, by go_num, by rw [HS.out, HE.out.1, HE.out.2]; go_num, below_drewN hb _⟩
          case measure => simp [intOf]; omega
        · have e1 : (a == s) = true := by simp [hs]
          have e2 : (a != t) = true := bne_iff_ne.2 hq
          have HE := Lib.hid (And.intro e1 e2)
          clear hs hq
          go_wp2
          go_quiet (fail)
          go_wp2
          go_roundw
          case rel => exact ⟨k + 1, by omega, by go_num, by rw [HS.out, HE.out.1, HE.out.2]; go_num, below_drewN hb _⟩
          case measure => simp [intOf]; omega
      · have e1 : (a == s) = false := by simpa using hs
        have HE := Lib.hid e1
        clear hs
        go_wp2
        go_quiet (fail)
        go_wp2
        go_roundw
        case rel => exact ⟨k + 1, by omega, by go_num, by rw [HS.out, HE.out]; go_num, below_drewN hb _⟩
        case measure => simp [intOf]; omega
    · have hkn2 : k = n := by omega
      clear hkn hk
      subst hkn2
      have hi : inN ts s k = inT ts s := by unfold inT; rw [← HN.out]; rfl
      have HI := Lib.hid hi
      clear hi hsu
      go_wp2
      go_ret
      exact ⟨by rw [HI.out]; rfl, hb⟩
/-- The section that a train moves to. -/
def nextT (x : Tn) : Int := if x.2 > x.1 then x.1 + 1 else x.1 - 1
theorem next75_any (x : Tn) (w : World) (h1 : -1000 ≤ x.1 ∧ x.1 ≤ 1000) (h2 : -1000 ≤ x.2 ∧ x.2 ≤ 1000) :
    Calls Try.prog 75 #[encT x] w fun e w' => e = .returned (.int .i64 (nextT x)) ∧ Below w.heap.size w w' := by
  obtain ⟨a, t⟩ := x
  unfold encT nextT
  simp only at h1 h2 ⊢
  by_cases h : t > a
  · rw [if_pos h]
    go_enter Try.func75, Try.ntmps75
    go_wp2
    go_ret
    exact ⟨rfl, by go_grown⟩
  · rw [if_neg h]
    go_enter Try.func75, Try.ntmps75
    go_wp2
    go_ret
    exact ⟨rfl, by go_grown⟩
end Yteijenefhoconaa
end Go.Proofs
/- The reference: whether a move is possible, and the state after it. -/
open Go Go.RowKit Go.YteijenefhoconaaIt
namespace Go.Proofs
namespace Yteijenefhoconaa
/-- Trains of a line. -/
structure Vt (L : List Int) (ts : List Tn) : Prop where
  l8 : L.length ≤ 8
  t5 : ts.length ≤ 5
  at_ : ∀ i, i < ts.length → 0 ≤ tAt ts i ∧ tAt ts i < L.length
  to_ : ∀ i, i < ts.length → 0 ≤ tTo ts i ∧ tTo ts i < L.length
def nxtT (ts : List Tn) (i : Nat) : Int := nextT (tAt ts i, tTo ts i)
def possT (L : List Int) (ts : List Tn) (i : Nat) : Bool := tAt ts i != tTo ts i && (nxtT ts i == tTo ts i || decide ((inT ts (nxtT ts i) : Int) < at0 L (nxtT ts i).toNat))
theorem Vt.nxt {L : List Int} {ts : List Tn} (h : Vt L ts) {i : Nat} (hi : i < ts.length) (hne : tAt ts i ≠ tTo ts i) : 0 ≤ nxtT ts i ∧ nxtT ts i < L.length := by
  have h1 := h.at_ i hi
  have h2 := h.to_ i hi
  unfold nxtT nextT
  simp only
  split <;> omega
set_option maxRecDepth 100000 in
set_option maxHeartbeats 1000000 in
theorem poss_any (vL vt : Value) (L : List Int) (ts : List Tn) (i : Nat) (w : World) (hL : SlI w vL L) (ht : SlT w vt ts) (hv : Vt L ts) (hi : i < ts.length) :
    Calls Try.prog 53 #[vL, vt, .int .i64 i] w fun e w' => e = .returned (.bool (possT L ts i)) ∧ Below w.heap.size w w' := by
  have hL0 := hL
  have ht0 := ht
  obtain ⟨adL, capL, rfl, hmL, hcL⟩ := hL
  obtain ⟨ad, cap, rfl, hm, hc⟩ := ht
  obtain ⟨b, off, rfl, hlt, hcell⟩ := hc (by omega)
  have h1 := (hcell i hi).1
  have h2 := (hcell i hi).2
  have ha := hv.at_ i hi
  have hto := hv.to_ i hi
  have hl8 := hv.l8
  have ht5 := hv.t5
  have hin := fun (s : Int) (W : World) (hb : Below w.heap.size w W) => in_any _ ts s W (ht0.below hb (Nat.le_refl _))
  have HIN := Lib.hid hin
  clear hin
  have hn75 := fun (W : World) => next75_any (tAt ts i, tTo ts i) W (by simp only; omega) (by simp only; omega)
  simp only [encT] at hn75
  by_cases hq : tAt ts i = tTo ts i
  · have hp : possT L ts i = false := by unfold possT; simp [hq]
    have HP := Lib.hid hp
    have e1 : (tAt ts i == tTo ts i) = true := by simp [hq]
    clear hcL hc hcell hp HIN hn75 hL0 ht0
    generalize tAt ts i = a at *
    generalize tTo ts i = t at *
    clear hq
    go_enter Try.func53, Try.ntmps53
    go_wp2
    go_quiet (fail)
    go_wp2
    go_ret
    exact ⟨by rw [HP.out]; rfl, below_drewN (Below.refl _ _) _⟩
  have hnx := hv.nxt hi hq
  have e1 : (tAt ts i == tTo ts i) = false := by simpa using hq
  obtain ⟨s, hs⟩ : ∃ s, s = nxtT ts i := ⟨_, rfl⟩
  have hs' : nextT (tAt ts i, tTo ts i) = s := hs.symm
  rw [hs'] at hn75
  by_cases hst : s = tTo ts i
  · have hp : possT L ts i = true := by unfold possT; rw [← hs]; simp [hq, hst]
    have HP := Lib.hid hp
    have e2 : (s == tTo ts i) = true := by simp [hst]
    clear hcL hc hcell hp HIN hL0 ht0 hs hs' hnx
    generalize tAt ts i = a at *
    generalize tTo ts i = t at *
    clear hq hst
    go_enter Try.func53, Try.ntmps53
    go_wp2
    go_quiet (fail)
    go_wp2_with (go_at_call 75; refine (hn75 _).mono ?_; rintro e w' ⟨rfl, hb⟩; have h3 := (hb.cell (p := ⟨b, off + i * 2, none⟩) hlt).trans h1; have h4 := (hb.cell (p := ⟨b, off + i * 2 + 1, none⟩) hlt).trans h2)
    go_quiet (fail)
    go_wp2
    go_ret
    exact ⟨by rw [HP.out]; rfl, below_drewN (below_drewN (Below.refl _ _) _ |>.trans (hb.mono (Nat.le_refl _))) _⟩
  · have hsb : (0 : Int) ≤ s ∧ s < L.length := by rw [hs]; exact hnx
    obtain ⟨bl, ofl, rfl, hltL, hcellL⟩ := hcL (by omega)
    obtain ⟨k, rfl⟩ := Int.eq_ofNat_of_zero_le hsb.1
    have hkl : k < L.length := by omega
    have h5 := hcellL k hkl
    have hp : possT L ts i = decide ((inT ts k : Int) < at0 L k) := by unfold possT; rw [← hs, Int.toNat_natCast, bne_iff_ne.2 hq, beq_eq_false_iff_ne.2 hst]; rfl
    have HP := Lib.hid hp
    have e2 : ((k : Int) == tTo ts i) = false := by simpa using hst
    clear hcell hp hcL hcellL hL0 hs hs' hnx
    generalize tAt ts i = a at *
    generalize tTo ts i = t at *
    generalize at0 L k = rm at *
    obtain ⟨m, hmm⟩ : ∃ m, m = inT ts k := ⟨_, rfl⟩
    have hin2 := fun (W : World) (hb : Below w.heap.size w W) => HIN.out (k : Int) W hb
    rw [← hmm] at hin2 HP
    have HIN2 := Lib.hid hin2
    clear hq hst hin2 HIN hmm
    go_enter Try.func53, Try.ntmps53
    go_wp2
    go_quiet (fail)
    go_wp2_with (go_at_call 75; refine (hn75 _).mono ?_; rintro e w' ⟨rfl, hb⟩)
    have hbw : Below w.heap.size w w' := (below_drewN (Below.refl _ _) _).trans (hb.mono (Nat.le_refl _))
    clear hb hn75
    have hs' := hbw.size
    refine wp_region_ab w.heap.size w (by kernel_rfl) (by kernel_rfl) hbw ?_
    unfold AbC
    have g2 := fun (x : Ab w.heap.size w) => (x.ok.cell (p := ⟨b, off + i * 2 + 1, none⟩) hlt).trans h2
    have g5 := fun (x : Ab w.heap.size w) => (x.ok.cell (p := ⟨bl, ofl + k, none⟩) hltL).trans h5
    have hcnt := fun (x : Ab w.heap.size w) => HIN2.out x.val x.ok
    clear h1 h2 h5
    repeat go_big_quiet_step (first | (go_at_call 63; exact Calls.ab _ (Nat.le_refl _) (hcnt _)))
    refine wpQuiet_nil ?_
    rintro W' ⟨x, rfl⟩
    have hB := x.ok
    generalize x.val = w6 at *
    clear hcnt g2 g5
    go_wp2
    go_ret
    exact ⟨by rw [HP.out]; rfl, hB⟩
end Yteijenefhoconaa
end Go.Proofs
