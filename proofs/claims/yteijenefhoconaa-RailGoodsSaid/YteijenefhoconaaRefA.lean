/- The reference: numbers within bounds, trains in a section, the section that a train moves to. -/
import Derived.Test.YteijenefhoconaaSmall
open Go Go.RowKit Go.YteijenefhoconaaIt
namespace Go.Proofs
namespace Yteijenefhoconaa
theorem is80_any (lo n hi : Int) (w : World) :
    Calls Try.prog 80 #[.int .i64 n, .int .i64 lo, .int .i64 hi] w fun e w' => e = .returned (.bool (btw lo n hi)) ∧ w = w' := by
  unfold btw
  by_cases h1 : lo ≤ n <;> by_cases h2 : n ≤ hi
  all_goals
    go_enter Try.func80, Try.ntmps80
    go_wp2
    go_ret
    simp [h1, h2]
theorem is_any (lo n hi : Int) (w : World) :
    Calls Try.prog 61 #[.int .i64 n, .int .i64 lo, .int .i64 hi] w fun e w' => e = .returned (.bool (btw lo n hi)) ∧ w = w' := by
  have h := is80_any lo n hi w
  obtain ⟨b, hb⟩ : ∃ b, b = btw lo n hi := ⟨_, rfl⟩
  rw [← hb] at h ⊢
  clear hb
  go_enter Try.func61, Try.ntmps61
  go_wp2_with (go_at_call 80; refine h.mono ?_; rintro e w' ⟨rfl, rfl⟩)
  go_ret
  exact ⟨rfl, rfl⟩
/-- Train i of a list is on the way, in section s. -/
def isIn (ts : List Tn) (s : Int) (i : Nat) : Bool := tAt ts i == s && tAt ts i != tTo ts i
def inT (ts : List Tn) (s : Int) : Nat := ((List.range ts.length).filter (isIn ts s)).length
def inN (ts : List Tn) (s : Int) (k : Nat) : Nat := ((List.range k).filter (isIn ts s)).length
theorem inN_succ (ts : List Tn) (s : Int) (k : Nat) : inN ts s (k + 1) = inN ts s k + if isIn ts s k then 1 else 0 := by
  unfold inN; rw [List.range_succ, List.filter_append, List.length_append]; congr 1
  by_cases h : isIn ts s k = true <;> simp [h]
theorem inN_le (ts : List Tn) (s : Int) (k : Nat) : inN ts s k ≤ k := by
  unfold inN; exact Nat.le_trans (List.length_filter_le _ _) (by simp)
set_option maxRecDepth 100000 in
set_option maxHeartbeats 1000000 in
theorem in_any (vt : Value) (ts : List Tn) (s : Int) (w : World) (ht : SlT w vt ts) :
    Calls Try.prog 63 #[vt, .int .i64 s] w fun e w' => e = .returned (.int .i64 (inT ts s)) ∧ Below w.heap.size w w' := by
  obtain ⟨ad, cap, rfl, hm, hc⟩ := ht
  obtain ⟨n, hn⟩ : ∃ n, n = ts.length := ⟨_, rfl⟩
  rw [← hn] at hm hc ⊢
  have HN := Lib.hid hn
  clear hn
  go_enter Try.func63, Try.ntmps63
  go_wp2
  go_loopw [5, 6] (fun c i wr => ∃ k : Nat, k ≤ n ∧ i = .int .i64 k ∧ c = .int .i64 (inN ts s k) ∧ Below w.heap.size w wr) (fun _ i _ => n - (intOf i).toNat)
  case atStart => exact ⟨0, Nat.zero_le _, rfl, rfl, Below.refl _ _⟩
  case round =>
    obtain ⟨k, hk, rfl, rfl, hb⟩ := hrel
    have hle := inN_le ts s k
    have hsu := inN_succ ts s k
    by_cases hkn : k < n
    · obtain ⟨b, off, rfl, hlt, hcell⟩ := hc (by omega)
      have h1 := (hb.cell (p := ⟨b, off + k * 2, none⟩) hlt).trans (hcell k hkn).1
      have h2 := (hb.cell (p := ⟨b, off + k * 2 + 1, none⟩) hlt).trans (hcell k hkn).2
      unfold isIn at hsu
      generalize tAt ts k = a at *
      generalize tTo ts k = t at *
      have HS := Lib.hid hsu
      clear hsu hcell hc
      by_cases hs : a = s
      · by_cases hq : a = t
        · have e1 : (a == s) = true := by simp [hs]
          have e2 : (a != t) = false := by simp [hq]
          have HE := Lib.hid (And.intro e1 e2)
          clear hs hq
          go_wp2
          go_quiet (fail)
          go_wp2
          go_roundw
          case rel => exact ⟨k + 1, by omega, by go_num, by rw [HS.out, HE.out.1, HE.out.2]; go_num, below_drewN hb _⟩
          case measure => simp [intOf]; omega
        · have e1 : (a == s) = true := by simp [hs]
          have e2 : (a != t) = true := bne_iff_ne.2 hq
          have HE := Lib.hid (And.intro e1 e2)
          clear hs hq
          go_wp2
          go_quiet (fail)
          go_wp2
          go_roundw
          case rel => exact ⟨k + 1, by omega, by go_num, by rw [HS.out, HE.out.1, HE.out.2]; go_num, below_drewN hb _⟩
          case measure => simp [intOf]; omega
      · have e1 : (a == s) = false := by simpa using hs
        have HE := Lib.hid e1
        clear hs
        go_wp2
        go_quiet (fail)
        go_wp2
        go_roundw
        case rel => exact ⟨k + 1, by omega, by go_num, by rw [HS.out, HE.out]; go_num, below_drewN hb _⟩
        case measure => simp [intOf]; omega
    · have hkn2 : k = n := by omega
      clear hkn hk
      subst hkn2
      have hi : inN ts s k = inT ts s := by unfold inT; rw [← HN.out]; rfl
      have HI := Lib.hid hi
      clear hi hsu
      go_wp2
      go_ret
      exact ⟨by rw [HI.out]; rfl, hb⟩
/-- The section that a train moves to. -/
def nextT (x : Tn) : Int := if x.2 > x.1 then x.1 + 1 else x.1 - 1
theorem next75_any (x : Tn) (w : World) (h1 : -1000 ≤ x.1 ∧ x.1 ≤ 1000) (h2 : -1000 ≤ x.2 ∧ x.2 ≤ 1000) :
    Calls Try.prog 75 #[encT x] w fun e w' => e = .returned (.int .i64 (nextT x)) ∧ Below w.heap.size w w' := by
  obtain ⟨a, t⟩ := x
  unfold encT nextT
  simp only at h1 h2 ⊢
  by_cases h : t > a
  · rw [if_pos h]
    go_enter Try.func75, Try.ntmps75
    go_wp2
    go_ret
    exact ⟨rfl, by go_grown⟩
  · rw [if_neg h]
    go_enter Try.func75, Try.ntmps75
    go_wp2
    go_ret
    exact ⟨rfl, by go_grown⟩
end Yteijenefhoconaa
end Go.Proofs
