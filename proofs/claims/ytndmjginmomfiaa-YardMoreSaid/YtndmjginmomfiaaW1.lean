/- The walks of small functions: numbers within bounds, words, orders, what follows an order. -/
import Derived.Test.YtndmjginmomfiaaProg
import Derived.Test.YtndmjginmomfiaaPl
import Derived.Laws.Bits64b
open Go Go.RowKit Go.YtndmjginmomfiaaIt
namespace Go.Proofs
namespace Ytndmjginmomfiaa
theorem between_any (lo n hi : Int) (w : World) :
    Calls Try.prog 45 #[.int .i64 lo, .int .i64 n, .int .i64 hi] w fun e w' => e = .returned (.bool (btw lo n hi)) ∧ w = w' := by
  unfold btw
  by_cases h1 : lo ≤ n <;> by_cases h2 : n ≤ hi
  all_goals
    go_enter Try.func45, Try.ntmps45
    go_wp2
    go_ret
    simp [h1, h2]
theorem upTo_val (n : Nat) (h : n ≤ 60) : IntKind.u64.wrap (IntKind.u64.wrap (2 ^ (n + 1)) - 1) = (upN n : Int) := by
  have h1 : 2 ^ (n + 1) ≤ 2 ^ 61 := Nat.pow_le_pow_right (by omega) (by omega)
  have h2 : 0 < 2 ^ (n + 1) := Nat.two_pow_pos _
  have e : ((2 : Int) ^ (n + 1)) = ((2 ^ (n + 1) : Nat) : Int) := by push_cast; rfl
  rw [e]
  unfold upN
  generalize 2 ^ (n + 1) = x at *
  simp only [IntKind.wrap, IntKind.bits, IntKind.signed, Bool.false_and, Bool.false_eq_true, if_false]
  omega
theorem upTo_any (n : Nat) (w : World) (h : n ≤ 60) :
    Calls Try.prog 64 #[.int .i64 n] w fun e w' => e = .returned (.int .u64 (upN n)) ∧ w = w' := by
  have hv := upTo_val n h
  have HV := Lib.hid hv
  clear hv
  go_enter Try.func64, Try.ntmps64
  go_wp2
  go_ret
  exact ⟨by rw [← HV.out]; rfl, rfl⟩
theorem upTo_int {d : Int} (w : World) (h0 : 0 ≤ d) (h : d ≤ 60) :
    Calls Try.prog 64 #[.int .i64 d] w fun e w' => e = .returned (.int .u64 (upN d.toNat)) ∧ w = w' := by
  have := upTo_any d.toNat w (by omega)
  rwa [Int.toNat_of_nonneg h0] at this
theorem shr_bound (x : Nat) (k : Nat) (hx : x < 2 ^ 64) : x >>> k < 18446744073709551616 := by
  rw [Nat.shiftRight_eq_div_pow]
  exact Nat.lt_of_le_of_lt (Nat.div_le_self _ _) hx
theorem upN_64 {n : Nat} (h : n ≤ 60) : upN n < 18446744073709551616 := by
  have h1 := upN_lt n
  have h2 : 2 ^ (n + 1) ≤ 2 ^ 61 := Nat.pow_le_pow_right (by omega) (by omega)
  omega
theorem has_bits {x : Nat} {lo hi : Int} (hx : x < 2 ^ 64) (h0 : 0 ≤ lo) (h1 : hi ≤ 60) : (bits BinOp.and IntKind.u64 (x / 2 ^ lo.toNat) (upN (hi - lo).toNat) == (upN (hi - lo).toNat : Int)) = hasN x lo hi := by
  have e : ((x : Int) / 2 ^ lo.toNat) = ((x >>> lo.toNat : Nat) : Int) := by rw [Nat.shiftRight_eq_div_pow]; push_cast; rfl
  rw [e, bits_and_u64_nat _ _ (shr_bound x _ hx) (upN_64 (by omega))]
  unfold hasN
  have e2 : decide (0 ≤ lo ∧ hi ≤ 60) = true := by simp [h0, h1]
  rw [e2, Bool.true_and]
  rw [Bool.eq_iff_iff, beq_iff_eq, beq_iff_eq]
  omega
set_option maxRecDepth 100000 in
set_option maxHeartbeats 1000000 in
theorem has_any (x : Nat) (lo hi : Int) (w : World) (hx : x < 2 ^ 64) (hl : lo ≤ hi) :
    Calls Try.prog 60 #[.int .u64 x, .int .i64 lo, .int .i64 hi] w fun e w' => e = .returned (.bool (hasN x lo hi)) ∧ Below w.heap.size w w' := by
  by_cases h0 : 0 ≤ lo
  · by_cases h1 : hi ≤ 60
    · have hu := fun W => upTo_int (d := hi - lo) W (by omega) (by omega)
      have hv := has_bits hx h0 h1
      have HV := Lib.hid hv
      clear hv
      go_enter Try.func60, Try.ntmps60
      go_wp2
      go_quiet ((go_at_call 64; exact calls_quiet_same (hu _)))
      go_wp2
      go_ret
      exact ⟨by rw [← HV.out]; rfl, below_drewN (Below.refl _ _) _⟩
    · have hv : hasN x lo hi = false := by unfold hasN; simp [h1]
      have HV := Lib.hid hv
      have hd : decide (hi ≤ 60) = false := by simpa using h1
      clear hv
      go_enter Try.func60, Try.ntmps60
      go_wp2
      go_quiet (fail)
      go_wp2
      go_ret
      exact ⟨by rw [HV.out]; rfl, below_drewN (Below.refl _ _) _⟩
  · have hv : hasN x lo hi = false := by unfold hasN; simp [h0]
    have HV := Lib.hid hv
    have hd : decide (0 ≤ lo) = false := by simpa using h0
    clear hv
    go_enter Try.func60, Try.ntmps60
    go_wp2
    go_quiet (fail)
    go_wp2
    go_ret
    exact ⟨by rw [HV.out]; rfl, below_drewN (Below.refl _ _) _⟩
end Ytndmjginmomfiaa
end Go.Proofs
