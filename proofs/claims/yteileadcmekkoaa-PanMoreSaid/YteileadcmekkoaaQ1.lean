/- Pans: small functions of the program and of the reference. -/
import Derived.Test.YteileadcmekkoaaProg
import Derived.Test.YteileadcmekkoaaGenC
import Derived.Test.YteileadcmekkoaaGenD
open Go Go.RowKit Go.YteileadcmekkoaaIt
namespace Go.Proofs
namespace Yteileadcmekkoaa
theorem between_any (lo n hi : Int) (w : World) : Calls Try.prog 58 #[.int .i64 lo, .int .i64 n, .int .i64 hi] w fun e w' => e = .returned (.bool (btw lo n hi)) ∧ w = w' := by
  unfold btw
  by_cases h1 : lo ≤ n <;> by_cases h2 : n ≤ hi
  all_goals
    go_enter Try.func58, Try.ntmps58
    go_wp2
    go_ret
    simp [h1, h2]
theorem is_any (n lo hi : Int) (w : World) : Calls Try.prog 61 #[.int .i64 n, .int .i64 lo, .int .i64 hi] w fun e w' => e = .returned (.bool (btw lo n hi)) ∧ w = w' := by
  unfold btw
  by_cases h1 : lo ≤ n <;> by_cases h2 : n ≤ hi
  all_goals
    have h3 : (decide (n ≥ lo)) = decide (lo ≤ n) := rfl
    go_enter Try.func61, Try.ntmps61
    go_wp2
    go_ret
    simp [h1, h2]
/-- A period is as stated. -/
def goodP (num den : Int) : Bool := btw 0 num 1000000000 && btw 1 den 1000
set_option maxRecDepth 100000 in
set_option maxHeartbeats 4000000 in
theorem pgood_any (num den : Int) (w : World) : Calls Try.prog 54 #[.agg #[.int .i64 num, .int .i64 den]] w fun e w' => e = .returned (.bool (goodP num den)) ∧ Below w.heap.size w w' := by
  obtain ⟨b1, hb1⟩ : ∃ b, b = btw 0 num 1000000000 := ⟨_, rfl⟩
  obtain ⟨b2, hb2⟩ : ∃ b, b = btw 1 den 1000 := ⟨_, rfl⟩
  have h1 := fun W => between_any 0 num 1000000000 W
  have h2 := fun W => between_any 1 den 1000 W
  unfold goodP
  rw [← hb1, ← hb2]
  rw [← hb1] at h1
  rw [← hb2] at h2
  clear hb1 hb2
  cases b1
  all_goals
    go_enter Try.func54, Try.ntmps54
    go_wp2_with (first | (go_at_call 58; have := hc1; refine (h2 _).mono ?_; rintro e w2 ⟨rfl, rfl⟩) | (go_at_call 58; refine (h1 _).mono ?_; rintro e w2 ⟨rfl, rfl⟩; have hc1 : True := trivial))
    go_ret
    exact ⟨by simp, (Below.refl _ _).alloc (Nat.le_refl _) _⟩
set_option maxRecDepth 100000 in
set_option maxHeartbeats 4000000 in
theorem pgood6_any (num den : Int) (w : World) : Calls Try.prog 56 #[.agg #[.int .i64 num, .int .i64 den]] w fun e w' => e = .returned (.bool (goodP num den)) ∧ Below w.heap.size w w' := by
  obtain ⟨b1, hb1⟩ : ∃ b, b = btw 0 num 1000000000 := ⟨_, rfl⟩
  obtain ⟨b2, hb2⟩ : ∃ b, b = btw 1 den 1000 := ⟨_, rfl⟩
  have h1 := fun W => is_any num 0 1000000000 W
  have h2 := fun W => is_any den 1 1000 W
  unfold goodP
  rw [← hb1, ← hb2]
  rw [← hb1] at h1
  rw [← hb2] at h2
  clear hb1 hb2
  cases b1
  all_goals
    go_enter Try.func56, Try.ntmps56
    go_wp2_with (first | (go_at_call 61; have := hc1; refine (h2 _).mono ?_; rintro e w2 ⟨rfl, rfl⟩) | (go_at_call 61; refine (h1 _).mono ?_; rintro e w2 ⟨rfl, rfl⟩; have hc1 : True := trivial))
    go_ret
    exact ⟨by simp, (Below.refl _ _).alloc (Nat.le_refl _) _⟩
/-- A period is less than another one. -/
theorem pless_any (a b c d : Int) (w : World) (h1 : IntKind.i64.wrap (a * d) = a * d) (h2 : IntKind.i64.wrap (c * b) = c * b) : Calls Try.prog 55 #[.agg #[.int .i64 a, .int .i64 b], .agg #[.int .i64 c, .int .i64 d]] w fun e w' => e = .returned (.bool (decide (a * d < c * b))) ∧ Below w.heap.size w w' := by
  go_enter Try.func55, Try.ntmps55
  go_wp2
  go_ret
  refine ⟨rfl, ?_⟩
  exact ((Below.refl _ _).alloc (Nat.le_refl _) _).alloc (by rw [World.size_alloc]; omega) _
theorem pless6_any (a b c d : Int) (w : World) (h1 : IntKind.i64.wrap (a * d) = a * d) (h2 : IntKind.i64.wrap (c * b) = c * b) : Calls Try.prog 57 #[.agg #[.int .i64 a, .int .i64 b], .agg #[.int .i64 c, .int .i64 d]] w fun e w' => e = .returned (.bool (decide (a * d < c * b))) ∧ Below w.heap.size w w' := by
  go_enter Try.func57, Try.ntmps57
  go_wp2
  go_ret
  refine ⟨rfl, ?_⟩
  exact ((Below.refl _ _).alloc (Nat.le_refl _) _).alloc (by rw [World.size_alloc]; omega) _
/-- What a wait says is as stated. -/
def goodW (lo hi b : Int) : Bool := decide (0 ≤ lo) && decide (lo ≤ hi) && decide (hi ≤ 10000) && btw 0 b 4
set_option maxRecDepth 100000 in
set_option maxHeartbeats 4000000 in
theorem wgood_any (f t lo hi b : Int) (w : World) : Calls Try.prog 59 #[.agg #[.int .i64 f, .int .i64 t, .int .i64 lo, .int .i64 hi, .int .i64 b]] w fun e w' => e = .returned (.bool (goodW lo hi b)) ∧ Below w.heap.size w w' := by
  unfold goodW
  obtain ⟨bb, hbb⟩ : ∃ x, x = btw 0 b 4 := ⟨_, rfl⟩
  have h1 := fun W => between_any 0 b 4 W
  rw [← hbb] at h1 ⊢
  clear hbb
  by_cases c1 : 0 ≤ lo <;> by_cases c2 : lo ≤ hi <;> by_cases c3 : hi ≤ 10000
  all_goals try (exfalso; omega)
  all_goals
    go_enter Try.func59, Try.ntmps59
    go_wp2_with (first | (go_at_call 58; refine (h1 _).mono ?_; rintro e w2 ⟨rfl, hw2⟩; subst hw2))
    go_ret
    exact ⟨by first | (simp [c1, c2, c3]; done) | (simp; intros; omega), (Below.refl _ _).alloc (Nat.le_refl _) _⟩
set_option maxRecDepth 100000 in
set_option maxHeartbeats 4000000 in
theorem in_any (a b lo hi : Int) (w : World) : Calls Try.prog 62 #[.agg #[.int .i64 a, .int .i64 b], .int .i64 lo, .int .i64 hi] w fun e w' => e = .returned (.bool (decide (lo ≤ a) && decide (a ≤ b) && decide (b ≤ hi))) ∧ Below w.heap.size w w' := by
  by_cases c1 : lo ≤ a <;> by_cases c2 : a ≤ b <;> by_cases c3 : b ≤ hi
  all_goals
    have c4 : (decide (a ≥ lo)) = decide (lo ≤ a) := rfl
    go_enter Try.func62, Try.ntmps62
    go_wp2
    go_ret
    exact ⟨by simp [c1, c2, c3], (Below.refl _ _).alloc (Nat.le_refl _) _⟩
theorem after_any (f t lo hi b num den x : Int) (w : World) (h1 : IntKind.i64.wrap (hi * den) = hi * den) (h2 : IntKind.i64.wrap (b * num) = b * num) (h3 : IntKind.i64.wrap (x + hi * den) = x + hi * den) (h4 : IntKind.i64.wrap (x + hi * den - b * num) = x + hi * den - b * num) :
    Calls Try.prog 67 #[.agg #[.int .i64 f, .int .i64 t, .int .i64 lo, .int .i64 hi, .int .i64 b], .agg #[.int .i64 num, .int .i64 den], .int .i64 x] w fun e w' => e = .returned (.int .i64 (x + hi * den - b * num)) ∧ Below w.heap.size w w' := by
  go_enter Try.func67, Try.ntmps67
  go_wp2
  go_ret
  refine ⟨rfl, ?_⟩
  exact ((Below.refl _ _).alloc (Nat.le_refl _) _).alloc (by rw [World.size_alloc]; omega) _
end Yteileadcmekkoaa
end Go.Proofs
