/- Fields, outright: a list has a number. -/
import Derived.Test.YtgnjeefanbcbkaaB6
open Go Go.RowKit Go.YtgnjeefanbcbkaaIt
namespace Go.Proofs
namespace Ytgnjeefanbcbkaa
set_option maxRecDepth 100000 in
set_option maxHeartbeats 4000000 in
theorem has_any (v : Value) (xs : List Int) (x : Int) (w : World) (hv : SlI w v xs) :
    Calls Try.prog 34 #[v, .int .i64 x] w fun e w' => e = .returned (.bool (decide (x ∈ xs))) ∧ Below w.heap.size w w' := by
  obtain ⟨ad, cap, rfl, hm, hcp, hc⟩ := hv
  have HC := Lib.hid hc
  clear hc
  go_enter Try.func34, Try.ntmps34
  go_wp2
  go_loopw [9] (fun i wr => ∃ k : Nat, k ≤ xs.length ∧ i = .int .i64 k ∧ Hid (∀ j (h : j < xs.length), j < k → xs[j] ≠ x) ∧ Below w.heap.size w wr) (fun i _ => xs.length - (intOf i).toNat)
  case atStart => exact ⟨0, Nat.zero_le _, rfl, Lib.hid (fun j _ h => by omega), Below.refl _ _⟩
  case round =>
    obtain ⟨k, hk, rfl, HN, hB⟩ := hrel
    by_cases hkn : k < xs.length
    · obtain ⟨b, off, rfl, hlt, hcell⟩ := HC.out (by omega)
      have c1 := (hB.cell (p := ⟨b, off + k, none⟩) hlt).trans (hcell k hkn)
      rw [at0_lt hkn] at c1
      have hki : (k : Int) < (xs.length : Int) := by omega
      have hw1 : IntKind.i64.wrap ((k : Int) + 1) = ((k + 1 : Nat) : Int) := by rw [IntKind.wrap_i64]; omega
      have hmem : xs[k] ∈ xs := List.getElem_mem _
      clear hcell HC
      by_cases he : xs[k] = x
      · have hr : decide (x ∈ xs) = true := decide_eq_true (he ▸ hmem)
        have HR := Lib.hid hr
        have heb : ((xs[k] : Int) == x) = true := by simpa using he
        generalize xs[k] = y at *
        clear he hmem hr
        go_wp2
        go_ret
        exact ⟨by rw [HR.out]; rfl, hB⟩
      · have heb : ((xs[k] : Int) == x) = false := by simpa using he
        have hn2 : ∀ j (h : j < xs.length), j < k + 1 → xs[j] ≠ x := fun j h hj => by
          rcases Nat.lt_or_ge j k with h1 | h1
          · exact HN.out j h h1
          · have : j = k := by omega
            subst this; exact he
        have HN2 := Lib.hid hn2
        generalize xs[k] = y at *
        clear he hmem hn2
        go_wp2
        go_roundw
        case rel => exact ⟨k + 1, by omega, by go_num, HN2, hB⟩
        case measure => simp [intOf]; omega
    · have hki : ¬ ((k : Int) < (xs.length : Int)) := by omega
      have hr : decide (x ∈ xs) = false := decide_eq_false fun h => by
        obtain ⟨j, hj, hje⟩ := List.getElem_of_mem h
        exact HN.out j hj (by omega) hje
      have HR := Lib.hid hr
      clear hr
      go_wp2
      go_ret
      exact ⟨by rw [HR.out]; rfl, hB⟩
end Ytgnjeefanbcbkaa
end Go.Proofs
