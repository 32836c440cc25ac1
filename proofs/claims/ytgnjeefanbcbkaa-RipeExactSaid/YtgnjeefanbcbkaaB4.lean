/- Fields: a clash is found. -/
import Derived.Test.YtgnjeefanbcbkaaB3
open Go Go.RowKit Go.YtgnjeefanbcbkaaIt
namespace Go.Proofs
namespace Ytgnjeefanbcbkaa
/-- What is found of a clash. -/
def ClashR (L H : Nat → Int) (n : Nat) (W : World) (v : Value) (t : Bool) : Prop :=
  (t = true ∧ ∃ i j k : Nat, i < n ∧ j < n ∧ k < n ∧ hol L H i j k = true ∧ SlI W v [(i : Int), (j : Int), (k : Int)]) ∨ (t = false ∧ v = .slice none 0 0 ∧ ∀ i j k : Nat, i < n → j < n → k < n → hol L H i j k = false)
theorem hol_other {L H : Nat → Int} {i j k : Nat} (h1 : ¬ (i = j ∧ j = k)) (h2 : ¬ (i < j ∧ j < k)) : hol L H i j k = false := by unfold hol; rw [if_neg h1, if_neg h2]
theorem slI3 {W : World} {g : Nat} {x y z : Int} {t : TypeId} (h : W.heap[g]? = some (.cells #[.int .i64 x, .int .i64 y, .int .i64 z] t (0, 0))) : SlI W (.slice (some ⟨g, 0, none⟩) 3 3) [x, y, z] :=
  slI_new (xs := [x, y, z]) (cap := 3) (by simp) (by simp) h
set_option maxRecDepth 100000 in
set_option maxHeartbeats 8000000 in
theorem clash_any {b n : Nat} {L H : Nat → Int} {w : World} (hb : Bds n L H) (hy : Yr w b n L H) :
    Calls Try.prog 54 #[.pointer (some ⟨b, 0, none⟩)] w fun e w' => ∃ v t, e = .returned (.tuple #[v, .bool t]) ∧ ClashR L H n w' v t ∧ Below w.heap.size w w' := by
  have h30 := hb.n30
  have HBS := Lib.hid hb
  have HY := Lib.hid hy
  have e1 := hy.wk
  clear hb hy
  go_enter Try.func54, Try.ntmps54
  go_wp2
  clear e1
  go_loopw [11] (fun i wr => ∃ j : Nat, j ≤ n ∧ i = .int .i64 j ∧ Hid (∀ j', j' < j → ∀ i k, i < n → k < n → hol L H i j' k = false) ∧ Below w.heap.size w wr) (fun i _ => n - (intOf i).toNat)
  case atStart => exact ⟨0, Nat.zero_le _, rfl, Lib.hid fun j' h => absurd h (Nat.not_lt_zero _), Below.refl _ _⟩
  case round =>
    obtain ⟨j, hj, rfl, HP, hB⟩ := hrel
    by_cases hjn : j < n
    · have h57 := fun (i j k : Nat) (hi : i < n) (hj : j < n) (hk : k < n) (W : World) (hW : Below w.heap.size w W) => holds_any HBS.out hi hj hk (HY.out.keep hW)
      have H57 := Lib.hid h57
      clear h57
      obtain ⟨t0, ht0⟩ : ∃ t, t = hol L H j j j := ⟨_, rfl⟩
      have h1 := H57.out j j j hjn hjn hjn wr hB
      rw [← ht0] at h1
      have HT0 := Lib.hid ht0
      have H1 := Lib.hid h1
      clear ht0 h1
      cases t0
      · go_wp2_with (go_at_call 57; refine H1.out.mono ?_; rintro e w2 ⟨rfl, hb2⟩)
        have hB2 := btr hB hb2 (Nat.le_refl _)
        clear hb2 hB H1
        go_loopw [24] (fun i wr => ∃ i0 : Nat, i0 ≤ j ∧ i = .int .i64 i0 ∧ Hid (∀ i', i' < i0 → ∀ k, j < k → k < n → hol L H i' j k = false) ∧ Below w.heap.size w wr) (fun i _ => j - (intOf i).toNat)
        case atStart => exact ⟨0, Nat.zero_le _, rfl, Lib.hid fun j' h => absurd h (Nat.not_lt_zero _), hB2⟩
        case round =>
          clear hB2
          obtain ⟨i, hi, rfl, HQ, hB2⟩ := hrel
          by_cases hij : i < j
          · have hw1 : IntKind.i64.wrap ((j : Int) + 1) = ((j + 1 : Nat) : Int) := by rw [IntKind.wrap_i64]; omega
            go_wp2
            clear hw1
            go_loopw [6] (fun c wr => ∃ k : Nat, j + 1 ≤ k ∧ k ≤ n ∧ c = .int .i64 k ∧ Hid (∀ k', j < k' → k' < k → hol L H i j k' = false) ∧ Below w.heap.size w wr) (fun c _ => n - (intOf c).toNat)
            case atStart => exact ⟨j + 1, Nat.le_refl _, by omega, rfl, Lib.hid fun k' h1 h2 => by omega, hB2⟩
            case round =>
              clear hB2
              obtain ⟨k, hk1, hk2, rfl, HR, hB2⟩ := hrel
              have e1 := (HY.out.keep hB2).wk
              have hlb := (HY.out.keep hB2).lt
              by_cases hkn : k < n
              · obtain ⟨t1, ht1⟩ : ∃ t, t = hol L H i j k := ⟨_, rfl⟩
                have h1 := H57.out i j k (by omega) hjn hkn wr hB2
                rw [← ht1] at h1
                have HT1 := Lib.hid ht1
                have H1 := Lib.hid h1
                clear ht1 h1
                have hw1 : IntKind.i64.wrap ((k : Int) + 1) = ((k + 1 : Nat) : Int) := by rw [IntKind.wrap_i64]; omega
                cases t1
                · go_wp2_with (go_at_call 57; refine H1.out.mono ?_; rintro e w2 ⟨rfl, hb2⟩)
                  have hB3 := btr hB2 hb2 (Nat.le_refl _)
                  clear hb2 hB2 H1 e1
                  go_roundw
                  case rel => exact ⟨k + 1, by omega, by omega, by go_num, Lib.hid fun k' h1 h2 => (by
                    by_cases e : k' = k
                    · subst e; exact HT1.out.symm
                    · exact HR.out k' h1 (by omega)), hB3⟩
                  case measure => simp [intOf]; omega
                · go_wp2_with (go_at_call 57; refine H1.out.mono ?_; rintro e w2 ⟨rfl, hb2⟩)
                  generalize hw3 : World.alloc _ _ = w3
                  obtain ⟨b3, hB3, hs3⟩ := blk1 hw3
                  clear hw3
                  go_ret2
                  exact ⟨_, _, rfl, .inl ⟨rfl, i, j, k, by omega, hjn, hkn, HT1.out.symm, slI3 b3⟩, btr (btr hB2 hb2 (Nat.le_refl _)) hB3 (Nat.le_refl _)⟩
              · have hke : k = n := by omega
                subst hke
                have hQ2 : Hid (∀ i', i' < i + 1 → ∀ k', j < k' → k' < k → hol L H i' j k' = false) := Lib.hid fun i' h1 k' h2 h3 => by
                  by_cases e : i' = i
                  · subst e; exact HR.out k' h2 h3
                  · exact HQ.out i' (by omega) k' h2 h3
                go_wp2
                go_roundw
                case rel => exact ⟨i + 1, by omega, by go_num, hQ2, hB2⟩
                case measure => simp [intOf]; omega
          · have hie : i = j := by omega
            have hP2 : Hid (∀ j', j' < j + 1 → ∀ i' k, i' < n → k < n → hol L H i' j' k = false) := Lib.hid fun j' h1 i' k h2 h3 => by
              by_cases e : j' = j
              · subst e
                by_cases c1 : i' = j' ∧ j' = k
                · obtain ⟨rfl, rfl⟩ := c1; exact HT0.out.symm
                · by_cases c2 : i' < j' ∧ j' < k
                  · exact HQ.out i' (by omega) k c2.2 h3
                  · exact hol_other c1 c2
              · exact HP.out j' (by omega) i' k h2 h3
            clear hie
            go_wp2
            go_roundw
            case rel => exact ⟨j + 1, by omega, by go_num, hP2, hB2⟩
            case measure => simp [intOf]; omega
      · go_wp2_with (go_at_call 57; refine H1.out.mono ?_; rintro e w2 ⟨rfl, hb2⟩)
        generalize hw3 : World.alloc _ _ = w3
        obtain ⟨b3, hB3, hs3⟩ := blk1 hw3
        clear hw3
        go_ret2
        exact ⟨_, _, rfl, .inl ⟨rfl, j, j, j, hjn, hjn, hjn, HT0.out.symm, slI3 b3⟩, btr (btr hB hb2 (Nat.le_refl _)) hB3 (Nat.le_refl _)⟩
    · have hje : j = n := by omega
      subst hje
      go_wp2
      go_ret2
      exact ⟨_, _, rfl, .inr ⟨rfl, rfl, fun i j' k h1 h2 h3 => HP.out j' h2 i k h1 h3⟩, hB⟩
end Ytgnjeefanbcbkaa
end Go.Proofs
