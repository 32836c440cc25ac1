/- Fields: the reference finds a clash. -/
import Derived.Test.YtgnjeefanbcbkaaR4
open Go Go.RowKit Go.YtgnjeefanbcbkaaIt
namespace Go.Proofs
namespace Ytgnjeefanbcbkaa
def RClR (L H : Nat → Int) (n : Nat) (W : World) (v : Value) : Prop :=
  (∃ i j k g : Nat, i < n ∧ j < n ∧ k < n ∧ hol L H i j k = true ∧ v = .slice (some ⟨g, 0, none⟩) 3 3 ∧ SlI W v [(i : Int), (j : Int), (k : Int)]) ∨ (v = .slice none 0 0 ∧ ∀ i j k : Nat, i < n → j < n → k < n → hol L H i j k = false)
set_option maxRecDepth 100000 in
set_option maxHeartbeats 8000000 in
theorem rclash_any {p q : Value} {n : Nat} {L H : Nat → Int} {w : World} (hb : Bds n L H) (hp : SlN w p n L) (hq : SlN w q n H) :
    Calls Try.prog 46 #[p, q] w fun e w' => ∃ v, e = .returned v ∧ RClR L H n w' v ∧ Below w.heap.size w w' := by
  have h30 := hb.n30
  have h1 := hb.n1
  have HBS := Lib.hid hb
  have HP := Lib.hid hp
  have HQ := Lib.hid hq
  obtain ⟨b1, o1, cap1, rfl, hl1, -⟩ := slN_cells hp (by omega)
  have h58 := fun (i j k : Nat) (hi : i < n) (hj : j < n) (hk : k < n) (W : World) (hW : Below w.heap.size w W) => rholds_any HBS.out hi hj hk (HP.out.below hW (Nat.le_refl _)) (HQ.out.below hW (Nat.le_refl _))
  have H58 := Lib.hid h58
  clear hb hp hq h58
  go_enter Try.func46, Try.ntmps46
  go_wp2
  go_loopw [6] (fun i wr => ∃ i0 : Nat, i0 ≤ n ∧ i = .int .i64 i0 ∧ Hid (∀ i j k, i < i0 → j < n → k < n → hol L H i j k = false) ∧ Below w.heap.size w wr) (fun i _ => n - (intOf i).toNat)
  case atStart => exact ⟨0, Nat.zero_le _, rfl, Lib.hid fun i j k h => absurd h (Nat.not_lt_zero _), Below.refl _ _⟩
  case round =>
    obtain ⟨i0, hi0, rfl, HF, hB⟩ := hrel
    by_cases hin : i0 < n
    · have hii : (i0 : Int) < (n : Int) := by omega
      go_wp2
      go_loopw [7] (fun i wr => ∃ j0 : Nat, j0 ≤ n ∧ i = .int .i64 j0 ∧ Hid (∀ j k, j < j0 → k < n → hol L H i0 j k = false) ∧ Below w.heap.size w wr) (fun i _ => n - (intOf i).toNat)
      case atStart => exact ⟨0, Nat.zero_le _, rfl, Lib.hid fun j k h => absurd h (Nat.not_lt_zero _), hB⟩
      case round =>
        clear hB
        obtain ⟨j0, hj0, rfl, HG, hB⟩ := hrel
        by_cases hjn : j0 < n
        · have hji : (j0 : Int) < (n : Int) := by omega
          go_wp2
          go_loopw [8] (fun i wr => ∃ k0 : Nat, k0 ≤ n ∧ i = .int .i64 k0 ∧ Hid (∀ k, k < k0 → hol L H i0 j0 k = false) ∧ Below w.heap.size w wr) (fun i _ => n - (intOf i).toNat)
          case atStart => exact ⟨0, Nat.zero_le _, rfl, Lib.hid fun k h => absurd h (Nat.not_lt_zero _), hB⟩
          case round =>
            clear hB
            obtain ⟨k0, hk0, rfl, HH, hB⟩ := hrel
            by_cases hkn : k0 < n
            · have hki : (k0 : Int) < (n : Int) := by omega
              obtain ⟨t0, ht0⟩ : ∃ t, t = hol L H i0 j0 k0 := ⟨_, rfl⟩
              have h1 := H58.out i0 j0 k0 hin hjn hkn wr hB
              rw [← ht0] at h1
              have HT0 := Lib.hid ht0
              have H1 := Lib.hid h1
              clear ht0 h1
              cases t0
              · go_wp2_with (go_at_call 58; refine H1.out.mono ?_; rintro e w2 ⟨rfl, hb2⟩)
                have hB2 := btr hB hb2 (Nat.le_refl _)
                clear hb2 hB H1
                go_roundw
                case rel => exact ⟨k0 + 1, by omega, by go_num, Lib.hid fun k h => (by
                  by_cases e : k = k0
                  · subst e; exact HT0.out.symm
                  · exact HH.out k (by omega)), hB2⟩
                case measure => simp [intOf]; omega
              · go_wp2_with (go_at_call 58; refine H1.out.mono ?_; rintro e w2 ⟨rfl, hb2⟩)
                generalize hw3 : World.alloc _ _ = w3
                obtain ⟨b3, hB3, hs3⟩ := blk1 hw3
                clear hw3
                go_ret
                exact ⟨_, rfl, .inl ⟨i0, j0, k0, w2.heap.size, hin, hjn, hkn, HT0.out.symm, rfl, slI3 b3⟩, btr (btr hB hb2 (Nat.le_refl _)) hB3 (Nat.le_refl _)⟩
            · have hke : k0 = n := by omega
              have hki : ¬ ((k0 : Int) < (n : Int)) := by omega
              have hG2 : Hid (∀ j k, j < j0 + 1 → k < n → hol L H i0 j k = false) := Lib.hid fun j k h1 h2 => by
                by_cases e : j = j0
                · subst e; exact HH.out k (by omega)
                · exact HG.out j k (by omega) h2
              clear hke
              go_wp2
              go_roundw
              case rel => exact ⟨j0 + 1, by omega, by go_num, hG2, hB⟩
              case measure => simp [intOf]; omega
        · have hje : j0 = n := by omega
          have hji : ¬ ((j0 : Int) < (n : Int)) := by omega
          have hF2 : Hid (∀ i j k, i < i0 + 1 → j < n → k < n → hol L H i j k = false) := Lib.hid fun i j k h1 h2 h3 => by
            by_cases e : i = i0
            · subst e; exact HG.out j k (by omega) h3
            · exact HF.out i j k (by omega) h2 h3
          clear hje
          go_wp2
          go_roundw
          case rel => exact ⟨i0 + 1, by omega, by go_num, hF2, hB⟩
          case measure => simp [intOf]; omega
    · have hie : i0 = n := by omega
      have hii : ¬ ((i0 : Int) < (n : Int)) := by omega
      have hall : Hid (∀ i j k : Nat, i < n → j < n → k < n → hol L H i j k = false) := Lib.hid fun i j k h1 h2 h3 => HF.out i j k (by omega) h2 h3
      clear hie
      go_wp2
      go_ret
      exact ⟨_, rfl, .inr ⟨rfl, hall.out⟩, hB⟩
end Ytgnjeefanbcbkaa
end Go.Proofs
