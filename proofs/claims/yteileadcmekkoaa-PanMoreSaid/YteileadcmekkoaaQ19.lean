/- Pans: what is remembered of the last strikes. -/
import Derived.Test.YteileadcmekkoaaQ18
open Go Go.RowKit Go.YteileadcmekkoaaIt
namespace Go.Proofs
namespace Yteileadcmekkoaa
def slR (n g : Nat) : Value := .slice (some ⟨g, 0, none⟩) n n
/-- The five slices behind c strikes. -/
def lastA (n : Nat) (gs : Nat → Nat) : Nat → List Value
  | 0 => List.replicate 5 (.slice none 0 0)
  | c + 1 => (lastA n gs c).set (c % 5) (slR n (gs c))
theorem lastA_len (n : Nat) (gs : Nat → Nat) : ∀ c, (lastA n gs c).length = 5
  | 0 => rfl
  | c + 1 => by unfold lastA; rw [List.length_set, lastA_len n gs c]
theorem lastA_get (n : Nat) (gs : Nat → Nat) (m : Nat) : ∀ b, b ≤ 4 → (lastA n gs (m + b + 1))[m % 5]? = some (slR n (gs m))
  | 0, _ => by
    show ((lastA n gs m).set (m % 5) (slR n (gs m)))[m % 5]? = _
    rw [List.getElem?_set]; simp [lastA_len, Nat.mod_lt]
  | b + 1, hb => by
    show ((lastA n gs (m + b + 1)).set ((m + b + 1) % 5) _)[m % 5]? = _
    rw [List.getElem?_set, if_neg (by omega)]
    exact lastA_get n gs m b (by omega)
theorem lastA_sl (n : Nat) (gs : Nat → Nat) : ∀ c j, j < 5 → ∃ ad m cp, (lastA n gs c)[j]? = some (.slice ad m cp)
  | 0, j, hj => ⟨none, 0, 0, by unfold lastA; rw [List.getElem?_replicate, if_pos hj]⟩
  | c + 1, j, hj => by
    show ∃ ad m cp, ((lastA n gs c).set (c % 5) (slR n (gs c)))[j]? = _
    rw [List.getElem?_set]
    by_cases h : c % 5 = j
    · rw [if_pos h, if_pos (by rw [lastA_len]; omega)]; exact ⟨_, _, _, rfl⟩
    · rw [if_neg h]; exact lastA_sl n gs c j hj
/-- The memory of the last strikes: its cells. -/
def recA (n : Nat) (gs : Nat → Nat) (c : Nat) : List Value := lastA n gs c ++ [.int .i64 c]
theorem recA_len (n : Nat) (gs : Nat → Nat) (c : Nat) : (recA n gs c).length = 6 := by simp [recA, lastA_len]
theorem recA_cnt (n : Nat) (gs : Nat → Nat) (c : Nat) : (recA n gs c)[5]? = some (.int .i64 c) := by
  unfold recA; rw [List.getElem?_append_right (by rw [lastA_len]; omega), lastA_len]; rfl
theorem recA_at (n : Nat) (gs : Nat → Nat) (c : Nat) {j : Nat} (hj : j < 5) : (recA n gs c)[j]? = (lastA n gs c)[j]? := by
  unfold recA; rw [List.getElem?_append_left (by rw [lastA_len]; exact hj)]
theorem recA_succ (n : Nat) (gs : Nat → Nat) (c : Nat) : ((recA n gs c).toArray.setIfInBounds (c % 5) (slR n (gs c))).setIfInBounds 5 (.int .i64 ((c + 1 : Nat) : Int)) = (recA n gs (c + 1)).toArray := by
  apply Array.toList_inj.1
  rw [Array.toList_setIfInBounds, Array.toList_setIfInBounds]
  unfold recA
  have h5 : c % 5 < (lastA n gs c).length := by rw [lastA_len]; omega
  rw [List.set_append_left _ _ h5]
  rw [List.set_append_right _ _ (by rw [List.length_set, lastA_len]; omega), List.length_set, lastA_len]
  rfl
theorem tmod5 (c : Nat) : ((c : Int).tmod 5) = ((c % 5 : Nat) : Int) := by
  rw [Int.tmod_eq_emod_of_nonneg (by omega)]; rfl
set_option maxRecDepth 100000 in
set_option maxHeartbeats 4000000 in
theorem add_any (n : Nat) (gs : Nat → Nat) (c bb : Nat) (w : World) (hc : c ≤ 1000) (hb : w.heap[bb]? = some (.cells (recA n gs c).toArray 115 (0, 0))) :
    Calls Try.prog 70 #[.pointer (some ⟨bb, 0, none⟩), slR n (gs c)] w fun e w' => (∃ v, e = .returned v) ∧ w'.heap[bb]? = some (.cells (recA n gs (c + 1)).toArray 115 (0, 0)) ∧ Bm bb w.heap.size w w' := by
  have c5 := cell_blk (i := 5) hb
  have cj := cell_blk (i := c % 5) hb
  rw [List.getElem?_toArray, recA_cnt] at c5
  obtain ⟨ad, m, cp, hsl⟩ := lastA_sl n gs c (c % 5) (by omega)
  rw [List.getElem?_toArray, recA_at n gs c (by omega), hsl] at cj
  have f5 := free_blk (i := 5) hb
  have fj := free_blk (i := c % 5) hb
  have hlt := lt_blk hb
  obtain ⟨r, hr⟩ : ∃ r, r = c % 5 := ⟨_, rfl⟩
  have hr5 : r < 5 := by omega
  have hmod : ((c : Int).tmod 5) = (r : Int) := by rw [tmod5, hr]
  have hi0 : (0 : Int) ≤ (r : Int) := by omega
  have hi5 : (r : Int) < 5 := by omega
  rw [← hr] at cj fj
  have HR := Lib.hid hr
  clear hr hsl
  have HB := Lib.hid hb
  unfold slR
  go_enter Try.func70, Try.ntmps70
  refine wp_seq_k (fun K hK => ?_)
  have HK := Lib.hid hK; clear hK
  refine wp_region_still_tail 10 (by kernel_rfl) (by kernel_rfl) ?_
  simp only [List.take_succ_cons, List.take_zero, List.drop_succ_cons, List.drop_zero]
  change wpStill _ _ (World.drew w) _ _ _
  repeat still_step
  refine wpStill_nil ?_
  change wpList _ _ _ _ _ (World.drew w)
  go_wp2
  refine HK.out _ _ ?_; clear HK
  have b2 : (World.drew (World.setCell w ⟨bb, r, none⟩ (.slice (some ⟨gs c, 0, none⟩) n n))).heap[bb]? = some (.cells ((recA n gs c).toArray.setIfInBounds r (slR n (gs c))) 115 (0, 0)) := heap_set_blk (W := w) HB.out
  have hbm : Bm bb w.heap.size w (World.drew (World.setCell w ⟨bb, r, none⟩ (.slice (some ⟨gs c, 0, none⟩) n n))) := ⟨rfl, rfl, rfl, by show _ ≤ (World.setCell w _ _).heap.size; rw [World.size_setCell]; exact Nat.le_refl _, fun i _ hne => heap_set_other (W := w) hne⟩
  have c6 := cell_blk (i := 5) b2
  rw [Array.getElem?_setIfInBounds_ne (by omega), List.getElem?_toArray, recA_cnt] at c6
  have f6 := free_blk (i := 5) b2
  have hlt2 := lt_blk b2
  generalize World.drew (World.setCell _ _ _) = w2 at *
  clear c5 cj f5 fj
  go_wp2
  go_end0
  refine ⟨⟨_, rfl⟩, ?_, ?_⟩
  · rw [heap_set_blk b2, ← recA_succ, HR.out]; rfl
  · exact ⟨hbm.os, hbm.tape, hbm.output, by rw [World.size_setCell]; exact hbm.size, fun i hi hne => (heap_set_other hne).trans (hbm.block i hi hne)⟩
set_option maxRecDepth 100000 in
set_option maxHeartbeats 4000000 in
theorem back_any (n : Nat) (gs : Nat → Nat) (c bb : Nat) (b : Int) (w : World) (hc : c ≤ 1000) (hb0 : 0 ≤ b ∧ b ≤ 4) (hb : w.heap[bb]? = some (.cells (recA n gs c).toArray 115 (0, 0))) :
    Calls Try.prog 72 #[.pointer (some ⟨bb, 0, none⟩), .int .i64 b] w fun e w' => e = .returned (.tuple #[if b < (c : Int) then slR n (gs (c - 1 - b.toNat)) else .slice none 0 0, .bool (decide (b < (c : Int)))]) ∧ Below w.heap.size w w' := by
  have c5 := cell_blk (i := 5) hb
  rw [List.getElem?_toArray, recA_cnt] at c5
  have hlt := lt_blk hb
  by_cases hbc : b < (c : Int)
  · obtain ⟨q, rfl⟩ := Int.eq_ofNat_of_zero_le hb0.1
    obtain ⟨m, hm⟩ : ∃ m, c = m + q + 1 := ⟨c - 1 - q, by omega⟩
    have hcm : c - 1 - q = m := by omega
    have hgt : ((q : Int) ≥ (c : Int)) = False := by simp; omega
    have cj := cell_blk (i := m % 5) hb
    rw [List.getElem?_toArray, recA_at n gs c (by omega), hm, lastA_get n gs m q (by omega)] at cj
    rw [if_pos hbc, decide_eq_true hbc]
    simp only [Int.toNat_natCast]
    rw [hcm]
    unfold slR at *
    have hw1 : IntKind.i64.wrap ((c : Int) - 1) = (c : Int) - 1 := by rw [IntKind.wrap_i64]; omega
    have hw2 : IntKind.i64.wrap ((c : Int) - 1 - (q : Int)) = (m : Int) := by rw [IntKind.wrap_i64]; omega
    obtain ⟨r, hr⟩ : ∃ r, r = m % 5 := ⟨_, rfl⟩
    have hr5 : r < 5 := by omega
    have hmod : ((m : Int).tmod 5) = (r : Int) := by rw [tmod5, hr]
    have hi0 : (0 : Int) ≤ (r : Int) := by omega
    have hi5 : (r : Int) < 5 := by omega
    rw [← hr] at cj
    clear hm hcm hr hbc
    go_enter Try.func72, Try.ntmps72
    go_wp2
    go_quiet (fail)
    go_wp2
    go_ret2
    exact ⟨rfl, below_drewN (Below.refl _ _) _⟩
  · have hgt : (b ≥ (c : Int)) = True := by simp; omega
    rw [if_neg hbc, decide_eq_false hbc]
    clear hbc
    go_enter Try.func72, Try.ntmps72
    go_wp2
    go_ret2
    exact ⟨rfl, Below.refl _ _⟩
end Yteileadcmekkoaa
end Go.Proofs
