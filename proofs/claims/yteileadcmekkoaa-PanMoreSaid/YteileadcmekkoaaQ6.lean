/- Pans: a slice of the call's own, turned around in place (slices.Reverse). -/
import Derived.Test.YteileadcmekkoaaQ5
open Go Go.RowKit Go.YteileadcmekkoaaIt
namespace Go.Proofs
namespace Yteileadcmekkoaa
/-- A block whose first n cells hold numbers. -/
def RowN (w : World) (g n sz : Nat) (f : Nat → Int) : Prop := ∃ c : Array Value, w.heap[g]? = some (.cells c 3 (0, 0)) ∧ c.size = sz ∧ ∀ i, i < n → c[i]? = some (.int .i64 (f i))
theorem RowN.cell {w : World} {g n sz : Nat} {f : Nat → Int} (h : RowN w g n sz f) {i : Nat} (hi : i < n) : w.cell? ⟨g, i, none⟩ = some (.int .i64 (f i)) := by
  obtain ⟨c, hc, -, hx⟩ := h
  rw [cell_blk hc]; exact hx i hi
theorem RowN.free {w : World} {g n sz : Nat} {f : Nat → Int} (h : RowN w g n sz f) (i : Nat) : w.frozen? ⟨g, i, none⟩ = false := by
  obtain ⟨c, hc, -⟩ := h
  exact free_blk hc
theorem RowN.lt {w : World} {g n sz : Nat} {f : Nat → Int} (h : RowN w g n sz f) : g < w.heap.size := by
  obtain ⟨c, hc, -⟩ := h
  exact lt_blk hc
theorem RowN.congr {w : World} {g n sz : Nat} {f f' : Nat → Int} (h : RowN w g n sz f) (he : ∀ i, i < n → f' i = f i) : RowN w g n sz f' := by
  obtain ⟨c, hc, hs, hx⟩ := h
  exact ⟨c, hc, hs, fun i hi => by rw [he i hi]; exact hx i hi⟩
theorem RowN.set {w : World} {g n sz : Nat} {f : Nat → Int} (h : RowN w g n sz f) {k : Nat} (hk : k < n) (z : Int) : RowN (w.setCell ⟨g, k, none⟩ (.int .i64 z)) g n sz (fun i => if i = k then z else f i) := by
  obtain ⟨c, hc, hs, hx⟩ := h
  refine ⟨c.setIfInBounds k (.int .i64 z), heap_set_blk hc, by simpa using hs, fun i hi => ?_⟩
  rw [Array.getElem?_setIfInBounds]
  by_cases hik : i = k
  · subst hik
    have := (Array.getElem?_eq_some_iff.1 (hx i hi)).1
    rw [if_pos rfl, if_pos this]; simp
  · rw [if_neg (fun e => hik e.symm)]; simp only [if_neg hik]; exact hx i hi
theorem RowN.of {w : World} {base g cap : Nat} {xs : List Int} (h : w.ownsRow base 3 1 (.slice (some ⟨g, 0, none⟩) xs.length cap) xs.length (xs.map (.int .i64))) : RowN w g xs.length cap (fun i => at0 xs i) ∧ base ≤ g ∧ xs.length ≤ cap ∧ cap ≤ maxLen := by
  rcases h.2 with ⟨h1, _⟩ | ⟨g', cap', cur, hv, hb, hh, r1, r2, r3, r4⟩
  · cases h1
  · injection hv with e1 e2 e3
    injection e1 with e1
    injection e1 with e1
    subst e1 e3
    refine ⟨⟨cur, hh, by simpa using r3, fun i hi => ?_⟩, hb, r1, r2⟩
    have : (cur.toList.take (xs.length * 1))[i]? = (xs.map (Value.int .i64))[i]? := by rw [r4]
    rw [List.getElem?_take, if_pos (by omega), Array.getElem?_toList] at this
    rw [this]; simp [hi, at0_lt hi]
theorem RowN.own {w : World} {base g cap : Nat} {xs : List Int} (h : RowN w g xs.length cap (fun i => at0 xs i)) (hb : base ≤ g) (h1 : xs.length ≤ cap) (h2 : cap ≤ maxLen) : w.ownsRow base 3 1 (.slice (some ⟨g, 0, none⟩) xs.length cap) xs.length (xs.map (.int .i64)) := by
  obtain ⟨c, hc, hs, hx⟩ := h
  refine ⟨by simp, .inr ⟨g, cap, c, rfl, hb, hc, h1, h2, by simpa using hs, ?_⟩⟩
  apply List.ext_getElem?
  intro i
  rw [List.getElem?_take]
  by_cases hi : i < xs.length
  · rw [if_pos (by omega), Array.getElem?_toList, hx i hi]; simp [hi, at0_lt hi]
  · rw [if_neg (by omega), List.getElem?_eq_none (by simpa using hi)]
def revF (xs : List Int) (k i : Nat) : Int := if i < k ∨ xs.length ≤ i + k then at0 xs (xs.length - 1 - i) else at0 xs i
theorem at0_rev (xs : List Int) {i : Nat} (h : i < xs.length) : at0 xs.reverse i = at0 xs (xs.length - 1 - i) := by
  rw [at0_lt (by simpa using h), at0_lt (by omega), List.getElem_reverse]
set_option maxRecDepth 100000 in
set_option maxHeartbeats 4000000 in
theorem rev_any (base g cap : Nat) (xs : List Int) (w : World) (h : w.ownsRow base 3 1 (.slice (some ⟨g, 0, none⟩) xs.length cap) xs.length (xs.map (.int .i64))) (hl : xs.length ≤ 1000) :
    Calls Try.prog 80 #[.slice (some ⟨g, 0, none⟩) xs.length cap] w fun e w' => e = .returned (.tuple #[]) ∧ w'.ownsRow base 3 1 (.slice (some ⟨g, 0, none⟩) xs.length cap) xs.length (xs.reverse.map (.int .i64)) ∧ Bm g w.heap.size w w' := by
  obtain ⟨hr, hb, h1, h2⟩ := RowN.of h
  have HE := Lib.hid (fun (W : World) (hW : RowN W g xs.length cap (fun i => at0 xs.reverse i)) => (RowN.own (xs := xs.reverse) (base := base) (by simpa using hW) hb (by simpa using h1) h2))
  have HR := Lib.hid (show RowN w g xs.length cap (revF xs 0) from hr.congr (fun i hi => by unfold revF; rw [if_neg (by omega)]))
  clear h hr
  have HF := Lib.hid (fun k (hk : k < xs.length - 1 - k) i (hi : i < xs.length) => show revF xs (k + 1) i = if i = xs.length - 1 - k then revF xs k k else if i = k then revF xs k (xs.length - 1 - k) else revF xs k i by
    unfold revF
    by_cases e1 : i = xs.length - 1 - k
    · subst e1
      rw [if_pos (by omega), if_pos rfl, if_neg (by omega)]
      congr 1; omega
    · rw [if_neg e1]
      by_cases e2 : i = k
      · subst e2
        rw [if_pos (by omega), if_pos rfl, if_neg (by omega)]
      · rw [if_neg e2]
        by_cases e3 : i < k ∨ xs.length ≤ i + k
        · rw [if_pos e3, if_pos (by omega)]
        · rw [if_neg e3, if_neg (by omega)])
  have HZ := Lib.hid (fun k (hk : ¬ k < xs.length - 1 - k) i (hi : i < xs.length) => show at0 xs.reverse i = revF xs k i by
    rw [at0_rev _ hi]; unfold revF
    split
    · rfl
    · congr 1; omega)
  have hll : xs.reverse.length = xs.length := List.length_reverse
  rw [hll] at HE
  clear hll
  obtain ⟨n, hn⟩ : ∃ n, n = xs.length := ⟨_, rfl⟩
  rw [← hn] at HE HR HF HZ hl h1 ⊢
  generalize revF xs = F at *
  clear hn
  go_enter Try.func80, Try.ntmps80
  go_wp2
  go_loopw [2, 3] (fun i j wr => ∃ k : Nat, k ≤ n ∧ i = .int .i64 k ∧ j = .int .i64 ((n : Int) - 1 - k) ∧ RowN wr g n cap (F k) ∧ Bm g w.heap.size w wr) (fun i _ _ => n - (intOf i).toNat)
  case atStart => exact ⟨0, Nat.zero_le _, rfl, by simp, HR.out, Bm.refl _ _ _⟩
  case round =>
    obtain ⟨k, hk, rfl, rfl, hr, hB⟩ := hrel
    by_cases hkn : k < n - 1 - k
    · obtain ⟨j, hj⟩ : ∃ j, j = n - 1 - k := ⟨_, rfl⟩
      have hjz : (n : Int) - 1 - k = (j : Int) := by omega
      have c0 := hr.cell (i := k) (by omega)
      have c1 := hr.cell (i := j) (by omega)
      have f0 := hr.free k
      have f1 := hr.free j
      have hR := Lib.hid (((hr.set (k := k) (by omega) (F k j)).set (k := j) (by omega) (F k k)).congr (f' := F (k + 1)) (fun i hi => by rw [HF.out k hkn i hi, ← hj]))
      have hR2 := Lib.hid (((hr.set (k := j) (by omega) (F k k)).set (k := k) (by omega) (F k j)).congr (f' := F (k + 1)) (fun i hi => by
        rw [HF.out k hkn i hi, ← hj]
        by_cases e1 : i = j
        · subst e1; rw [if_pos rfl, if_neg (by omega), if_pos rfl]
        · rw [if_neg e1]
          by_cases e2 : i = k
          · rw [if_pos e2, if_pos e2]
          · rw [if_neg e2, if_neg e2, if_neg e1]))
      rw [hjz]
      have HJ := Lib.hid hjz
      generalize F k k = x at *
      generalize F k j = y at *
      have hkj : k < j := by omega
      have hjn : j < n := by omega
      clear hj hjz hkn hr
      go_wp2
      go_region
      all_goals
        go_wp2
        go_roundw
        case rel => exact ⟨k + 1, by omega, by go_num, by rw [show ((j : Int) - 1) = (n : Int) - 1 - ((k + 1 : Nat) : Int) by have := HJ.out; omega], by first | exact hR.out | exact hR2.out, by first | exact hB.trans ⟨rfl, rfl, rfl, by simp, fun i _ hi => (heap_set_other hi).trans (heap_set_other hi)⟩⟩
        case measure => simp [intOf]; omega
    · have hz := HZ.out k hkn
      have hfin := HE.out wr (hr.congr hz)
      have hi1 : ¬ ((k : Int) < (n : Int) - 1 - k) := by omega
      clear hz hr
      go_wp2
      go_end0
      exact ⟨rfl, by rw [← List.map_reverse]; exact hfin, hB.mono (by have := hB.size; omega)⟩
end Yteileadcmekkoaa
end Go.Proofs
