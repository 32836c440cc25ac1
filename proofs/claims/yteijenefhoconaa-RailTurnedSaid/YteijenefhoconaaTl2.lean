/- The trains of the turned line, filled in one after the other. -/
import Derived.Test.YteijenefhoconaaTurnP
open Go Go.RowKit Go.YteijenefhoconaaIt
namespace Go.Proofs
namespace Yteijenefhoconaa
theorem flat_set2 {us : List Tn} {x y : Int} : ∀ {k : Nat}, k < us.length → flat (us.set k (x, y)) = ((flat us).set (k * 2) (.int .i64 x)).set (k * 2 + 1) (.int .i64 y) := by
  induction us with
  | nil => intro k hk; simp at hk
  | cons z us ih =>
    intro k hk
    cases k with
    | zero => simp [flat]
    | succ k =>
      have h := ih (k := k) (by simpa using hk)
      have e1 : (k + 1) * 2 = (k * 2 + 1) + 1 := by omega
      have e2 : (k + 1) * 2 + 1 = (k * 2 + 1 + 1) + 1 := by omega
      rw [e2, e1]
      simp only [flat, List.set_cons_succ, List.flatMap_cons, List.cons_append, List.nil_append] at h ⊢
      rw [h]
def fillT (l r : Nat) (us : List Tn) : Nat → List Tn
  | 0 => List.replicate us.length (0, 0)
  | k + 1 => (fillT l r us k).set (sg r us.length k) ((l : Int) - 1 - tAt us k, (l : Int) - 1 - tTo us k)
theorem fillT_len {l r : Nat} {us : List Tn} : ∀ k, (fillT l r us k).length = us.length
  | 0 => by simp [fillT]
  | k + 1 => by simp [fillT, fillT_len k]
theorem fillT_at {l r : Nat} {us : List Tn} (hr : r < us.length) : ∀ k, k ≤ us.length → ∀ i, i < k → (fillT l r us k)[sg r us.length i]? = some ((l : Int) - 1 - tAt us i, (l : Int) - 1 - tTo us i)
  | 0, _, i, hi => by omega
  | k + 1, hk, i, hi => by
    unfold fillT
    rw [List.getElem?_set]
    by_cases hik : i = k
    · subst hik
      rw [if_pos rfl, if_pos (by rw [fillT_len]; exact sg_lt (by omega))]
    · rw [if_neg (fun e => hik (sg_inj hr (by omega) (by omega) e).symm)]
      exact fillT_at hr k (by omega) i (by omega)
theorem fillT_all {l r : Nat} {us : List Tn} (hr : r < us.length) : fillT l r us us.length = turnT l r us := by
  refine tn_ext (by rw [fillT_len, turnT_len]) fun j hj => ?_
  rw [fillT_len] at hj
  obtain ⟨i, hi, rfl⟩ := sg_onto hr hj
  have h := fillT_at (l := l) hr us.length (Nat.le_refl _) i hi
  have h2 := turn_at (l := l) hr hi
  rw [(tn_get _ _).1, (tn_get _ _).2, h, h2.1, h2.2]
  exact ⟨rfl, rfl⟩
theorem made_flat (n : Nat) : (madeCells (Value.agg #[.int .i64 0, .int .i64 0]).cells (n * 2)).toList = flat (List.replicate n (0, 0)) := by
  apply List.ext_getElem?
  intro i
  have hl : (flat (List.replicate n ((0, 0) : Tn))).length = n * 2 := by rw [flat_len]; simp
  by_cases hi : i < n * 2
  · have e : (flat (List.replicate n ((0, 0) : Tn)))[i]? = some (.int .i64 0) := by
      have hk : i / 2 < (List.replicate n ((0, 0) : Tn)).length := by simp; omega
      have f := flat_at (List.replicate n ((0, 0) : Tn)) (i / 2) hk
      have ha : tAt (List.replicate n ((0, 0) : Tn)) (i / 2) = 0 := by rw [tAt_lt hk]; simp
      have ht : tTo (List.replicate n ((0, 0) : Tn)) (i / 2) = 0 := by rw [tTo_lt hk]; simp
      rw [ha, ht] at f
      rcases Nat.mod_two_eq_zero_or_one i with h | h
      · rw [show i = i / 2 * 2 by omega]; exact f.1
      · rw [show i = i / 2 * 2 + 1 by omega]; exact f.2
    rw [e]
    have h2 : i % 2 = 0 ∨ i % 2 = 1 := by omega
    simp [madeCells, Value.cells, hi]
    rcases h2 with h | h <;> simp [h]
  · rw [List.getElem?_eq_none (by simp [madeCells]; omega), List.getElem?_eq_none (by rw [hl]; omega)]
/-- Where a train goes. -/
theorem to_any (x1 n : Int) (i p9 p3 : Nat) (w : World) (hn : 0 < n ∧ n ≤ 4) (hx : 0 ≤ x1 ∧ x1 < 256) (hi : i ≤ 4) (c3 : w.heap[p3]? = some (.cells #[.int .u8 x1] 5 (0, 0))) (c9 : w.heap[p9]? = some (.cells #[.int .i64 n] 3 (0, 0))) :
    Calls Try.prog 38 #[.int .i64 i, .pointer (some ⟨p3, 0, none⟩), .pointer (some ⟨p9, 0, none⟩)] w fun e w' => e = .returned (.int .i64 (sg (x1 % n).toNat n.toNat i : Nat)) ∧ w = w' := by
  have k3 := cell_blk (i := 0) c3
  have k9 := cell_blk (i := 0) c9
  simp only [List.getElem?_toArray, List.getElem?_cons_zero] at k3 k9
  have hv : ((i : Int) + x1) % n = (sg (x1 % n).toNat n.toNat i : Nat) := by
    unfold sg
    have h0 := Int.emod_nonneg x1 (show n ≠ 0 by omega)
    push_cast
    rw [Int.toNat_of_nonneg h0, Int.toNat_of_nonneg (by omega), Int.add_emod_emod]
  have HV := Lib.hid hv
  clear hv c3 c9
  have hnn : ¬ n = 0 := by omega
  go_enter Try.func38, Try.ntmps38
  go_wp2
  go_ret
  exact ⟨by rw [← HV.out]; rfl, rfl⟩
end Yteijenefhoconaa
end Go.Proofs
