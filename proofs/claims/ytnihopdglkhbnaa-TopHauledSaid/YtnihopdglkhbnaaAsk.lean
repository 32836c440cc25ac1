/- Rounds of asks: all trains arrive. -/
import Derived.Test.YtnihopdglkhbnaaGa9
open Go Go.RowKit Go.YtnihopdglkhbnaaIt
namespace Go.Proofs
namespace Ytnihopdglkhbnaa
theorem dispT_app (L : List Int) : ∀ (a b : List Int) (us : List Tn), dispT L us (a ++ b) = ((dispT L us a).1 ++ (dispT L (dispT L us a).2 b).1, (dispT L (dispT L us a).2 b).2)
  | [], b, us => by simp [dispT]
  | m :: ms, b, us => by
    rw [List.cons_append]
    by_cases h : gdT L us m.toNat = true
    · rw [dispT_yes h, dispT_yes h, dispT_app L ms b]; simp
    · rw [dispT_no h, dispT_no h, dispT_app L ms b]; simp
theorem dispT_len (L : List Int) : ∀ (ms : List Int) (us : List Tn), (dispT L us ms).1.length = ms.length
  | [], _ => rfl
  | m :: ms, us => by
    unfold dispT
    split <;> simp [dispT_len L ms]
/-! ### Rounds of asks -/
def fromO (os : List Int) (r : Nat) : Int := if os.length = 0 then 0 else at0 os (r % os.length)
def ask1 (n : Nat) (f : Int) (i : Nat) : Int := if f % 2 = 0 then ((i : Int) + f / 2) % n else (2 * n - 1 - i + f / 2) % n
def askK (n : Nat) (f : Int) (k : Nat) : List Int := (List.range k).map (ask1 n f)
def asksN (os : List Int) (n : Nat) : Nat → List Int
  | 0 => []
  | r + 1 => asksN os n r ++ askK n (fromO os r) n
theorem askK_succ (n : Nat) (f : Int) (k : Nat) : askK n f (k + 1) = askK n f k ++ [ask1 n f k] := by simp [askK, List.range_succ]
theorem asksN_len (os : List Int) (n : Nat) : ∀ r, (asksN os n r).length = r * n
  | 0 => by simp [asksN]
  | r + 1 => by simp [asksN, asksN_len os n r, askK, Nat.add_mul]
theorem ask1_bnd {n : Nat} (f : Int) (i : Nat) (hn : 0 < n) : 0 ≤ ask1 n f i ∧ (ask1 n f i).toNat < n := by
  have h : 0 ≤ ask1 n f i ∧ ask1 n f i < n := by
    unfold ask1
    split
    · exact ⟨Int.emod_nonneg _ (by omega), Int.emod_lt_of_pos _ (by omega)⟩
    · exact ⟨Int.emod_nonneg _ (by omega), Int.emod_lt_of_pos _ (by omega)⟩
  omega
theorem askK_bnd {n : Nat} {f : Int} {k : Nat} (hk : k ≤ n) : ∀ x ∈ askK n f k, 0 ≤ x ∧ x.toNat < n := by
  intro x hx
  simp only [askK, List.mem_map, List.mem_range] at hx
  obtain ⟨i, hi, rfl⟩ := hx
  exact ask1_bnd f i (by omega)
theorem asksN_bnd {os : List Int} {n : Nat} : ∀ r, ∀ x ∈ asksN os n r, 0 ≤ x ∧ x.toNat < n
  | 0, x, hx => by simp [asksN] at hx
  | r + 1, x, hx => by
    rcases List.mem_append.1 hx with h | h
    · exact asksN_bnd r x h
    · exact askK_bnd (Nat.le_refl _) x h
theorem ask_all {n : Nat} {f : Int} {j : Nat} (hj : j < n) : (j : Int) ∈ askK n f n := by
  have hn : (0 : Int) < n := by omega
  have hjm : (j : Int) % n = j := Int.emod_eq_of_lt (by omega) (by omega)
  simp only [askK, List.mem_map, List.mem_range]
  by_cases hf : f % 2 = 0
  · have h0 : 0 ≤ ((j : Int) - f / 2) % n := Int.emod_nonneg _ (by omega)
    have h1 : ((j : Int) - f / 2) % n < n := Int.emod_lt_of_pos _ hn
    refine ⟨(((j : Int) - f / 2) % n).toNat, by omega, ?_⟩
    unfold ask1
    rw [if_pos hf, Int.toNat_of_nonneg h0, Int.emod_add_emod, Int.sub_add_cancel, hjm]
  · have h0 : 0 ≤ ((2 * n - 1 + f / 2 : Int) - j) % n := Int.emod_nonneg _ (by omega)
    have h1 : ((2 * n - 1 + f / 2 : Int) - j) % n < n := Int.emod_lt_of_pos _ hn
    refine ⟨(((2 * n - 1 + f / 2 : Int) - j) % n).toNat, by omega, ?_⟩
    unfold ask1
    rw [if_neg hf, Int.toNat_of_nonneg h0]
    have e : (2 * (n : Int) - 1 - ((2 * n - 1 + f / 2 : Int) - j) % n + f / 2) = (2 * n - 1 + f / 2) - ((2 * n - 1 + f / 2 : Int) - j) % n := by omega
    rw [e, Int.sub_emod_emod]
    have e2 : (2 * (n : Int) - 1 + f / 2) - ((2 * n - 1 + f / 2) - j) = j := by omega
    rw [e2, hjm]
/-- Round by round all trains come nearer. -/
theorem asked_left {L T : List Int} {us : List Tn} (h : Val L T us) (hs : safeT L us = true) (os : List Int) : ∀ r, leftT (dispT L us (asksN os us.length r)).2 ≤ leftT us - r
  | 0 => by simp [asksN, dispT]
  | r + 1 => by
    have ih := asked_left h hs os r
    obtain ⟨h1, h2, h3, h4⟩ := dispT_val (asksN os us.length r) us h (asksN_bnd r)
    have hb : ∀ m ∈ askK us.length (fromO os r) us.length, 0 ≤ m ∧ m.toNat < (dispT L us (asksN os us.length r)).2.length := by rw [h2]; exact askK_bnd (Nat.le_refl _)
    unfold asksN
    rw [dispT_app]
    show leftT (dispT L (dispT L us (asksN os us.length r)).2 (askK us.length (fromO os r) us.length)).2 ≤ _
    by_cases h0 : leftT (dispT L us (asksN os us.length r)).2 = 0
    · have := (dispT_val _ _ h1 hb).2.2.2
      omega
    · obtain ⟨i, hi, hg⟩ := good_some h1 (h3 hs) h0
      rw [h2] at hi
      have := dispT_less _ _ h1 hb (ask_all (f := fromO os r) hi) hg
      omega
/-- A slice of bytes. -/
def SlY (w : World) (v : Value) (os : List Int) : Prop := (∃ ad cap, v = .slice ad os.length cap ∧ os.length ≤ 9223372036854775807 ∧ (0 < os.length → ∃ b off, ad = some ⟨b, off, none⟩ ∧ b < w.heap.size ∧
  ∀ i, i < os.length → w.cell? ⟨b, off + i, none⟩ = some (.int .u8 (at0 os i)))) ∧ ∀ i, i < os.length → 0 ≤ at0 os i ∧ at0 os i < 256
theorem SlY.below {w w' : World} {v : Value} {os : List Int} {B : Nat} (h : SlY w v os) (hb : Below B w w') (hB : w.heap.size ≤ B) : SlY w' v os := by
  obtain ⟨⟨ad, cap, hv, hm, hc⟩, hx⟩ := h
  refine ⟨⟨ad, cap, hv, hm, fun h0 => ?_⟩, hx⟩
  obtain ⟨b, off, ha, hlt, hcell⟩ := hc h0
  exact ⟨b, off, ha, Nat.lt_of_lt_of_le hlt hb.size, fun i hi => (hb.cell (by simp; omega)).trans (hcell i hi)⟩
theorem slY_cell {W : World} {ad : Option Addr} {n cap : Nat} {os : List Int} (h : SlY W (.slice ad n cap) os) {k : Nat} (hk : k < os.length) : ∃ b off, ad = some ⟨b, off, none⟩ ∧ b < W.heap.size ∧ W.cell? ⟨b, off + k, none⟩ = some (.int .u8 (at0 os k)) := by
  obtain ⟨⟨ad', cap', h1, _, h3⟩, _⟩ := h
  obtain ⟨b', off', h4, h5, h6⟩ := h3 (by omega)
  injection h1 with e1 _ _
  exact ⟨b', off', e1.trans h4, h5, h6 k hk⟩
theorem fromO_bnd {W : World} {v : Value} {os : List Int} (h : SlY W v os) (r : Nat) : 0 ≤ fromO os r ∧ fromO os r < 256 := by
  unfold fromO
  split
  · omega
  · exact h.2 _ (Nat.mod_lt _ (by omega))
theorem fromO_two (os : List Int) (r : Nat) : fromO (os.map (2 * ·)) r = 2 * fromO os r := by
  unfold fromO
  rw [List.length_map]
  split
  · rfl
  · rename_i h
    have hr : r % os.length < os.length := Nat.mod_lt _ (by omega)
    rw [at0_lt (by rw [List.length_map]; exact hr), at0_lt hr]
    simp
theorem ask1_two (n : Nat) (f : Int) (i : Nat) : ask1 n (2 * f) i = ((i : Int) + f) % n := by
  unfold ask1
  rw [if_pos (by omega)]
  congr 2
  omega
theorem left30 {L T : List Int} {us : List Tn} (h : Val L T us) (h6 : L.length ≤ 7) : leftT us ≤ 30 := by
  have hv := vt_of h.1
  have : ∀ k, k ≤ us.length → leftN us k ≤ 6 * k := by
    intro k
    induction k with
    | zero => intro _; simp [leftN]
    | succ k ih =>
      intro hk
      have h1 := hv.at_ k (by omega)
      have h2 := hv.to_ k (by omega)
      have h3 := ih (by omega)
      rw [leftN_succ]
      push_cast
      omega
  have h1 := this _ (Nat.le_refl _)
  rw [leftN_leftT hv.t5] at h1
  have := hv.t5
  omega
/-- Forty rounds are enough. -/
theorem all_in {L T : List Int} {us : List Tn} (h : Val L T us) (hs : safeT L us = true) (h7 : L.length ≤ 7) (os : List Int) :
    (dispT L us (asksN (os.map (2 * ·)) us.length 40)).2.length = us.length ∧ ∀ i, i < us.length → tAt (dispT L us (asksN (os.map (2 * ·)) us.length 40)).2 i = tTo (dispT L us (asksN (os.map (2 * ·)) us.length 40)).2 i := by
  obtain ⟨h1, h2, _, _⟩ := dispT_val (asksN (os.map (2 * ·)) us.length 40) us h (asksN_bnd 40)
  have hl := asked_left h hs (os.map (2 * ·)) 40
  have h30 := left30 h h7
  have h0 : leftT (dispT L us (asksN (os.map (2 * ·)) us.length 40)).2 = 0 := by omega
  refine ⟨h2, fun i hi => ?_⟩
  have h3 := left_all (vt_of h1.1).t5
  rw [h0] at h3
  have h4 : allT (dispT L us (asksN (os.map (2 * ·)) us.length 40)).2 (dispT L us (asksN (os.map (2 * ·)) us.length 40)).2.length = true := by rw [← h3]; rfl
  rw [h2] at h4
  unfold allT at h4
  rw [List.all_eq_true] at h4
  simpa using h4 i (List.mem_range.2 hi)
/-! ### The line and the trains -/
def trK (P : List Int) (k : Nat) : List Tn := (List.range k).flatMap fun (i : Nat) => if 0 < at0 P i then [((2 + i : Int), (0 : Int))] else []
def ofK (P : List Int) (k : Nat) : List Int := (List.range k).flatMap fun (i : Nat) => if 0 < at0 P i then [(i : Int)] else []
def usK (P : List Int) (k : Nat) : List Tn := (0, 6) :: trK P k
def lnK (R : List Int) (k : Nat) : List Int := 2 :: (R.take k).map fun r => 1 + r % 2
theorem trK_succ (P : List Int) (k : Nat) : trK P (k + 1) = trK P k ++ if 0 < at0 P k then [((2 + k : Int), (0 : Int))] else [] := by
  unfold trK; rw [List.range_succ, List.flatMap_append]; simp
theorem ofK_succ (P : List Int) (k : Nat) : ofK P (k + 1) = ofK P k ++ if 0 < at0 P k then [(k : Int)] else [] := by
  unfold ofK; rw [List.range_succ, List.flatMap_append]; simp
theorem trK_len (P : List Int) : ∀ k, (trK P k).length = (ofK P k).length ∧ (trK P k).length ≤ k
  | 0 => by simp [trK, ofK]
  | k + 1 => by
    have ih := trK_len P k
    rw [trK_succ, ofK_succ, List.length_append, List.length_append]
    split <;> simp <;> omega
theorem ofK_mem {P : List Int} {k : Nat} {x : Int} (h : x ∈ ofK P k) : ∃ i : Nat, i < k ∧ x = i ∧ 0 < at0 P i := by
  unfold ofK at h
  obtain ⟨i, hi, hx⟩ := List.mem_flatMap.1 h
  split at hx
  · rename_i hp
    simp at hx
    exact ⟨i, List.mem_range.1 hi, hx, hp⟩
  · simp at hx
theorem ofK_sum (P : List Int) (f : Nat → Int) (hf : ∀ i, ¬ 0 < at0 P i → f i = 0) : ∀ k, ((ofK P k).map fun x => f x.toNat).sum = ((List.range k).map f).sum
  | 0 => by simp [ofK]
  | k + 1 => by
    rw [ofK_succ, List.range_succ, List.map_append, List.map_append, List.sum_append, List.sum_append, ofK_sum P f hf k]
    congr 1
    split
    · simp
    · rename_i h; simp [hf k h]
def lnB (c1 c2 c3 c4 c5 c6 : Bool) : List Int := [2, if c1 then 2 else 1, if c2 then 2 else 1, if c3 then 2 else 1, if c4 then 2 else 1, if c5 then 2 else 1, if c6 then 2 else 1]
def trB (b0 b1 b2 b3 : Bool) : List Tn := (0, 6) :: ((if b0 then [(2, 0)] else []) ++ (if b1 then [(3, 0)] else []) ++ (if b2 then [(4, 0)] else []) ++ if b3 then [(5, 0)] else [])
set_option maxRecDepth 100000 in
theorem line_dec : ∀ c1 c2 c3 c4 c5 c6 b0 b1 b2 b3 : Bool, lineE (lnB c1 c2 c3 c4 c5 c6) (trB b0 b1 b2 b3) = 0 := by decide +kernel
theorem one_two (r : Int) : 1 + r % 2 = if decide (r % 2 = 1) then 2 else 1 := by
  have := Int.emod_nonneg r (show (2 : Int) ≠ 0 by omega)
  have := Int.emod_lt_of_pos r (show (0 : Int) < 2 by omega)
  by_cases h : r % 2 = 1
  · simp [h]
  · have : r % 2 = 0 := by omega
    simp [this]
theorem us_bits (P : List Int) {n : Nat} (hn : n ≤ 4) : ∃ b0 b1 b2 b3, usK P n = trB b0 b1 b2 b3 := by
  refine ⟨decide (0 < n ∧ 0 < at0 P 0), decide (1 < n ∧ 0 < at0 P 1), decide (2 < n ∧ 0 < at0 P 2), decide (3 < n ∧ 0 < at0 P 3), ?_⟩
  rcases (show n = 0 ∨ n = 1 ∨ n = 2 ∨ n = 3 ∨ n = 4 by omega) with rfl | rfl | rfl | rfl | rfl <;> simp [usK, trK, trB, List.range_succ]
theorem val_us (r1 r2 r3 r4 r5 r6 : Int) (P : List Int) {n : Nat} (hn : n ≤ 4) : Val (lnK [r1, r2, r3, r4, r5, r6] 6) (tos (usK P n)) (usK P n) := by
  refine ⟨?_, rfl⟩
  obtain ⟨b0, b1, b2, b3, h⟩ := us_bits P hn
  rw [h]
  have e : lnK [r1, r2, r3, r4, r5, r6] 6 = lnB (decide (r1 % 2 = 1)) (decide (r2 % 2 = 1)) (decide (r3 % 2 = 1)) (decide (r4 % 2 = 1)) (decide (r5 % 2 = 1)) (decide (r6 % 2 = 1)) := by
    simp only [lnK, lnB, List.take_succ_cons, List.take_zero, List.map_cons, List.map_nil, one_two]
  rw [e]
  exact line_dec _ _ _ _ _ _ _ _ _ _
end Ytnihopdglkhbnaa
end Go.Proofs
