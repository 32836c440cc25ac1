/- Fields, outright, plainly: truths of fractions; each bound is attained by one. -/
import Derived.Test.YtgnjeefanbcbkaaD3
import Derived.Test.YtgnjeefanbcbkaaB10
open Go Go.RowKit Go.YtgnjeefanbcbkaaIt
namespace Go.Proofs
namespace Ytgnjeefanbcbkaa
/-- A truth of fractions. -/
structure TruQ (L H : Nat → Int) (n : Nat) (T : Nat → Rat) : Prop where
  conc : ∀ i j k : Nat, i < j → j < k → k < n → T3 i (T i) j (T j) k (T k)
  low : ∀ w, w < n → (L w : Rat) ≤ T w
  high : ∀ w, w < n → T w ≤ (H w : Rat)
theorem Truth.q {L H : Nat → Int} {n : Nat} {T : Nat → Int} (h : Truth L H n T) : TruQ L H n (fun w => (T w : Rat)) :=
  ⟨fun _ _ _ a b c => conc_t3r h.conc a b c, fun w hw => cast_le.2 (h.low w hw), fun w hw => cast_le.2 (h.high w hw)⟩
theorem tru_lw {L H : Nat → Int} {n : Nat} {T : Nat → Rat} (h : TruQ L H n T) {w : Nat} (hw : w < n) {v : Rat} (hv : T w ≤ v) : Lw L n w v :=
  ⟨Rat.le_trans (h.low w hw) hv, fun i k h1 h2 h3 => (h.conc i w k h1 h2 h3).mono h1 h2 (h.low i (by omega)) hv (h.low k h3)⟩
theorem tru_up {L H : Nat → Int} {n : Nat} {T : Nat → Rat} (h : TruQ L H n T) {w : Nat} (hw : w < n) : Up L H n w (T w) :=
  ⟨h.high w hw, fun i j h1 h2 _ => (h.conc i j w h1 h2 hw).mono h1 h2 (h.low i (by omega)) (h.high j (by omega)) (by grind),
   fun j k h1 h2 h3 => (h.conc w j k h1 h2 h3).mono h1 h2 (by grind) (h.high j (by omega)) (h.low k h3)⟩
theorem tru_lower {L H : Nat → Int} {n : Nat} {T : Nat → Rat} (h : TruQ L H n T) {w : Nat} (hw : w < n) : (lowerF L n w).v ≤ T w := lw_iff.1 (tru_lw h hw (by grind))
theorem tru_upper {L H : Nat → Int} {n : Nat} {T : Nat → Rat} (h : TruQ L H n T) {w : Nat} (hw : w < n) : T w ≤ (upperF L H n w).v := (up_iff hw).1 (tru_up h hw)
theorem tru_giv {L H : Nat → Int} {n : Nat} {T : Nat → Rat} (h : TruQ L H n T) {w k : Nat} (hw : w < n) (hk : k < n) {t : Fr} (ht : 0 < t.u) (htk : T k ≤ t.v) : (givF L n w k t).v ≤ T w + (t.v - T k) := by
  by_cases hne : w = k
  · subst hne
    unfold givF; rw [if_pos rfl]; grind
  · refine (givF_iff ht hne hw).1 ⟨tru_lw h hw (by grind), fun hwk i hi => ?_, fun hkw i hi hin => ?_⟩
    · have h1 := (h.conc i w k hi hwk hk).mono hi hwk (h.low i (by omega)) (show T w ≤ T w by grind) (show T k ≤ T k by grind)
      unfold T3 at *
      have p1 := sub_posN hi
      have p2 := sub_posN hwk
      have m1 : 0 * ((((k : Nat) : Int) : Rat) - ((w : Nat) : Int)) ≤ (t.v - T k) * ((((k : Nat) : Int) : Rat) - ((w : Nat) : Int)) := (le_mul p2).1 (by grind)
      grind
    · have h1 := (h.conc k w i hkw hi hin).mono hkw hi (show T k ≤ T k by grind) (show T w ≤ T w by grind) (h.low i (by omega))
      unfold T3 at *
      have p1 := sub_posN hkw
      have p2 := sub_posN hi
      have m1 : 0 * ((((w : Nat) : Int) : Rat) - ((k : Nat) : Int)) ≤ (t.v - T k) * ((((w : Nat) : Int) : Rat) - ((k : Nat) : Int)) := (le_mul p1).1 (by grind)
      grind
theorem tru_reg {L H : Nat → Int} {n : Nat} {T : Nat → Rat} (h : TruQ L H n T) {w k : Nat} (hw : w < n) (hk : k < n) : T k - T w ≤ (regF L H n w).v := by
  have h1 := ((reg_iff (L := L) (H := H) hw (v := (regF L H n w).v)).1 (by grind)).2 k hk
  have h2 := tru_giv h hw hk (upper_pos L H n k) (tru_upper h hk)
  grind
theorem under : ∀ B : List Rat, ∃ s : Rat, ∀ b ∈ B, s ≤ b
  | [] => ⟨0, fun _ h => by simp at h⟩
  | b :: B => by
    obtain ⟨s, hs⟩ := under B
    by_cases h : s ≤ b
    · exact ⟨s, fun x hx => by rcases List.mem_cons.1 hx with rfl | hx; exact h; exact hs x hx⟩
    · exact ⟨b, fun x hx => by rcases List.mem_cons.1 hx with rfl | hx; grind; have := hs x hx; grind⟩
theorem sep {B : List Rat} : ∀ {A : List Rat}, (∀ a ∈ A, ∀ b ∈ B, a ≤ b) → ∃ s : Rat, (∀ a ∈ A, a ≤ s) ∧ ∀ b ∈ B, s ≤ b
  | [], _ => by
    obtain ⟨s, hs⟩ := under B
    exact ⟨s, fun _ h => by simp at h, hs⟩
  | a :: A, h => by
    obtain ⟨s, h1, h2⟩ := sep (A := A) (fun x hx => h x (List.mem_cons_of_mem _ hx))
    by_cases hsa : a ≤ s
    · exact ⟨s, fun x hx => by rcases List.mem_cons.1 hx with rfl | hx; exact hsa; exact h1 x hx, h2⟩
    · exact ⟨a, fun x hx => by rcases List.mem_cons.1 hx with rfl | hx; grind; have := h1 x hx; grind, h a (List.mem_cons_self ..)⟩
/-- What a value owes to points around it. -/
structure LwQ (p : Nat → Rat) (n w : Nat) (v : Rat) : Prop where
  low : p w ≤ v
  mid : ∀ i k : Nat, i < w → w < k → k < n → T3 i (p i) w v k (p k)
theorem support {p : Nat → Rat} {n w : Nat} {v : Rat} (h : LwQ p n w v) : ∃ s : Rat, ∀ q : Nat, q < n → p q ≤ v + s * ((((q : Nat) : Int) : Rat) - ((w : Nat) : Int)) := by
  have ex : ∀ q : Nat, ∃ r : Rat, q ≠ w → r * ((((q : Nat) : Int) : Rat) - ((w : Nat) : Int)) = p q - v := fun q => by
    by_cases hq : q = w
    · exact ⟨0, fun h => absurd hq h⟩
    · obtain ⟨r, hr⟩ := rdiv (a := p q - v) (sub_ne (i := ((w : Nat) : Int)) (k := ((q : Nat) : Int)) (by omega))
      exact ⟨r, fun _ => hr⟩
  obtain ⟨f, hf⟩ : ∃ f : Nat → Rat, ∀ q, q ≠ w → f q * ((((q : Nat) : Int) : Rat) - ((w : Nat) : Int)) = p q - v := ⟨fun q => (ex q).choose, fun q => (ex q).choose_spec⟩
  obtain ⟨s, h1, h2⟩ := sep (A := (List.range (n - (w + 1))).map fun j => f (w + 1 + j)) (B := (List.range w).map f) (by
    intro a ha b hb
    obtain ⟨j, hj, rfl⟩ := List.mem_map.1 ha
    obtain ⟨i, hi, rfl⟩ := List.mem_map.1 hb
    have hj := List.mem_range.1 hj
    have hi := List.mem_range.1 hi
    have h3 := h.mid i (w + 1 + j) hi (by omega) (by omega)
    have e1 := hf i (by omega)
    have e2 := hf (w + 1 + j) (by omega)
    have p1 := sub_posN (i := i) (k := w) hi
    have p2 := sub_posN (i := w) (k := w + 1 + j) (by omega)
    unfold T3 at h3
    generalize ((((w + 1 + j : Nat) : Int)) : Rat) = k at *
    generalize ((((w : Nat) : Int)) : Rat) = x at *
    generalize ((((i : Nat) : Int)) : Rat) = y at *
    generalize f (w + 1 + j) = a at *
    generalize f i = b at *
    refine (le_mul (Rat.mul_pos p1 p2)).2 ?_
    have e3 : a * ((x - y) * (k - x)) = (a * (k - x)) * (x - y) := by grind
    have e4 : b * ((x - y) * (k - x)) = -((b * (y - x)) * (k - x)) := by grind
    rw [e3, e4, e1, e2]
    grind)
  refine ⟨s, fun q hq => ?_⟩
  rcases Nat.lt_trichotomy q w with hlt | rfl | hgt
  · have g := h2 _ (List.mem_map_of_mem (List.mem_range.2 hlt))
    have e := hf q (by omega)
    have p1 := sub_posN (i := q) (k := w) hlt
    have m := (le_mul p1).1 g
    grind
  · have := h.low; grind
  · have g := h1 (f q) (List.mem_map.2 ⟨q - (w + 1), List.mem_range.2 (by omega), by congr 1; omega⟩)
    have e := hf q (by omega)
    have p1 := sub_posN (i := w) (k := q) hgt
    have m := (le_mul p1).1 g
    grind
/-- The least values above points are concave. -/
theorem hull_conc {p h : Nat → Rat} {n : Nat} (hh : ∀ w, w < n → ∀ v, LwQ p n w v ↔ h w ≤ v) {i j k : Nat} (hij : i < j) (hjk : j < k) (hk : k < n) : T3 i (h i) j (h j) k (h k) := by
  obtain ⟨s, hs⟩ := support ((hh j (by omega) (h j)).2 Rat.le_refl)
  have up : ∀ q, q < n → h q ≤ h j + s * ((((q : Nat) : Int) : Rat) - ((j : Nat) : Int)) := fun q hq => (hh q hq _).1 ⟨hs q hq, fun a b h1 h2 h3 => by
    have g1 := hs a (by omega)
    have g2 := hs b h3
    have p1 := sub_posN h1
    have p2 := sub_posN h2
    have m1 := (le_mul p2).1 g1
    have m2 := (le_mul p1).1 g2
    unfold T3
    grind⟩
  have g1 := up i (by omega)
  have g2 := up k hk
  have p1 := sub_posN hij
  have p2 := sub_posN hjk
  have m1 := (le_mul p2).1 g1
  have m2 := (le_mul p1).1 g2
  unfold T3
  grind
theorem lw_q {L : Nat → Int} {n w : Nat} {v : Rat} : LwQ (fun q => (L q : Rat)) n w v ↔ (lowerF L n w).v ≤ v :=
  ⟨fun h => lw_iff.1 ⟨h.low, h.mid⟩, fun h => ⟨(lw_iff.2 h).low, (lw_iff.2 h).mid⟩⟩
theorem noB_low {L H : Nat → Int} {n : Nat} (h0 : noB L H n = true) {w : Nat} (hw : w < n) : L w ≤ H w := by
  have := noB_true.1 h0 w w w hw hw hw
  unfold hol at this
  rw [if_pos ⟨rfl, rfl⟩] at this
  simpa using this
theorem noB_mid {L H : Nat → Int} {n : Nat} (h0 : noB L H n = true) {i w k : Nat} (h1 : i < w) (h2 : w < k) (hk : k < n) : T3 i (L i) w (H w) k (L k) := by
  have := noB_true.1 h0 i w k (by omega) (by omega) hk
  unfold hol at this
  rw [if_neg (by omega), if_pos ⟨h1, h2⟩] at this
  have h := of_decide_eq_false this
  have h := cast_le.2 (Int.not_lt.1 h)
  simp only [cast_add, cast_mul, cast_sub] at h
  exact h
theorem low_tru {L H : Nat → Int} {n : Nat} (h0 : noB L H n = true) : TruQ L H n (fun w => (lowerF L n w).v) :=
  ⟨fun _ _ _ a b c => hull_conc (p := fun q => (L q : Rat)) (h := fun w => (lowerF L n w).v) (fun _ _ _ => lw_q) a b c, fun _ _ => (lw_iff.2 Rat.le_refl).low,
   fun _ hw => lw_iff.1 ⟨cast_le.2 (noB_low h0 hw), fun _ _ h1 h2 h3 => noB_mid h0 h1 h2 h3⟩⟩
theorem up_low {L H : Nat → Int} {n : Nat} (h0 : noB L H n = true) {k : Nat} (hk : k < n) : (lowerF L n k).v ≤ (upperF L H n k).v := tru_upper (low_tru h0) hk
theorem giv_q {L : Nat → Int} {n k : Nat} (hk : k < n) {t : Fr} (ht : 0 < t.u) (h1 : (lowerF L n k).v ≤ t.v) {w : Nat} (hw : w < n) {v : Rat} : LwQ (fun q => if q = k then t.v else (L q : Rat)) n w v ↔ (givF L n w k t).v ≤ v := by
  have hL := lw_iff.2 h1
  by_cases hwk : w = k
  · subst hwk
    unfold givF; rw [if_pos rfl]
    constructor
    · intro h; have := h.low; simpa using this
    · intro h
      refine ⟨by simpa using h, fun i j a b c => ?_⟩
      simp only [if_neg (show i ≠ w by omega), if_neg (show j ≠ w by omega)]
      exact (hL.mid i j a b c).mono a b Rat.le_refl h Rat.le_refl
  · rw [← givF_iff ht hwk hw]
    constructor
    · intro h
      have e := h.low
      simp only [if_neg hwk] at e
      refine ⟨⟨e, fun i j a b c => ?_⟩, fun a i b => ?_, fun a i b c => ?_⟩
      · refine (h.mid i j a b c).mono a b ?_ Rat.le_refl ?_
        · by_cases hi : i = k
          · subst hi; simp only [if_pos]; exact hL.low
          · simp only [if_neg hi]; exact Rat.le_refl
        · by_cases hi : j = k
          · subst hi; simp only [if_pos]; exact hL.low
          · simp only [if_neg hi]; exact Rat.le_refl
      · have := h.mid i k b a hk
        simpa only [if_neg (show i ≠ k by omega), if_pos] using this
      · have := h.mid k i a b c
        simpa only [if_neg (show i ≠ k by omega), if_pos] using this
    · intro h
      refine ⟨by simp only [if_neg hwk]; exact h.lw.low, fun i j a b c => ?_⟩
      by_cases hi : i = k
      · subst hi
        simp only [if_neg (show j ≠ i by omega), if_pos]
        exact h.right a j b c
      · by_cases hj : j = k
        · subst hj
          simp only [if_neg (show i ≠ j by omega), if_pos]
          exact h.left b i a
        · simp only [if_neg hi, if_neg hj]
          exact h.lw.mid i j a b c
theorem giv_tru {L H : Nat → Int} {n : Nat} (h0 : noB L H n = true) {k : Nat} (hk : k < n) {t : Fr} (ht : 0 < t.u) (h1 : (lowerF L n k).v ≤ t.v) (h2 : t.v ≤ (upperF L H n k).v) : TruQ L H n (fun w => (givF L n w k t).v) := by
  have hU := (up_iff hk).2 h2
  refine ⟨fun i j l a b c => hull_conc (p := fun q => if q = k then t.v else (L q : Rat)) (h := fun w => (givF L n w k t).v) (fun w hw v => giv_q hk ht h1 hw) a b c, fun w hw => ?_, fun w hw => (giv_q hk ht h1 hw).1 ⟨?_, fun i j a b c => ?_⟩⟩
  · have := ((giv_q hk ht h1 hw).2 (Rat.le_refl)).low
    by_cases hwk : w = k
    · subst hwk
      simp only [if_pos] at this
      exact Rat.le_trans (lw_iff.2 h1).low this
    · simpa only [if_neg hwk] using this
  · by_cases hwk : w = k
    · subst hwk; simp only [if_pos]; exact hU.high
    · simp only [if_neg hwk]; exact cast_le.2 (noB_low h0 hw)
  · by_cases hi : i = k
    · subst hi
      simp only [if_neg (show j ≠ i by omega), if_pos]
      exact hU.right w j a b c
    · by_cases hj : j = k
      · subst hj
        simp only [if_neg (show i ≠ j by omega), if_pos]
        exact hU.left i w a b (by omega)
      · simp only [if_neg hi, if_neg hj]
        exact noB_mid h0 a b c
/-- Each bound is attained. -/
theorem lower_att {L H : Nat → Int} {n : Nat} (h0 : noB L H n = true) : ∃ T, TruQ L H n T ∧ ∀ w, T w = (lowerF L n w).v := ⟨_, low_tru h0, fun _ => rfl⟩
theorem upper_att {L H : Nat → Int} {n : Nat} (h0 : noB L H n = true) {k : Nat} (hk : k < n) : ∃ T, TruQ L H n T ∧ T k = (upperF L H n k).v :=
  ⟨_, giv_tru h0 hk (upper_pos L H n k) (up_low h0 hk) Rat.le_refl, by show (givF L n k k (upperF L H n k)).v = _; unfold givF; rw [if_pos rfl]⟩
theorem reg_att {L H : Nat → Int} {n : Nat} (h0 : noB L H n = true) {w : Nat} (hw : w < n) : ∃ T k, k < n ∧ TruQ L H n T ∧ T k - T w = (regF L H n w).v := by
  rcases big_mem ((List.range n).map fun k => (upperF L H n k).minus (givF L n w k (upperF L H n k))) (whole 0) with e | e
  · refine ⟨_, w, hw, low_tru h0, ?_⟩
    show _ = (big _ _).v
    rw [e, whole_v]; grind
  · obtain ⟨k, hk, he⟩ := List.mem_map.1 e
    have hk := List.mem_range.1 hk
    refine ⟨_, k, hk, giv_tru h0 hk (upper_pos L H n k) (up_low h0 hk) Rat.le_refl, ?_⟩
    show _ = (big _ _).v
    rw [← he, minus_v (upper_pos _ _ _ _) (givF_pos (upper_pos _ _ _ _) hw)]
    show (givF L n k k (upperF L H n k)).v - _ = _
    rw [show givF L n k k (upperF L H n k) = upperF L H n k by unfold givF; rw [if_pos rfl]]
theorem top_ge (L : Nat → Int) : ∀ {k c : Nat}, k ≤ c → L k ≤ topF L c
  | k, 0, h => by have : k = 0 := by omega
                  subst this; exact Int.le_refl _
  | k, c + 1, h => by
    unfold topF
    rcases (show k ≤ c ∨ k = c + 1 by omega) with h | rfl
    · have := top_ge L h; omega
    · omega
theorem top_mem (L : Nat → Int) : ∀ c : Nat, ∃ k, k ≤ c ∧ topF L c = L k
  | 0 => ⟨0, Nat.le_refl _, rfl⟩
  | c + 1 => by
    obtain ⟨k, hk, e⟩ := top_mem L c
    unfold topF
    by_cases h : topF L c ≤ L (c + 1)
    · exact ⟨c + 1, Nat.le_refl _, by omega⟩
    · exact ⟨k, by omega, by omega⟩
theorem peak_iff {L H : Nat → Int} {n x : Nat} : peakP L H n x = true ↔ (topF L (n - 1) : Rat) ≤ (upperF L H n x).v := by
  unfold peakP
  rw [Bool.not_eq_true', Fr.lt_false (upper_pos _ _ _ _) (whole_pos _), whole_v]
/-- A week can be the peak just if some truth is greatest there. -/
theorem peak_spec {L H : Nat → Int} {n : Nat} (h0 : noB L H n = true) {x : Nat} (hx : x < n) : peakP L H n x = true ↔ ∃ T, TruQ L H n T ∧ ∀ k, k < n → T k ≤ T x := by
  rw [peak_iff]
  constructor
  · intro h
    refine ⟨_, giv_tru h0 hx (upper_pos L H n x) (up_low h0 hx) Rat.le_refl, fun k hk => ?_⟩
    show (givF L n k x (upperF L H n x)).v ≤ (givF L n x x (upperF L H n x)).v
    rw [show givF L n x x (upperF L H n x) = upperF L H n x by unfold givF; rw [if_pos rfl]]
    have hp : ∀ q, q < n → (if q = x then (upperF L H n x).v else (L q : Rat)) ≤ (upperF L H n x).v := fun q hq => by
      split
      · exact Rat.le_refl
      · exact Rat.le_trans (cast_le.2 (top_ge L (show q ≤ n - 1 by omega))) h
    refine (giv_q hx (upper_pos L H n x) (up_low h0 hx) hk).1 ⟨hp k hk, fun i j a b c => ?_⟩
    have m1 := (le_mul (sub_posN b)).1 (hp i (by omega))
    have m2 := (le_mul (sub_posN a)).1 (hp j c)
    unfold T3
    grind
  · rintro ⟨T, hT, hm⟩
    obtain ⟨t, ht, e⟩ := top_mem L (n - 1)
    rw [e]
    exact Rat.le_trans (hT.low t (by omega)) (Rat.le_trans (hm t (by omega)) (tru_upper hT hx))
/-- A truth makes the field one without a clash. -/
theorem tru_noB {L H : Nat → Int} {n : Nat} {T : Nat → Rat} (h : TruQ L H n T) : noB L H n = true := noB_true.2 fun i j k hi hj hk => by
  unfold hol
  by_cases h1 : i = j ∧ j = k
  · obtain ⟨rfl, rfl⟩ := h1
    rw [if_pos ⟨rfl, rfl⟩]
    have := cast_le.1 (Rat.le_trans (h.low i hi) (h.high i hi))
    exact decide_eq_false (by omega)
  · rw [if_neg h1]
    by_cases h2 : i < j ∧ j < k
    · rw [if_pos h2]
      have h3 := (h.conc i j k h2.1 h2.2 hk).mono h2.1 h2.2 (h.low i hi) (h.high j hj) (h.low k hk)
      unfold T3 at h3
      refine decide_eq_false (Int.not_lt.2 (cast_le.1 ?_))
      simp only [cast_add, cast_mul, cast_sub]
      exact h3
    · rw [if_neg h2]
end Ytgnjeefanbcbkaa
end Go.Proofs
