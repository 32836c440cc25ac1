/- Fields: fractions, lows and highs, the least and the greatest sweetness of a week, regrets: plain. -/
namespace Go.Proofs
namespace Ytgnjeefanbcbkaa
/-- A fraction; u is above 0. -/
structure Fr where
  o : Int
  u : Int
def Fr.v (x : Fr) : Rat := (x.o : Rat) / (x.u : Rat)
theorem cpos {d : Int} (h : 0 < d) : (0 : Rat) < (d : Rat) := by exact_mod_cast h
theorem cast_sub (a b : Int) : ((a - b : Int) : Rat) = (a : Rat) - (b : Rat) := by exact_mod_cast rfl
theorem cast_mul (a b : Int) : ((a * b : Int) : Rat) = (a : Rat) * (b : Rat) := by exact_mod_cast rfl
theorem cast_add (a b : Int) : ((a + b : Int) : Rat) = (a : Rat) + (b : Rat) := by exact_mod_cast rfl
theorem cast_neg (a : Int) : ((-a : Int) : Rat) = -(a : Rat) := by exact_mod_cast rfl
theorem cast_le {a b : Int} : (a : Rat) ≤ (b : Rat) ↔ a ≤ b := by exact_mod_cast Iff.rfl
theorem cast_lt {a b : Int} : (a : Rat) < (b : Rat) ↔ a < b := by exact_mod_cast Iff.rfl
theorem cast_eq {a b : Int} : (a : Rat) = (b : Rat) ↔ a = b := by exact_mod_cast Iff.rfl
theorem Fr.mul {x : Fr} (h : 0 < x.u) : x.v * (x.u : Rat) = (x.o : Rat) := by
  have := cpos h
  unfold Fr.v
  rw [Rat.div_mul_cancel (by grind)]
theorem Fr.val {x : Fr} (h : 0 < x.u) {r : Rat} (e : r * (x.u : Rat) = (x.o : Rat)) : x.v = r := by
  have h1 := cpos h
  have h2 := x.mul h
  rw [← h2] at e
  have : (r - x.v) * (x.u : Rat) = 0 := by grind
  rcases Rat.mul_eq_zero.1 this with q | q <;> grind
/-- x is less than y. -/
def Fr.lt (x y : Fr) : Bool := decide (x.o * y.u < y.o * x.u)
theorem Fr.lt_iff {x y : Fr} (hx : 0 < x.u) (hy : 0 < y.u) : x.o * y.u < y.o * x.u ↔ x.v < y.v := by
  have h1 := cpos hx
  have h2 := cpos hy
  have e1 := x.mul hx
  have e2 := y.mul hy
  have e3 : ((x.o * y.u : Int) : Rat) = x.v * ((x.u : Rat) * (y.u : Rat)) := by rw [cast_mul, ← e1]; grind
  have e4 : ((y.o * x.u : Int) : Rat) = y.v * ((x.u : Rat) * (y.u : Rat)) := by rw [cast_mul, ← e2]; grind
  rw [← cast_lt, e3, e4]
  exact Rat.mul_lt_mul_right (Rat.mul_pos h1 h2)
theorem Fr.lt_true {x y : Fr} (hx : 0 < x.u) (hy : 0 < y.u) : x.lt y = true ↔ x.v < y.v := by unfold Fr.lt; rw [decide_eq_true_iff]; exact Fr.lt_iff hx hy
theorem Fr.lt_false {x y : Fr} (hx : 0 < x.u) (hy : 0 < y.u) : x.lt y = false ↔ y.v ≤ x.v := by
  have := Fr.lt_true hx hy
  rw [← Rat.not_lt, ← this]; simp
/-- The greater one, the lesser one: the first one if they are equal. -/
def most (a b : Fr) : Fr := if a.lt b then b else a
def least (a b : Fr) : Fr := if b.lt a then b else a
def whole (n : Int) : Fr := ⟨n, 1⟩
theorem whole_v (n : Int) : (whole n).v = (n : Rat) := Fr.val (show (0 : Int) < 1 by decide) (by simp [whole])
def Fr.minus (a b : Fr) : Fr := ⟨a.o * b.u - b.o * a.u, a.u * b.u⟩
theorem minus_pos {a b : Fr} (ha : 0 < a.u) (hb : 0 < b.u) : 0 < (a.minus b).u := Int.mul_pos ha hb
theorem minus_v {a b : Fr} (ha : 0 < a.u) (hb : 0 < b.u) : (a.minus b).v = a.v - b.v := by
  have e1 := a.mul ha
  have e2 := b.mul hb
  refine Fr.val (minus_pos ha hb) ?_
  simp only [Fr.minus, cast_mul, cast_sub, ← e1, ← e2]
  grind
/-- Rounded down, and up. -/
def Fr.floor (x : Fr) : Int := x.o / x.u
def Fr.ceil (x : Fr) : Int := -((-x.o) / x.u)
theorem le_floor {x : Fr} (h : 0 < x.u) (k : Int) : k ≤ x.floor ↔ (k : Rat) ≤ x.v := by
  unfold Fr.floor
  rw [Int.le_ediv_iff_mul_le h, ← cast_le, cast_mul, ← x.mul h]
  exact ⟨fun q => Rat.le_of_mul_le_mul_right q (cpos h), fun q => Rat.mul_le_mul_of_nonneg_right q (Rat.le_of_lt (cpos h))⟩
theorem ceil_le {x : Fr} (h : 0 < x.u) (k : Int) : x.ceil ≤ k ↔ x.v ≤ (k : Rat) := by
  unfold Fr.ceil
  have : -((-x.o) / x.u) ≤ k ↔ -k ≤ (-x.o) / x.u := by omega
  rw [this, Int.le_ediv_iff_mul_le h, ← cast_le, cast_mul, cast_neg, cast_neg, ← x.mul h]
  constructor
  · intro q
    exact Rat.le_of_mul_le_mul_right (by grind) (cpos h)
  · intro q
    have := Rat.mul_le_mul_of_nonneg_right q (Rat.le_of_lt (cpos h))
    grind
/-- The straight line through two points, at w: the program's, and the reference's. -/
def nrm (o u : Int) : Fr := if u < 0 then ⟨-o, -u⟩ else ⟨o, u⟩
def lineF (i : Int) (a : Fr) (k : Int) (b : Fr) (w : Int) : Fr :=
  nrm (a.o * (b.u * a.u) * (k - i) + (b.o * a.u - a.o * b.u) * a.u * (w - i)) (a.u * (b.u * a.u) * (k - i))
def lineR (i : Int) (a : Fr) (k : Int) (b : Fr) (w : Int) : Fr :=
  nrm (a.o * b.u * (k - i) + (b.o * a.u - a.o * b.u) * (w - i)) ((k - i) * (a.u * b.u))
theorem nrm_pos {o u : Int} (h : u ≠ 0) : 0 < (nrm o u).u := by unfold nrm; split <;> simp <;> omega
theorem nrm_mul {o u : Int} {r : Rat} (e : r * (u : Rat) = (o : Rat)) : r * ((nrm o u).u : Rat) = ((nrm o u).o : Rat) := by
  unfold nrm; split <;> simp only [cast_neg] <;> grind
theorem line_same (i : Int) (a : Int) (k : Int) (b : Int) (w : Int) : lineF i (whole a) k (whole b) w = lineR i (whole a) k (whole b) w := by
  simp [lineF, lineR, whole]
/-- b is on or above the line from a to c. -/
def T3 (i : Int) (a : Rat) (j : Int) (b : Rat) (k : Int) (c : Rat) : Prop := a * ((k : Rat) - j) + c * ((j : Rat) - i) ≤ b * ((k : Rat) - i)
/-- The value of the line. -/
def OnL (i : Int) (a : Rat) (k : Int) (b : Rat) (w : Int) (v : Rat) : Prop := v * ((k : Rat) - i) = a * ((k : Rat) - w) + b * ((w : Rat) - i)
theorem mul_ne {a b : Int} (ha : a ≠ 0) (hb : b ≠ 0) : a * b ≠ 0 := by
  intro h; rcases Int.mul_eq_zero.1 h with h | h <;> contradiction
theorem lineF_pos {i k : Int} {a b : Fr} (w : Int) (h : i ≠ k) (ha : 0 < a.u) (hb : 0 < b.u) : 0 < (lineF i a k b w).u := nrm_pos (mul_ne (mul_ne (by omega) (mul_ne (by omega) (by omega))) (by omega))
theorem lineR_pos {i k : Int} {a b : Fr} (w : Int) (h : i ≠ k) (ha : 0 < a.u) (hb : 0 < b.u) : 0 < (lineR i a k b w).u := nrm_pos (mul_ne (by omega) (mul_ne (by omega) (by omega)))
theorem sub_ne {i k : Int} (h : i ≠ k) : (k : Rat) - i ≠ 0 := by
  intro e
  apply h
  apply cast_eq.1
  grind
theorem rdiv {a d : Rat} (h : d ≠ 0) : ∃ r : Rat, r * d = a := ⟨a / d, Rat.div_mul_cancel h⟩
theorem rcancel {a b d : Rat} (h : d ≠ 0) (e : a * d = b * d) : a = b := by
  have : (a - b) * d = 0 := by grind
  rcases Rat.mul_eq_zero.1 this with q | q
  · grind
  · contradiction
theorem lineF_on {i k : Int} {a b : Fr} (w : Int) (h : i ≠ k) (ha : 0 < a.u) (hb : 0 < b.u) : OnL i a.v k b.v w (lineF i a k b w).v := by
  obtain ⟨r, hr⟩ := rdiv (a := a.v * ((k : Rat) - w) + b.v * ((w : Rat) - i)) (sub_ne h)
  have e1 := a.mul ha
  have e2 := b.mul hb
  have : (lineF i a k b w).v = r := by
    refine Fr.val (lineF_pos w h ha hb) (nrm_mul ?_)
    simp only [cast_mul, cast_sub, cast_add, ← e1, ← e2]
    have : r * ((a.u : Rat) * ((b.u : Rat) * a.u) * ((k : Rat) - i)) = (r * ((k : Rat) - i)) * ((a.u : Rat) * ((b.u : Rat) * a.u)) := by grind
    rw [this, hr]
    grind
  rw [this]; exact hr
theorem lineR_on {i k : Int} {a b : Fr} (w : Int) (h : i ≠ k) (ha : 0 < a.u) (hb : 0 < b.u) : OnL i a.v k b.v w (lineR i a k b w).v := by
  obtain ⟨r, hr⟩ := rdiv (a := a.v * ((k : Rat) - w) + b.v * ((w : Rat) - i)) (sub_ne h)
  have e1 := a.mul ha
  have e2 := b.mul hb
  have : (lineR i a k b w).v = r := by
    refine Fr.val (lineR_pos w h ha hb) (nrm_mul ?_)
    simp only [cast_mul, cast_sub, cast_add, ← e1, ← e2]
    have : r * (((k : Rat) - i) * ((a.u : Rat) * (b.u : Rat))) = (r * ((k : Rat) - i)) * ((a.u : Rat) * (b.u : Rat)) := by grind
    rw [this, hr]
    grind
  rw [this]; exact hr
theorem le_mul {a b d : Rat} (h : 0 < d) : a ≤ b ↔ a * d ≤ b * d :=
  ⟨fun q => Rat.mul_le_mul_of_nonneg_right q (Rat.le_of_lt h), fun q => Rat.le_of_mul_le_mul_right q h⟩
theorem sub_pos {i k : Int} (h : i < k) : (0 : Rat) < (k : Rat) - i := by have := cast_lt.2 h; grind
theorem sub_posN {i k : Nat} (h : i < k) : (0 : Rat) < (((k : Nat) : Int) : Rat) - ((i : Nat) : Int) := sub_pos (by omega)
/-- The greatest one, the least one. -/
def big (l : List Fr) (x : Fr) : Fr := l.foldl most x
def small (l : List Fr) (x : Fr) : Fr := l.foldl least x
theorem big_app (l : List Fr) (x y : Fr) : big (l ++ [y]) x = most (big l x) y := by simp [big]
theorem small_app (l : List Fr) (x y : Fr) : small (l ++ [y]) x = least (small l x) y := by simp [small]
theorem big_mem (l : List Fr) (x : Fr) : big l x = x ∨ big l x ∈ l := by
  induction l generalizing x with
  | nil => exact .inl rfl
  | cons y l ih =>
    show big l (most x y) = x ∨ big l (most x y) ∈ y :: l
    rcases ih (most x y) with h | h
    · rw [h]; unfold most; split
      · exact .inr (List.mem_cons_self ..)
      · exact .inl rfl
    · exact .inr (List.mem_cons_of_mem _ h)
theorem small_mem (l : List Fr) (x : Fr) : small l x = x ∨ small l x ∈ l := by
  induction l generalizing x with
  | nil => exact .inl rfl
  | cons y l ih =>
    show small l (least x y) = x ∨ small l (least x y) ∈ y :: l
    rcases ih (least x y) with h | h
    · rw [h]; unfold least; split
      · exact .inr (List.mem_cons_self ..)
      · exact .inl rfl
    · exact .inr (List.mem_cons_of_mem _ h)
theorem big_all {P : Fr → Prop} {l : List Fr} {x : Fr} (hx : P x) (h : ∀ y ∈ l, P y) : P (big l x) := by
  rcases big_mem l x with e | e
  · rw [e]; exact hx
  · exact h _ e
theorem small_all {P : Fr → Prop} {l : List Fr} {x : Fr} (hx : P x) (h : ∀ y ∈ l, P y) : P (small l x) := by
  rcases small_mem l x with e | e
  · rw [e]; exact hx
  · exact h _ e
theorem most_ge {a b : Fr} (ha : 0 < a.u) (hb : 0 < b.u) : a.v ≤ (most a b).v ∧ b.v ≤ (most a b).v ∧ 0 < (most a b).u := by
  unfold most
  cases h : a.lt b
  · have := (Fr.lt_false ha hb).1 h
    simp; exact ⟨this, ha⟩
  · have := (Fr.lt_true ha hb).1 h
    simp; exact ⟨Rat.le_of_lt this, hb⟩
theorem least_le {a b : Fr} (ha : 0 < a.u) (hb : 0 < b.u) : (least a b).v ≤ a.v ∧ (least a b).v ≤ b.v ∧ 0 < (least a b).u := by
  unfold least
  cases h : b.lt a
  · have := (Fr.lt_false hb ha).1 h
    simp; exact ⟨this, ha⟩
  · have := (Fr.lt_true hb ha).1 h
    simp; exact ⟨Rat.le_of_lt this, hb⟩
theorem big_ge {l : List Fr} {x : Fr} (hx : 0 < x.u) (h : ∀ y ∈ l, 0 < y.u) : x.v ≤ (big l x).v ∧ ∀ y ∈ l, y.v ≤ (big l x).v := by
  induction l generalizing x with
  | nil => exact ⟨Rat.le_refl, fun y hy => by cases hy⟩
  | cons z l ih =>
    have hz := h z (List.mem_cons_self ..)
    have hm := most_ge hx hz
    obtain ⟨h1, h2⟩ := ih (x := most x z) hm.2.2 (fun y hy => h y (List.mem_cons_of_mem _ hy))
    refine ⟨Rat.le_trans hm.1 h1, fun y hy => ?_⟩
    rcases List.mem_cons.1 hy with rfl | hy
    · exact Rat.le_trans hm.2.1 h1
    · exact h2 y hy
theorem small_le {l : List Fr} {x : Fr} (hx : 0 < x.u) (h : ∀ y ∈ l, 0 < y.u) : (small l x).v ≤ x.v ∧ ∀ y ∈ l, (small l x).v ≤ y.v := by
  induction l generalizing x with
  | nil => exact ⟨Rat.le_refl, fun y hy => by cases hy⟩
  | cons z l ih =>
    have hz := h z (List.mem_cons_self ..)
    have hm := least_le hx hz
    obtain ⟨h1, h2⟩ := ih (x := least x z) hm.2.2 (fun y hy => h y (List.mem_cons_of_mem _ hy))
    refine ⟨Rat.le_trans h1 hm.1, fun y hy => ?_⟩
    rcases List.mem_cons.1 hy with rfl | hy
    · exact Rat.le_trans h1 hm.2.1
    · exact h2 y hy
theorem whole_pos (n : Int) : 0 < (whole n).u := by show (0 : Int) < 1; decide
/-- The lines through two lows around a week. -/
def lowT (L : Nat → Int) (w i k : Nat) : Fr := lineF i (whole (L i)) k (whole (L k)) w
def lowRow (L : Nat → Int) (n w i : Nat) : List Fr := (List.range (n - (w + 1))).map fun j => lowT L w i (w + 1 + j)
def linesL (L : Nat → Int) (n w : Nat) : List Fr := (List.range w).flatMap (lowRow L n w)
def lowerF (L : Nat → Int) (n w : Nat) : Fr := big (linesL L n w) (whole (L w))
/-- The lines from a low through a high between. -/
def upT (L H : Nat → Int) (w i j : Nat) : Fr := lineF i (whole (L i)) j (whole (H j)) w
def upRow (L H : Nat → Int) (w i : Nat) : List Fr := (List.range (max i w - (min i w + 1))).map fun j => upT L H w i (min i w + 1 + j)
def linesU (L H : Nat → Int) (n w : Nat) : List Fr := (List.range n).flatMap (upRow L H w)
def upperF (L H : Nat → Int) (n w : Nat) : Fr := small (linesU L H n w) (whole (H w))
/-- The least sweetness if that of another week is known. -/
def rngF (n w k : Nat) : List Nat := if w > k then (List.range (n - w)).map (w + ·) else List.range (w + 1)
def givF (L : Nat → Int) (n w k : Nat) (t : Fr) : Fr := if w = k then t else big ((rngF n w k).map fun i : Nat => lineF k t i (whole (L i)) w) (lowerF L n w)
def rngR (n w k : Nat) : List Nat := (List.range n).filter fun i => decide (i ≤ w) && decide (w < k) || decide (i ≥ w) && decide (w > k)
def givR (L : Nat → Int) (n w k : Nat) (t : Fr) : Fr := if w = k then t else big ((rngR n w k).map fun i : Nat => lineR i (whole (L i)) k t w) (lowerF L n w)
def regF (L H : Nat → Int) (n w : Nat) : Fr := big ((List.range n).map fun k => (upperF L H n k).minus (givF L n w k (upperF L H n k))) (whole 0)
def regR (L H : Nat → Int) (n w : Nat) : Fr := big ((List.range n).map fun k => (upperF L H n k).minus (givR L n w k (upperF L H n k))) (whole 0)
theorem mem_lines {L : Nat → Int} {n w : Nat} {x : Fr} : x ∈ linesL L n w ↔ ∃ i k, i < w ∧ w < k ∧ k < n ∧ x = lowT L w i k := by
  simp only [linesL, lowRow, List.mem_flatMap, List.mem_map, List.mem_range]
  constructor
  · rintro ⟨i, hi, j, hj, rfl⟩; exact ⟨i, w + 1 + j, hi, by omega, by omega, rfl⟩
  · rintro ⟨i, k, hi, hk, hn, rfl⟩; exact ⟨i, hi, k - (w + 1), by omega, by congr 1; omega⟩
theorem mem_linesU {L H : Nat → Int} {n w : Nat} {x : Fr} : x ∈ linesU L H n w ↔ ∃ i j, i < n ∧ (i < j ∧ j < w ∨ w < j ∧ j < i) ∧ x = upT L H w i j := by
  simp only [linesU, upRow, List.mem_flatMap, List.mem_map, List.mem_range]
  constructor
  · rintro ⟨i, hi, j, hj, rfl⟩; exact ⟨i, min i w + 1 + j, hi, by omega, rfl⟩
  · rintro ⟨i, j, hi, hj, rfl⟩; exact ⟨i, hi, j - (min i w + 1), by omega, by congr 1; omega⟩
theorem low_pos {L : Nat → Int} {w i k : Nat} (h : i < k) : 0 < (lowT L w i k).u := lineF_pos _ (by omega) (whole_pos _) (whole_pos _)
theorem up_pos {L H : Nat → Int} {w i j : Nat} (h : i ≠ j) : 0 < (upT L H w i j).u := lineF_pos _ (by omega) (whole_pos _) (whole_pos _)
theorem lines_pos {L : Nat → Int} {n w : Nat} : ∀ y ∈ linesL L n w, 0 < y.u := by
  intro y hy
  obtain ⟨i, k, h1, h2, -, rfl⟩ := mem_lines.1 hy
  exact low_pos (by omega)
theorem linesU_pos {L H : Nat → Int} {n w : Nat} : ∀ y ∈ linesU L H n w, 0 < y.u := by
  intro y hy
  obtain ⟨i, k, h1, h2, rfl⟩ := mem_linesU.1 hy
  exact up_pos (by omega)
theorem lower_pos (L : Nat → Int) (n w : Nat) : 0 < (lowerF L n w).u := big_all (P := fun x => 0 < x.u) (whole_pos _) lines_pos
theorem upper_pos (L H : Nat → Int) (n w : Nat) : 0 < (upperF L H n w).u := small_all (P := fun x => 0 < x.u) (whole_pos _) linesU_pos
/-- What a week's sweetness owes: to lows around it; to highs and lows beyond; to that of another week. -/
structure Lw (L : Nat → Int) (n w : Nat) (v : Rat) : Prop where
  low : (L w : Rat) ≤ v
  mid : ∀ i k : Nat, i < w → w < k → k < n → T3 i (L i) w v k (L k)
structure Up (L H : Nat → Int) (n w : Nat) (v : Rat) : Prop where
  high : v ≤ (H w : Rat)
  left : ∀ i j : Nat, i < j → j < w → i < n → T3 i (L i) j (H j) w v
  right : ∀ j k : Nat, w < j → j < k → k < n → T3 w v j (H j) k (L k)
structure Gv (L : Nat → Int) (n w k : Nat) (t v : Rat) : Prop where
  lw : Lw L n w v
  left : w < k → ∀ i : Nat, i < w → T3 i (L i) w v k t
  right : k < w → ∀ i : Nat, w < i → i < n → T3 k t w v i (L i)
theorem t3_mid {i w k : Int} {a b v v' : Rat} (h1 : i < w) (h2 : w < k) (h : OnL i a k b w v) : T3 i a w v' k b ↔ v ≤ v' := by
  unfold OnL at h; unfold T3
  have := sub_pos (show i < k by omega)
  rw [le_mul (a := v) this, h]
theorem t3_left {i j w : Int} {a b v v' : Rat} (h1 : i < j) (_ : j < w) (h : OnL i a j b w v) : T3 i a j b w v' ↔ v' ≤ v := by
  unfold OnL at h; unfold T3
  rw [le_mul (a := v') (sub_pos h1), h]
  constructor <;> intro q <;> grind
theorem t3_right {w j k : Int} {a b v v' : Rat} (_ : w < j) (h2 : j < k) (h : OnL k a j b w v) : T3 w v' j b k a ↔ v' ≤ v := by
  unfold OnL at h; unfold T3
  rw [le_mul (a := v') (sub_pos h2)]
  constructor <;> intro q <;> grind
theorem OnL.symm {i k w : Int} {a b v : Rat} (h : OnL i a k b w v) : OnL k b i a w v := by unfold OnL at *; grind
theorem low_on {L : Nat → Int} {w i k : Nat} (h : i < k) : OnL i (L i) k (L k) w (lowT L w i k).v := by
  have := lineF_on (i := i) (k := k) (a := whole (L i)) (b := whole (L k)) w (by omega) (whole_pos _) (whole_pos _)
  rwa [whole_v, whole_v] at this
theorem up_on {L H : Nat → Int} {w i j : Nat} (h : i ≠ j) : OnL i (L i) j (H j) w (upT L H w i j).v := by
  have := lineF_on (i := i) (k := j) (a := whole (L i)) (b := whole (H j)) w (by omega) (whole_pos _) (whole_pos _)
  rwa [whole_v, whole_v] at this
theorem lw_iff {L : Nat → Int} {n w : Nat} {v : Rat} : Lw L n w v ↔ (lowerF L n w).v ≤ v := by
  have hg := big_ge (x := whole (L w)) (whole_pos _) (lines_pos (L := L) (n := n) (w := w))
  constructor
  · intro h
    rcases big_mem (linesL L n w) (whole (L w)) with e | e
    · show (big _ _).v ≤ v
      rw [e, whole_v]; exact h.low
    · obtain ⟨i, k, h1, h2, h3, he⟩ := mem_lines.1 e
      show (big _ _).v ≤ v
      rw [he]
      exact (t3_mid (by omega) (by omega) (low_on (by omega))).1 (h.mid i k h1 h2 h3)
  · intro h
    refine ⟨Rat.le_trans (by rw [← whole_v]; exact hg.1) h, fun i k h1 h2 h3 => ?_⟩
    exact (t3_mid (by omega) (by omega) (low_on (by omega))).2 (Rat.le_trans (hg.2 _ (mem_lines.2 ⟨i, k, h1, h2, h3, rfl⟩)) h)
theorem up_iff {L H : Nat → Int} {n w : Nat} {v : Rat} (_ : w < n) : Up L H n w v ↔ v ≤ (upperF L H n w).v := by
  have hg := small_le (x := whole (H w)) (whole_pos _) (linesU_pos (L := L) (H := H) (n := n) (w := w))
  constructor
  · intro h
    show v ≤ (small _ _).v
    rcases small_mem (linesU L H n w) (whole (H w)) with e | e
    · rw [e, whole_v]; exact h.high
    · obtain ⟨i, j, h1, h2, he⟩ := mem_linesU.1 e
      rw [he]
      rcases h2 with ⟨h2, h3⟩ | ⟨h2, h3⟩
      · exact (t3_left (by omega) (by omega) (up_on (by omega))).1 (h.left i j h2 h3 h1)
      · exact (t3_right (by omega) (by omega) (up_on (by omega))).1 (h.right j i h2 h3 h1)
  · intro h
    refine ⟨Rat.le_trans h (by rw [← whole_v]; exact hg.1), fun i j h1 h2 h3 => ?_, fun j k h1 h2 h3 => ?_⟩
    · exact (t3_left (by omega) (by omega) (up_on (by omega))).2 (Rat.le_trans h (hg.2 _ (mem_linesU.2 ⟨i, j, h3, .inl ⟨h1, h2⟩, rfl⟩)))
    · exact (t3_right (by omega) (by omega) (up_on (by omega))).2 (Rat.le_trans h (hg.2 _ (mem_linesU.2 ⟨k, j, h3, .inr ⟨h1, h2⟩, rfl⟩)))
/-- Given values, whatever the lines' make. -/
theorem giv_iff {L : Nat → Int} {n w k : Nat} {t : Fr} (_ : 0 < t.u) (hk : w ≠ k) (hw : w < n) {line : Nat → Fr} {l : List Nat}
    (hp : ∀ i, i ≠ k → 0 < (line i).u) (ho : ∀ i, i ≠ k → OnL k t.v i (L i) w (line i).v) (hl : ∀ i, i ∈ l ↔ i < n ∧ (i ≤ w ∧ w < k ∨ w ≤ i ∧ k < w)) {v : Rat} :
    Gv L n w k t.v v ↔ (big (l.map line) (lowerF L n w)).v ≤ v := by
  have hp' : ∀ y ∈ l.map line, 0 < y.u := by
    intro y hy
    obtain ⟨i, hi, rfl⟩ := List.mem_map.1 hy
    have := (hl i).1 hi
    exact hp i (by omega)
  have hg := big_ge (x := lowerF L n w) (lower_pos _ _ _) hp'
  constructor
  · intro h
    rcases big_mem (l.map line) (lowerF L n w) with e | e
    · rw [e]; exact lw_iff.1 h.lw
    · obtain ⟨i, hi, he⟩ := List.mem_map.1 e
      rw [← he]
      have h2 := (hl i).1 hi
      have h3 := ho i (by omega)
      by_cases hiw : i = w
      · subst hiw
        have h4 := sub_ne (i := k) (k := i) (by omega)
        have : (line i).v = (L i : Rat) := by
          refine rcancel h4 ?_
          unfold OnL at h3
          rw [h3]; grind
        rw [this]; exact h.lw.low
      · rcases h2.2 with ⟨h5, h6⟩ | ⟨h5, h6⟩
        · exact (t3_mid (by omega) (by omega) h3.symm).1 (h.left h6 i (by omega))
        · exact (t3_mid (by omega) (by omega) h3).1 (h.right h6 i (by omega) h2.1)
  · intro h
    refine ⟨lw_iff.2 (Rat.le_trans hg.1 h), fun h1 i h2 => ?_, fun h1 i h2 h3 => ?_⟩
    · exact (t3_mid (by omega) (by omega) (ho i (by omega)).symm).2 (Rat.le_trans (hg.2 _ (List.mem_map_of_mem ((hl i).2 ⟨by omega, .inl ⟨by omega, h1⟩⟩))) h)
    · exact (t3_mid (by omega) (by omega) (ho i (by omega))).2 (Rat.le_trans (hg.2 _ (List.mem_map_of_mem ((hl i).2 ⟨by omega, .inr ⟨by omega, h1⟩⟩))) h)
theorem rngF_mem {n w k i : Nat} (hw : w < n) (hk : w ≠ k) : i ∈ rngF n w k ↔ i < n ∧ (i ≤ w ∧ w < k ∨ w ≤ i ∧ k < w) := by
  unfold rngF
  split
  · simp only [List.mem_map, List.mem_range]
    constructor
    · rintro ⟨a, h1, rfl⟩; omega
    · intro h; exact ⟨i - w, by omega, by omega⟩
  · simp only [List.mem_range]; omega
theorem rngR_mem {n w k i : Nat} : i ∈ rngR n w k ↔ i < n ∧ (i ≤ w ∧ w < k ∨ w ≤ i ∧ k < w) := by
  simp only [rngR, List.mem_filter, List.mem_range, Bool.or_eq_true, Bool.and_eq_true, decide_eq_true_eq]
theorem givF_iff {L : Nat → Int} {n w k : Nat} {t : Fr} (ht : 0 < t.u) (hk : w ≠ k) (hw : w < n) {v : Rat} : Gv L n w k t.v v ↔ (givF L n w k t).v ≤ v := by
  unfold givF; rw [if_neg hk]
  refine giv_iff ht hk hw (line := fun i => lineF k t i (whole (L i)) w) (fun i hi => lineF_pos _ (by omega) ht (whole_pos _)) (fun i hi => ?_) (fun i => rngF_mem hw hk)
  have := lineF_on (i := k) (k := i) (a := t) (b := whole (L i)) w (by omega) ht (whole_pos _)
  rwa [whole_v] at this
theorem givR_iff {L : Nat → Int} {n w k : Nat} {t : Fr} (ht : 0 < t.u) (hk : w ≠ k) (hw : w < n) {v : Rat} : Gv L n w k t.v v ↔ (givR L n w k t).v ≤ v := by
  unfold givR; rw [if_neg hk]
  refine giv_iff ht hk hw (line := fun i => lineR i (whole (L i)) k t w) (fun i hi => lineR_pos _ (by omega) (whole_pos _) ht) (fun i hi => ?_) (fun i => rngR_mem)
  have := lineR_on (i := i) (k := k) (a := whole (L i)) (b := t) w (by omega) (whole_pos _) ht
  rw [whole_v] at this
  exact this.symm
theorem giv_same {L : Nat → Int} {n w k : Nat} {t : Fr} (ht : 0 < t.u) (hw : w < n) : (givF L n w k t).v = (givR L n w k t).v := by
  by_cases hk : w = k
  · unfold givF givR; rw [if_pos hk, if_pos hk]
  · have h1 := (givR_iff (L := L) ht hk hw).1 ((givF_iff ht hk hw).2 Rat.le_refl)
    have h2 := (givF_iff (L := L) ht hk hw).1 ((givR_iff ht hk hw).2 Rat.le_refl)
    exact Rat.le_antisymm h2 h1
theorem givF_pos {L : Nat → Int} {n w k : Nat} {t : Fr} (ht : 0 < t.u) (hw : w < n) : 0 < (givF L n w k t).u := by
  unfold givF
  split
  · exact ht
  · rename_i hk
    refine big_all (P := fun x => 0 < x.u) (lower_pos _ _ _) fun y hy => ?_
    obtain ⟨i, hi, rfl⟩ := List.mem_map.1 hy
    have := (rngF_mem hw hk).1 hi
    exact lineF_pos _ (by omega) ht (whole_pos _)
theorem givR_pos {L : Nat → Int} {n w k : Nat} {t : Fr} (ht : 0 < t.u) : 0 < (givR L n w k t).u := by
  unfold givR
  split
  · exact ht
  · rename_i hk
    refine big_all (P := fun x => 0 < x.u) (lower_pos _ _ _) fun y hy => ?_
    obtain ⟨i, hi, rfl⟩ := List.mem_map.1 hy
    have := rngR_mem.1 hi
    exact lineR_pos _ (by omega) (whole_pos _) ht
/-- The regret: the greatest one of tops less what is given. -/
theorem reg_iff {L H : Nat → Int} {n w : Nat} (hw : w < n) {v : Rat} : (regF L H n w).v ≤ v ↔ 0 ≤ v ∧ ∀ k, k < n → (upperF L H n k).v - (givF L n w k (upperF L H n k)).v ≤ v := by
  have hp : ∀ y ∈ (List.range n).map fun k => (upperF L H n k).minus (givF L n w k (upperF L H n k)), 0 < y.u := by
    intro y hy
    obtain ⟨i, hi, rfl⟩ := List.mem_map.1 hy
    exact minus_pos (upper_pos _ _ _ _) (givF_pos (upper_pos _ _ _ _) hw)
  have hg := big_ge (x := whole 0) (whole_pos _) hp
  have e0 : (whole 0).v = 0 := by rw [whole_v]; rfl
  have hs : ∀ k, ((upperF L H n k).minus (givF L n w k (upperF L H n k))).v = (upperF L H n k).v - (givF L n w k (upperF L H n k)).v := fun k => minus_v (upper_pos _ _ _ _) (givF_pos (upper_pos _ _ _ _) hw)
  constructor
  · intro h
    refine ⟨Rat.le_trans (by rw [← e0]; exact hg.1) h, fun k hk => ?_⟩
    rw [← hs]
    exact Rat.le_trans (hg.2 _ (List.mem_map_of_mem (List.mem_range.2 hk))) h
  · rintro ⟨h0, h1⟩
    show (big _ _).v ≤ v
    rcases big_mem ((List.range n).map fun k => (upperF L H n k).minus (givF L n w k (upperF L H n k))) (whole 0) with e | e
    · rw [e, e0]; exact h0
    · obtain ⟨k, hk, he⟩ := List.mem_map.1 e
      rw [← he, hs]; exact h1 k (List.mem_range.1 hk)
theorem regR_iff {L H : Nat → Int} {n w : Nat} (hw : w < n) {v : Rat} : (regR L H n w).v ≤ v ↔ 0 ≤ v ∧ ∀ k, k < n → (upperF L H n k).v - (givF L n w k (upperF L H n k)).v ≤ v := by
  have hp : ∀ y ∈ (List.range n).map fun k => (upperF L H n k).minus (givR L n w k (upperF L H n k)), 0 < y.u := by
    intro y hy
    obtain ⟨i, hi, rfl⟩ := List.mem_map.1 hy
    exact minus_pos (upper_pos _ _ _ _) (givR_pos (upper_pos _ _ _ _))
  have hg := big_ge (x := whole 0) (whole_pos _) hp
  have e0 : (whole 0).v = 0 := by rw [whole_v]; rfl
  have hs : ∀ k, ((upperF L H n k).minus (givR L n w k (upperF L H n k))).v = (upperF L H n k).v - (givF L n w k (upperF L H n k)).v := fun k => by rw [giv_same (upper_pos _ _ _ _) hw]; exact minus_v (upper_pos _ _ _ _) (givR_pos (upper_pos _ _ _ _))
  constructor
  · intro h
    refine ⟨Rat.le_trans (by rw [← e0]; exact hg.1) h, fun k hk => ?_⟩
    rw [← hs]
    exact Rat.le_trans (hg.2 _ (List.mem_map_of_mem (List.mem_range.2 hk))) h
  · rintro ⟨h0, h1⟩
    show (big _ _).v ≤ v
    rcases big_mem ((List.range n).map fun k => (upperF L H n k).minus (givR L n w k (upperF L H n k))) (whole 0) with e | e
    · rw [e, e0]; exact h0
    · obtain ⟨k, hk, he⟩ := List.mem_map.1 e
      rw [← he, hs]; exact h1 k (List.mem_range.1 hk)
theorem reg_same {L H : Nat → Int} {n w : Nat} (hw : w < n) : (regF L H n w).v = (regR L H n w).v :=
  Rat.le_antisymm ((reg_iff hw).2 ((regR_iff hw).1 Rat.le_refl)) ((regR_iff hw).2 ((reg_iff hw).1 Rat.le_refl))
theorem regF_pos {L H : Nat → Int} {n w : Nat} (hw : w < n) : 0 < (regF L H n w).u := by
  refine big_all (P := fun x => 0 < x.u) (whole_pos _) fun y hy => ?_
  obtain ⟨i, hi, rfl⟩ := List.mem_map.1 hy
  exact minus_pos (upper_pos _ _ _ _) (givF_pos (upper_pos _ _ _ _) hw)
theorem regR_pos {L H : Nat → Int} {n w : Nat} : 0 < (regR L H n w).u := by
  refine big_all (P := fun x => 0 < x.u) (whole_pos _) fun y hy => ?_
  obtain ⟨i, hi, rfl⟩ := List.mem_map.1 hy
  exact minus_pos (upper_pos _ _ _ _) (givR_pos (upper_pos _ _ _ _))
theorem ceil_same {x y : Fr} (hx : 0 < x.u) (hy : 0 < y.u) (h : x.v = y.v) : x.ceil = y.ceil := by
  have h1 := (ceil_le hx y.ceil).2 (by rw [h]; exact (ceil_le hy _).1 (Int.le_refl _))
  have h2 := (ceil_le hy x.ceil).2 (by rw [← h]; exact (ceil_le hx _).1 (Int.le_refl _))
  omega
end Ytgnjeefanbcbkaa
end Go.Proofs
