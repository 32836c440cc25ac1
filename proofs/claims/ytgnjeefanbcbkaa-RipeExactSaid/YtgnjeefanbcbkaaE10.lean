/- Fields, outright, plainly: truths in twelfths of a field of at most four weeks. -/
import Derived.Test.YtgnjeefanbcbkaaE7
open Go Go.RowKit Go.YtgnjeefanbcbkaaIt
namespace Go.Proofs
namespace Ytgnjeefanbcbkaa
/-- q times a number is whole. -/
def IntM (q : Int) (v : Rat) : Prop := ∃ m : Int, v * (q : Rat) = (m : Rat)
theorem IntM.of (a : Int) : IntM 1 (a : Rat) := ⟨a, by grind⟩
theorem IntM.mul {q : Int} {v : Rat} (h : IntM q v) (r : Int) : IntM (q * r) v := by
  obtain ⟨m, hm⟩ := h
  exact ⟨m * r, by rw [cast_mul, cast_mul, ← hm]; grind⟩
theorem IntM.to {q r : Int} {v : Rat} (h : IntM q v) (hd : ∃ s, r = q * s) : IntM r v := by
  obtain ⟨s, rfl⟩ := hd
  exact h.mul s
theorem IntM.line {i k w q : Int} {a b v : Rat} (h : OnL i a k b w v) (ha : IntM q a) (hb : IntM q b) : IntM (q * (k - i)) v := by
  obtain ⟨m, hm⟩ := ha
  obtain ⟨l, hl⟩ := hb
  refine ⟨m * (k - w) + l * (w - i), ?_⟩
  unfold OnL at h
  simp only [cast_mul, cast_add, cast_sub, ← hm, ← hl]
  have : v * ((q : Rat) * ((k : Rat) - (i : Rat))) = (v * ((k : Rat) - (i : Rat))) * (q : Rat) := by grind
  rw [this, h]
  grind
theorem lower_tw {L : Nat → Int} {n w : Nat} (hn : n ≤ 4) : IntM 6 (lowerF L n w).v := by
  rcases big_mem (linesL L n w) (whole (L w)) with e | e
  · show IntM 6 (big _ _).v
    rw [e, whole_v]
    exact (IntM.of _).to ⟨6, rfl⟩
  · obtain ⟨i, k, h1, h2, h3, he⟩ := mem_lines.1 e
    show IntM 6 (big _ _).v
    rw [he]
    refine (IntM.line (low_on (by omega)) (IntM.of _) (IntM.of _)).to ?_
    rcases (show (k : Int) - i = 2 ∨ (k : Int) - i = 3 by omega) with h | h
    · exact ⟨3, by rw [h]; rfl⟩
    · exact ⟨2, by rw [h]; rfl⟩
theorem upper_tw {L H : Nat → Int} {n w : Nat} (hn : n ≤ 4) (hw : w < n) : IntM 2 (upperF L H n w).v := by
  rcases small_mem (linesU L H n w) (whole (H w)) with e | e
  · show IntM 2 (small _ _).v
    rw [e, whole_v]
    exact (IntM.of _).to ⟨2, rfl⟩
  · obtain ⟨i, j, h1, h2, he⟩ := mem_linesU.1 e
    show IntM 2 (small _ _).v
    rw [he]
    refine (IntM.line (up_on (by omega)) (IntM.of _) (IntM.of _)).to ?_
    rcases (show (j : Int) - i = 1 ∨ (j : Int) - i = 2 ∨ (j : Int) - i = -1 ∨ (j : Int) - i = -2 by omega) with h | h | h | h
    · exact ⟨2, by rw [h]; rfl⟩
    · exact ⟨1, by rw [h]; rfl⟩
    · exact ⟨-2, by rw [h]; rfl⟩
    · exact ⟨-1, by rw [h]; rfl⟩
theorem giv_tw {L : Nat → Int} {n w k : Nat} {t : Fr} (hn : n ≤ 4) (hw : w < n) (hk : k < n) (ht : 0 < t.u) (h2 : IntM 2 t.v) : IntM 12 (givF L n w k t).v := by
  by_cases hwk : w = k
  · unfold givF; rw [if_pos hwk]
    exact h2.to ⟨6, rfl⟩
  · unfold givF; rw [if_neg hwk]
    rcases big_mem ((rngF n w k).map fun i : Nat => lineF k t i (whole (L i)) w) (lowerF L n w) with e | e
    · rw [e]
      exact (lower_tw hn).to ⟨2, rfl⟩
    · obtain ⟨i, hi, he⟩ := List.mem_map.1 e
      have h3 := (rngF_mem hw hwk).1 hi
      rw [← he]
      have ho := lineF_on (i := k) (k := i) (a := t) (b := whole (L i)) w (by omega) ht (whole_pos _)
      rw [whole_v] at ho
      refine (IntM.line ho h2 ((IntM.of _).to ⟨2, rfl⟩)).to ?_
      rcases (show (i : Int) - k = 1 ∨ (i : Int) - k = 2 ∨ (i : Int) - k = 3 ∨ (i : Int) - k = -1 ∨ (i : Int) - k = -2 ∨ (i : Int) - k = -3 by omega) with h | h | h | h | h | h
      · exact ⟨6, by rw [h]; rfl⟩
      · exact ⟨3, by rw [h]; rfl⟩
      · exact ⟨2, by rw [h]; rfl⟩
      · exact ⟨-6, by rw [h]; rfl⟩
      · exact ⟨-3, by rw [h]; rfl⟩
      · exact ⟨-2, by rw [h]; rfl⟩
/-- A truth in twelfths. -/
structure TruI (L H : Nat → Int) (n : Nat) (M : Nat → Int) : Prop where
  conc : Conc n M
  low : ∀ w, w < n → 12 * L w ≤ M w
  high : ∀ w, w < n → M w ≤ 12 * H w
theorem TruI.q {L H : Nat → Int} {n : Nat} {M : Nat → Int} (h : TruI L H n M) : TruQ L H n (fun w => (M w : Rat) / 12) := by
  have e : ∀ w, (M w : Rat) = (12 : Rat) * ((M w : Rat) / 12) := fun w => by
    rw [Rat.mul_comm, Rat.div_mul_cancel (by decide)]
  have e12 : ((12 : Int) : Rat) = 12 := rfl
  have p12 : (0 : Rat) < 12 := by decide
  refine ⟨fun i j k a b c => ?_, fun w hw => ?_, fun w hw => ?_⟩
  · have h3 := conc_t3r h.conc a b c
    unfold T3 at h3 ⊢
    rw [e i, e j, e k] at h3
    refine (rmul_le p12).2 ?_
    grind
  · have h3 := cast_le.2 (h.low w hw)
    rw [cast_mul, e12, e w] at h3
    exact (rmul_le p12).2 h3
  · have h3 := cast_le.2 (h.high w hw)
    rw [cast_mul, e12, e w] at h3
    exact (rmul_le p12).2 h3
theorem tru_int {L H : Nat → Int} {n : Nat} {T : Nat → Rat} (h : TruQ L H n T) (hi : ∀ w, w < n → IntM 12 (T w)) : ∃ M, TruI L H n M ∧ ∀ w, w < n → (M w : Rat) = T w * 12 := by
  have ex : ∀ w : Nat, ∃ m : Int, w < n → (m : Rat) = T w * 12 := fun w => by
    by_cases hw : w < n
    · obtain ⟨m, hm⟩ := hi w hw
      exact ⟨m, fun _ => hm.symm⟩
    · exact ⟨0, fun h => absurd h hw⟩
  obtain ⟨M, hM⟩ : ∃ M : Nat → Int, ∀ w, w < n → (M w : Rat) = T w * 12 := ⟨fun w => (ex w).choose, fun w => (ex w).choose_spec⟩
  have e12 : ((12 : Int) : Rat) = 12 := rfl
  have p12 : (0 : Rat) < 12 := by decide
  refine ⟨M, ⟨fun i hi' => ?_, fun w hw => ?_, fun w hw => ?_⟩, hM⟩
  · have h3 := h.conc i (i + 1) (i + 2) (by omega) (by omega) hi'
    unfold T3 at h3
    refine cast_le.1 ?_
    rw [cast_sub, cast_sub, hM _ hi', hM (i + 1) (by omega), hM i (by omega)]
    have c1 : (((i + 1 : Nat) : Int) : Rat) = ((i : Nat) : Int) + 1 := by rw [show ((i + 1 : Nat) : Int) = (i : Int) + 1 by omega, cast_add]; rfl
    have c2 : (((i + 2 : Nat) : Int) : Rat) = ((i : Nat) : Int) + 2 := by rw [show ((i + 2 : Nat) : Int) = (i : Int) + 2 by omega, cast_add]; rfl
    rw [c1, c2] at h3
    grind
  · refine cast_le.1 ?_
    rw [cast_mul, e12, hM w hw]
    have := (rmul_le p12).1 (h.low w hw)
    grind
  · refine cast_le.1 ?_
    rw [cast_mul, e12, hM w hw]
    have := (rmul_le p12).1 (h.high w hw)
    grind
/-- Each bound is attained by a truth in twelfths. -/
theorem low_int {L H : Nat → Int} {n : Nat} (hn : n ≤ 4) (h0 : noB L H n = true) : ∃ M, TruI L H n M ∧ ∀ w, w < n → (M w : Rat) = (lowerF L n w).v * 12 :=
  tru_int (low_tru h0) fun _ _ => (lower_tw hn).to ⟨2, rfl⟩
theorem giv_int {L H : Nat → Int} {n k : Nat} (hn : n ≤ 4) (h0 : noB L H n = true) (hk : k < n) : ∃ M, TruI L H n M ∧ ∀ w, w < n → (M w : Rat) = (givF L n w k (upperF L H n k)).v * 12 :=
  tru_int (giv_tru h0 hk (upper_pos L H n k) (up_low h0 hk) Rat.le_refl) fun _ hw => giv_tw hn hw hk (upper_pos _ _ _ _) (upper_tw hn hk)
end Ytgnjeefanbcbkaa
end Go.Proofs
/- Fields, outright, plainly: a season: what a list of truths has. -/
open Go Go.RowKit Go.YtgnjeefanbcbkaaIt
namespace Go.Proofs
namespace Ytgnjeefanbcbkaa
structure Sea where
  least : Nat → Int
  most : Nat → Int
  loss : Nat → Int
  peak : Nat → Bool
  count : Nat
def sea0 : Sea := ⟨fun _ => 0, fun _ => 0, fun _ => 0, fun _ => false, 0⟩
def topI (l : List Int) : Int := l.foldl max 0
/-- One more truth. -/
def addS (s : Sea) (l : List Int) : Sea :=
  ⟨fun w => if w < l.length then min (if s.count = 0 then at0 l w else s.least w) (at0 l w) else s.least w,
   fun w => if w < l.length then max (if s.count = 0 then at0 l w else s.most w) (at0 l w) else s.most w,
   fun w => if w < l.length then max (s.loss w) (topI l - at0 l w) else s.loss w,
   fun w => if w < l.length then s.peak w || decide (at0 l w = topI l) else s.peak w, s.count + 1⟩
def seaOf (ls : List (List Int)) : Sea := ls.foldl addS sea0
theorem sea_push (ls : List (List Int)) (l : List Int) : seaOf (ls ++ [l]) = addS (seaOf ls) l := by simp [seaOf]
theorem sea_count : ∀ ls : List (List Int), (seaOf ls).count = ls.length := fun ls => by
  have : ∀ (ls : List (List Int)) (s : Sea), (ls.foldl addS s).count = s.count + ls.length := by
    intro ls
    induction ls with
    | nil => intro s; rfl
    | cons l ls ih => intro s; rw [List.foldl_cons, ih]; simp [addS]; omega
  have h := this ls sea0
  simpa [seaOf, sea0] using h
/-- What a season has of a week. -/
structure SeaW (ls : List (List Int)) (w : Nat) : Prop where
  least : (∃ l ∈ ls, (seaOf ls).least w = at0 l w) ∧ ∀ l ∈ ls, (seaOf ls).least w ≤ at0 l w
  most : (∃ l ∈ ls, (seaOf ls).most w = at0 l w) ∧ ∀ l ∈ ls, at0 l w ≤ (seaOf ls).most w
  loss : (∃ l ∈ ls, (seaOf ls).loss w = topI l - at0 l w) ∨ (seaOf ls).loss w = 0
  loss2 : 0 ≤ (seaOf ls).loss w ∧ ∀ l ∈ ls, topI l - at0 l w ≤ (seaOf ls).loss w
  peak : (seaOf ls).peak w = true ↔ ∃ l ∈ ls, at0 l w = topI l
theorem sea_w {n w : Nat} (hw : w < n) : ∀ (k : Nat) (ls : List (List Int)), ls.length = k + 1 → (∀ l ∈ ls, l.length = n) → SeaW ls w
  | k, ls, hk, hn => by
    obtain ⟨pre, l, rfl⟩ : ∃ pre l, ls = pre ++ [l] := ⟨ls.dropLast, ls.getLast (by intro h; simp [h] at hk), (List.dropLast_concat_getLast _).symm⟩
    have hl : l.length = n := hn l (by simp)
    have hpl : pre.length = k := by simp at hk; exact hk
    have hmem : ∀ x, x ∈ pre ++ [l] ↔ x ∈ pre ∨ x = l := fun x => by simp
    have e1 : ∀ s : Sea, (addS s l).least w = min (if s.count = 0 then at0 l w else s.least w) (at0 l w) := fun s => by simp [addS, hl, hw]
    have e2 : ∀ s : Sea, (addS s l).most w = max (if s.count = 0 then at0 l w else s.most w) (at0 l w) := fun s => by simp [addS, hl, hw]
    have e3 : ∀ s : Sea, (addS s l).loss w = max (s.loss w) (topI l - at0 l w) := fun s => by simp [addS, hl, hw]
    have e4 : ∀ s : Sea, (addS s l).peak w = (s.peak w || decide (at0 l w = topI l)) := fun s => by simp [addS, hl, hw]
    cases k with
    | zero =>
      have : pre = [] := List.length_eq_zero_iff.1 hpl
      subst this
      refine ⟨?_, ?_, ?_, ?_, ?_⟩
      · rw [sea_push, e1]
        refine ⟨⟨l, by simp, by simp [seaOf, sea0]⟩, fun x hx => ?_⟩
        have : x = l := by simpa using hx
        subst this; simp [seaOf, sea0]
      · rw [sea_push, e2]
        refine ⟨⟨l, by simp, by simp [seaOf, sea0]⟩, fun x hx => ?_⟩
        have : x = l := by simpa using hx
        subst this; simp [seaOf, sea0]
      · rw [sea_push, e3]
        rcases Int.le_total (topI l - at0 l w) 0 with h | h
        · right; simp [seaOf, sea0]; omega
        · left; exact ⟨l, by simp, by simp [seaOf, sea0]; omega⟩
      · rw [sea_push, e3]
        refine ⟨by simp [seaOf, sea0]; omega, fun x hx => ?_⟩
        have : x = l := by simpa using hx
        subst this; omega
      · rw [sea_push, e4]
        simp [seaOf, sea0]
    | succ k =>
      have ih := sea_w hw k pre hpl (fun x hx => hn x (by simp [hx]))
      have hc : ¬ (seaOf pre).count = 0 := by rw [sea_count]; omega
      refine ⟨?_, ?_, ?_, ?_, ?_⟩
      · rw [sea_push, e1, if_neg hc]
        obtain ⟨⟨m, hm, em⟩, h2⟩ := ih.least
        constructor
        · rcases Int.le_total ((seaOf pre).least w) (at0 l w) with h | h
          · exact ⟨m, (hmem m).2 (.inl hm), by omega⟩
          · exact ⟨l, (hmem l).2 (.inr rfl), by omega⟩
        · intro x hx
          rcases (hmem x).1 hx with h | rfl
          · have := h2 x h; omega
          · omega
      · rw [sea_push, e2, if_neg hc]
        obtain ⟨⟨m, hm, em⟩, h2⟩ := ih.most
        constructor
        · rcases Int.le_total ((seaOf pre).most w) (at0 l w) with h | h
          · exact ⟨l, (hmem l).2 (.inr rfl), by omega⟩
          · exact ⟨m, (hmem m).2 (.inl hm), by omega⟩
        · intro x hx
          rcases (hmem x).1 hx with h | rfl
          · have := h2 x h; omega
          · omega
      · rw [sea_push, e3]
        rcases Int.le_total ((seaOf pre).loss w) (topI l - at0 l w) with h | h
        · left; exact ⟨l, (hmem l).2 (.inr rfl), by omega⟩
        · rcases ih.loss with ⟨m, hm, em⟩ | h0
          · left; exact ⟨m, (hmem m).2 (.inl hm), by omega⟩
          · right; omega
      · rw [sea_push, e3]
        obtain ⟨h1, h2⟩ := ih.loss2
        refine ⟨by omega, fun x hx => ?_⟩
        rcases (hmem x).1 hx with h | rfl
        · have := h2 x h; omega
        · omega
      · rw [sea_push, e4, Bool.or_eq_true, ih.peak, decide_eq_true_iff]
        constructor
        · rintro (⟨m, hm, em⟩ | h)
          · exact ⟨m, (hmem m).2 (.inl hm), em⟩
          · exact ⟨l, (hmem l).2 (.inr rfl), h⟩
        · rintro ⟨m, hm, em⟩
          rcases (hmem m).1 hm with h | rfl
          · exact .inl ⟨m, h, em⟩
          · exact .inr em
/-- All lists that begin so, step by step, with steps that never become greater. -/
def okX (b : List Int) (x : Int) : Bool := decide (b.length < 2) || decide (x - at0 b (b.length - 1) ≤ at0 b (b.length - 1) - at0 b (b.length - 2))
def enL (lo hi : Nat → Int) : Nat → List Int → List (List Int)
  | 0, b => [b]
  | k + 1, b => (List.range (hi b.length - lo b.length + 1).toNat).flatMap fun (i : Nat) => if okX b (lo b.length + i) = true then enL lo hi k (b ++ [lo b.length + i]) else []
theorem enL_len (lo hi : Nat → Int) : ∀ (k : Nat) (b l : List Int), l ∈ enL lo hi k b → l.length = b.length + k
  | 0, b, l, h => by have : l = b := by simpa [enL] using h
                     subst this; rfl
  | k + 1, b, l, h => by
    simp only [enL, List.mem_flatMap, List.mem_range] at h
    obtain ⟨i, _, h⟩ := h
    by_cases ho : okX b (lo b.length + i) = true
    · rw [if_pos ho] at h
      have := enL_len lo hi k _ l h
      simp at this; omega
    · rw [if_neg ho] at h; simp at h
theorem at0_push {b : List Int} {x : Int} {i : Nat} : at0 (b ++ [x]) i = if i < b.length then at0 b i else if i = b.length then x else 0 := by
  unfold at0
  simp only [List.getD_eq_getElem?_getD]
  by_cases h : i < b.length
  · rw [if_pos h, List.getElem?_append_left h]
  · rw [if_neg h, List.getElem?_append_right (by omega)]
    by_cases h2 : i = b.length
    · rw [if_pos h2, h2]; simp
    · rw [if_neg h2]
      have : i - b.length ≠ 0 := by omega
      cases hh : i - b.length with
      | zero => omega
      | succ m => simp
/-- A step that is tried. -/
def StepOk (lo hi : Nat → Int) (f : Nat → Int) (w : Nat) : Prop := (lo w ≤ f w ∧ f w ≤ hi w) ∧ (w < 2 ∨ f w - f (w - 1) ≤ f (w - 1) - f (w - 2))
theorem mem_enL (lo hi : Nat → Int) : ∀ (k : Nat) (b l : List Int), l ∈ enL lo hi k b ↔ l.length = b.length + k ∧ (∀ i, i < b.length → at0 l i = at0 b i) ∧ ∀ w, b.length ≤ w → w < l.length → StepOk lo hi (at0 l) w
  | 0, b, l => by
    constructor
    · intro h
      have : l = b := by simpa [enL] using h
      subst this
      exact ⟨rfl, fun _ _ => rfl, fun w h1 h2 => by omega⟩
    · rintro ⟨h1, h2, -⟩
      have : l = b := List.ext_getElem (by omega) fun i h3 h4 => by
        have := h2 i h4
        rwa [at0_lt h3, at0_lt h4] at this
      simp [enL, this]
  | k + 1, b, l => by
    simp only [enL, List.mem_flatMap, List.mem_range]
    constructor
    · rintro ⟨i, hi', h⟩
      by_cases ho : okX b (lo b.length + i) = true
      · rw [if_pos ho] at h
        obtain ⟨h1, h2, h3⟩ := (mem_enL lo hi k _ l).1 h
        simp only [List.length_append, List.length_cons, List.length_nil] at h1 h2 h3
        have hb : ∀ j, j < b.length → at0 l j = at0 b j := fun j hj => by rw [h2 j (by omega), at0_push, if_pos hj]
        have hx : at0 l b.length = lo b.length + i := by rw [h2 b.length (by omega), at0_push, if_neg (by omega), if_pos rfl]
        refine ⟨by omega, hb, fun w q1 q2 => ?_⟩
        rcases (show w = b.length ∨ b.length + 1 ≤ w by omega) with rfl | q3
        · refine ⟨⟨by rw [hx]; omega, by rw [hx]; omega⟩, ?_⟩
          by_cases hw : b.length < 2
          · exact .inl hw
          · right
            rw [hx, hb _ (by omega), hb _ (by omega)]
            simpa [okX, hw] using ho
        · exact h3 w (by omega) q2
      · rw [if_neg ho] at h; simp at h
    · rintro ⟨h1, h2, h3⟩
      obtain ⟨⟨q1, q2⟩, q3⟩ := h3 b.length (Nat.le_refl _) (by omega)
      refine ⟨(at0 l b.length - lo b.length).toNat, by omega, ?_⟩
      have e : lo b.length + ((at0 l b.length - lo b.length).toNat : Int) = at0 l b.length := by omega
      rw [e]
      have ho : okX b (at0 l b.length) = true := by
        unfold okX
        rcases q3 with q3 | q3
        · simp [q3]
        · by_cases hw : b.length < 2
          · simp [hw]
          · rw [← h2 (b.length - 1) (by omega), ← h2 (b.length - 2) (by omega)]
            simp [q3]
      rw [if_pos ho]
      refine (mem_enL lo hi k _ l).2 ⟨by simp; omega, fun i hi' => ?_, fun w w1 w2 => h3 w (by simp at w1; omega) w2⟩
      simp only [List.length_append, List.length_cons, List.length_nil] at hi'
      rw [at0_push]
      by_cases hib : i < b.length
      · rw [if_pos hib]; exact h2 i hib
      · rw [if_neg hib, if_pos (by omega)]
        congr 1; omega
/-- All truths in twelfths. -/
theorem mem_all {L H lo hi : Nat → Int} {n : Nat} (hlo : ∀ w, w < n → lo w = 12 * L w) (hhi : ∀ w, w < n → hi w = 12 * H w) {l : List Int} : l ∈ enL lo hi n [] ↔ l.length = n ∧ TruI L H n (at0 l) := by
  rw [mem_enL]
  constructor
  · rintro ⟨h1, -, h3⟩
    simp only [List.length_nil, Nat.zero_add] at h1 h3
    refine ⟨h1, fun i hi' => ?_, fun w hw => ?_, fun w hw => ?_⟩
    · rcases (h3 (i + 2) (by omega) (by omega)).2 with h | h
      · omega
      · exact h
    · have := (h3 w (by omega) (by omega)).1.1; rw [hlo w hw] at this; exact this
    · have := (h3 w (by omega) (by omega)).1.2; rw [hhi w hw] at this; exact this
  · rintro ⟨h1, h2⟩
    refine ⟨by simpa using h1, fun i hi' => by simp at hi', fun w _ hw => ⟨⟨?_, ?_⟩, ?_⟩⟩
    · rw [hlo w (by omega)]; exact h2.low w (by omega)
    · rw [hhi w (by omega)]; exact h2.high w (by omega)
    · by_cases hw2 : w < 2
      · exact .inl hw2
      · right
        have := h2.conc (w - 2) (by omega)
        rw [show w - 2 + 2 = w by omega, show w - 2 + 1 = w - 1 by omega] at this
        exact this
end Ytgnjeefanbcbkaa
end Go.Proofs
/- Fields, outright, plainly: what is known of a small field is what all its truths have. -/
open Go Go.RowKit Go.YtgnjeefanbcbkaaIt
namespace Go.Proofs
namespace Ytgnjeefanbcbkaa
theorem floor_12 {x : Fr} (h : 0 < x.u) {m : Int} (e : (m : Rat) = x.v * 12) : x.floor = m / 12 := by
  have p12 : (0 : Rat) < 12 := by decide
  have e12 : ((12 : Int) : Rat) = 12 := rfl
  have h1 : x.floor ≤ m / 12 := by
    rw [Int.le_ediv_iff_mul_le (by omega), ← cast_le, cast_mul, e12, e]
    exact (le_mul p12).1 (floor_v h)
  have h2 : m / 12 ≤ x.floor := by
    refine (le_floor h _).2 ((le_mul p12).2 ?_)
    rw [← e, ← e12, ← cast_mul]
    exact cast_le.2 (by omega)
  omega
theorem ceil_12 {x : Fr} (h : 0 < x.u) {m : Int} (e : (m : Rat) = x.v * 12) : x.ceil = (m + 11) / 12 := by
  have p12 : (0 : Rat) < 12 := by decide
  have e12 : ((12 : Int) : Rat) = 12 := rfl
  have h1 : x.ceil ≤ (m + 11) / 12 := by
    refine (ceil_le h _).2 ((le_mul p12).2 ?_)
    rw [← e, ← e12, ← cast_mul]
    exact cast_le.2 (by omega)
  have h2 : m ≤ x.ceil * 12 := by
    refine cast_le.1 ?_
    rw [cast_mul, e12, e]
    exact (le_mul p12).1 (ceil_v h)
  omega
theorem top_ge_l : ∀ (l : List Int) (a : Int), a ≤ l.foldl max a ∧ ∀ x ∈ l, x ≤ l.foldl max a
  | [], a => ⟨Int.le_refl _, fun x h => by simp at h⟩
  | y :: l, a => by
    obtain ⟨h1, h2⟩ := top_ge_l l (max a y)
    rw [List.foldl_cons]
    refine ⟨by omega, fun x hx => ?_⟩
    rcases List.mem_cons.1 hx with rfl | h
    · omega
    · exact h2 x h
theorem top_mem_l : ∀ (l : List Int) (a : Int), l.foldl max a = a ∨ l.foldl max a ∈ l
  | [], a => .inl rfl
  | y :: l, a => by
    rw [List.foldl_cons]
    rcases top_mem_l l (max a y) with h | h
    · rcases Int.le_total a y with q | q
      · right; rw [h, show max a y = y by omega]; simp
      · left; rw [h]; omega
    · right; exact List.mem_cons_of_mem _ h
def listM (n : Nat) (M : Nat → Int) : List Int := (List.range n).map M
theorem listM_len (n : Nat) (M : Nat → Int) : (listM n M).length = n := by simp [listM]
theorem listM_at {n : Nat} {M : Nat → Int} {w : Nat} (hw : w < n) : at0 (listM n M) w = M w := by
  rw [at0_lt (by rw [listM_len]; exact hw)]
  simp [listM]
theorem TruI.congr {L H : Nat → Int} {n : Nat} {M M' : Nat → Int} (h : TruI L H n M) (e : ∀ w, w < n → M' w = M w) : TruI L H n M' :=
  ⟨fun i hi => by rw [e _ hi, e (i + 1) (by omega), e i (by omega)]; exact h.conc i hi, fun w hw => by rw [e w hw]; exact h.low w hw, fun w hw => by rw [e w hw]; exact h.high w hw⟩
/-- The first week of the least loss. -/
def bestS (f : Nat → Int) : Nat → Nat
  | 0 => 0
  | c + 1 => if f (c + 1) < f (bestS f c) then c + 1 else bestS f c
theorem bestS_le (f : Nat → Int) : ∀ c, bestS f c ≤ c
  | 0 => Nat.le_refl _
  | c + 1 => by
    have := bestS_le f c
    unfold bestS; split <;> omega
theorem cutS_best {f : Nat → Fr} {g : Nat → Int} {N : Nat} (hp : ∀ a, a ≤ N → 0 < (f a).u) (hg : ∀ a, a ≤ N → (g a : Rat) = (f a).v * 12) : ∀ {c : Nat}, c ≤ N → cutS f c = (bestS g c, f (bestS g c))
  | 0, _ => rfl
  | c + 1, hc => by
    have ih := cutS_best hp hg (c := c) (by omega)
    have hb := bestS_le g c
    have p12 : (0 : Rat) < 12 := by decide
    have he : (f (c + 1)).lt (f (bestS g c)) = decide (g (c + 1) < g (bestS g c)) := by
      rw [Bool.eq_iff_iff, Fr.lt_true (hp _ hc) (hp _ (by omega)), decide_eq_true_iff, ← cast_lt, hg _ hc, hg _ (by omega)]
      have := le_mul (a := (f (bestS g c)).v) (b := (f (c + 1)).v) p12
      rw [← Rat.not_le, ← Rat.not_le, this]
    unfold cutS bestS
    rw [ih]
    simp only
    rw [he]
    by_cases h : g (c + 1) < g (bestS g c)
    · rw [if_pos h, if_pos (decide_eq_true h)]
    · rw [if_neg h, if_neg (by simpa using h)]
/-- All of a small field. -/
structure ExactA (L H : Nat → Int) (n : Nat) (ls : List (List Int)) : Prop where
  lo : ∀ w, w < n → (lowerF L n w).floor = (seaOf ls).least w / 12
  hi : ∀ w, w < n → (upperF L H n w).ceil = ((seaOf ls).most w + 11) / 12
  reg : ∀ w, w < n → (regF L H n w).ceil = ((seaOf ls).loss w + 11) / 12
  peak : ∀ w, w < n → peakP L H n w = (seaOf ls).peak w
  cut : cutS (regF L H n) (n - 1) = (bestS (seaOf ls).loss (n - 1), regF L H n (bestS (seaOf ls).loss (n - 1)))
theorem exact_none {L H lo hi : Nat → Int} {n : Nat} (hn : n ≤ 4) (hlo : ∀ w, w < n → lo w = 12 * L w) (hhi : ∀ w, w < n → hi w = 12 * H w) : enL lo hi n [] = [] ↔ noB L H n = false := by
  constructor
  · intro h
    by_cases h0 : noB L H n = true
    · obtain ⟨M, hM, -⟩ := low_int hn h0
      have : listM n M ∈ enL lo hi n [] := (mem_all hlo hhi).2 ⟨listM_len _ _, hM.congr fun w hw => listM_at hw⟩
      rw [h] at this; simp at this
    · simpa using h0
  · intro h
    cases hl : enL lo hi n [] with
    | nil => rfl
    | cons l ls =>
      have : l ∈ enL lo hi n [] := by rw [hl]; simp
      have h2 := tru_noB ((mem_all hlo hhi).1 this).2.q
      rw [h] at h2; simp at h2
theorem exact_all {L H lo hi : Nat → Int} {n : Nat} (hn : n ≤ 4) (hn1 : 1 ≤ n) (hL : ∀ w, w < n → 0 ≤ L w) (hlo : ∀ w, w < n → lo w = 12 * L w) (hhi : ∀ w, w < n → hi w = 12 * H w) (h0 : noB L H n = true) : ExactA L H n (enL lo hi n []) := by
  have hne : enL lo hi n [] ≠ [] := fun h => by rw [exact_none hn hlo hhi] at h; rw [h] at h0; simp at h0
  obtain ⟨k, hk⟩ : ∃ k, (enL lo hi n []).length = k + 1 := ⟨(enL lo hi n []).length - 1, by have := List.length_pos_iff.2 hne; omega⟩
  have hin : ∀ l, l ∈ enL lo hi n [] ↔ l.length = n ∧ TruI L H n (at0 l) := fun l => mem_all hlo hhi
  have hput : ∀ M, TruI L H n M → listM n M ∈ enL lo hi n [] := fun M hM => (hin _).2 ⟨listM_len _ _, hM.congr fun w hw => listM_at hw⟩
  generalize enL lo hi n [] = ls at *
  have hS : ∀ w, w < n → SeaW ls w := fun w hw => sea_w hw k ls hk fun l hl => ((hin l).1 hl).1
  have p12 : (0 : Rat) < 12 := by decide
  have div12 : ∀ m : Int, ((m : Rat) / 12) * 12 = (m : Rat) := fun m => Rat.div_mul_cancel (by decide)
  have htop : ∀ l ∈ ls, (∀ w, w < n → at0 l w ≤ topI l) ∧ ∃ j, j < n ∧ topI l = at0 l j := fun l hl => by
    obtain ⟨hlen, hT⟩ := (hin l).1 hl
    obtain ⟨h1, h2⟩ := top_ge_l l 0
    refine ⟨fun w hw => h2 _ (by rw [at0_lt (by omega)]; exact List.getElem_mem _), ?_⟩
    rcases top_mem_l l 0 with h | h
    · refine ⟨0, by omega, ?_⟩
      have a1 := hT.low 0 (by omega)
      have a2 := hL 0 (by omega)
      have a3 := h2 (at0 l 0) (by rw [at0_lt (by omega)]; exact List.getElem_mem _)
      unfold topI
      omega
    · obtain ⟨j, hj, e⟩ := List.getElem_of_mem h
      exact ⟨j, by omega, by rw [at0_lt hj, e]; rfl⟩
  have heqL : ∀ w, w < n → ((seaOf ls).least w : Rat) = (lowerF L n w).v * 12 := fun w hw => by
    obtain ⟨⟨l, hl, e⟩, h2⟩ := (hS w hw).least
    obtain ⟨M, hM, eM⟩ := low_int hn h0
    have h3 := h2 _ (hput M hM)
    rw [listM_at hw] at h3
    have h4 := tru_lower ((hin l).1 hl).2.q hw
    refine Rat.le_antisymm ?_ ?_
    · rw [← eM w hw]; exact cast_le.2 h3
    · rw [e, ← div12 (at0 l w)]; exact (le_mul p12).1 h4
  have heqM : ∀ w, w < n → ((seaOf ls).most w : Rat) = (upperF L H n w).v * 12 := fun w hw => by
    obtain ⟨⟨l, hl, e⟩, h2⟩ := (hS w hw).most
    obtain ⟨M, hM, eM⟩ := giv_int hn h0 hw
    have h3 := h2 _ (hput M hM)
    rw [listM_at hw] at h3
    have h4 := tru_upper ((hin l).1 hl).2.q hw
    have h5 := eM w hw
    rw [show givF L n w w (upperF L H n w) = upperF L H n w by unfold givF; rw [if_pos rfl]] at h5
    refine Rat.le_antisymm ?_ ?_
    · rw [e, ← div12 (at0 l w)]; exact (le_mul p12).1 h4
    · rw [← h5]; exact cast_le.2 h3
  have heqR : ∀ w, w < n → ((seaOf ls).loss w : Rat) = (regF L H n w).v * 12 := fun w hw => by
    obtain ⟨h00, h2⟩ := (hS w hw).loss2
    refine Rat.le_antisymm ?_ ?_
    · rcases (hS w hw).loss with ⟨l, hl, e⟩ | e
      · obtain ⟨-, j, hj, ej⟩ := htop l hl
        have h4 := tru_reg ((hin l).1 hl).2.q hw hj
        rw [e, ej, cast_sub, ← div12 (at0 l j), ← div12 (at0 l w)]
        have := (le_mul p12).1 h4
        grind
      · rw [e]
        have h4 := tru_reg (low_tru h0) hw hw
        have := (le_mul p12).1 h4
        have e0 : ((0 : Int) : Rat) = 0 := rfl
        rw [e0]; grind
    · rcases big_mem ((List.range n).map fun k => (upperF L H n k).minus (givF L n w k (upperF L H n k))) (whole 0) with e | e
      · show (big _ _).v * 12 ≤ _
        rw [e, whole_v]
        have := cast_le.2 h00
        have e0 : ((0 : Int) : Rat) = 0 := rfl
        rw [e0] at this ⊢; grind
      · obtain ⟨j, hj, he⟩ := List.mem_map.1 e
        have hj := List.mem_range.1 hj
        show (big _ _).v * 12 ≤ _
        rw [← he, minus_v (upper_pos _ _ _ _) (givF_pos (upper_pos _ _ _ _) hw)]
        obtain ⟨M, hM, eM⟩ := giv_int hn h0 hj
        have hm := hput M hM
        have h3 := h2 _ hm
        rw [listM_at hw] at h3
        have h6 := (htop _ hm).1 j hj
        rw [listM_at hj] at h6
        have h5 := eM j hj
        rw [show givF L n j j (upperF L H n j) = upperF L H n j by unfold givF; rw [if_pos rfl]] at h5
        have h7 := eM w hw
        have h8 := cast_le.2 (show M j - M w ≤ (seaOf ls).loss w by omega)
        rw [cast_sub, h5, h7] at h8
        grind
  refine ⟨fun w hw => floor_12 (lower_pos _ _ _) (heqL w hw), fun w hw => ceil_12 (upper_pos _ _ _ _) (heqM w hw), fun w hw => ceil_12 (regF_pos hw) (heqR w hw), fun w hw => ?_, cutS_best (N := n - 1) (fun a ha => regF_pos (by omega)) (fun a ha => heqR a (by omega)) (Nat.le_refl _)⟩
  rw [Bool.eq_iff_iff, (hS w hw).peak]
  constructor
  · intro hp
    have hp' := peak_iff.1 hp
    obtain ⟨M, hM, eM⟩ := giv_int hn h0 hw
    have hm := hput M hM
    refine ⟨_, hm, ?_⟩
    obtain ⟨g1, j, hj, ej⟩ := htop _ hm
    rw [ej, listM_at hw, listM_at hj]
    have hge := g1 w hw
    rw [ej, listM_at hw, listM_at hj] at hge
    have hle : M j ≤ M w := by
      refine cast_le.1 ?_
      rw [eM j hj, eM w hw, show givF L n w w (upperF L H n w) = upperF L H n w by unfold givF; rw [if_pos rfl]]
      refine (le_mul p12).1 ?_
      have hpp : ∀ q, q < n → (if q = w then (upperF L H n w).v else (L q : Rat)) ≤ (upperF L H n w).v := fun q hq => by
        split
        · exact Rat.le_refl
        · exact Rat.le_trans (cast_le.2 (top_ge L (show q ≤ n - 1 by omega))) hp'
      refine (giv_q hw (upper_pos L H n w) (up_low h0 hw) hj).1 ⟨hpp j hj, fun i i2 a b c => ?_⟩
      have m1 := (le_mul (sub_posN b)).1 (hpp i (by omega))
      have m2 := (le_mul (sub_posN a)).1 (hpp i2 c)
      unfold T3
      grind
    omega
  · rintro ⟨l, hl, e⟩
    refine (peak_spec h0 hw).2 ⟨_, ((hin l).1 hl).2.q, fun q hq => ?_⟩
    have h1 := cast_le.2 ((htop l hl).1 q hq)
    rw [← e, ← div12 (at0 l q), ← div12 (at0 l w)] at h1
    exact (le_mul p12).2 h1
end Ytgnjeefanbcbkaa
end Go.Proofs
