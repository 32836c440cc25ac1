/- Yards: plain Lean. What can be kept for so many days, as words; the term of a state. -/
import Derived.Test.YtndmjginmomfiaaGenB
namespace Go.Proofs
namespace Ytndmjginmomfiaa
/-- A weather: what comes, what is crushed, what can follow. -/
structure Wt where
  comes : Int
  lo : Int
  hi : Int
  next : Int
/-- A yard. -/
structure Yd where
  room : Int
  most : Int
  lots : Int
  ws : List Wt
def Yd.at_ (y : Yd) (m : Nat) : Wt := y.ws.getD m ⟨0, 0, 0, 0⟩
/-- A yard is valid. -/
structure Ok (y : Yd) : Prop where
  room0 : 0 ≤ y.room
  room1 : y.room ≤ 60
  most0 : 0 ≤ y.most
  most1 : y.most ≤ 40
  lots0 : 1 ≤ y.lots
  lots1 : y.lots ≤ 40
  n0 : 1 ≤ y.ws.length
  n1 : y.ws.length ≤ 4
  each : ∀ m, m < y.ws.length → 0 ≤ (y.at_ m).comes ∧ (y.at_ m).comes ≤ 1000 ∧ 0 ≤ (y.at_ m).lo ∧ (y.at_ m).lo ≤ (y.at_ m).hi ∧ (y.at_ m).hi ≤ 60 ∧ 1 ≤ (y.at_ m).next ∧ (y.at_ m).next ≤ 2 ^ y.ws.length - 1
theorem at_lt {y : Yd} {m : Nat} (h : m < y.ws.length) : y.at_ m = y.ws[m] := by simp [Yd.at_, h]

/-! ### Words -/
def upN (n : Nat) : Nat := 2 ^ (n + 1) - 1
def hasN (w : Nat) (lo hi : Int) : Bool := decide (0 ≤ lo ∧ hi ≤ 60) && ((w >>> lo.toNat) &&& upN (hi - lo).toNat == upN (hi - lo).toNat)
theorem mask_iff (x n : Nat) : (x &&& upN n = upN n) ↔ ∀ i, i ≤ n → x.testBit i = true := by
  unfold upN
  constructor
  · intro h i hi
    have h2 := congrArg (fun z => Nat.testBit z i) h
    simp only [Nat.testBit_and, Nat.testBit_two_pow_sub_one] at h2
    have : decide (i < n + 1) = true := by simp; omega
    rw [this] at h2
    simpa using h2
  · intro h
    apply Nat.eq_of_testBit_eq
    intro i
    rw [Nat.testBit_and, Nat.testBit_two_pow_sub_one]
    by_cases hi : i < n + 1
    · rw [h i (by omega)]; simp
    · simp [hi]
theorem hasN_iff {w : Nat} {lo hi : Int} (h : lo ≤ hi) : hasN w lo hi = true ↔ (0 ≤ lo ∧ hi ≤ 60) ∧ ∀ k : Int, lo ≤ k → k ≤ hi → w.testBit k.toNat = true := by
  unfold hasN
  rw [Bool.and_eq_true, decide_eq_true_eq, beq_iff_eq, mask_iff]
  constructor
  · rintro ⟨h1, h2⟩
    refine ⟨h1, fun k hk1 hk2 => ?_⟩
    have := h2 (k - lo).toNat (by omega)
    rw [Nat.testBit_shiftRight] at this
    rw [← this]; congr 1; omega
  · rintro ⟨h1, h2⟩
    refine ⟨h1, fun i hi2 => ?_⟩
    rw [Nat.testBit_shiftRight]
    have := h2 (lo + i) (by omega) (by omega)
    rw [← this]; congr 1; omega
theorem hasN_one {w : Nat} {s : Int} (h0 : 0 ≤ s) (h1 : s ≤ 60) : hasN w s s = w.testBit s.toNat := by
  rw [Bool.eq_iff_iff, hasN_iff (Int.le_refl _)]
  constructor
  · rintro ⟨_, h⟩; exact h s (Int.le_refl _) (Int.le_refl _)
  · intro h; refine ⟨⟨h0, h1⟩, fun k k1 k2 => ?_⟩
    have : k = s := by omega
    rw [this]; exact h
/-- The word of a test. -/
def bw (f : Nat → Bool) : Nat → Nat
  | 0 => 0
  | k + 1 => if f k = true then bw f k ||| 2 ^ k else bw f k
theorem bw_bit (f : Nat → Bool) : ∀ (k s : Nat), (bw f k).testBit s = (decide (s < k) && f s)
  | 0, s => by simp [bw]
  | k + 1, s => by
    unfold bw
    have ih := bw_bit f k s
    by_cases hf : f k = true
    · rw [if_pos hf, Nat.testBit_or, ih, Nat.testBit_two_pow]
      by_cases hs : s = k
      · subst hs; simp [hf]
      · have e : decide (k = s) = false := by simp; omega
        have e2 : decide (s < k + 1) = decide (s < k) := by simp; omega
        rw [e, e2]; simp
    · rw [if_neg hf, ih]
      by_cases hs : s = k
      · subst hs; simp at hf; simp [hf]
      · have e2 : decide (s < k + 1) = decide (s < k) := by simp; omega
        rw [e2]
theorem bw_lt (f : Nat → Bool) : ∀ k, bw f k < 2 ^ k
  | 0 => by simp [bw]
  | k + 1 => by
    unfold bw
    have ih := bw_lt f k
    have e : 2 ^ (k + 1) = 2 ^ k + 2 ^ k := by rw [Nat.pow_succ]; omega
    split
    · exact Nat.or_lt_two_pow (by omega) (by omega)
    · omega
theorem upN_bit (n s : Nat) : (upN n).testBit s = decide (s ≤ n) := by
  unfold upN; rw [Nat.testBit_two_pow_sub_one]; simp; omega
theorem upN_lt (n : Nat) : upN n < 2 ^ (n + 1) := by unfold upN; have := Nat.two_pow_pos (n + 1); omega

/-! ### What follows an order -/
def come (y : Yd) (s : Int) (m : Nat) (o : Int) : Int := s + o * (y.at_ m).comes / 1000
/-- Weather m' can follow weather m. -/
def nx (y : Yd) (m m' : Nat) : Bool := (y.at_ m).next / 2 ^ m' % 2 == 1
def folL (y : Yd) (m : Nat) : List Nat := (List.range y.ws.length).filter (nx y m)
def leadsB (y : Yd) (l : List Nat) (s : Int) (m : Nat) (o : Int) : Bool :=
  (folL y m).all fun m' => hasN (l.getD m' 0) (come y s m' o - (y.at_ m').hi) (come y s m' o - (y.at_ m').lo)
/-- How many orders there are. -/
def ordC (y : Yd) : Nat := (y.most / y.lots).toNat + 1
def ordL (y : Yd) : List Int := (List.range (ordC y)).map fun (k : Nat) => (k : Int) * y.lots
def stB (y : Yd) (l : List Nat) (m : Nat) (s : Nat) : Bool := (ordL y).any (leadsB y l s m)
def bef (y : Yd) (l : List Nat) : List Nat := (List.range 4).map fun m => if m < y.ws.length then bw (stB y l m) (y.room.toNat + 1) else 0
def lay (y : Yd) : Nat → List Nat
  | 0 => (List.range 4).map fun m => if m < y.ws.length then upN y.room.toNat else 0
  | d + 1 => bef y (lay y d)
def keepB (y : Yd) (d s m : Nat) : Bool := ((lay y d).getD m 0).testBit s
theorem mapR_get (f : Nat → Nat) (m : Nat) : ((List.range 4).map f).getD m 0 = if m < 4 then f m else 0 := by
  by_cases h : m < 4
  · simp [h, List.getD_eq_getElem?_getD]
  · simp [h, List.getD_eq_getElem?_getD]
theorem bef_get (y : Yd) (l : List Nat) {m : Nat} (hn : y.ws.length ≤ 4) : (bef y l).getD m 0 = if m < y.ws.length then bw (stB y l m) (y.room.toNat + 1) else 0 := by
  unfold bef
  rw [mapR_get]
  by_cases h : m < 4
  · rw [if_pos h]
  · rw [if_neg h, if_neg (by omega)]
theorem lay0_get (y : Yd) {m : Nat} (hn : y.ws.length ≤ 4) : (lay y 0).getD m 0 = if m < y.ws.length then upN y.room.toNat else 0 := by
  unfold lay
  rw [mapR_get]
  by_cases h : m < 4
  · rw [if_pos h]
  · rw [if_neg h, if_neg (by omega)]
theorem lay_len (y : Yd) (d : Nat) : (lay y d).length = 4 := by cases d <;> simp [lay, bef]
theorem bef_len (y : Yd) (l : List Nat) : (bef y l).length = 4 := by simp [bef]
theorem keep0 {y : Yd} (ok : Ok y) (s m : Nat) : keepB y 0 s m = (decide (m < y.ws.length) && decide (s ≤ y.room.toNat)) := by
  unfold keepB
  rw [lay0_get y ok.n1]
  by_cases h : m < y.ws.length
  · rw [if_pos h, upN_bit]; simp [h]
  · rw [if_neg h]; simp [h]
theorem keep_succ {y : Yd} (ok : Ok y) (d s m : Nat) : keepB y (d + 1) s m = (decide (m < y.ws.length) && decide (s ≤ y.room.toNat) && stB y (lay y d) m s) := by
  show ((bef y (lay y d)).getD m 0).testBit s = _
  rw [bef_get y _ ok.n1]
  by_cases h : m < y.ws.length
  · rw [if_pos h, bw_bit]
    have : decide (s < y.room.toNat + 1) = decide (s ≤ y.room.toNat) := by simp; omega
    rw [this]; simp [h]
  · rw [if_neg h]; simp [h]
theorem keep_in {y : Yd} (ok : Ok y) {d s m : Nat} (h : keepB y d s m = true) : m < y.ws.length ∧ s ≤ y.room.toNat := by
  cases d with
  | zero => rw [keep0 ok] at h; simpa using h
  | succ d => rw [keep_succ ok] at h; simp at h; exact h.1
/-- One layer lies within another. -/
def Sub (l l' : List Nat) : Prop := ∀ m s, (l.getD m 0).testBit s = true → (l'.getD m 0).testBit s = true
theorem span_le {y : Yd} (ok : Ok y) {m : Nat} (hm : m < y.ws.length) (c : Int) : c - (y.at_ m).hi ≤ c - (y.at_ m).lo := by have := ok.each m hm; omega
theorem fol_lt {y : Yd} {m m' : Nat} (h : m' ∈ folL y m) : m' < y.ws.length := by simp [folL] at h; exact h.1
theorem leads_iff {y : Yd} (ok : Ok y) {l : List Nat} {s : Int} {m : Nat} {o : Int} : leadsB y l s m o = true ↔
    ∀ m' ∈ folL y m, ∀ c, (y.at_ m').lo ≤ c → c ≤ (y.at_ m').hi → (0 ≤ come y s m' o - c ∧ come y s m' o - c ≤ 60) ∧ (l.getD m' 0).testBit (come y s m' o - c).toNat = true := by
  unfold leadsB
  rw [List.all_eq_true]
  constructor
  · intro h m' hm c h1 h2
    have h3 := (hasN_iff (span_le ok (fol_lt hm) _)).1 (h m' hm)
    have h4 := h3.2 (come y s m' o - c) (by omega) (by omega)
    exact ⟨by omega, h4⟩
  · intro h m' hm
    have he := ok.each m' (fol_lt hm)
    refine (hasN_iff (span_le ok (fol_lt hm) _)).2 ⟨?_, fun k h1 h2 => ?_⟩
    · have h1 := (h m' hm (y.at_ m').hi (by omega) (by omega)).1
      have h2 := (h m' hm (y.at_ m').lo (by omega) (by omega)).1
      omega
    · have := (h m' hm (come y s m' o - k) (by omega) (by omega)).2
      rw [← this]; congr 1; omega
theorem leads_mono {y : Yd} (ok : Ok y) {l l' : List Nat} (hs : Sub l l') {s : Int} {m : Nat} {o : Int} (h : leadsB y l s m o = true) : leadsB y l' s m o = true := by
  rw [leads_iff ok] at h ⊢
  intro m' hm c h1 h2
  have := h m' hm c h1 h2
  exact ⟨this.1, hs _ _ this.2⟩
theorem bef_mono {y : Yd} (ok : Ok y) {l l' : List Nat} (hs : Sub l l') : Sub (bef y l) (bef y l') := by
  intro m s h
  rw [bef_get y _ ok.n1] at h ⊢
  by_cases hm : m < y.ws.length
  · rw [if_pos hm, bw_bit] at h ⊢
    simp only [Bool.and_eq_true] at h ⊢
    refine ⟨h.1, ?_⟩
    have h2 := h.2
    unfold stB at h2 ⊢
    rw [List.any_eq_true] at h2 ⊢
    obtain ⟨o, ho, hl⟩ := h2
    exact ⟨o, ho, leads_mono ok hs hl⟩
  · rw [if_neg hm] at h; simp at h
theorem lay_fall {y : Yd} (ok : Ok y) : ∀ d, Sub (lay y (d + 1)) (lay y d)
  | 0 => by
    intro m s h
    have h' : keepB y 1 s m = true := h
    have := keep_in ok h'
    show keepB y 0 s m = true
    rw [keep0 ok]; simpa using this
  | d + 1 => bef_mono ok (lay_fall ok d)
theorem keep_anti {y : Yd} (ok : Ok y) {d d' s m : Nat} (h : d ≤ d') (hk : keepB y d' s m = true) : keepB y d s m = true := by
  induction d' with
  | zero => have : d = 0 := by omega
            rw [this]; exact hk
  | succ d' ih =>
    by_cases e : d = d' + 1
    · rw [e]; exact hk
    · exact ih (by omega) (lay_fall ok d' m s hk)
/-- All states. -/
def sts (y : Yd) : List (Nat × Nat) := (List.range y.ws.length).flatMap fun m => (List.range (y.room.toNat + 1)).map fun s => (m, s)
def cnt (y : Yd) : Nat := (y.room.toNat + 1) * y.ws.length
theorem sts_len (y : Yd) : (sts y).length = cnt y := by
  unfold sts cnt
  generalize y.room.toNat + 1 = r
  generalize y.ws.length = n
  induction n with
  | zero => simp
  | succ n ih => rw [List.range_succ, List.flatMap_append, List.length_append, ih, Nat.mul_succ]; simp
theorem mem_sts {y : Yd} {m s : Nat} : (m, s) ∈ sts y ↔ m < y.ws.length ∧ s ≤ y.room.toNat := by
  simp [sts]
  intro _; omega
theorem countP_lt {α : Type} {p q : α → Bool} : ∀ {l : List α}, (∀ x ∈ l, p x = true → q x = true) → (∃ x ∈ l, q x = true ∧ p x = false) → l.countP p < l.countP q
  | [], _, ⟨_, h, _⟩ => by simp at h
  | x :: l, h, ⟨z, hz, hq, hp⟩ => by
    have hm : l.countP p ≤ l.countP q := List.countP_mono_left fun a ha => h a (by simp [ha])
    rw [List.countP_cons, List.countP_cons]
    rcases List.mem_cons.1 hz with rfl | hz
    · rw [hq, hp]; simp; omega
    · have ih := countP_lt (l := l) (fun a ha => h a (by simp [ha])) ⟨z, hz, hq, hp⟩
      by_cases hpx : p x = true
      · rw [hpx, h x (by simp) hpx]; simp; omega
      · have : p x = false := by simpa using hpx
        rw [this]; simp; omega
def cd (y : Yd) (d : Nat) : Nat := (sts y).countP fun x => keepB y d x.2 x.1
theorem lay_eq {y : Yd} (ok : Ok y) {d d' : Nat} (h : ∀ x ∈ sts y, keepB y d x.2 x.1 = keepB y d' x.2 x.1) : lay y d = lay y d' := by
  apply List.ext_getElem (by rw [lay_len, lay_len])
  intro m h1 h2
  apply Nat.eq_of_testBit_eq
  intro s
  have e1 : (lay y d)[m].testBit s = keepB y d s m := by unfold keepB; rw [List.getD_eq_getElem?_getD, List.getElem?_eq_getElem h1]; rfl
  have e2 : (lay y d')[m].testBit s = keepB y d' s m := by unfold keepB; rw [List.getD_eq_getElem?_getD, List.getElem?_eq_getElem h2]; rfl
  rw [e1, e2]
  by_cases hin : m < y.ws.length ∧ s ≤ y.room.toNat
  · exact h (m, s) (mem_sts.2 hin)
  · have a1 : keepB y d s m = false := by rw [Bool.eq_false_iff]; exact fun hk => hin (keep_in ok hk)
    have a2 : keepB y d' s m = false := by rw [Bool.eq_false_iff]; exact fun hk => hin (keep_in ok hk)
    rw [a1, a2]
theorem cd_lt {y : Yd} (ok : Ok y) {d : Nat} (h : lay y (d + 1) ≠ lay y d) : cd y (d + 1) < cd y d := by
  refine countP_lt (fun x _ hx => keep_anti ok (Nat.le_succ d) hx) ?_
  refine Classical.byContradiction fun hno => h (lay_eq ok fun x hx => ?_)
  cases h1 : keepB y d x.2 x.1 with
  | false => rw [Bool.eq_false_iff]; intro h2; rw [keep_anti ok (Nat.le_succ d) h2] at h1; cases h1
  | true =>
    refine Classical.byContradiction fun h2 => hno ⟨x, hx, h1, by simpa using h2⟩
theorem lay_stays {y : Yd} {k : Nat} (h : lay y (k + 1) = lay y k) : ∀ j, lay y (k + j) = lay y k
  | 0 => rfl
  | j + 1 => by
    show bef y (lay y (k + j)) = _
    rw [lay_stays h j]; exact h
/-- The layers are all different up to k; then they remain the same. -/
structure Stab (y : Yd) (k : Nat) : Prop where
  same : lay y (k + 1) = lay y k
  diff : ∀ j, j < k → lay y (j + 1) ≠ lay y j
theorem cd_bound {y : Yd} (ok : Ok y) {k : Nat} (h : ∀ j, j < k → lay y (j + 1) ≠ lay y j) : cd y k + k ≤ cnt y := by
  induction k with
  | zero => rw [← sts_len]; exact List.countP_le_length
  | succ k ih =>
    have h1 := ih fun j hj => h j (by omega)
    have h2 := cd_lt ok (h k (by omega))
    omega
theorem Stab.le {y : Yd} (ok : Ok y) {k : Nat} (h : Stab y k) : k ≤ cnt y := by have := cd_bound ok h.diff; omega
theorem Stab.all {y : Yd} {k : Nat} (h : Stab y k) {j : Nat} (hj : k ≤ j) : lay y j = lay y k := by
  have := lay_stays h.same (j - k)
  rwa [show k + (j - k) = j by omega] at this
theorem stab_some {y : Yd} (ok : Ok y) : ∃ k, Stab y k := by
  refine Classical.byContradiction fun hno => ?_
  have h : ∀ k j, j < k → lay y (j + 1) ≠ lay y j := by
    intro k
    induction k with
    | zero => intro j hj; omega
    | succ k ih =>
      intro j hj
      by_cases e : j = k
      · subst e; exact fun he => hno ⟨j, he, ih⟩
      · exact ih j (by omega)
  have := cd_bound ok (h (cnt y + 1))
  omega
theorem keep_ever {y : Yd} (ok : Ok y) {s m : Nat} (h : keepB y (cnt y) s m = true) (d : Nat) : keepB y d s m = true := by
  obtain ⟨k, hk⟩ := stab_some ok
  by_cases hd : d ≤ cnt y
  · exact keep_anti ok hd h
  · unfold keepB at h ⊢
    rw [hk.all (Nat.le_trans (hk.le ok) (by omega)), ← hk.all (hk.le ok)]; exact h
def never : Int := 1125899906842624
/-- The term of a state. -/
def termP (y : Yd) (s m : Nat) : Int := match (List.range (cnt y + 1)).find? (fun d => !keepB y d s m) with
  | none => never
  | some d => (d : Int) - 1
theorem find_range {p : Nat → Bool} {n d : Nat} (h : (List.range n).find? p = some d) : d < n ∧ p d = true ∧ ∀ j, j < d → p j = false := by
  rw [List.find?_range_eq_some] at h
  obtain ⟨h1, h2, h3⟩ := h
  exact ⟨by simpa using h2, h1, fun j hj => by have := h3 j hj; simpa using this⟩
theorem term_cases {y : Yd} (ok : Ok y) {s m : Nat} (hs : s ≤ y.room.toNat) (hm : m < y.ws.length) :
    (termP y s m = never ∧ ∀ d, keepB y d s m = true) ∨ ∃ t : Nat, termP y s m = t ∧ t < cnt y ∧ keepB y t s m = true ∧ keepB y (t + 1) s m = false := by
  unfold termP
  cases h : (List.range (cnt y + 1)).find? (fun d => !keepB y d s m) with
  | none =>
    refine .inl ⟨rfl, fun d => keep_ever ok ?_ d⟩
    rw [List.find?_eq_none] at h
    have := h (cnt y) (by simp)
    simpa using this
  | some d =>
    obtain ⟨h1, h2, h3⟩ := find_range h
    have h0 : d ≠ 0 := by
      rintro rfl
      rw [keep0 ok] at h2; simp [hs, hm] at h2
    obtain ⟨t, rfl⟩ : ∃ t, d = t + 1 := ⟨d - 1, by omega⟩
    refine .inr ⟨t, by simp, by omega, ?_, by simpa using h2⟩
    have := h3 t (by omega)
    simpa using this
theorem term_lt {y : Yd} (ok : Ok y) : cnt y ≤ 244 := by
  unfold cnt
  have h1 := ok.room1
  have h2 := ok.n1
  have : y.room.toNat + 1 ≤ 61 := by omega
  exact Nat.le_trans (Nat.mul_le_mul this h2) (by decide)
theorem term_ge {y : Yd} (ok : Ok y) {s m : Nat} (hs : s ≤ y.room.toNat) (hm : m < y.ws.length) {d : Nat} (hd : d ≤ 10000) : (d : Int) ≤ termP y s m ↔ keepB y d s m = true := by
  have hc := term_lt ok
  rcases term_cases ok hs hm with ⟨h1, h2⟩ | ⟨t, h1, h2, h3, h4⟩
  · rw [h1]; unfold never; simp [h2 d]; omega
  · rw [h1]
    constructor
    · intro h; exact keep_anti ok (by omega) h3
    · intro h
      refine Classical.byContradiction fun hn => ?_
      have := keep_anti ok (d := t + 1) (d' := d) (by omega) h
      rw [h4] at this; cases this
end Ytndmjginmomfiaa
end Go.Proofs
