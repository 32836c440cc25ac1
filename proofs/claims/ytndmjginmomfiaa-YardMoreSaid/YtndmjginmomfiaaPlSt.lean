/- What can follow an order, as a list; orders that keep; breaks. -/
import Derived.Test.YtndmjginmomfiaaW13
open Go Go.RowKit Go.YtndmjginmomfiaaIt
namespace Go.Proofs
namespace Ytndmjginmomfiaa
/-- What can follow: a weather, what is crushed, a stock, and whether it is from 0 to the room. -/
structure Stp where
  w : Int
  c : Int
  s : Int
  g : Bool
def encS (x : Stp) : List Value := [.int .i64 x.w, .int .i64 x.c, .int .i64 x.s, .bool x.g]
instance : Inhabited Stp := ⟨⟨0, 0, 0, false⟩⟩
def stpC (y : Yd) (s o : Int) (m' : Nat) (c : Int) : Stp := ⟨m', c, come y s m' o - c, decide (0 ≤ come y s m' o - c) && decide (come y s m' o - c ≤ y.room)⟩
def stpA (y : Yd) (s o : Int) (m' k : Nat) : Stp := stpC y s o m' ((y.at_ m').lo + k)
def stpR (y : Yd) (s o : Int) (m' n : Nat) : List Stp := (List.range n).map (stpA y s o m')
def wid (y : Yd) (m' : Nat) : Nat := ((y.at_ m').hi - (y.at_ m').lo + 1).toNat
def stpN (y : Yd) (s : Int) (m : Nat) (o : Int) (k : Nat) : List Stp := (List.range k).flatMap fun m' => if nx y m m' = true then stpR y s o m' (wid y m') else []
def stpL (y : Yd) (s : Int) (m : Nat) (o : Int) : List Stp := stpN y s m o y.ws.length
theorem stpR_succ (y : Yd) (s o : Int) (m' n : Nat) : stpR y s o m' (n + 1) = stpR y s o m' n ++ [stpA y s o m' n] := by simp [stpR, List.range_succ]
theorem stpR_len (y : Yd) (s o : Int) (m' n : Nat) : (stpR y s o m' n).length = n := by simp [stpR]
theorem stpN_succ (y : Yd) (s : Int) (m : Nat) (o : Int) (k : Nat) : stpN y s m o (k + 1) = stpN y s m o k ++ if nx y m k = true then stpR y s o k (wid y k) else [] := by
  simp [stpN, List.range_succ, List.flatMap_append]
theorem wid_le {y : Yd} (ok : Ok y) {k : Nat} (hk : k < y.ws.length) : 1 ≤ wid y k ∧ wid y k ≤ 61 := by
  have := ok.each k hk
  unfold wid; omega
theorem stpN_len {y : Yd} (ok : Ok y) (s : Int) (m : Nat) (o : Int) : ∀ {k : Nat}, k ≤ y.ws.length → (stpN y s m o k).length ≤ 61 * k
  | 0, _ => by simp [stpN]
  | k + 1, h => by
    have ih := stpN_len ok s m o (k := k) (by omega)
    have := wid_le ok (k := k) (by omega)
    rw [stpN_succ, List.length_append]
    split
    · rw [stpR_len]; omega
    · simp; omega
theorem stpL_eq (y : Yd) (s : Int) (m : Nat) (o : Int) : stpL y s m o = (folL y m).flatMap fun m' => stpR y s o m' (wid y m') := by
  unfold stpL stpN folL
  generalize y.ws.length = n
  induction n with
  | zero => rfl
  | succ n ih =>
    rw [List.range_succ, List.flatMap_append, List.filter_append, List.flatMap_append, ih]
    congr 1
    by_cases h : nx y m n = true
    · simp [h]
    · simp [h]
theorem mem_stpL {y : Yd} {s : Int} {m : Nat} {o : Int} {x : Stp} : x ∈ stpL y s m o ↔ ∃ m' ∈ folL y m, ∃ c, (y.at_ m').lo ≤ c ∧ c ≤ (y.at_ m').hi ∧ x = stpC y s o m' c := by
  rw [stpL_eq, List.mem_flatMap]
  constructor
  · rintro ⟨m', hm, hx⟩
    obtain ⟨k, hk, rfl⟩ := List.mem_map.1 hx
    have hk := List.mem_range.1 hk
    unfold wid at hk
    exact ⟨m', hm, _, by omega, by omega, rfl⟩
  · rintro ⟨m', hm, c, h1, h2, rfl⟩
    refine ⟨m', hm, List.mem_map.2 ⟨(c - (y.at_ m').lo).toNat, List.mem_range.2 (by unfold wid; omega), ?_⟩⟩
    unfold stpA
    congr 1; omega
theorem ordL_mem {y : Yd} (ok : Ok y) {o : Int} (h : o ∈ ordL y) : 0 ≤ o ∧ o ≤ y.most ∧ o % y.lots = 0 := by
  unfold ordL at h
  obtain ⟨k, hk, rfl⟩ := List.mem_map.1 h
  have hk := List.mem_range.1 hk
  have h1 := (ordC_le ok (k := k)).2 hk
  have h2 := ok.lots0
  exact ⟨Int.mul_nonneg (by omega) (by omega), h1, Int.mul_emod_left _ _⟩
theorem mem_ordL {y : Yd} (ok : Ok y) {o : Int} (h0 : 0 ≤ o) (h1 : o ≤ y.most) (h2 : o % y.lots = 0) : o ∈ ordL y := by
  have hl := ok.lots0
  have he := Int.ediv_mul_cancel (Int.dvd_of_emod_eq_zero h2)
  have hq : 0 ≤ o / y.lots := Int.ediv_nonneg h0 (by omega)
  refine List.mem_map.2 ⟨(o / y.lots).toNat, List.mem_range.2 ?_, ?_⟩
  · refine (ordC_le ok).1 ?_
    rw [Int.toNat_of_nonneg hq, he]; exact h1
  · rw [Int.toNat_of_nonneg hq, he]
theorem fol_some {y : Yd} (ok : Ok y) {m : Nat} (hm : m < y.ws.length) : ∃ m', m' ∈ folL y m := by
  have h := (ok.each m hm).2.2.2.2.2
  obtain ⟨N, hN⟩ := Int.eq_ofNat_of_zero_le (show 0 ≤ (y.at_ m).next by omega)
  have hN0 : N ≠ 0 := by omega
  obtain ⟨i, hi⟩ := Nat.exists_testBit_of_ne_zero hN0
  have hlt : i < y.ws.length := by
    refine Classical.byContradiction fun hn => ?_
    have h2 : N < 2 ^ y.ws.length := by
      have : (N : Int) ≤ 2 ^ y.ws.length - 1 := by rw [← hN]; exact h.2
      have e : ((2 ^ y.ws.length : Nat) : Int) = (2 : Int) ^ y.ws.length := by push_cast; rfl
      omega
    have h3 := Nat.testBit_lt_two_pow (Nat.lt_of_lt_of_le h2 (Nat.pow_le_pow_right (by omega) (show y.ws.length ≤ i by omega)))
    rw [h3] at hi; cases hi
  refine ⟨i, ?_⟩
  unfold folL
  refine List.mem_filter.2 ⟨List.mem_range.2 hlt, ?_⟩
  unfold nx
  rw [hN, beq_iff_eq]
  rw [Nat.testBit_eq_decide_div_mod_eq] at hi
  have hi := of_decide_eq_true hi
  exact_mod_cast hi
theorem stpL_ne {y : Yd} (ok : Ok y) {s : Int} {m : Nat} {o : Int} (hm : m < y.ws.length) : stpL y s m o ≠ [] := by
  obtain ⟨m', h⟩ := fol_some ok hm
  have h1 := ok.each m' (fol_lt h)
  exact List.ne_nil_of_mem ((mem_stpL).2 ⟨m', h, (y.at_ m').lo, by omega, by omega, rfl⟩)
/-- Whether a step leads into a layer. -/
def intoB (l : List Nat) (x : Stp) : Bool := hasN (l.getD x.w.toNat 0) x.s x.s
theorem leads_stp {y : Yd} (ok : Ok y) {l : List Nat} {s : Int} {m : Nat} {o : Int} : leadsB y l s m o = true ↔ ∀ x ∈ stpL y s m o, intoB l x = true := by
  rw [leads_iff ok]
  constructor
  · intro h x hx
    obtain ⟨m', hm, c, h1, h2, rfl⟩ := (mem_stpL).1 hx
    have h3 := h m' hm c h1 h2
    unfold intoB stpC
    simp only [Int.toNat_natCast]
    rw [hasN_one h3.1.1 h3.1.2]; exact h3.2
  · intro h m' hm c h1 h2
    have h3 := h _ ((mem_stpL).2 ⟨m', hm, c, h1, h2, rfl⟩)
    unfold intoB stpC at h3
    simp only [Int.toNat_natCast] at h3
    have h4 := ((hasN_iff (Int.le_refl _)).1 h3).1
    rw [hasN_one h4.1 h4.2] at h3
    exact ⟨h4, h3⟩
/-- A step that leads into a layer is good, and its state can be kept. -/
theorem into_lay {y : Yd} (ok : Ok y) {d : Nat} {s : Int} {m : Nat} {o : Int} {x : Stp} (hx : x ∈ stpL y s m o) : intoB (lay y d) x = true ↔ x.g = true ∧ keepB y d x.s.toNat x.w.toNat = true := by
  obtain ⟨m', hm, c, h1, h2, rfl⟩ := (mem_stpL).1 hx
  have hr := ok.room1
  unfold intoB stpC
  simp only [Int.toNat_natCast]
  constructor
  · intro h
    have h4 := ((hasN_iff (Int.le_refl _)).1 h).1
    rw [hasN_one h4.1 h4.2] at h
    have h5 : keepB y d (come y s m' o - c).toNat m' = true := h
    have h6 := (keep_in ok h5).2
    have h7 := ok.room0
    exact ⟨by simp only [Bool.and_eq_true, decide_eq_true_eq]; omega, h5⟩
  · rintro ⟨h3, h4⟩
    simp only [Bool.and_eq_true, decide_eq_true_eq] at h3
    rw [hasN_one h3.1 (by omega)]; exact h4
theorem stp_facts {y : Yd} {s : Int} {m : Nat} {o : Int} {x : Stp} (hx : x ∈ stpL y s m o) : (∃ k : Nat, x.w = k ∧ k < y.ws.length) ∧ (x.g = true → 0 ≤ x.s ∧ x.s ≤ y.room) := by
  obtain ⟨m', hm, c, h1, h2, rfl⟩ := (mem_stpL).1 hx
  refine ⟨⟨m', rfl, fol_lt hm⟩, fun h => ?_⟩
  unfold stpC at h ⊢
  simpa using h
/-- A state that can be kept for d + 1 days has an order that keeps it. -/
theorem kept_step {y : Yd} (ok : Ok y) {s m d : Nat} (hk : keepB y (d + 1) s m = true) : ∃ o os, ordK y d s m = o :: os ∧ (0 ≤ o ∧ o ≤ y.most) ∧ stpL y s m o ≠ [] ∧ ∀ x ∈ stpL y s m o, x.g = true ∧ keepB y d x.s.toNat x.w.toNat = true := by
  have hin := keep_in ok hk
  rw [keep_succ ok] at hk
  simp only [Bool.and_eq_true] at hk
  have h2 := hk.2
  unfold stB at h2
  rw [List.any_eq_true] at h2
  obtain ⟨o1, ho1, hl1⟩ := h2
  have hmem : o1 ∈ ordK y d s m := List.mem_filter.2 ⟨ho1, hl1⟩
  cases hL : ordK y d s m with
  | nil => rw [hL] at hmem; simp at hmem
  | cons o os =>
    have ho : o ∈ ordK y d s m := by rw [hL]; simp
    obtain ⟨h3, h4⟩ := List.mem_filter.1 ho
    have h5 := ordL_mem ok h3
    refine ⟨o, os, rfl, ⟨h5.1, h5.2.1⟩, stpL_ne ok hin.1, fun x hx => ?_⟩
    exact (into_lay ok hx).1 ((leads_stp ok).1 h4 x hx)
theorem brkV_find {y : Yd} (l : List Nat) (s : Int) (m' : Nat) (o : Int) : brkV y l s m' o = ((stpR y s o m' (wid y m')).find? fun x => !intoB l x).map fun x => (x.w.toNat, x.c) := by
  unfold brkV brkAt stpR
  rw [List.find?_map, Option.map_map]
  have e : (come y s m' o - (y.at_ m').lo - (come y s m' o - (y.at_ m').hi) + 1).toNat = wid y m' := by unfold wid; congr 1; omega
  rw [e]
  have e2 : (fun k : Nat => !hasN (l.getD m' 0) (come y s m' o - (y.at_ m').lo - k) (come y s m' o - (y.at_ m').lo - k)) = ((fun x => !intoB l x) ∘ stpA y s o m') := by
    funext k
    simp only [Function.comp_def, intoB, stpA, stpC, Int.toNat_natCast]
    rw [show come y s m' o - (y.at_ m').lo - (k : Int) = come y s m' o - ((y.at_ m').lo + k) by omega]
  rw [e2]
  cases List.find? ((fun x => !intoB l x) ∘ stpA y s o m') (List.range (wid y m')) <;> rfl
/-- The first break is the first step that does not lead into the layer. -/
theorem brk_find {y : Yd} (l : List Nat) (s : Int) (m : Nat) (o : Int) : brk y l s m o = ((stpL y s m o).find? fun x => !intoB l x).map fun x => (x.w.toNat, x.c) := by
  rw [stpL_eq]
  unfold brk
  generalize folL y m = L
  induction L with
  | nil => rfl
  | cons a L ih =>
    rw [List.findSome?_cons, List.flatMap_cons, List.find?_append, brkV_find l s a o]
    cases hf : (stpR y s o a (wid y a)).find? fun x => !intoB l x with
    | none => simp only [Option.map_none, Option.none_or]; exact ih
    | some x => rfl
/-- What a break is: a first step that does not lead into the layer; no step before it is like it. -/
structure BrkAt (y : Yd) (d : Nat) (s : Int) (m : Nat) (o : Int) (j : Nat) (x : Stp) : Prop where
  at_ : (stpL y s m o)[j]? = some x
  bad : intoB (lay y d) x = false
  ere : ∀ i z, i < j → (stpL y s m o)[i]? = some z → intoB (lay y d) z = true ∧ (z.w ≠ x.w ∨ z.c ≠ x.c)
theorem brk_at {y : Yd} (ok : Ok y) {d : Nat} {s : Int} {m : Nat} {o : Int} (h : leadsB y (lay y d) s m o = false) : ∃ j x, BrkAt y d s m o j x ∧ brk y (lay y d) s m o = some (x.w.toNat, x.c) := by
  cases hf : (stpL y s m o).find? fun x => !intoB (lay y d) x with
  | none =>
    rw [List.find?_eq_none] at hf
    have : leadsB y (lay y d) s m o = true := (leads_stp ok).2 fun x hx => by simpa using hf x hx
    rw [this] at h; cases h
  | some x =>
    have hb : brk y (lay y d) s m o = some (x.w.toNat, x.c) := by rw [brk_find, hf]; rfl
    obtain ⟨h1, l1, l2, h2, h3⟩ := List.find?_eq_some_iff_append.1 hf
    refine ⟨l1.length, x, ⟨by rw [h2]; simp, by simpa using h1, fun i z hi hz => ?_⟩, hb⟩
    have hz2 : z ∈ l1 := by
      rw [h2, List.getElem?_append_left hi] at hz
      exact List.mem_of_getElem? hz
    have hzi : intoB (lay y d) z = true := by simpa using h3 z hz2
    refine ⟨hzi, Classical.byContradiction fun hc => ?_⟩
    have hx : x ∈ stpL y s m o := by rw [h2]; simp
    have hz3 : z ∈ stpL y s m o := by rw [h2]; simp [hz2]
    obtain ⟨m1, hm1, c1, _, _, rfl⟩ := (mem_stpL).1 hx
    obtain ⟨m2, hm2, c2, _, _, rfl⟩ := (mem_stpL).1 hz3
    have e1 : m2 = m1 := by have : (m2 : Int) = m1 := Classical.byContradiction fun h => hc (.inl h)
                            omega
    have e2 : c2 = c1 := Classical.byContradiction fun h => hc (.inr h)
    subst e1 e2
    rw [hzi] at h1; simp at h1
/-- In a state that can't be kept for d + 1 days each order has a break. -/
theorem not_kept {y : Yd} (ok : Ok y) {s m d : Nat} (hs : s ≤ y.room.toNat) (hm : m < y.ws.length) (hk : keepB y (d + 1) s m = false) {o : Int} (ho : o ∈ ordL y) : leadsB y (lay y d) s m o = false := by
  rw [Bool.eq_false_iff]
  intro h
  rw [keep_succ ok] at hk
  have : stB y (lay y d) m s = true := List.any_eq_true.2 ⟨o, ho, h⟩
  simp [hs, hm, this] at hk
end Ytndmjginmomfiaa
end Go.Proofs
