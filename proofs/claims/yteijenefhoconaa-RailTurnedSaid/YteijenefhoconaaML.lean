/- A track by numbers is a valid line with trains. Plain Lean. -/
import Derived.Test.YteijenefhoconaaE31
open Go Go.RowKit Go.YteijenefhoconaaIt
namespace Go.Proofs
namespace Yteijenefhoconaa
/-- How many sections. -/
def manyM (m : Int) : Nat := 2 + (m % 5).toNat
def roomM (R : List Int) (s : Nat) : Int := 1 + at0 R s % 5 / 3
def lineM (R : List Int) (m : Int) : List Int := (List.range (manyM m)).map (roomM R)
/-- The next train by numbers. -/
def trM (L : List Int) (ts : List Tn) (x : Tn) : Tn := (x.1 % L.length, if at0 L (x.1 % L.length).toNat ≤ inT ts (x.1 % L.length) then x.1 % L.length else x.2 % L.length)
def trainsN (L : List Int) (xs : List Tn) : Nat → List Tn
  | 0 => []
  | k + 1 => trainsN L xs k ++ [trM L (trainsN L xs k) (tAt xs k, tTo xs k)]
def trainsM (L : List Int) (xs : List Tn) : List Tn := trainsN L xs (min xs.length 4)
theorem trainsN_len (L : List Int) (xs : List Tn) : ∀ k, (trainsN L xs k).length = k
  | 0 => rfl
  | k + 1 => by simp [trainsN, trainsN_len L xs k]
theorem manyM_le (m : Int) : 2 ≤ manyM m ∧ manyM m ≤ 6 := by unfold manyM; omega
theorem lineM_len (R : List Int) (m : Int) : (lineM R m).length = manyM m := by simp [lineM]
theorem tn_app_lt {ts us : List Tn} {i : Nat} (h : i < ts.length) : tAt (ts ++ us) i = tAt ts i ∧ tTo (ts ++ us) i = tTo ts i := by
  simp [tAt, tTo, List.getD_eq_getElem?_getD, List.getElem?_append, h]
theorem tn_app_last {ts : List Tn} {y : Tn} : tAt (ts ++ [y]) ts.length = y.1 ∧ tTo (ts ++ [y]) ts.length = y.2 := by
  simp [tAt, tTo, List.getD_eq_getElem?_getD]
theorem inT_app (ts : List Tn) (y : Tn) (s : Int) : inT (ts ++ [y]) s = inT ts s + if y.1 == s && y.1 != y.2 then 1 else 0 := by
  unfold inT
  rw [List.length_append, List.length_singleton, List.range_succ, List.filter_append, List.length_append]
  congr 1
  · congr 1
    refine List.filter_congr (fun i hi => ?_)
    have := tn_app_lt (us := [y]) (by simpa using hi : i < ts.length)
    unfold isIn; rw [this.1, this.2]
  · have := tn_app_last (ts := ts) (y := y)
    unfold isIn
    simp only [List.filter_cons, List.filter_nil, this.1, this.2]
    split <;> rfl
structure OkM (L : List Int) (ts : List Tn) : Prop where
  at_ : ∀ i, i < ts.length → 0 ≤ tAt ts i ∧ tAt ts i < L.length
  to_ : ∀ i, i < ts.length → 0 ≤ tTo ts i ∧ tTo ts i < L.length
  room : ∀ s : Nat, s < L.length → (inT ts s : Int) ≤ at0 L s
theorem OkM.next {L : List Int} {ts : List Tn} (h : OkM L ts) (hl : 0 < L.length) (x : Tn) : OkM L (ts ++ [trM L ts x]) := by
  have h1 : 0 ≤ x.1 % (L.length : Int) ∧ x.1 % (L.length : Int) < L.length := ⟨Int.emod_nonneg _ (by omega), Int.emod_lt_of_pos _ (by omega)⟩
  have h2 : 0 ≤ x.2 % (L.length : Int) ∧ x.2 % (L.length : Int) < L.length := ⟨Int.emod_nonneg _ (by omega), Int.emod_lt_of_pos _ (by omega)⟩
  have hlast := tn_app_last (ts := ts) (y := trM L ts x)
  refine ⟨fun i hi => ?_, fun i hi => ?_, fun s hs => ?_⟩
  · by_cases hil : i < ts.length
    · rw [(tn_app_lt hil).1]; exact h.at_ i hil
    · have : i = ts.length := by simp at hi; omega
      rw [this, hlast.1]; exact h1
  · by_cases hil : i < ts.length
    · rw [(tn_app_lt hil).2]; exact h.to_ i hil
    · have : i = ts.length := by simp at hi; omega
      rw [this, hlast.2]; unfold trM; simp only; split
      · exact h1
      · exact h2
  · rw [inT_app]
    have hr := h.room s hs
    by_cases hc : ((trM L ts x).1 == (s : Int) && (trM L ts x).1 != (trM L ts x).2) = true
    · rw [if_pos hc]
      simp only [Bool.and_eq_true, beq_iff_eq, bne_iff_ne] at hc
      unfold trM at hc
      simp only at hc
      obtain ⟨e1, e2⟩ := hc
      by_cases hf : at0 L (x.1 % (L.length : Int)).toNat ≤ inT ts (x.1 % (L.length : Int))
      · rw [if_pos hf] at e2; exact absurd rfl e2
      · rw [e1, Int.toNat_natCast] at hf; push_cast; omega
    · rw [if_neg hc]; simpa using hr
theorem okM_trains {L : List Int} (hl : 0 < L.length) (h0 : ∀ s : Nat, s < L.length → 0 ≤ at0 L s) (xs : List Tn) : ∀ k, OkM L (trainsN L xs k)
  | 0 => ⟨fun i hi => by simp [trainsN] at hi, fun i hi => by simp [trainsN] at hi, fun s hs => by simpa [trainsN, inT] using h0 s hs⟩
  | k + 1 => (okM_trains hl h0 xs k).next hl _
theorem lineE_ok {L : List Int} {ts : List Tn} (h1 : 0 < L.length) (h8 : L.length ≤ 8) (hr : ∀ x ∈ L, 1 ≤ x ∧ x ≤ 5) (h5 : ts.length ≤ 5) (h : OkM L ts) : lineE L ts = 0 := by
  unfold lineE
  have e3 : roomOut L = false := by
    unfold roomOut; rw [List.any_eq_false]
    intro x hx; have := hr x hx; simp [btw]; omega
  have e5 : trainOut L ts = false := by
    unfold trainOut; rw [List.any_eq_false]
    intro x hx
    obtain ⟨i, hi, rfl⟩ := List.getElem_of_mem hx
    have ha := h.at_ i hi
    have ht := h.to_ i hi
    rw [tAt_lt hi] at ha
    rw [tTo_lt hi] at ht
    simp [btw]; omega
  have e6 : overFull L ts = false := by
    unfold overFull; rw [List.any_eq_false]
    intro s hs
    have := h.room s (by simpa using hs)
    rw [inT_cnt h5] at this
    simpa using this
  rw [if_neg (by omega), if_neg (by omega), e3, if_neg (by decide), if_neg (by omega), e5, if_neg (by decide), e6, if_neg (by decide)]
theorem roomM_bnd (R : List Int) (s : Nat) : 1 ≤ roomM R s ∧ roomM R s ≤ 2 := by unfold roomM; omega
theorem lineM_bnd {R : List Int} {m : Int} : ∀ x ∈ lineM R m, 1 ≤ x ∧ x ≤ 2 := by
  intro x hx
  simp only [lineM, List.mem_map] at hx
  obtain ⟨s, _, rfl⟩ := hx
  exact roomM_bnd R s
/-- A track by numbers is valid. -/
theorem made_ok (R : List Int) (m : Int) (xs : List Tn) : lineE (lineM R m) (trainsM (lineM R m) xs) = 0 ∧ (trainsM (lineM R m) xs).length ≤ 4 := by
  have hm := manyM_le m
  have hl := lineM_len R m
  have hlen : (trainsM (lineM R m) xs).length ≤ 4 := by unfold trainsM; rw [trainsN_len]; omega
  refine ⟨lineE_ok (by omega) (by omega) (fun x hx => by have := lineM_bnd x hx; omega) (by omega) (okM_trains (by omega) (fun s hs => ?_) xs _), hlen⟩
  rw [at0_lt hs]
  have := lineM_bnd _ (List.getElem_mem hs)
  omega
end Yteijenefhoconaa
end Go.Proofs
