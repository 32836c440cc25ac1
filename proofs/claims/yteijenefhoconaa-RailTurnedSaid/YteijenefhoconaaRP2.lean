/- Plain words for the law RailRoom. -/
import Derived.Test.YteijenefhoconaaTlem
import Derived.Test.YteijenefhoconaaRoomP
import Derived.Test.YteijenefhoconaaFin
import Derived.Test.YteijenefhoconaaDisp2
open Go Go.RowKit Go.YteijenefhoconaaIt
namespace Go.Proofs
namespace Yteijenefhoconaa
section
variable {L T : List Int} {us : List Tn}
theorem stuck_safe (h : Val L T us) (hs : safeT L us = true) : (wayT us us.length && !canT L us us.length) = false := by
  by_cases h0 : leftT us = 0
  · have := left_all (vt_of h.1).t5
    rw [h0] at this
    have hw : wayT us us.length = false := by
      unfold wayT
      rw [List.any_eq_false]
      intro i hi
      have h1 : allT us us.length = true := by rw [← this]; simp
      unfold allT at h1
      have := List.all_eq_true.1 h1 i hi
      simpa using this
    rw [hw]; rfl
  · obtain ⟨i, hi, hp, _, _⟩ := plan_cons h hs h0
    have hc : canT L us us.length = true := by
      unfold canT
      exact List.any_eq_true.2 ⟨i, by simpa using hi, hp⟩
    rw [hc]; simp
theorem good_unsafe (h : Val L T us) (hs : safeT L us = false) : fN (gdT L us) us.length = [] := fN_nil fun i hi => by
  cases hg : gdT L us i with
  | false => rfl
  | true =>
    obtain ⟨hp, hs'⟩ := gdT_parts hg
    have := safe_yes h hi hp hs'
    rw [hs] at this; cases this
theorem safe_none (h : Val L T us) (h0 : us.length = 0) : safeT L us = true := by
  refine safe_zero h ?_
  have := left_all (vt_of h.1).t5
  rw [h0] at this
  simpa [allT] using this
/-- Good moves remain good in a line with more room. -/
theorem good_more {M : List Int} (hl : M.length = L.length) (hle : ∀ s, s < L.length → at0 L s ≤ at0 M s) (hr : ∀ x ∈ M, 1 ≤ x ∧ x ≤ 5) (h : Val L T us) {i : Nat} (hi : i < us.length) (hg : gdT L us i = true) : gdT M us i = true := by
  have h1 := lineE_rooms h.1
  obtain ⟨hp, hs⟩ := gdT_parts hg
  unfold gdT
  rw [possT_more hle (vt_of h.1) hi hp, safeT_more (T := T) hle _ _ rfl (h.mov hi hp) (fun us he => lineE_more hl hle hr h1.1 he) hs]; rfl
theorem safe_more {M : List Int} (hl : M.length = L.length) (hle : ∀ s, s < L.length → at0 L s ≤ at0 M s) (hr : ∀ x ∈ M, 1 ≤ x ∧ x ≤ 5) (h : Val L T us) (hs : safeT L us = true) : safeT M us = true := by
  have h1 := lineE_rooms h.1
  exact safeT_more (T := T) hle _ _ rfl h (fun us he => lineE_more hl hle hr h1.1 he) hs
theorem fN_in {p : Nat → Bool} {n i : Nat} (hi : i < n) (h : p i = true) : (i : Int) ∈ fN p n := by
  simp only [fN, List.mem_map, List.mem_filter, List.mem_range]
  exact ⟨i, ⟨hi, h⟩, rfl⟩
end
/-- Whether a number is among the first j. -/
def hasN (D : List Int) (x : Int) (j : Nat) : Bool := (D.take j).any fun y => x == y
theorem hasN_succ {D : List Int} {x : Int} {j : Nat} (hj : j < D.length) : hasN D x (j + 1) = (hasN D x j || x == at0 D j) := by
  unfold hasN
  rw [List.take_succ_eq_append_getElem hj, List.any_append, at0_lt hj]; simp
theorem hasN_all {D : List Int} {x : Int} (h : x ∈ D) : hasN D x D.length = true := by
  unfold hasN
  rw [List.take_length]
  exact List.any_eq_true.2 ⟨x, h, by simp⟩
theorem slI_cell3 {W : World} {ad : Option Addr} {n cap : Nat} {xs : List Int} (h : SlI W (.slice ad n cap) xs) {k : Nat} (hk : k < xs.length) : ∃ b off, ad = some ⟨b, off, none⟩ ∧ b < W.heap.size ∧ W.cell? ⟨b, off + k, none⟩ = some (.int .i64 (at0 xs k)) := by
  obtain ⟨ad', cap', h1, _, h3⟩ := h
  obtain ⟨b', off', h4, h5, h6⟩ := h3 (by omega)
  injection h1 with e1 _ _
  exact ⟨b', off', e1.trans h4, h5, h6 k hk⟩
theorem set_more {L : List Int} {s : Nat} {y : Int} (hy : at0 L s ≤ y) (h5 : 1 ≤ y ∧ y ≤ 5) (hL : ∀ x ∈ L, 1 ≤ x ∧ x ≤ 2) : (L.set s y).length = L.length ∧ (∀ k, k < L.length → at0 L k ≤ at0 (L.set s y) k) ∧ ∀ x ∈ L.set s y, 1 ≤ x ∧ x ≤ 5 := by
  refine ⟨by simp, fun k hk => ?_, fun x hx => ?_⟩
  · rw [at0_set]
    split
    · rename_i h; rw [← h.1]; exact hy
    · exact Int.le_refl _
  · rcases List.mem_or_eq_of_mem_set hx with h | h
    · have := hL x h; omega
    · omega
theorem flat_erase (ts : List Tn) (k : Nat) : flat (ts.take k) ++ flat (ts.drop (k + 1)) = flat (ts.eraseIdx k) := by
  rw [List.eraseIdx_eq_take_drop_succ]; simp [flat]
theorem flat_drop (ts : List Tn) : ∀ k, (flat ts).drop (k * 2) = flat (ts.drop k) := by
  induction ts with
  | nil => intro k; simp [flat]
  | cons x ts ih =>
    intro k
    cases k with
    | zero => simp
    | succ k =>
      have := ih k
      rw [show (k + 1) * 2 = k * 2 + 1 + 1 by omega]
      simp only [flat, List.flatMap_cons, List.cons_append, List.nil_append, List.drop_succ_cons] at this ⊢
      exact this
theorem flat_takeN (ts : List Tn) : ∀ k, (flat ts).take (k * 2) = flat (ts.take k) := by
  induction ts with
  | nil => intro k; simp [flat]
  | cons x ts ih =>
    intro k
    cases k with
    | zero => simp [flat]
    | succ k =>
      have := ih k
      rw [show (k + 1) * 2 = k * 2 + 1 + 1 by omega]
      simp only [flat, List.flatMap_cons, List.cons_append, List.nil_append, List.take_succ_cons] at this ⊢
      rw [this]
theorem made7 (r0 r1 r2 r3 r4 r5 m : Int) (v : Value) (xs : List Tn) (w : World) (hR : ∀ x ∈ [r0, r1, r2, r3, r4, r5], 0 ≤ x ∧ x < 256) (hm : 0 ≤ m ∧ m < 256) (hx : SlP w v xs) :
    Calls Try.prog 30 #[.agg #[.int .u8 r0, .int .u8 r1, .int .u8 r2, .int .u8 r3, .int .u8 r4, .int .u8 r5, .int .u8 m, v]] w fun e w' => ∃ vL vT L ts, e = .returned (.tuple #[vL, vT]) ∧ SlI w' vL L ∧ SlT w' vT ts ∧ ((lineE L ts = 0 ∧ ts.length ≤ 4 ∧ 2 ≤ L.length ∧ L.length ≤ 6 ∧ ∀ x ∈ L, 1 ≤ x ∧ x ≤ 2) ∧ (∀ ad n cap, vT = .slice ad n cap → n ≤ cap)) ∧ Below w.heap.size w w' := by
  refine (made_cap r0 r1 r2 r3 r4 r5 m v xs w hR hm hx).mono ?_
  rintro e w' ⟨vL, vT, rfl, h1, h2, hc, hb⟩
  have h3 := made_ok [r0, r1, r2, r3, r4, r5] m xs
  have h4 := manyM_le m
  have h5 := lineM_len [r0, r1, r2, r3, r4, r5] m
  exact ⟨vL, vT, _, _, rfl, h1, h2, ⟨⟨h3.1, h3.2, by omega, by omega, lineM_bnd⟩, hc⟩, hb⟩
end Yteijenefhoconaa
end Go.Proofs
