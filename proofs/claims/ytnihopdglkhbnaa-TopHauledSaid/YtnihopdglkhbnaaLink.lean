/- The reference's words and the program's: plain Lean. -/
import Derived.Test.YtnihopdglkhbnaaRefD
open Go Go.RowKit Go.YtnihopdglkhbnaaIt
namespace Go.Proofs
namespace Ytnihopdglkhbnaa
theorem vt_of {L : List Int} {ts : List Tn} (h : lineE L ts = 0) : Vt L ts := by
  have ok := okt_of h
  have h5 : ts.length ≤ 5 := by have := ok.t5; rwa [tos_len] at this
  refine ⟨ok.l8, h5, fun i hi => ?_, fun i hi => ?_⟩
  · have := ok.at_ i (by rw [tos_len]; exact hi)
    rwa [pos_at h5 hi] at this
  · have := ok.to_ i (by rw [tos_len]; exact hi)
    rwa [tos_at hi] at this
theorem nxt_eq {ts : List Tn} {i : Nat} (h : tAt ts i ≠ tTo ts i) : nxt (tAt ts i) (tTo ts i) = nxtT ts i := by
  unfold nxt nxtT nextT
  simp only
  split <;> split <;> omega
theorem poss_eq {L : List Int} {ts : List Tn} (h5 : ts.length ≤ 5) {i : Nat} (hi : i < ts.length) : possT L ts i = (onw (pos ts) (tos ts) i && canGo L (tos ts) (pos ts) i) := by
  unfold possT onw canGo
  rw [pos_at h5 hi, tos_at hi]
  by_cases h : tAt ts i = tTo ts i
  · simp [h]
  · rw [nxt_eq h, inT_cnt h5]
theorem filter_range_congr {n : Nat} {p q : Nat → Bool} (h : ∀ i, i < n → p i = q i) : (List.range n).filter p = (List.range n).filter q :=
  List.filter_congr (fun i hi => h i (by simpa using hi))
theorem movL_eq {L : List Int} {ts : List Tn} (h5 : ts.length ≤ 5) : movL L (tos ts) (pos ts) = (List.range ts.length).filter (possT L ts) := by
  unfold movL wayL
  rw [List.filter_filter, tos_len]
  refine filter_range_congr (fun i hi => ?_)
  rw [poss_eq h5 hi, Bool.and_comm]
theorem tsOf_at {A T : List Int} {i : Nat} (hi : i < T.length) : tAt (tsOf A T) i = at0 A i ∧ tTo (tsOf A T) i = at0 T i := by
  rw [tAt_lt (by rw [tsOf_len]; exact hi), tTo_lt (by rw [tsOf_len]; exact hi)]
  simp [tsOf]
theorem tsOf_pos {ts : List Tn} (h5 : ts.length ≤ 5) : tsOf (pos ts) (tos ts) = ts := by
  refine eq_of_tn (by rw [tsOf_len, tos_len]) (fun i hi => ?_)
  rw [tsOf_len, tos_len] at hi
  have h := tsOf_at (A := pos ts) (T := tos ts) (i := i) (by rw [tos_len]; exact hi)
  rw [h.1, h.2, pos_at h5 hi, tos_at hi]
  exact ⟨rfl, rfl⟩
theorem tos_movT (ts : List Tn) (i : Nat) : tos (movT ts i) = tos ts := by
  apply List.ext_getElem (by simp [tos, movT_len])
  intro j h1 h2
  have hj : j < ts.length := by simpa [tos] using h2
  have h := tos_at (ts := movT ts i) (i := j) (by rw [movT_len]; exact hj)
  have h' := tos_at (ts := ts) (i := j) hj
  rw [at0_lt h1] at h
  rw [at0_lt h2] at h'
  rw [h, h']
  unfold movT tTo
  simp only [List.getD_eq_getElem?_getD, List.getElem?_set]
  by_cases hij : i = j
  · subst hij; simp [hj]
  · simp [hij]
theorem pos_movT {ts : List Tn} (h5 : ts.length ≤ 5) {i : Nat} (hi : i < ts.length) (h : tAt ts i ≠ tTo ts i) : pos (movT ts i) = (pos ts).set i (nxt (at0 (pos ts) i) (at0 (tos ts) i)) := by
  have hl : (pos (movT ts i)).length = 5 := posK_len _ _
  have hl2 : (pos ts).length = 5 := posK_len _ _
  refine eq_of_at0 (by rw [List.length_set, hl, hl2]) (fun j hj => ?_)
  rw [hl] at hj
  rw [at0_set, pos_at h5 hi, tos_at hi, nxt_eq h]
  unfold pos
  rw [posK_at hj, posK_at hj, movT_len]
  by_cases hij : i = j
  · subst hij
    rw [if_pos hi, (movT_at hi).1, if_pos rfl, if_pos ⟨rfl, by rw [posK_len]; exact hj⟩]
  · rw [if_neg (fun (h3 : i = j ∧ i < (posK ts ts.length).length) => hij h3.1)]
    by_cases hjl : j < ts.length
    · rw [if_pos hjl, if_pos hjl, (movT_at hi).1, if_neg (Ne.symm hij)]
    · rw [if_neg hjl, if_neg hjl]
theorem moveE_eq {L : List Int} {ts : List Tn} (h5 : ts.length ≤ 5) (i : Int) : moveE L (tos ts) (pos ts) i = if btw 0 i (ts.length - 1) then (if tAt ts i.toNat = tTo ts i.toNat then 22 else if possT L ts i.toNat then 0 else 15) else 5 := by
  unfold moveE
  rw [tos_len]
  by_cases hb : btw 0 i ((ts.length : Int) - 1) = true
  · have hi : i.toNat < ts.length := by simp [btw] at hb; omega
    rw [if_pos hb, if_pos hb, pos_at h5 hi, tos_at hi]
    by_cases h : tAt ts i.toNat = tTo ts i.toNat
    · rw [if_pos h, if_pos h]
    · rw [if_neg h, if_neg h, poss_eq h5 hi]
      have ho : onw (pos ts) (tos ts) i.toNat = true := by
        unfold onw; rw [pos_at h5 hi, tos_at hi]; exact bne_iff_ne.2 h
      rw [ho, Bool.true_and]
  · rw [if_neg hb, if_neg hb]
theorem moveE_zero {L : List Int} {ts : List Tn} (h5 : ts.length ≤ 5) {i : Int} (h : moveE L (tos ts) (pos ts) i = 0) : 0 ≤ i ∧ i.toNat < ts.length ∧ tAt ts i.toNat ≠ tTo ts i.toNat ∧ possT L ts i.toNat = true := by
  rw [moveE_eq h5] at h
  by_cases hb : btw 0 i ((ts.length : Int) - 1) = true
  · rw [if_pos hb] at h
    simp [btw] at hb
    by_cases h1 : tAt ts i.toNat = tTo ts i.toNat
    · rw [if_pos h1] at h; cases h
    · rw [if_neg h1] at h
      by_cases h2 : possT L ts i.toNat = true
      · exact ⟨hb.1, by omega, h1, h2⟩
      · rw [if_neg h2] at h; cases h
  · rw [if_neg hb] at h; cases h
theorem moveS_eq {L : List Int} {ts : List Tn} (h5 : ts.length ≤ 5) {i : Int} (h : moveE L (tos ts) (pos ts) i = 0) : moveS L (tos ts) (pos ts) i = pos (movT ts i.toNat) := by
  obtain ⟨h0, h1, h2, h3⟩ := moveE_zero h5 h
  rw [poss_eq h5 h1] at h3
  have hc : canGo L (tos ts) (pos ts) i.toNat = true := by simp at h3; exact h3.2
  unfold moveS after
  rw [if_pos h, if_pos hc, pos_movT h5 h1 h2]
theorem filt_upd {n : Nat} {p q : Nat → Bool} {i : Nat} (hi : i < n) (h : ∀ j, j ≠ i → p j = q j) :
    ((List.range n).filter p).length + (if q i then 1 else 0) = ((List.range n).filter q).length + (if p i then 1 else 0) := by
  induction n with
  | zero => omega
  | succ n ih =>
    simp only [List.range_succ, List.filter_append, List.length_append, List.filter_cons, List.filter_nil]
    by_cases he : i = n
    · subst he
      have hc : (List.range i).filter p = (List.range i).filter q := List.filter_congr (fun j hj => h j (by simp at hj; omega))
      rw [hc]
      cases p i <;> cases q i <;> simp <;> omega
    · have := ih (by omega)
      rw [h n (Ne.symm he)]
      cases q n <;> simp <;> omega
/-- A move that is possible leaves a valid state. -/
theorem lineE_mov {L : List Int} {ts : List Tn} (h : lineE L ts = 0) {i : Nat} (hi : i < ts.length) (hp : possT L ts i = true) : lineE L (movT ts i) = 0 := by
  have hv := vt_of h
  have h5 := hv.t5
  have hne : tAt ts i ≠ tTo ts i := by intro he; simp [possT, he] at hp
  have hnx := hv.nxt hi hne
  unfold lineE at h ⊢
  rw [movT_len]
  split at h; · cases h
  split at h; · cases h
  split at h; · cases h
  split at h; · cases h
  split at h; · cases h
  rename_i h1 h2 h3 h4 h6
  rw [if_neg h1, if_neg h2, if_neg h3, if_neg h4]
  have hto : trainOut L (movT ts i) = false := by
    unfold trainOut
    rw [List.any_eq_false]
    intro x hx
    obtain ⟨j, hj, rfl⟩ := List.getElem_of_mem hx
    rw [movT_len] at hj
    have e1 := (movT_at (ts := ts) (i := i) (j := j) hi).1
    have e2 := (movT_at (ts := ts) (i := i) (j := j) hi).2
    rw [tAt_lt (by rw [movT_len]; exact hj)] at e1
    rw [tTo_lt (by rw [movT_len]; exact hj)] at e2
    have a1 := hv.at_ j hj
    have a2 := hv.to_ j hj
    rw [e1, e2]
    simp [btw]
    split <;> omega
  rw [hto]
  rw [if_neg (by decide)]
  have hof : overFull L ts = false := by
    by_cases ho : overFull L ts = true
    · rw [if_pos ho] at h; cases h
    · simpa using ho
  rw [if_neg]
  intro ho
  unfold overFull at ho hof
  rw [List.any_eq_true] at ho
  rw [List.any_eq_false] at hof
  obtain ⟨s, hs, ho⟩ := ho
  have hof' := hof s hs
  simp only [decide_eq_true_eq] at ho hof'
  rw [← inT_cnt (by rw [movT_len]; exact h5)] at ho
  rw [← inT_cnt h5] at hof'
  have hu := filt_upd (n := ts.length) (p := isIn (movT ts i) s) (q := isIn ts s) (i := i) hi (fun j hj => by
    unfold isIn
    rw [(movT_at hi).1, (movT_at hi).2, if_neg hj])
  have e1 : ((List.range ts.length).filter (isIn (movT ts i) s)).length = inT (movT ts i) s := by unfold inT; rw [movT_len]
  have e2 : ((List.range ts.length).filter (isIn ts s)).length = inT ts s := rfl
  rw [e1, e2] at hu
  by_cases hin : isIn (movT ts i) s i = true
  · unfold isIn at hin
    rw [(movT_at hi).1, (movT_at hi).2, if_pos rfl] at hin
    simp at hin
    obtain ⟨hs1, hs2⟩ := hin
    unfold possT at hp
    rw [beq_eq_false_iff_ne.2 hs2, hs1] at hp
    simp at hp
    have hle : inT (movT ts i) s ≤ inT ts s + 1 := by
      have : (if isIn (movT ts i) s i = true then 1 else 0) ≤ 1 := by split <;> omega
      omega
    omega
  · rw [if_neg hin] at hu
    omega
end Ytnihopdglkhbnaa
end Go.Proofs

