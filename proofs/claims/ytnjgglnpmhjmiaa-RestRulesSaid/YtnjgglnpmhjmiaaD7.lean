/- Laws of rotation, plainly: the first list that leads to a good state. -/
import Derived.Test.YtnjgglnpmhjmiaaA9
open Go Go.RowKit Go.YtnjgglnpmhjmiaaIt
open Rest
namespace Go.Proofs
namespace Ytnjgglnpmhjmiaa
/-- Lists of letters 0 and 1 in their order: the shorter ones first. -/
def code (w : List Nat) : Nat := w.foldl (fun a c => 2 * a + c) 1
theorem code_snoc (w : List Nat) (c : Nat) : code (w ++ [c]) = 2 * code w + c := by simp [code]
theorem snoc_ind {P : List Nat → Prop} (h0 : P []) (h1 : ∀ w c, P w → P (w ++ [c])) (w : List Nat) : P w := by
  have : ∀ n (w : List Nat), w.length = n → P w := fun n => by
    induction n with
    | zero => intro w h; rw [List.eq_nil_of_length_eq_zero h]; exact h0
    | succ n ih =>
      intro w h
      have hne : w ≠ [] := fun e => by rw [e] at h; cases h
      rw [← List.dropLast_concat_getLast hne]
      exact h1 _ _ (ih _ (by rw [List.length_dropLast]; omega))
  exact this _ w rfl
theorem code_bd : ∀ w : List Nat, Wd 2 w → 2 ^ w.length ≤ code w ∧ code w < 2 ^ (w.length + 1) := by
  refine snoc_ind (fun _ => ⟨Nat.le_refl _, by decide⟩) fun w c ih h => ?_
  obtain ⟨h1, h2⟩ := wd_app.1 h
  have hc := (wd_cons.1 h2).1
  have := ih h1
  rw [code_snoc, List.length_append, List.length_singleton, Nat.pow_succ 2 (w.length + 1), Nat.pow_succ 2 w.length] at *
  omega
theorem code_inj : ∀ u : List Nat, Wd 2 u → ∀ v, Wd 2 v → code u = code v → u = v := by
  refine snoc_ind ?_ ?_
  · intro _ v hv e
    have h := (code_bd v hv).1
    rw [← e] at h
    have h1 : 2 ^ v.length ≤ 1 := h
    cases v with
    | nil => rfl
    | cons c v => rw [List.length_cons, Nat.pow_succ] at h1; have := Nat.one_le_two_pow (n := v.length); omega
  · intro w c ih hu v hv e
    obtain ⟨h1, h2⟩ := wd_app.1 hu
    have hc := (wd_cons.1 h2).1
    have h3 := (code_bd _ hu).1
    rw [e] at h3
    have h4 := (code_bd v hv).2
    have hl : v ≠ [] := fun e2 => by
      rw [e2] at h3
      have h5 : 2 ^ (w ++ [c]).length ≤ 1 := h3
      rw [List.length_append, List.length_singleton, Nat.pow_succ] at h5
      have := Nat.one_le_two_pow (n := w.length)
      omega
    have ev := List.dropLast_concat_getLast hl
    rw [← ev] at hv
    obtain ⟨h5, h6⟩ := wd_app.1 hv
    have hc2 := (wd_cons.1 h6).1
    rw [← ev, code_snoc, code_snoc] at e
    have e1 : code w = code v.dropLast := by omega
    have e2 : c = v.getLast hl := by omega
    rw [ih h1 _ h5 e1, e2, ev]
section
variable {α : Type}
/-- The lists of a walk lie in their order. -/
structure Srt (l : List (α × List Nat)) (i m : Nat) : Prop where
  up : (l.map fun p => code p.2).Pairwise (· < ·)
  from_ : ∀ p ∈ l, p.2 = [] ∨ ∃ j c q, (j < i ∧ c < 2 ∨ j = i ∧ c < m) ∧ l[j]? = some q ∧ p.2 = q.2 ++ [c]
theorem Srt.code_lt {l : List (α × List Nat)} {i m : Nat} (h : Srt l i m) {j k : Nat} (hjk : j < k) (hk : k < l.length) : code (l[j]'(by omega)).2 < code l[k].2 := by
  have h1 := List.pairwise_iff_getElem.1 h.up j k (by simp; omega) (by simp; omega) hjk
  simpa using h1
theorem Srt.below {l : List (α × List Nat)} {i m : Nat} (h : Srt l i m) (hi : i < l.length) (hm : m < 2) (hp : l[i].2 ≠ [] ∨ True) : ∀ p ∈ l, code p.2 < 2 * code l[i].2 + m ∨ (p.2 = [] ∧ code p.2 < 2 * code l[i].2 + m) := by
  intro p hpl
  have h1 : 1 ≤ code l[i].2 := by
    rcases h.from_ _ (List.getElem_mem hi) with e | ⟨j, c, q, -, -, e⟩
    · rw [e]; decide
    · have hj : ∀ w : List Nat, 1 ≤ code w := snoc_ind (by decide) fun w c ih => by rw [code_snoc]; omega
      exact hj _
  rcases h.from_ p hpl with e | ⟨j, c, q, hj, hq, e⟩
  · right
    refine ⟨e, ?_⟩
    rw [e]
    show 1 < _
    omega
  · left
    rw [e, code_snoc]
    rcases hj with ⟨hj, hc⟩ | ⟨hj, hc⟩
    · have hql : j < l.length := by omega
      have e2 : l[j] = q := by rw [List.getElem?_eq_getElem hql] at hq; injection hq
      have := h.code_lt hj hi
      rw [e2] at this
      omega
    · subst hj
      have e2 : l[j] = q := by rw [List.getElem?_eq_getElem hi] at hq; injection hq
      rw [e2]
      omega
variable [DecidableEq α]
theorem Srt.tryC {x : RSys α} {l : List (α × List Nat)} {i m : Nat} (h : Srt l i m) (hi : i < l.length) (hm : m < 2) : Srt (tryC x l[i] l m) i (m + 1) := by
  unfold Rest.tryC
  split
  · exact ⟨h.up, fun p hp => (h.from_ p hp).imp_right fun ⟨j, c, q, hj, hq⟩ => ⟨j, c, q, hj.imp_right (fun ⟨a, b⟩ => ⟨a, by omega⟩), hq⟩⟩
  · refine ⟨?_, fun p hp => ?_⟩
    · rw [List.map_append, List.pairwise_append]
      refine ⟨h.up, List.pairwise_singleton _ _, fun a ha b hb => ?_⟩
      obtain ⟨p, hp, rfl⟩ := List.mem_map.1 ha
      rw [List.map_singleton, List.mem_singleton] at hb
      rw [hb, code_snoc]
      rcases h.below hi hm (.inr trivial) p hp with h1 | ⟨-, h1⟩ <;> exact h1
    · rcases List.mem_append.1 hp with hp | hp
      · refine (h.from_ p hp).imp_right fun ⟨j, c, q, hj, hq, e⟩ => ⟨j, c, q, hj.imp_right (fun ⟨a, b⟩ => ⟨a, by omega⟩), ?_, e⟩
        have hjl : j < l.length := by have := List.getElem?_eq_some_iff.1 hq; exact this.1
        rw [List.getElem?_append_left hjl, hq]
      · rw [List.mem_singleton.1 hp]
        refine .inr ⟨i, m, l[i], .inr ⟨rfl, by omega⟩, ?_, rfl⟩
        rw [List.getElem?_append_left hi, List.getElem?_eq_getElem hi]
theorem srt_tryN {x : RSys α} {l : List (α × List Nat)} {i : Nat} {p : α × List Nat} (h : Srt l i 0) (hp : l[i]? = some p) : ∀ m, m ≤ 2 → Srt (tryN x p l m) i m
  | 0, _ => h
  | m + 1, hm => by
    have ih := srt_tryN (x := x) h hp m (by omega)
    have hpre := tryN_pre x p l m
    have hi : i < l.length := (List.getElem?_eq_some_iff.1 hp).1
    have hi2 : i < (tryN x p l m).length := Nat.lt_of_lt_of_le hi hpre.length_le
    have e : (tryN x p l m)[i] = p := by
      have h1 := hpre.getElem hi
      rw [← h1]
      exact (List.getElem?_eq_some_iff.1 hp).2
    have := ih.tryC (x := x) hi2 (by omega)
    rw [e] at this
    rw [tryN_succ]
    exact this
theorem srt_after {x : RSys α} (hk : x.k = 2) : ∀ i, Srt (after x i) i 0
  | 0 => ⟨List.pairwise_singleton _ _, fun p hp => .inl (by rw [List.mem_singleton.1 hp])⟩
  | i + 1 => by
    have ih := srt_after hk i
    rw [after]
    cases e : (after x i)[i]? with
    | none => exact ⟨ih.up, fun p hp => (ih.from_ p hp).imp_right fun ⟨j, c, q, hj, hq⟩ => ⟨j, c, q, .inl (by omega), hq⟩⟩
    | some p =>
      have h := srt_tryN (x := x) ih e 2 (Nat.le_refl _)
      rw [hk]
      exact ⟨h.up, fun p hp => (h.from_ p hp).imp_right fun ⟨j, c, q, hj, hq⟩ => ⟨j, c, q, .inl (by omega), hq⟩⟩
theorem walk_next {x : RSys α} {L : List (α × List Nat)} (h : Walk x L) (hk : x.k = 2) {j c : Nat} (hj : j < L.length) (hc : c < 2) : ∃ w, (x.nx L[j].1 c, w) ∈ L ∧ code w ≤ code (L[j].2 ++ [c]) := by
  have h0 := srt_tryN (x := x) (srt_after hk j) (h.at_ hj) c (by omega)
  have hin : ∀ p ∈ tryC x L[j] (tryN x L[j] (after x j) c) c, p ∈ L := fun p hp => by
    have h1 : p ∈ tryN x L[j] (after x j) (c + 1) := by rw [tryN_succ]; exact hp
    have h2 : tryN x L[j] (after x j) (c + 1) <+: tryN x L[j] (after x j) 2 := by
      match c, hc with
      | 0, _ => rw [show tryN x L[j] (after x j) 2 = tryC x L[j] (tryN x L[j] (after x j) 1) 1 from tryN_succ ..]; exact tryC_pre _ _ _ _
      | 1, _ => exact List.prefix_rfl
    have h3 : after x (j + 1) = tryN x L[j] (after x j) 2 := by rw [h.next hj, hk]
    have h4 := after_pre x (i := j + 1) (j := L.length) hj
    rw [h.all, h3] at h4
    exact h4.subset (h2.subset h1)
  have hjl : j < (tryN x L[j] (after x j) c).length := Nat.lt_of_lt_of_le (h.lt hj) (tryN_pre x L[j] (after x j) c).length_le
  have ej : (tryN x L[j] (after x j) c)[j] = L[j] := by
    rw [← (tryN_pre x L[j] (after x j) c).getElem (h.lt hj)]
    exact (List.getElem?_eq_some_iff.1 (h.at_ hj)).2
  by_cases hm : x.nx L[j].1 c ∈ (tryN x L[j] (after x j) c).map Prod.fst
  · obtain ⟨p, hp, e⟩ := List.mem_map.1 hm
    have hb := h0.below hjl hc (.inr trivial) p hp
    rw [ej] at hb
    refine ⟨p.2, ?_, by rw [code_snoc]; rcases hb with hb | ⟨-, hb⟩ <;> omega⟩
    rw [← e]
    refine hin p ?_
    unfold tryC
    rw [if_pos hm]
    exact hp
  · refine ⟨L[j].2 ++ [c], hin _ ?_, Nat.le_refl _⟩
    unfold tryC
    rw [if_neg hm]
    exact List.mem_append_right _ (List.mem_singleton.2 rfl)
/-- A word before which no other leads to its state is in the walk. -/
theorem walk_least {x : RSys α} {L : List (α × List Nat)} (h : Walk x L) (hk : x.k = 2) : ∀ u, Wd 2 u → (∀ v, Wd 2 v → x.run x.start v = x.run x.start u → code u ≤ code v) → (x.run x.start u, u) ∈ L := by
  refine snoc_ind ?_ ?_
  · intro _ _
    obtain ⟨M, hM⟩ := h.pos
    rw [hM]
    exact List.mem_cons_self
  · intro u c ih hu hmin
    obtain ⟨h1, h2⟩ := wd_app.1 hu
    have hc := (wd_cons.1 h2).1
    have h3 := ih h1 fun v hv e => by
      have := hmin (v ++ [c]) (wd_app.2 ⟨hv, h2⟩) (by rw [RSys.run_app, RSys.run_app, e])
      rw [code_snoc, code_snoc] at this
      omega
    obtain ⟨j, hj, e⟩ := List.getElem_of_mem h3
    obtain ⟨w, hw, hcw⟩ := walk_next h hk hj hc
    rw [e] at hw hcw
    have hrun := h.run hw
    have hww : Wd 2 w := by have := hrun.2; rwa [hk] at this
    have e2 : x.run x.start (u ++ [c]) = x.nx (x.run x.start u) c := by rw [RSys.run_app]; rfl
    have hle := hmin w hww (by rw [hrun.1, e2])
    have e3 : u ++ [c] = w := code_inj _ hu _ hww (by simp only at hcw; omega)
    rw [e2]
    rw [← e3] at hw
    exact hw
theorem firstO_some {x : RSys α} {L : List (α × List Nat)} (h : Walk x L) (hk : x.k = 2) {u : List Nat} (hu : Wd 2 u) (hg : Fut x x.start u = true) (hmin : ∀ v, Wd 2 v → Fut x x.start v = true → code u ≤ code v) : firstO x = some u := by
  have hfu : ∀ {v : List Nat}, Wd 2 v → Fut x x.start v = x.gd (x.run x.start v) := fun hv => fut_ok (by rw [hk]; exact hv)
  have h1 := walk_least h hk u hu fun v hv e => hmin v hv (by rw [hfu hv, e, ← hfu hu]; exact hg)
  unfold firstO
  rw [theW_eq h]
  have hgu : x.gd (x.run x.start u) = true := by rw [← hfu hu]; exact hg
  have h2 : (L.find? fun p => x.gd p.1).isSome = true := by
    rw [List.find?_isSome]
    exact ⟨_, h1, hgu⟩
  obtain ⟨p, hp⟩ := Option.isSome_iff_exists.1 h2
  rw [hp]
  obtain ⟨hgp, as_, bs, hL, has⟩ := List.find?_eq_some_iff_append.1 hp
  have hpL : p ∈ L := by rw [hL]; simp
  have hrun := h.run hpL
  have hwp : Wd 2 p.2 := by have := hrun.2; rwa [hk] at this
  have hle := hmin p.2 hwp (by rw [hfu hwp, hrun.1]; simpa using hgp)
  have hge : code p.2 ≤ code u := by
    have hs := (srt_after hk L.length).up
    rw [h.all] at hs
    rw [hL] at h1 hs
    rcases List.mem_append.1 h1 with h1 | h1
    · have := has _ h1
      simp [hgu] at this
    · rcases List.mem_cons.1 h1 with h1 | h1
      · rw [← h1]; exact Nat.le_refl _
      · rw [List.map_append, List.pairwise_append] at hs
        have := hs.2.1
        rw [List.map_cons, List.pairwise_cons] at this
        exact Nat.le_of_lt (this.1 _ (List.mem_map.2 ⟨_, h1, rfl⟩))
  rw [Option.map_some]
  rw [code_inj _ hwp _ hu (by omega)]
theorem firstO_none {x : RSys α} {L : List (α × List Nat)} (h : Walk x L) (hk : x.k = 2) (hg : ∀ v, Wd 2 v → Fut x x.start v = false) : firstO x = none := by
  unfold firstO
  rw [theW_eq h]
  have : (L.find? fun p => x.gd p.1) = none := by
    rw [List.find?_eq_none]
    intro p hp e
    have hrun := h.run hp
    have hwp : Wd 2 p.2 := by have := hrun.2; rwa [hk] at this
    have := hg _ hwp
    rw [fut_ok (by rw [hk]; exact hwp), hrun.1] at this
    simp [this] at e
  rw [this]
  rfl
/-- There is a first one of the words with g. -/
theorem first_ex {g : List Nat → Bool} {v : List Nat} (hv : Wd 2 v) (hg : g v = true) : ∃ u, Wd 2 u ∧ g u = true ∧ ∀ v, Wd 2 v → g v = true → code u ≤ code v := by
  have : ∀ n, ∀ v, Wd 2 v → g v = true → code v = n → ∃ u, Wd 2 u ∧ g u = true ∧ ∀ v, Wd 2 v → g v = true → code u ≤ code v := fun n => by
    induction n using Nat.strongRecOn with
    | ind n ih =>
      intro v hv hg e
      by_cases hx : ∃ v', Wd 2 v' ∧ g v' = true ∧ code v' < n
      · obtain ⟨v', h1, h2, h3⟩ := hx
        exact ih _ h3 v' h1 h2 rfl
      · refine ⟨v, hv, hg, fun v' h1 h2 => ?_⟩
        apply Classical.byContradiction
        intro h3
        exact hx ⟨v', h1, h2, by omega⟩
  exact this _ v hv hg rfl
end
end Ytnjgglnpmhjmiaa
end Go.Proofs
