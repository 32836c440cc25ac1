/- Laws of rotation, plainly: a walk over all states that can be come to, each with the first list that leads to it. -/
import Derived.Test.YtnjgglnpmhjmiaaGenX
namespace Rest
/-- States of whatever kind: where each one leads, and whether it is good. -/
structure RSys (α : Type) where
  k : Nat
  start : α
  nx : α → Nat → α
  gd : α → Bool
def RSys.run {α : Type} (x : RSys α) (s : α) (ws : List Nat) : α := ws.foldl x.nx s
theorem RSys.run_nil {α : Type} (x : RSys α) (s : α) : x.run s [] = s := rfl
theorem RSys.run_cons {α : Type} (x : RSys α) (s : α) (c : Nat) (ws : List Nat) : x.run s (c :: ws) = x.run (x.nx s c) ws := rfl
theorem RSys.run_app {α : Type} (x : RSys α) (s : α) (a b : List Nat) : x.run s (a ++ b) = x.run (x.run s a) b := by simp [RSys.run, List.foldl_append]
/-- A list of years that a law can have. -/
def Wd (k : Nat) (ws : List Nat) : Prop := ∀ c ∈ ws, c < k
section
variable {α : Type} [DecidableEq α]
/-- One crop more is tried from place p. -/
def tryC (x : RSys α) (p : α × List Nat) (l : List (α × List Nat)) (c : Nat) : List (α × List Nat) :=
  if x.nx p.1 c ∈ l.map Prod.fst then l else l ++ [(x.nx p.1 c, p.2 ++ [c])]
/-- All crops below m are tried. -/
def tryN (x : RSys α) (p : α × List Nat) (l : List (α × List Nat)) (m : Nat) : List (α × List Nat) := (List.range m).foldl (tryC x p) l
theorem tryN_zero (x : RSys α) (p : α × List Nat) (l : List (α × List Nat)) : tryN x p l 0 = l := rfl
theorem tryN_succ (x : RSys α) (p : α × List Nat) (l : List (α × List Nat)) (m : Nat) : tryN x p l (m + 1) = tryC x p (tryN x p l m) m := by simp [tryN, List.range_succ]
/-- The places met after i rounds. -/
def after (x : RSys α) : Nat → List (α × List Nat)
  | 0 => [(x.start, [])]
  | i + 1 => match (after x i)[i]? with
    | some p => tryN x p (after x i) x.k
    | none => after x i
theorem tryC_pre (x : RSys α) (p : α × List Nat) (l : List (α × List Nat)) (c : Nat) : l <+: tryC x p l c := by
  unfold tryC; split
  · exact List.prefix_refl _
  · exact List.prefix_append _ _
theorem tryN_pre (x : RSys α) (p : α × List Nat) (l : List (α × List Nat)) (m : Nat) : l <+: tryN x p l m := by
  induction m with
  | zero => exact List.prefix_refl _
  | succ m ih => rw [tryN_succ]; exact List.IsPrefix.trans ih (tryC_pre _ _ _ _)
theorem after_pre1 (x : RSys α) (i : Nat) : after x i <+: after x (i + 1) := by
  rw [after]
  split
  · exact tryN_pre _ _ _ _
  · exact List.prefix_refl _
theorem after_pre (x : RSys α) {i j : Nat} (h : i ≤ j) : after x i <+: after x j := by
  induction j with
  | zero => rw [show i = 0 by omega]; exact List.prefix_refl _
  | succ j ih =>
    rcases (show i = j + 1 ∨ i ≤ j by omega) with rfl | h'
    · exact List.prefix_refl _
    · exact List.IsPrefix.trans (ih h') (after_pre1 x j)
theorem after_len (x : RSys α) {i j : Nat} (h : i ≤ j) : (after x i).length ≤ (after x j).length := (after_pre x h).length_le
theorem after_stop (x : RSys α) {i : Nat} (h : (after x i).length ≤ i) : ∀ j, i ≤ j → after x j = after x i
  | 0, hj => by rw [show i = 0 by omega]
  | j + 1, hj => by
    rcases (show i = j + 1 ∨ i ≤ j by omega) with rfl | h'
    · rfl
    · have ih := after_stop x h j h'
      rw [after, List.getElem?_eq_none (by rw [ih]; omega)]
      exact ih
/-- All places, in the order in which they are met. -/
structure Walk (x : RSys α) (L : List (α × List Nat)) : Prop where
  all : after x L.length = L
theorem Walk.lt {x : RSys α} {L : List (α × List Nat)} (h : Walk x L) {j : Nat} (hj : j < L.length) : j < (after x j).length := by
  apply Classical.byContradiction
  intro h'
  have h1 := after_stop x (by omega : (after x j).length ≤ j) L.length (Nat.le_of_lt hj)
  rw [h.all] at h1
  rw [h1] at hj
  omega
theorem Walk.at_ {x : RSys α} {L : List (α × List Nat)} (h : Walk x L) {j : Nat} (hj : j < L.length) : (after x j)[j]? = some L[j] := by
  have h1 := h.lt hj
  have h2 := after_pre x (Nat.le_of_lt hj)
  rw [h.all] at h2
  rw [List.getElem?_eq_getElem h1, h2.getElem h1]
theorem Walk.stop {x : RSys α} {L : List (α × List Nat)} (h : Walk x L) : ∀ j, L.length ≤ j → after x j = L := fun j hj => by
  rw [after_stop x (by rw [h.all]; exact Nat.le_refl _) j hj, h.all]
theorem Walk.next {x : RSys α} {L : List (α × List Nat)} (h : Walk x L) {j : Nat} (hj : j < L.length) : after x (j + 1) = tryN x L[j] (after x j) x.k := by
  rw [after, h.at_ hj]
theorem Walk.uniq {x : RSys α} {L M : List (α × List Nat)} (h : Walk x L) (h' : Walk x M) : L = M := by
  rcases Nat.le_total L.length M.length with e | e
  · rw [← h'.all, h.stop _ e]
  · rw [← h.all, h'.stop _ e]
theorem Walk.pos {x : RSys α} {L : List (α × List Nat)} (h : Walk x L) : ∃ M, L = (x.start, []) :: M := by
  have h2 := after_pre x (Nat.zero_le L.length)
  rw [h.all] at h2
  obtain ⟨t, ht⟩ := h2
  exact ⟨t, by rw [← ht]; rfl⟩
/-- What holds of all places that are met. -/
theorem after_ind (x : RSys α) (P : α × List Nat → Prop) (h0 : P (x.start, [])) (hs : ∀ p c, P p → c < x.k → P (x.nx p.1 c, p.2 ++ [c])) : ∀ i, ∀ p ∈ after x i, P p
  | 0, p, hp => by have : p = (x.start, []) := by simpa [after] using hp
                   rw [this]; exact h0
  | i + 1, p, hp => by
    have ih := after_ind x P h0 hs i
    rw [after] at hp
    cases hq : (after x i)[i]? with
    | none => rw [hq] at hp; exact ih p hp
    | some q =>
      rw [hq] at hp
      simp only at hp
      have hqP := ih q (List.mem_of_getElem? hq)
      have : ∀ m, m ≤ x.k → ∀ p ∈ tryN x q (after x i) m, P p := by
        intro m
        induction m with
        | zero => intro _ p hp; exact ih p hp
        | succ m ihm =>
          intro hm p hp
          rw [tryN_succ] at hp
          unfold tryC at hp
          split at hp
          · exact ihm (by omega) p hp
          · rcases List.mem_append.1 hp with h | h
            · exact ihm (by omega) p h
            · have : p = (x.nx q.1 m, q.2 ++ [m]) := by simpa using h
              rw [this]; exact hs q m hqP (by omega)
      exact this x.k (Nat.le_refl _) p hp
theorem after_run (x : RSys α) (i : Nat) (p : α × List Nat) (hp : p ∈ after x i) : x.run x.start p.2 = p.1 ∧ Wd x.k p.2 :=
  after_ind x (fun p => x.run x.start p.2 = p.1 ∧ Wd x.k p.2) ⟨rfl, fun c h => by cases h⟩ (fun p c h hc => ⟨by rw [RSys.run_app, h.1]; rfl, fun d hd => by
    rcases List.mem_append.1 hd with h' | h'
    · exact h.2 d h'
    · have : d = c := by simpa using h'
      omega⟩) i p hp
theorem tryC_nd (x : RSys α) (p : α × List Nat) {l : List (α × List Nat)} (h : (l.map Prod.fst).Nodup) (c : Nat) : ((tryC x p l c).map Prod.fst).Nodup := by
  unfold tryC; split
  · exact h
  · rename_i hn
    rw [List.map_append, List.nodup_append]
    refine ⟨h, by simp, fun a ha b hb e => ?_⟩
    have : b = x.nx p.1 c := by simpa using hb
    rw [e, this] at ha
    exact hn ha
theorem tryN_nd (x : RSys α) (p : α × List Nat) {l : List (α × List Nat)} (h : (l.map Prod.fst).Nodup) (m : Nat) : ((tryN x p l m).map Prod.fst).Nodup := by
  induction m with
  | zero => exact h
  | succ m ih => rw [tryN_succ]; exact tryC_nd x p ih m
theorem after_nd (x : RSys α) : ∀ i, ((after x i).map Prod.fst).Nodup
  | 0 => by simp [after]
  | i + 1 => by
    rw [after]
    split
    · exact tryN_nd _ _ (after_nd x i) _
    · exact after_nd x i
theorem tryN_mem (x : RSys α) (p : α × List Nat) (l : List (α × List Nat)) {m c : Nat} (hc : c < m) : x.nx p.1 c ∈ (tryN x p l m).map Prod.fst := by
  induction m with
  | zero => omega
  | succ m ih =>
    rw [tryN_succ]
    rcases (show c = m ∨ c < m by omega) with rfl | h
    · unfold tryC; split
      · assumption
      · simp
    · have := ih h
      obtain ⟨q, hq, e⟩ := List.mem_map.1 this
      exact List.mem_map.2 ⟨q, (tryC_pre x p _ m).subset hq, e⟩
theorem Walk.nd {x : RSys α} {L : List (α × List Nat)} (h : Walk x L) : (L.map Prod.fst).Nodup := by have := after_nd x L.length; rwa [h.all] at this
theorem Walk.run {x : RSys α} {L : List (α × List Nat)} (h : Walk x L) {p : α × List Nat} (hp : p ∈ L) : x.run x.start p.2 = p.1 ∧ Wd x.k p.2 := after_run x L.length p (by rw [h.all]; exact hp)
theorem Walk.closed {x : RSys α} {L : List (α × List Nat)} (h : Walk x L) {s : α} (hs : s ∈ L.map Prod.fst) {c : Nat} (hc : c < x.k) : x.nx s c ∈ L.map Prod.fst := by
  obtain ⟨p, hp, rfl⟩ := List.mem_map.1 hs
  obtain ⟨j, hj, e⟩ := List.getElem_of_mem hp
  have h1 := tryN_mem x p (after x j) hc
  rw [← e, ← h.next hj] at h1
  have h2 := after_pre x (show j + 1 ≤ L.length by omega)
  rw [h.all] at h2
  rw [← e]
  obtain ⟨q, hq, e2⟩ := List.mem_map.1 h1
  exact List.mem_map.2 ⟨q, h2.subset hq, e2⟩
theorem Walk.reach {x : RSys α} {L : List (α × List Nat)} (h : Walk x L) : ∀ {ws : List Nat} {s : α}, s ∈ L.map Prod.fst → Wd x.k ws → x.run s ws ∈ L.map Prod.fst
  | [], s, hs, _ => hs
  | c :: ws, s, hs, hw => Walk.reach h (ws := ws) (h.closed hs (hw c (by simp))) (fun d hd => hw d (List.mem_cons_of_mem _ hd))
theorem Walk.start {x : RSys α} {L : List (α × List Nat)} (h : Walk x L) : x.start ∈ L.map Prod.fst := by obtain ⟨M, rfl⟩ := h.pos; simp
/-- Finitely many states: there is such a list. -/
theorem walk_exists (x : RSys α) (U : List α) (h0 : x.start ∈ U) (hc : ∀ s ∈ U, ∀ c, c < x.k → x.nx s c ∈ U) : ∃ L, Walk x L ∧ L.length ≤ U.length ∧ ∀ p ∈ L, p.1 ∈ U := by
  have hU : ∀ i, ∀ p ∈ after x i, p.1 ∈ U := after_ind x (fun p => p.1 ∈ U) h0 (fun p c h hk => hc p.1 h c hk)
  have hl : ∀ i, (after x i).length ≤ U.length := fun i => by
    have := (after_nd x i).length_le_of_subset (l₂ := U) (fun s hs => by
      obtain ⟨p, hp, rfl⟩ := List.mem_map.1 hs
      exact hU i p hp)
    simpa using this
  have hst := after_stop x (hl U.length)
  refine ⟨after x U.length, ⟨?_⟩, hl _, hU _⟩
  apply Classical.byContradiction
  intro hne
  -- the rounds have ended earlier
  have h1 : ∀ i, i ≤ U.length → (i < (after x i).length ∨ after x U.length = after x i) := fun i hi => by
    by_cases h : i < (after x i).length
    · exact .inl h
    · exact .inr (after_stop x (by omega) _ hi)
  obtain ⟨N, hN⟩ : ∃ N, N = (after x U.length).length := ⟨_, rfl⟩
  have hNl : N ≤ U.length := by rw [hN]; exact hl _
  rcases h1 N hNl with h | h
  · have := after_len x hNl; omega
  · exact hne (by rw [← hN, h])
end
end Rest
/- Laws of rotation, plainly: futures, least tables, classes of states. -/
namespace Rest
/-- What is allowed after a state: lists of years of that many crops. -/
def Fut {α : Type} (x : RSys α) (s : α) (w : List Nat) : Bool := decide (∀ c ∈ w, c < x.k) && x.gd (x.run s w)
theorem fut_ok {α : Type} {x : RSys α} {s : α} {w : List Nat} (h : Wd x.k w) : Fut x s w = x.gd (x.run s w) := by
  unfold Fut; rw [decide_eq_true (show ∀ c ∈ w, c < x.k from h), Bool.true_and]
theorem fut_bad {α : Type} {x : RSys α} {s : α} {w : List Nat} (h : ¬ Wd x.k w) : Fut x s w = false := by
  unfold Fut; rw [decide_eq_false (show ¬ ∀ c ∈ w, c < x.k from h), Bool.false_and]
theorem wd_cons {k c : Nat} {w : List Nat} : Wd k (c :: w) ↔ c < k ∧ Wd k w := by simp [Wd]
theorem wd_app {k : Nat} {a b : List Nat} : Wd k (a ++ b) ↔ Wd k a ∧ Wd k b := by
  simp only [Wd, List.mem_append]
  exact ⟨fun h => ⟨fun c hc => h c (.inl hc), fun c hc => h c (.inr hc)⟩, fun h c hc => hc.elim (h.1 c) (h.2 c)⟩
theorem fut_nx {α : Type} {x : RSys α} {s : α} {c : Nat} (hc : c < x.k) (w : List Nat) : Fut x (x.nx s c) w = Fut x s (c :: w) := by
  by_cases h : Wd x.k w
  · rw [fut_ok h, fut_ok (wd_cons.2 ⟨hc, h⟩)]; rfl
  · rw [fut_bad h, fut_bad (fun h' => h (wd_cons.1 h').2)]
theorem fut_nil {α : Type} (x : RSys α) (s : α) : Fut x s [] = x.gd s := by simp [Fut, RSys.run]
/-- The system of futures. -/
def Cn (k : Nat) (g : List Nat → Bool) : RSys (List Nat → Bool) := ⟨k, g, fun f c w => f (c :: w), fun f => f []⟩
section
variable {α β : Type} [DecidableEq α] [DecidableEq β]
/-- States that correspond are walked in one order. -/
theorem after_map (x : RSys α) (y : RSys β) (f : α → β) (U : α → Prop) (hk : y.k = x.k) (hs : y.start = f x.start) (h0 : U x.start) (hc : ∀ s c, U s → c < x.k → U (x.nx s c)) (hn : ∀ s c, U s → c < x.k → y.nx (f s) c = f (x.nx s c)) (hinj : ∀ s t, U s → U t → f s = f t → s = t) :
    ∀ i, after y i = (after x i).map fun p => (f p.1, p.2)
  | 0 => by simp [after, hs]
  | i + 1 => by
    have ih := after_map x y f U hk hs h0 hc hn hinj i
    have hU : ∀ i, ∀ p ∈ after x i, U p.1 := after_ind x (fun p => U p.1) h0 fun p c h hk => hc _ _ h hk
    rw [after, after, ih, List.getElem?_map]
    cases hq : (after x i)[i]? with
    | none => simp
    | some q =>
      simp only [Option.map_some]
      have hqU := hU i q (List.mem_of_getElem? hq)
      have : ∀ m, m ≤ x.k → tryN y (f q.1, q.2) ((after x i).map fun p => (f p.1, p.2)) m = (tryN x q (after x i) m).map fun p => (f p.1, p.2) := by
        intro m
        induction m with
        | zero => intro _; rfl
        | succ m ihm =>
          intro hm
          rw [tryN_succ, tryN_succ, ihm (by omega)]
          have hmem : ∀ p ∈ tryN x q (after x i) m, U p.1 := by
            have hh : ∀ m, m ≤ x.k → ∀ p ∈ tryN x q (after x i) m, U p.1 := by
              intro m
              induction m with
              | zero => intro _ p hp; exact hU i p hp
              | succ m ihm =>
                intro hm p hp
                rw [tryN_succ] at hp
                unfold tryC at hp
                split at hp
                · exact ihm (by omega) p hp
                · rcases List.mem_append.1 hp with h | h
                  · exact ihm (by omega) p h
                  · have : p = (x.nx q.1 m, q.2 ++ [m]) := by simpa using h
                    rw [this]; exact hc _ _ hqU (by omega)
            exact hh m (by omega)
          unfold tryC
          simp only [hn _ _ hqU (show m < x.k by omega)]
          have hiff : f (x.nx q.1 m) ∈ ((tryN x q (after x i) m).map fun p => (f p.1, p.2)).map Prod.fst ↔ x.nx q.1 m ∈ (tryN x q (after x i) m).map Prod.fst := by
            simp only [List.map_map, List.mem_map, Function.comp]
            constructor
            · rintro ⟨p, hp, e⟩
              exact ⟨p, hp, hinj _ _ (hmem p hp) (hc _ _ hqU (by omega)) e⟩
            · rintro ⟨p, hp, e⟩
              exact ⟨p, hp, by rw [e]⟩
          by_cases hin : x.nx q.1 m ∈ (tryN x q (after x i) m).map Prod.fst
          · rw [if_pos hin, if_pos (hiff.2 hin)]
          · rw [if_neg hin, if_neg (fun h => hin (hiff.1 h))]
            simp
      rw [hk]
      exact this x.k (Nat.le_refl _)
theorem Walk.map {x : RSys α} {L : List (α × List Nat)} (h : Walk x L) (y : RSys β) (f : α → β) (U : α → Prop) (hk : y.k = x.k) (hs : y.start = f x.start) (h0 : U x.start) (hc : ∀ s c, U s → c < x.k → U (x.nx s c)) (hn : ∀ s c, U s → c < x.k → y.nx (f s) c = f (x.nx s c)) (hinj : ∀ s t, U s → U t → f s = f t → s = t) :
    Walk y (L.map fun p => (f p.1, p.2)) :=
  ⟨by rw [List.length_map, after_map x y f U hk hs h0 hc hn hinj, h.all]⟩
/-- A table: where its states lead, whether they are good, and their starts. -/
structure Tab where
  nx : List (List Nat)
  gd : List Bool
  st : List (List Nat)
def idx (L : List (α × List Nat)) (s : α) : Nat := (L.map Prod.fst).idxOf s
def tabOf (x : RSys α) (L : List (α × List Nat)) : Tab := ⟨L.map fun p => (List.range x.k).map fun c => idx L (x.nx p.1 c), L.map fun p => x.gd p.1, L.map Prod.snd⟩
theorem idxOf_map (f : α → β) (l : List α) (s : α) (h : ∀ t ∈ l, f t = f s → t = s) : (l.map f).idxOf (f s) = l.idxOf s := by
  induction l with
  | nil => rfl
  | cons a l ih =>
    rw [List.map_cons, List.idxOf_cons, List.idxOf_cons, ih (fun t ht => h t (List.mem_cons_of_mem _ ht))]
    by_cases e : a = s
    · subst e; rw [beq_self_eq_true, beq_self_eq_true]
    · have e2 : ¬ f a = f s := fun e' => e (h a (by simp) e')
      rw [beq_eq_false_iff_ne.2 e, beq_eq_false_iff_ne.2 e2]
theorem tab_map {x : RSys α} {L : List (α × List Nat)} (y : RSys β) (f : α → β) (U : α → Prop) (hk : y.k = x.k) (hU : ∀ p ∈ L, U p.1) (hc : ∀ s c, U s → c < x.k → U (x.nx s c)) (hn : ∀ s c, U s → c < x.k → y.nx (f s) c = f (x.nx s c)) (hinj : ∀ s t, U s → U t → f s = f t → s = t) (hg : ∀ s, U s → y.gd (f s) = x.gd s) :
    tabOf y (L.map fun p => (f p.1, p.2)) = tabOf x L := by
  unfold tabOf
  rw [hk]
  simp only [List.map_map]
  congr 1
  · refine List.map_congr_left fun p hp => List.map_congr_left fun c hc' => ?_
    have hc'' : c < x.k := by simpa using hc'
    rw [hn _ _ (hU p hp) hc'']
    unfold idx
    rw [List.map_map, show (Prod.fst ∘ fun p : α × List Nat => (f p.1, p.2)) = f ∘ Prod.fst from rfl, ← List.map_map]
    exact idxOf_map f _ _ (fun t ht e => by
      obtain ⟨q, hq, rfl⟩ := List.mem_map.1 ht
      exact hinj _ _ (hU q hq) (hc _ _ (hU p hp) hc'') e)
  · exact List.map_congr_left fun p hp => hg _ (hU p hp)
end
/-- T is the least table of all that g allows. -/
def LeastT (k : Nat) (g : List Nat → Bool) (T : Tab) : Prop := ∃ L, @Walk _ (Classical.typeDecidableEq _) (Cn k g) L ∧ T = @tabOf _ (Classical.typeDecidableEq _) (Cn k g) L
theorem LeastT.uniq {k : Nat} {g : List Nat → Bool} {T T' : Tab} (h : LeastT k g T) (h' : LeastT k g T') : T = T' := by
  obtain ⟨L, hL, rfl⟩ := h
  obtain ⟨M, hM, rfl⟩ := h'
  rw [@Walk.uniq _ (Classical.typeDecidableEq _) _ _ _ hL hM]
/-- A system no two states of which have the same future is walked to the least table. -/
theorem least_of {α : Type} [DecidableEq α] {x : RSys α} {L : List (α × List Nat)} (h : Walk x L) (hinj : ∀ s ∈ L.map Prod.fst, ∀ t ∈ L.map Prod.fst, Fut x s = Fut x t → s = t) : LeastT x.k (Fut x x.start) (tabOf x L) := by
  have hU : ∀ p ∈ L, p.1 ∈ L.map Prod.fst := fun p hp => List.mem_map.2 ⟨p, hp, rfl⟩
  have hc : ∀ s c, s ∈ L.map Prod.fst → c < x.k → x.nx s c ∈ L.map Prod.fst := fun s c hs hc => h.closed hs hc
  have hn : ∀ s c, s ∈ L.map Prod.fst → c < x.k → (Cn x.k (Fut x x.start)).nx (Fut x s) c = Fut x (x.nx s c) := fun s c _ hc => funext fun w => (fut_nx hc w).symm
  refine ⟨L.map fun p => (Fut x p.1, p.2), @Walk.map _ _ _ (Classical.typeDecidableEq _) _ _ h (Cn x.k (Fut x x.start)) (Fut x) (fun s => s ∈ L.map Prod.fst) rfl rfl h.start hc hn (fun s t hs ht e => hinj s hs t ht e), ?_⟩
  exact (@tab_map _ _ _ (Classical.typeDecidableEq _) x L (Cn x.k (Fut x x.start)) (Fut x) (fun s => s ∈ L.map Prod.fst) rfl hU hc hn (fun s t hs ht e => hinj s hs t ht e) (fun s _ => fut_nil x s)).symm
end Rest
/- Laws of rotation, plainly: classes of states, until no class is parted any more. -/
namespace Rest
section
variable {α : Type}
/-- The class of a state, and those to which it leads. -/
def keyC (x : RSys α) (cls : α → Nat) (s : α) : List Nat := cls s :: (((List.range x.k).map fun c => cls (x.nx s c)) ++ List.replicate (4 - x.k) 0)
def addK (l : List (List Nat)) (k : List Nat) : List (List Nat) := if k ∈ l then l else l ++ [k]
/-- All keys, in the order in which they are met. -/
def keysL (x : RSys α) (cls : α → Nat) (sts : List α) : List (List Nat) := (sts.map (keyC x cls)).foldl addK []
theorem addK_pre (l : List (List Nat)) (k : List Nat) : l <+: addK l k := by
  unfold addK; split
  · exact List.prefix_refl _
  · exact List.prefix_append _ _
theorem foldK_pre : ∀ (ks l : List (List Nat)), l <+: ks.foldl addK l
  | [], l => List.prefix_refl _
  | k :: ks, l => by rw [List.foldl_cons]; exact List.IsPrefix.trans (addK_pre l k) (foldK_pre ks _)
theorem addK_mem (l : List (List Nat)) (k j : List Nat) : j ∈ addK l k ↔ j ∈ l ∨ j = k := by
  unfold addK; split
  · rename_i h
    exact ⟨.inl, fun h' => h'.elim id (fun e => e ▸ h)⟩
  · simp
theorem foldK_mem : ∀ (ks l : List (List Nat)) (j : List Nat), j ∈ ks.foldl addK l ↔ j ∈ l ∨ j ∈ ks
  | [], l, j => by simp
  | k :: ks, l, j => by
    rw [List.foldl_cons, foldK_mem ks, addK_mem, List.mem_cons]
    exact ⟨fun h => h.elim (fun h => h.elim .inl (fun e => .inr (.inl e))) (fun h => .inr (.inr h)), fun h => h.elim (fun h => .inl (.inl h)) (fun h => h.elim (fun e => .inl (.inr e)) .inr)⟩
theorem addK_nd {l : List (List Nat)} (h : l.Nodup) (k : List Nat) : (addK l k).Nodup := by
  unfold addK; split
  · exact h
  · rename_i hn
    rw [List.nodup_append]
    exact ⟨h, by simp, fun a ha b hb e => hn (by have : b = k := by simpa using hb
                                                 rw [← this, ← e]; exact ha)⟩
theorem foldK_nd : ∀ (ks : List (List Nat)) {l : List (List Nat)}, l.Nodup → (ks.foldl addK l).Nodup
  | [], _, h => h
  | k :: ks, l, h => by rw [List.foldl_cons]; exact foldK_nd ks (addK_nd h k)
theorem keysL_mem (x : RSys α) (cls : α → Nat) (sts : List α) (j : List Nat) : j ∈ keysL x cls sts ↔ ∃ s ∈ sts, keyC x cls s = j := by
  unfold keysL; rw [foldK_mem]; simp
theorem keysL_nd (x : RSys α) (cls : α → Nat) (sts : List α) : (keysL x cls sts).Nodup := foldK_nd _ List.nodup_nil
theorem keysL_snoc (x : RSys α) (cls : α → Nat) (sts : List α) (s : α) : keysL x cls (sts ++ [s]) = addK (keysL x cls sts) (keyC x cls s) := by simp [keysL]
/-- Classes, parted by those to which states lead. -/
def splitC (x : RSys α) (sts : List α) (cls : α → Nat) (s : α) : Nat := (keysL x cls sts).idxOf (keyC x cls s)
theorem split_lt {x : RSys α} {sts : List α} {cls : α → Nat} {s : α} (h : s ∈ sts) : splitC x sts cls s < (keysL x cls sts).length :=
  List.idxOf_lt_length_iff.2 ((keysL_mem _ _ _ _).2 ⟨s, h, rfl⟩)
theorem split_eq {x : RSys α} {sts : List α} {cls : α → Nat} {s t : α} (hs : s ∈ sts) (ht : t ∈ sts) : splitC x sts cls s = splitC x sts cls t ↔ keyC x cls s = keyC x cls t := by
  refine ⟨fun h => ?_, fun h => by unfold splitC; rw [h]⟩
  have h1 := split_lt (x := x) (cls := cls) hs
  have h2 := split_lt (x := x) (cls := cls) ht
  have e1 : (keysL x cls sts)[splitC x sts cls s] = keyC x cls s := List.getElem_idxOf h1
  have e2 : (keysL x cls sts)[splitC x sts cls t] = keyC x cls t := List.getElem_idxOf h2
  rw [← e1, ← e2]
  simp only [h]
theorem split_onto {x : RSys α} {sts : List α} {cls : α → Nat} {j : Nat} (h : j < (keysL x cls sts).length) : ∃ s ∈ sts, splitC x sts cls s = j := by
  obtain ⟨s, hs, e⟩ := (keysL_mem x cls sts _).1 (List.getElem_mem h)
  refine ⟨s, hs, ?_⟩
  unfold splitC
  rw [e]
  exact (keysL_nd x cls sts).idxOf_getElem j h
theorem key_eq {x : RSys α} {cls : α → Nat} {s t : α} : keyC x cls s = keyC x cls t ↔ cls s = cls t ∧ ∀ c, c < x.k → cls (x.nx s c) = cls (x.nx t c) := by
  unfold keyC
  rw [List.cons.injEq, List.append_left_inj, List.map_inj_left]
  simp
/-- The classes after r rounds. -/
def clsN (x : RSys α) (sts : List α) : Nat → α → Nat
  | 0 => fun s => if x.gd s = true then 1 else 0
  | r + 1 => splitC x sts (clsN x sts r)
def cntN (x : RSys α) (sts : List α) : Nat → Nat
  | 0 => 0
  | r + 1 => (keysL x (clsN x sts r) sts).length
theorem cls_lt {x : RSys α} {sts : List α} {r : Nat} {s : α} (h : s ∈ sts) : clsN x sts (r + 1) s < cntN x sts (r + 1) := split_lt h
theorem cls_onto {x : RSys α} {sts : List α} {r j : Nat} (h : j < cntN x sts (r + 1)) : ∃ s ∈ sts, clsN x sts (r + 1) s = j := split_onto h
theorem cls_ref {x : RSys α} {sts : List α} {r : Nat} {s t : α} (hs : s ∈ sts) (ht : t ∈ sts) : clsN x sts (r + 1) s = clsN x sts (r + 1) t ↔ clsN x sts r s = clsN x sts r t ∧ ∀ c, c < x.k → clsN x sts r (x.nx s c) = clsN x sts r (x.nx t c) := by
  show splitC x sts (clsN x sts r) s = splitC x sts (clsN x sts r) t ↔ _
  rw [split_eq hs ht, key_eq]
/-- A list that has all numbers below its length has none of them twice. -/
theorem nd_of_all {l : List Nat} (h : ∀ j, j < l.length → j ∈ l) : l.Nodup := by
  induction hn : l.length generalizing l with
  | zero => have : l = [] := List.length_eq_zero_iff.1 hn
            rw [this]; exact List.nodup_nil
  | succ n ih =>
    have hmem : n ∈ l := h n (by omega)
    obtain ⟨a, b, rfl⟩ := List.append_of_mem hmem
    have hlen : (a ++ b).length = n := by simp at hn ⊢; omega
    have hall : ∀ j, j < (a ++ b).length → j ∈ a ++ b := fun j hj => by
      have := h j (by omega)
      simp only [List.mem_append, List.mem_cons] at this ⊢
      rcases this with h1 | h1 | h1
      · exact .inl h1
      · omega
      · exact .inr h1
    have h1 := ih hall hlen
    have hno : n ∉ a ++ b := fun h2 => by
      -- all numbers up to n in a list of n numbers
      have h3 : (List.range (n + 1)).length ≤ (a ++ b).length := List.nodup_range.length_le_of_subset (fun j hj => by
        have hj' : j < n + 1 := by simpa using hj
        rcases (show j = n ∨ j < n by omega) with rfl | h4
        · exact h2
        · exact hall j (by omega))
      rw [List.length_range, hlen] at h3
      omega
    rw [List.nodup_append] at h1 ⊢
    simp only [List.mem_append, not_or] at hno
    refine ⟨h1.1, List.nodup_cons.2 ⟨hno.2, h1.2.1⟩, fun p hp q hq e => ?_⟩
    rcases List.mem_cons.1 hq with rfl | hq
    · rw [e] at hp; exact hno.1 hp
    · exact h1.2.2 p hp q hq e
theorem head_all {x : RSys α} {sts : List α} {r : Nat} {j : Nat} (h : j < cntN x sts (r + 1)) : j ∈ (keysL x (clsN x sts (r + 1)) sts).map fun k => k.headD 0 := by
  obtain ⟨s, hs, e⟩ := cls_onto h
  exact List.mem_map.2 ⟨_, (keysL_mem _ _ _ _).2 ⟨s, hs, rfl⟩, by simp [keyC, e]⟩
/-- Classes become no fewer. -/
theorem cnt_mono (x : RSys α) (sts : List α) : ∀ r, cntN x sts r ≤ cntN x sts (r + 1)
  | 0 => Nat.zero_le _
  | r + 1 => by
    have h : (List.range (cntN x sts (r + 1))).length ≤ ((keysL x (clsN x sts (r + 1)) sts).map fun k => k.headD 0).length := List.nodup_range.length_le_of_subset (fun j hj => head_all (by simpa using hj))
    simpa [cntN] using h
theorem cnt_le (x : RSys α) (sts : List α) : ∀ r, cntN x sts r ≤ sts.length
  | 0 => Nat.zero_le _
  | r + 1 => by
    have h : (keysL x (clsN x sts r) sts).length ≤ (sts.map (keyC x (clsN x sts r))).length := (keysL_nd _ _ _).length_le_of_subset (fun j hj => by
      obtain ⟨s, hs, e⟩ := (keysL_mem _ _ _ _).1 hj
      exact List.mem_map.2 ⟨s, hs, e⟩)
    simpa [cntN] using h
theorem cnt_pos {x : RSys α} {sts : List α} (h : sts ≠ []) (r : Nat) : 0 < cntN x sts (r + 1) := by
  obtain ⟨s, hs⟩ := List.exists_mem_of_ne_nil _ h
  have := cls_lt (x := x) (r := r) hs
  omega
/-- As many classes as before: they are the same. -/
theorem cls_same {x : RSys α} {sts : List α} {r : Nat} (h : cntN x sts (r + 2) = cntN x sts (r + 1)) {s t : α} (hs : s ∈ sts) (ht : t ∈ sts) (e : clsN x sts (r + 1) s = clsN x sts (r + 1) t) : clsN x sts (r + 2) s = clsN x sts (r + 2) t := by
  have hnd : ((keysL x (clsN x sts (r + 1)) sts).map fun k => k.headD 0).Nodup := nd_of_all fun j hj => head_all (by rw [List.length_map] at hj; rw [← h]; exact hj)
  show splitC x sts (clsN x sts (r + 1)) s = splitC x sts (clsN x sts (r + 1)) t
  rw [split_eq hs ht]
  have h1 : keyC x (clsN x sts (r + 1)) s ∈ keysL x (clsN x sts (r + 1)) sts := (keysL_mem _ _ _ _).2 ⟨s, hs, rfl⟩
  have h2 : keyC x (clsN x sts (r + 1)) t ∈ keysL x (clsN x sts (r + 1)) sts := (keysL_mem _ _ _ _).2 ⟨t, ht, rfl⟩
  obtain ⟨i, hi, ei⟩ := List.getElem_of_mem h1
  obtain ⟨j, hj, ej⟩ := List.getElem_of_mem h2
  have hij : i = j := by
    have hp := List.pairwise_iff_getElem.1 hnd
    have he : ((keysL x (clsN x sts (r + 1)) sts).map fun k => k.headD 0)[i]'(by simpa using hi) = ((keysL x (clsN x sts (r + 1)) sts).map fun k => k.headD 0)[j]'(by simpa using hj) := by
      rw [List.getElem_map, List.getElem_map, ei, ej]
      simpa [keyC] using e
    rcases Nat.lt_trichotomy i j with h3 | h3 | h3
    · exact absurd he (hp i j (by simpa using hi) (by simpa using hj) h3)
    · exact h3
    · exact absurd he.symm (hp j i (by simpa using hj) (by simpa using hi) h3)
  subst hij
  rw [← ei, ← ej]
/-- What is needed of the states: a state leads to others among them. -/
structure Closed (x : RSys α) (sts : List α) : Prop where
  nx : ∀ s ∈ sts, ∀ c, c < x.k → x.nx s c ∈ sts
theorem fut_cls {x : RSys α} {sts : List α} (hc : Closed x sts) : ∀ (r : Nat) {s t : α}, s ∈ sts → t ∈ sts → Fut x s = Fut x t → clsN x sts r s = clsN x sts r t
  | 0, s, t, _, _, h => by
    have := congrFun h []
    rw [fut_nil, fut_nil] at this
    simp [clsN, this]
  | r + 1, s, t, hs, ht, h => (cls_ref hs ht).2 ⟨fut_cls hc r hs ht h, fun c hk => fut_cls hc r (hc.nx s hs c hk) (hc.nx t ht c hk) (funext fun w => by rw [fut_nx hk, fut_nx hk, h])⟩
theorem cls_zero {x : RSys α} {sts : List α} : ∀ (r : Nat) {s t : α}, s ∈ sts → t ∈ sts → clsN x sts r s = clsN x sts r t → x.gd s = x.gd t
  | 0, s, t, _, _, h => by
    simp only [clsN] at h
    cases h1 : x.gd s <;> cases h2 : x.gd t <;> simp [h1, h2] at h ⊢
  | r + 1, _, _, hs, ht, h => cls_zero r hs ht ((cls_ref hs ht).1 h).1
theorem cls_fut {x : RSys α} {sts : List α} (hc : Closed x sts) {r : Nat} (h : cntN x sts (r + 2) = cntN x sts (r + 1)) {s t : α} (hs : s ∈ sts) (ht : t ∈ sts) (e : clsN x sts (r + 2) s = clsN x sts (r + 2) t) : Fut x s = Fut x t := by
  funext w
  induction w generalizing s t with
  | nil => rw [fut_nil, fut_nil]; exact cls_zero _ hs ht e
  | cons c w ih =>
    by_cases hk : c < x.k
    · rw [← fut_nx hk, ← fut_nx hk]
      exact ih (hc.nx s hs c hk) (hc.nx t ht c hk) (cls_same h (hc.nx s hs c hk) (hc.nx t ht c hk) (((cls_ref hs ht).1 e).2 c hk))
    · rw [fut_bad (fun h' => hk (wd_cons.1 h').1), fut_bad (fun h' => hk (wd_cons.1 h').1)]
/-- The round after which no class is parted. -/
structure Stop (x : RSys α) (sts : List α) (r : Nat) : Prop where
  two : 2 ≤ r
  same : cntN x sts r = cntN x sts (r - 1)
theorem Stop.iff {x : RSys α} {sts : List α} {r : Nat} (h : Stop x sts r) (hc : Closed x sts) {s t : α} (hs : s ∈ sts) (ht : t ∈ sts) : clsN x sts r s = clsN x sts r t ↔ Fut x s = Fut x t := by
  obtain ⟨q, rfl⟩ : ∃ q, r = q + 2 := ⟨r - 2, by have := h.two; omega⟩
  exact ⟨cls_fut hc h.same hs ht, fut_cls hc _ hs ht⟩
end
end Rest
/- Laws of rotation, plainly: the classes of states as a system: its walk gives the least table. -/
namespace Rest
section
variable {α : Type}
/-- The system of classes: one is a state of each class. -/
def mrg (x : RSys α) (cls : α → Nat) (one : Int → α) : RSys Int := ⟨x.k, (cls x.start : Int), fun j c => (cls (x.nx (one j) c) : Int), fun j => x.gd (one j)⟩
structure Ones (sts : List α) (cls : α → Nat) (one : Int → α) : Prop where
  mem : ∀ s ∈ sts, one (cls s) ∈ sts ∧ cls (one (cls s)) = cls s
theorem mrg_fut {x : RSys α} {sts : List α} {r : Nat} {one : Int → α} (hS : Stop x sts r) (hc : Closed x sts) (h1 : Ones sts (clsN x sts r) one) : ∀ (w : List Nat) {s : α}, s ∈ sts → Fut (mrg x (clsN x sts r) one) (clsN x sts r s) w = Fut x s w
  | [], s, hs => by
    rw [fut_nil, fut_nil]
    obtain ⟨a, b⟩ := h1.mem s hs
    exact cls_zero r a hs b
  | c :: w, s, hs => by
    by_cases hk : c < x.k
    · rw [← fut_nx (x := mrg x (clsN x sts r) one) hk, ← fut_nx hk]
      obtain ⟨a, b⟩ := h1.mem s hs
      have e : Fut x (one (clsN x sts r s)) = Fut x s := (hS.iff hc a hs).1 b
      have e2 : Fut x (x.nx (one (clsN x sts r s)) c) = Fut x (x.nx s c) := funext fun w => by rw [fut_nx hk, fut_nx hk, e]
      have e3 := (hS.iff hc (hc.nx _ a c hk) (hc.nx _ hs c hk)).2 e2
      show Fut (mrg x (clsN x sts r) one) ((clsN x sts r (x.nx (one (clsN x sts r s)) c) : Nat) : Int) w = _
      rw [e3]
      exact mrg_fut hS hc h1 w (hc.nx s hs c hk)
    · rw [fut_bad (x := mrg x (clsN x sts r) one) (fun h' => hk (wd_cons.1 h').1), fut_bad (fun h' => hk (wd_cons.1 h').1)]
/-- All classes. -/
theorem mrg_closed {x : RSys α} {sts : List α} {cls : α → Nat} {one : Int → α} (hc : Closed x sts) (h0 : x.start ∈ sts) (h1 : Ones sts cls one) : (mrg x cls one).start ∈ sts.map (fun s => (cls s : Int)) ∧ ∀ j ∈ sts.map (fun s => (cls s : Int)), ∀ c, c < (mrg x cls one).k → (mrg x cls one).nx j c ∈ sts.map (fun s => (cls s : Int)) := by
  refine ⟨List.mem_map.2 ⟨_, h0, rfl⟩, fun j hj c hk => ?_⟩
  obtain ⟨s, hs, rfl⟩ := List.mem_map.1 hj
  exact List.mem_map.2 ⟨_, hc.nx _ (h1.mem s hs).1 c hk, rfl⟩
theorem mrg_least {x : RSys α} {sts : List α} {r : Nat} {one : Int → α} (hS : Stop x sts r) (hc : Closed x sts) (h0 : x.start ∈ sts) (h1 : Ones sts (clsN x sts r) one) {L : List (Int × List Nat)} (hL : Walk (mrg x (clsN x sts r) one) L) :
    LeastT x.k (Fut x x.start) (tabOf (mrg x (clsN x sts r) one) L) := by
  have hin : ∀ j ∈ L.map Prod.fst, ∃ s ∈ sts, (clsN x sts r s : Int) = j := by
    intro j hj
    obtain ⟨p, hp, rfl⟩ := List.mem_map.1 hj
    have h := after_ind (mrg x (clsN x sts r) one) (fun p => p.1 ∈ sts.map (fun s => (clsN x sts r s : Int))) (mrg_closed hc h0 h1).1 (fun p c h hk => (mrg_closed hc h0 h1).2 p.1 h c hk) L.length p (by rw [hL.all]; exact hp)
    exact List.mem_map.1 h
  have h2 := least_of hL fun i hi j hj e => by
    obtain ⟨s, hs, rfl⟩ := hin i hi
    obtain ⟨t, ht, rfl⟩ := hin j hj
    have e2 : Fut x s = Fut x t := funext fun w => by rw [← mrg_fut hS hc h1 w hs, ← mrg_fut hS hc h1 w ht, e]
    rw [(hS.iff hc hs ht).2 e2]
  have e : Fut (mrg x (clsN x sts r) one) (mrg x (clsN x sts r) one).start = Fut x x.start := funext fun w => mrg_fut hS hc h1 w h0
  rw [e] at h2
  exact h2
end
end Rest
