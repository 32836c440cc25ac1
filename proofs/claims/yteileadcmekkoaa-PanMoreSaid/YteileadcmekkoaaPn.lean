/- Pans: plain Lean. Raising a timetable round by round, and the cycle that is found if that does not end. -/
namespace Go.Proofs
namespace PanPlain
structure Ed where
  f : Nat
  t : Nat
  w : Int
structure St where
  x : Nat → Int
  by_ : Nat → Nat
  rd : Nat → Nat
  tau : Nat → Nat
  cnt : Nat
  ra : Option Nat
def upd {α : Type} (g : Nat → α) (v : Nat) (a : α) : Nat → α := fun u => if u = v then a else g u
theorem upd_same {α : Type} (g : Nat → α) (v : Nat) (a : α) : upd g v a v = a := if_pos rfl
theorem upd_ne {α : Type} (g : Nat → α) {v u : Nat} (a : α) (h : u ≠ v) : upd g v a u = g u := if_neg h
def raise (R i : Nat) (e : Ed) (s : St) : St := ⟨upd s.x e.t (s.x e.f + e.w), upd s.by_ e.t i, upd s.rd e.t R, upd s.tau e.t (s.cnt + 1), s.cnt + 1, some e.t⟩
def one (R i : Nat) (e : Ed) (s : St) : St := if s.x e.t < s.x e.f + e.w then raise R i e s else s
/-- The first i waits of round R. -/
def runTo (es : List Ed) (R : Nat) : Nat → St → St
  | 0, s => { s with ra := none }
  | i + 1, s => match es[i]? with
    | some e => one R i e (runTo es R i s)
    | none => runTo es R i s
structure Inv (es : List Ed) (R i : Nat) (s : St) : Prop where
  zero : ∀ v, s.rd v = 0 → s.x v = 0
  rdR : ∀ v, s.rd v ≤ R
  by_ok : ∀ v, 1 ≤ s.rd v → ∃ e, es[s.by_ v]? = some e ∧ e.t = v ∧ s.x v ≤ s.x e.f + e.w
  pr : ∀ v e, 2 ≤ s.rd v → es[s.by_ v]? = some e → s.rd v ≤ s.rd e.f + 1
  kept : ∀ j e, es[j]? = some e → s.x e.f + e.w ≤ s.x e.t ∨ (if j < i then R else R - 1) ≤ s.rd e.f
  strict : ∀ u e, 1 ≤ s.rd u → es[s.by_ u]? = some e → (s.tau u < s.tau e.f ∨ e.f = u) → s.x u < s.x e.f + e.w
  tauc : ∀ v, s.tau v ≤ s.cnt
  tau0 : ∀ v, s.rd v = 0 → s.tau v = 0
  tau1 : ∀ v, 1 ≤ s.rd v → 1 ≤ s.tau v
  inj : ∀ u v, 1 ≤ s.rd u → 1 ≤ s.rd v → s.tau u = s.tau v → u = v
theorem Inv.skip {es : List Ed} {R i : Nat} {s : St} (h : Inv es R i s) {e : Ed} (he : es[i]? = some e) (hn : ¬ s.x e.t < s.x e.f + e.w) : Inv es R (i + 1) s := by
  refine { h with kept := fun j d hj => ?_ }
  by_cases hji : j = i
  · subst hji
    rw [he] at hj; injection hj with hj; subst hj
    exact .inl (by omega)
  · rcases h.kept j d hj with h1 | h1
    · exact .inl h1
    · refine .inr ?_
      by_cases h2 : j < i
      · rw [if_pos h2] at h1; rw [if_pos (by omega)]; exact h1
      · rw [if_neg h2] at h1; rw [if_neg (by omega)]; exact h1
theorem Inv.up {es : List Ed} {R i : Nat} {s : St} (hR : 1 ≤ R) (h : Inv es R i s) {e : Ed} (he : es[i]? = some e) (hn : s.x e.t < s.x e.f + e.w) : Inv es R (i + 1) (raise R i e s) := by
  have hle : ∀ v, s.x v ≤ (raise R i e s).x v := fun v => by
    show _ ≤ upd s.x e.t _ v
    by_cases hv : v = e.t
    · subst hv; rw [upd_same]; omega
    · rw [upd_ne _ _ hv]; exact Int.le_refl _
  have hrd : ∀ v, s.rd v ≤ (raise R i e s).rd v := fun v => by
    show _ ≤ upd s.rd e.t _ v
    by_cases hv : v = e.t
    · subst hv; rw [upd_same]; exact h.rdR _
    · rw [upd_ne _ _ hv]; exact Nat.le_refl _
  have htau : ∀ v, s.tau v ≤ (raise R i e s).tau v := fun v => by
    show _ ≤ upd s.tau e.t _ v
    by_cases hv : v = e.t
    · subst hv; rw [upd_same]; have := h.tauc e.t; omega
    · rw [upd_ne _ _ hv]; exact Nat.le_refl _
  have hpre : 2 ≤ R → R ≤ s.rd e.f + 1 := fun h2 => by
    rcases h.kept i e he with h1 | h1
    · omega
    · rw [if_neg (by omega)] at h1; omega
  refine ⟨fun v hv => ?_, fun v => ?_, fun v hv => ?_, fun v d hv hd => ?_, fun j d hj => ?_, fun u d hu hd hs => ?_, fun v => ?_, fun v hv => ?_, fun v hv => ?_, fun u v hu hv huv => ?_⟩
  · by_cases hve : v = e.t
    · subst hve
      have : upd s.rd e.t R e.t = 0 := hv
      rw [upd_same] at this; omega
    · have h1 : upd s.rd e.t R v = 0 := hv
      rw [upd_ne _ _ hve] at h1
      show upd s.x e.t _ v = 0
      rw [upd_ne _ _ hve]; exact h.zero v h1
  · show upd s.rd e.t R v ≤ R
    by_cases hve : v = e.t
    · subst hve; rw [upd_same]; exact Nat.le_refl _
    · rw [upd_ne _ _ hve]; exact h.rdR v
  · by_cases hve : v = e.t
    · subst hve
      refine ⟨e, by show es[upd s.by_ e.t i e.t]? = _; rw [upd_same]; exact he, rfl, ?_⟩
      show upd s.x e.t _ e.t ≤ _
      rw [upd_same]
      have := hle e.f
      omega
    · have h1 : 1 ≤ s.rd v := by
        have : 1 ≤ upd s.rd e.t R v := hv
        rwa [upd_ne _ _ hve] at this
      obtain ⟨d, h2, h3, h4⟩ := h.by_ok v h1
      refine ⟨d, by show es[upd s.by_ e.t i v]? = _; rw [upd_ne _ _ hve]; exact h2, h3, ?_⟩
      show upd s.x e.t _ v ≤ _
      rw [upd_ne _ _ hve]
      have := hle d.f
      omega
  · by_cases hve : v = e.t
    · subst hve
      have h1 : es[upd s.by_ e.t i e.t]? = some d := hd
      rw [upd_same, he] at h1; injection h1 with h1; subst h1
      have h2 : 2 ≤ upd s.rd e.t R e.t := hv
      show upd s.rd e.t R e.t ≤ _
      rw [upd_same] at h2 ⊢
      have := hrd e.f
      have := hpre h2
      omega
    · have h1 : es[upd s.by_ e.t i v]? = some d := hd
      have h2 : 2 ≤ upd s.rd e.t R v := hv
      rw [upd_ne _ _ hve] at h1 h2
      show upd s.rd e.t R v ≤ _
      rw [upd_ne _ _ hve]
      have := hrd d.f
      have := h.pr v d h2 h1
      omega
  · by_cases hf : d.f = e.t
    · refine .inr ?_
      show _ ≤ upd s.rd e.t R d.f
      rw [hf, upd_same]
      split <;> omega
    · by_cases hji : j = i
      · subst hji
        rw [he] at hj; injection hj with hj; subst hj
        refine .inl ?_
        show upd s.x e.t _ e.f + e.w ≤ upd s.x e.t _ e.t
        rw [upd_same, upd_ne _ _ hf]
        exact Int.le_refl _
      · rcases h.kept j d hj with h1 | h1
        · refine .inl ?_
          have := hle d.t
          show upd s.x e.t _ d.f + d.w ≤ _
          rw [upd_ne _ _ hf]
          omega
        · refine .inr ?_
          show _ ≤ upd s.rd e.t R d.f
          rw [upd_ne _ _ hf]
          by_cases h2 : j < i
          · rw [if_pos h2] at h1; rw [if_pos (by omega)]; exact h1
          · rw [if_neg h2] at h1; rw [if_neg (by omega)]; exact h1
  · by_cases hue : u = e.t
    · subst hue
      have h1 : es[upd s.by_ e.t i e.t]? = some d := hd
      rw [upd_same, he] at h1; injection h1 with h1; subst h1
      show upd s.x e.t _ e.t < upd s.x e.t _ e.f + e.w
      by_cases hf : e.f = e.t
      · rw [hf, upd_same]; rw [hf] at hn; omega
      · exfalso
        rcases hs with hs | hs
        · have h2 : upd s.tau e.t (s.cnt + 1) e.t < upd s.tau e.t (s.cnt + 1) e.f := hs
          rw [upd_same, upd_ne _ _ hf] at h2
          have := h.tauc e.f
          omega
        · exact hf hs
    · have h1 : es[upd s.by_ e.t i u]? = some d := hd
      have h2 : 1 ≤ upd s.rd e.t R u := hu
      rw [upd_ne _ _ hue] at h1 h2
      show upd s.x e.t _ u < upd s.x e.t _ d.f + d.w
      rw [upd_ne _ _ hue]
      by_cases hf : d.f = e.t
      · rw [hf, upd_same]
        obtain ⟨d', h3, _, h5⟩ := h.by_ok u h2
        rw [h1] at h3; injection h3 with h3; subst h3
        rw [hf] at h5
        omega
      · rw [upd_ne _ _ hf]
        refine h.strict u d h2 h1 ?_
        rcases hs with hs | hs
        · have h3 : upd s.tau e.t (s.cnt + 1) u < upd s.tau e.t (s.cnt + 1) d.f := hs
          rw [upd_ne _ _ hue, upd_ne _ _ hf] at h3
          exact .inl h3
        · exact .inr hs
  · show upd s.tau e.t (s.cnt + 1) v ≤ s.cnt + 1
    by_cases hve : v = e.t
    · subst hve; rw [upd_same]; exact Nat.le_refl _
    · rw [upd_ne _ _ hve]; have := h.tauc v; omega
  · by_cases hve : v = e.t
    · subst hve
      have : upd s.rd e.t R e.t = 0 := hv
      rw [upd_same] at this; omega
    · have h1 : upd s.rd e.t R v = 0 := hv
      rw [upd_ne _ _ hve] at h1
      show upd s.tau e.t _ v = 0
      rw [upd_ne _ _ hve]; exact h.tau0 v h1
  · show 1 ≤ upd s.tau e.t _ v
    by_cases hve : v = e.t
    · subst hve; rw [upd_same]; omega
    · have h1 : 1 ≤ upd s.rd e.t R v := hv
      rw [upd_ne _ _ hve] at h1 ⊢
      exact h.tau1 v h1
  · have h1 : upd s.tau e.t (s.cnt + 1) u = upd s.tau e.t (s.cnt + 1) v := huv
    have h2 : 1 ≤ upd s.rd e.t R u := hu
    have h3 : 1 ≤ upd s.rd e.t R v := hv
    by_cases hue : u = e.t
    · by_cases hve : v = e.t
      · rw [hue, hve]
      · rw [hue, upd_same, upd_ne _ _ hve] at h1
        have := h.tauc v
        omega
    · by_cases hve : v = e.t
      · rw [hve, upd_same, upd_ne _ _ hue] at h1
        have := h.tauc u
        omega
      · rw [upd_ne _ _ hue] at h1 h2
        rw [upd_ne _ _ hve] at h1 h3
        exact h.inj u v h2 h3 h1
theorem Inv.one {es : List Ed} {R i : Nat} {s : St} (hR : 1 ≤ R) (h : Inv es R i s) {e : Ed} (he : es[i]? = some e) : Inv es R (i + 1) (one R i e s) := by
  unfold PanPlain.one
  split
  · rename_i hn; exact h.up hR he hn
  · rename_i hn; exact h.skip he hn
/-- From where a step was last raised. -/
def pf (es : List Ed) (s : St) (v : Nat) : Nat := ((es[s.by_ v]?).map Ed.f).getD 0
def wb (es : List Ed) (s : St) (v : Nat) : Int := ((es[s.by_ v]?).map Ed.w).getD 0
def it (g : Nat → Nat) : Nat → Nat → Nat
  | 0, v => v
  | k + 1, v => g (it g k v)
theorem it_add (g : Nat → Nat) (v : Nat) : ∀ j k, it g (j + k) v = it g j (it g k v)
  | 0, k => by rw [Nat.zero_add]; rfl
  | j + 1, k => by rw [Nat.add_right_comm]; show g _ = g _; rw [it_add g v j k]
theorem Inv.back {es : List Ed} {R i : Nat} {s : St} (h : Inv es R i s) {v : Nat} (hv : 2 ≤ s.rd v) : s.rd v ≤ s.rd (pf es s v) + 1 := by
  obtain ⟨e, h1, _, _⟩ := h.by_ok v (by omega)
  have := h.pr v e hv h1
  unfold pf; rw [h1]; exact this
theorem Inv.orbit {es : List Ed} {R i : Nat} {s : St} (h : Inv es R i s) {v : Nat} : ∀ j, j + 1 ≤ s.rd v → s.rd v ≤ s.rd (it (pf es s) j v) + j
  | 0, _ => Nat.le_refl _
  | j + 1, hj => by
    have ih := h.orbit (v := v) j (by omega)
    have := h.back (v := it (pf es s) j v) (by omega)
    show _ ≤ s.rd (pf es s _) + _
    omega
theorem pigeon : ∀ (n : Nat) (g : Nat → Nat), (∀ j, j ≤ n → g j < n) → ∃ a b, a < b ∧ b ≤ n ∧ g a = g b
  | 0, g, h => absurd (h 0 (Nat.le_refl _)) (by omega)
  | n + 1, g, h => by
    by_cases hm : ∃ j, j ≤ n ∧ g j = g (n + 1)
    · obtain ⟨j, hj, he⟩ := hm
      exact ⟨j, n + 1, by omega, Nat.le_refl _, he⟩
    · have hne : ∀ j, j ≤ n → g j ≠ g (n + 1) := fun j hj he => hm ⟨j, hj, he⟩
      have hl := h (n + 1) (Nat.le_refl _)
      obtain ⟨a, b, hab, hb, he⟩ := pigeon n (fun j => if g (n + 1) < g j then g j - 1 else g j) (fun j hj => by
        have h1 := h j (by omega)
        have h2 := hne j hj
        have h5 : (if g (n + 1) < g j then g j - 1 else g j) < n := by split <;> omega
        exact h5)
      refine ⟨a, b, hab, by omega, ?_⟩
      have h1 := hne a (by omega)
      have h2 := hne b hb
      have h3 : (if g (n + 1) < g a then g a - 1 else g a) = (if g (n + 1) < g b then g b - 1 else g b) := he
      split at h3 <;> split at h3 <;> omega
def sw (es : List Ed) (s : St) (u : Nat) : Nat → Int
  | 0 => 0
  | k + 1 => sw es s u k + wb es s (it (pf es s) k u)
theorem Inv.edge {es : List Ed} {R i : Nat} {s : St} (h : Inv es R i s) {v : Nat} (hv : 1 ≤ s.rd v) : s.x v ≤ s.x (pf es s v) + wb es s v ∧ ((s.tau v < s.tau (pf es s v) ∨ pf es s v = v) → s.x v < s.x (pf es s v) + wb es s v) := by
  obtain ⟨e, h1, _, h3⟩ := h.by_ok v hv
  have h4 := h.strict v e hv h1
  unfold pf wb
  rw [h1]
  exact ⟨h3, h4⟩
/-- A cycle of such waits is slower. -/
theorem Inv.pos {es : List Ed} {R i : Nat} {s : St} (h : Inv es R i s) {u k : Nat} (hk : 1 ≤ k) (hc : it (pf es s) k u = u) (hr : ∀ j, j < k → 1 ≤ s.rd (it (pf es s) j u)) : 0 < sw es s u k := by
  have hle : ∀ m, m ≤ k → s.x u ≤ s.x (it (pf es s) m u) + sw es s u m := fun m => by
    induction m with
    | zero => intro _; show s.x u ≤ s.x u + 0; omega
    | succ m ih =>
      intro hm
      have h1 := ih (by omega)
      have h2 := (h.edge (hr m (by omega))).1
      show _ ≤ s.x (pf es s _) + (_ + _)
      omega
  have hlt : ∀ m, m ≤ k → (∃ j, j < m ∧ (s.tau (it (pf es s) j u) < s.tau (it (pf es s) (j + 1) u) ∨ it (pf es s) (j + 1) u = it (pf es s) j u)) → s.x u < s.x (it (pf es s) m u) + sw es s u m := fun m => by
    induction m with
    | zero => intro _ ⟨j, hj, _⟩; omega
    | succ m ih =>
      intro hm ⟨j, hj, hs⟩
      have h2 := h.edge (hr m (by omega))
      show _ < s.x (pf es s _) + (_ + _)
      by_cases hjm : j = m
      · subst hjm
        have h3 := h2.2 hs
        have h1 := hle j (by omega)
        omega
      · have h1 := ih (by omega) ⟨j, by omega, hs⟩
        have := h2.1
        omega
  have hex : ∃ j, j < k ∧ (s.tau (it (pf es s) j u) < s.tau (it (pf es s) (j + 1) u) ∨ it (pf es s) (j + 1) u = it (pf es s) j u) := by
    refine Classical.byContradiction fun hn => ?_
    have hdec : ∀ m, m ≤ k → 1 ≤ m → s.tau (it (pf es s) m u) < s.tau u := fun m => by
      induction m with
      | zero => intro _ h; omega
      | succ m ih =>
        intro hm _
        have hnj : ¬ (s.tau (it (pf es s) m u) < s.tau (it (pf es s) (m + 1) u) ∨ it (pf es s) (m + 1) u = it (pf es s) m u) := fun hh => hn ⟨m, by omega, hh⟩
        have h1 : s.tau (it (pf es s) (m + 1) u) < s.tau (it (pf es s) m u) := by
          have hne : it (pf es s) (m + 1) u ≠ it (pf es s) m u := fun e => hnj (.inr e)
          have hle2 : ¬ s.tau (it (pf es s) m u) < s.tau (it (pf es s) (m + 1) u) := fun e => hnj (.inl e)
          have hr2 : 1 ≤ s.rd (it (pf es s) (m + 1) u) := by
            by_cases e : m + 1 = k
            · rw [e, hc]; exact hr 0 (by omega)
            · exact hr (m + 1) (by omega)
          have hne2 : s.tau (it (pf es s) (m + 1) u) ≠ s.tau (it (pf es s) m u) := fun e => hne (h.inj _ _ hr2 (hr m (by omega)) e)
          omega
        by_cases h0 : m = 0
        · subst h0; exact h1
        · have := ih (by omega) (by omega); omega
    have := hdec k (Nat.le_refl _) hk
    rw [hc] at this
    omega
  have := hlt k (Nat.le_refl _) hex
  rw [hc] at this
  omega
/-- Going back often enough, one is on a cycle. -/
theorem Inv.found {es : List Ed} {R i n : Nat} {s : St} (h : Inv es R i s) (hf : ∀ (j : Nat) (e : Ed), es[j]? = some e → e.f < n ∧ e.t < n) {v : Nat} (hv : n + 1 ≤ s.rd v) :
    ∃ k, 1 ≤ k ∧ it (pf es s) k (it (pf es s) n v) = it (pf es s) n v ∧ ∀ j, 1 ≤ s.rd (it (pf es s) j (it (pf es s) n v)) := by
  have hrd : ∀ j, j ≤ n → 1 ≤ s.rd (it (pf es s) j v) := fun j hj => by have := h.orbit (v := v) j (by omega); omega
  have hlt : ∀ j, j ≤ n → it (pf es s) j v < n := fun j hj => by
    obtain ⟨e, h1, h2, _⟩ := h.by_ok _ (hrd j hj)
    rw [← h2]; exact (hf _ e h1).2
  obtain ⟨a, b, hab, hb, he⟩ := pigeon n (fun j => it (pf es s) j v) hlt
  have he' : it (pf es s) a v = it (pf es s) b v := he
  have hper : ∀ m, it (pf es s) (m + a) v = it (pf es s) (m + b) v := fun m => by rw [it_add, it_add, he']
  refine ⟨b - a, by omega, ?_, fun j => ?_⟩
  · rw [← it_add]
    have h1 := hper (n - a)
    have e1 : n - a + a = n := by omega
    have e2 : n - a + b = b - a + n := by omega
    rw [e1, e2] at h1
    exact h1.symm
  · rw [← it_add]
    -- every later place is one of the first ones
    have key : ∀ m, ∃ j, j ≤ n ∧ it (pf es s) m v = it (pf es s) j v := fun m => by
      induction m using Nat.strongRecOn with
      | _ m ih =>
        by_cases hm : m ≤ n
        · exact ⟨m, hm, rfl⟩
        · have h1 := hper (m - b)
          have e1 : m - b + b = m := by omega
          rw [e1] at h1
          obtain ⟨j, hj, h2⟩ := ih (m - b + a) (by omega)
          exact ⟨j, hj, by rw [← h1]; exact h2⟩
    obtain ⟨j', hj', h1⟩ := key (j + n)
    rw [h1]; exact hrd j' hj'
/-! ### Round by round -/
def st0 : St := ⟨fun _ => 0, fun _ => 0, fun _ => 0, fun _ => 0, 0, none⟩
theorem Inv.start (es : List Ed) : Inv es 1 0 st0 where
  zero := fun _ _ => rfl
  rdR := fun _ => Nat.zero_le _
  by_ok := fun v hv => by have h : 1 ≤ (0 : Nat) := hv; omega
  pr := fun v e hv _ => by have h : 2 ≤ (0 : Nat) := hv; omega
  kept := fun j e _ => .inr (by rw [if_neg (by omega)]; exact Nat.zero_le _)
  strict := fun u e hu _ _ => by have h : 1 ≤ (0 : Nat) := hu; omega
  tauc := fun _ => Nat.le_refl _
  tau0 := fun _ _ => rfl
  tau1 := fun v hv => by have h : 1 ≤ (0 : Nat) := hv; omega
  inj := fun u v hu _ _ => by have h : 1 ≤ (0 : Nat) := hu; omega
theorem Inv.next {es : List Ed} {R : Nat} {s : St} (h : Inv es R es.length s) : Inv es (R + 1) 0 s :=
  ⟨h.zero, fun v => by have := h.rdR v; omega, h.by_ok, h.pr, fun j e hj => by
    have hl : j < es.length := (List.getElem?_eq_some_iff.1 hj).1
    rcases h.kept j e hj with h1 | h1
    · exact .inl h1
    · rw [if_pos hl] at h1
      exact .inr (by rw [if_neg (by omega)]; omega), h.strict, h.tauc, h.tau0, h.tau1, h.inj⟩
theorem Inv.none_ {es : List Ed} {R i : Nat} {s : St} (h : Inv es R i s) (r : Option Nat) : Inv es R i { s with ra := r } :=
  ⟨h.zero, h.rdR, h.by_ok, h.pr, h.kept, h.strict, h.tauc, h.tau0, h.tau1, h.inj⟩
theorem Inv.run {es : List Ed} {R : Nat} {s : St} (hR : 1 ≤ R) (h : Inv es R 0 s) : ∀ i, i ≤ es.length → Inv es R i (runTo es R i s)
  | 0, _ => h.none_ none
  | i + 1, hi => by
    have ih := h.run hR i (by omega)
    have he : es[i]? = some es[i] := List.getElem?_eq_getElem (by omega)
    unfold runTo
    rw [he]
    exact ih.one hR he
/-- What was raised last in the round. -/
theorem run_ra {es : List Ed} {R : Nat} {s : St} : ∀ i, (∀ v, (runTo es R i s).ra = some v → (runTo es R i s).rd v = R) ∧ ((runTo es R i s).ra = none → (runTo es R i s).x = s.x ∧ ∀ j e, j < i → es[j]? = some e → s.x e.f + e.w ≤ s.x e.t)
  | 0 => by
    refine ⟨fun v h => ?_, fun _ => ⟨rfl, fun j e hj => by omega⟩⟩
    have h2 : (none : Option Nat) = some v := h
    cases h2
  | i + 1 => by
    obtain ⟨h1, h2⟩ := run_ra (es := es) (R := R) (s := s) i
    unfold runTo
    cases he : es[i]? with
    | none =>
      refine ⟨h1, fun hn => ⟨(h2 hn).1, fun j e hj hje => ?_⟩⟩
      by_cases hji : j = i
      · subst hji; rw [he] at hje; cases hje
      · exact (h2 hn).2 j e (by omega) hje
    | some e =>
      simp only
      unfold one
      by_cases hc : (runTo es R i s).x e.t < (runTo es R i s).x e.f + e.w
      · rw [if_pos hc]
        refine ⟨fun v hv => ?_, fun hn => by cases hn⟩
        have : some e.t = some v := hv
        injection this with this
        subst this
        exact upd_same _ _ _
      · rw [if_neg hc]
        refine ⟨h1, fun hn => ⟨(h2 hn).1, fun j d hj hjd => ?_⟩⟩
        by_cases hji : j = i
        · subst hji
          rw [he] at hjd; injection hjd with hjd; subst hjd
          rw [(h2 hn).1] at hc
          omega
        · exact (h2 hn).2 j d (by omega) hjd
/-- No number is greater than that of a timetable that keeps all waits. -/
theorem run_least {es : List Ed} {R : Nat} {s : St} {y : Nat → Int} (hy : ∀ (j : Nat) (e : Ed), es[j]? = some e → y e.f + e.w ≤ y e.t) (hs : ∀ v, s.x v ≤ y v) : ∀ i v, (runTo es R i s).x v ≤ y v
  | 0, v => hs v
  | i + 1, v => by
    have ih := run_least (R := R) hy hs i
    unfold runTo
    cases he : es[i]? with
    | none => exact ih v
    | some e =>
      simp only
      unfold one
      split
      · show upd _ _ _ v ≤ _
        by_cases hv : v = e.t
        · subst hv
          rw [upd_same]
          have := ih e.f
          have := hy i e he
          omega
        · rw [upd_ne _ _ hv]; exact ih v
      · exact ih v
/-- The state behind r rounds. -/
def rounds (es : List Ed) : Nat → St
  | 0 => st0
  | r + 1 => runTo es (r + 1) es.length (rounds es r)
theorem rounds_inv (es : List Ed) : ∀ r, Inv es (r + 1) 0 (rounds es r)
  | 0 => Inv.start es
  | r + 1 => ((rounds_inv es r).run (by omega) es.length (Nat.le_refl _)).next
/-- If even round n + 1 has raised a step, going back from it ends on a slower cycle. -/
theorem slower {es : List Ed} {n : Nat} (hf : ∀ (j : Nat) (e : Ed), es[j]? = some e → e.f < n ∧ e.t < n) {v : Nat} (hv : (rounds es (n + 1)).ra = some v) :
    ∃ k, 1 ≤ k ∧ it (pf es (rounds es (n + 1))) k (it (pf es (rounds es (n + 1))) n v) = it (pf es (rounds es (n + 1))) n v ∧ (∀ j, 1 ≤ (rounds es (n + 1)).rd (it (pf es (rounds es (n + 1))) j (it (pf es (rounds es (n + 1))) n v))) ∧ 0 < sw es (rounds es (n + 1)) (it (pf es (rounds es (n + 1))) n v) k := by
  have hI := rounds_inv es (n + 1)
  have hr : (rounds es (n + 1)).rd v = n + 1 := (run_ra (es := es) (R := n + 1) (s := rounds es n) es.length).1 v hv
  obtain ⟨k, h1, h2, h3⟩ := hI.found hf (v := v) (by omega)
  exact ⟨k, h1, h2, h3, hI.pos h1 h2 (fun j _ => h3 j)⟩
/-- A round that raises nothing: the numbers keep all waits, and are the least. -/
theorem steady {es : List Ed} {r : Nat} (h : (rounds es (r + 1)).ra = none) : (∀ (j : Nat) (e : Ed), es[j]? = some e → (rounds es r).x e.f + e.w ≤ (rounds es r).x e.t) ∧ (rounds es (r + 1)).x = (rounds es r).x := by
  obtain ⟨h1, h2⟩ := (run_ra (es := es) (R := r + 1) (s := rounds es r) es.length).2 h
  exact ⟨fun j e hj => h2 j e (List.getElem?_eq_some_iff.1 hj).1 hj, h1⟩
theorem rounds_least {es : List Ed} {y : Nat → Int} (hy : ∀ (j : Nat) (e : Ed), es[j]? = some e → y e.f + e.w ≤ y e.t) (h0 : ∀ v, 0 ≤ y v) : ∀ r v, (rounds es r).x v ≤ y v
  | 0, v => h0 v
  | r + 1, v => run_least hy (rounds_least hy h0 r) es.length v
/-- A timetable that keeps all waits bounds what one goes back along. -/
theorem sw_keeps {es : List Ed} {R i : Nat} {s : St} (h : Inv es R i s) {y : Nat → Int} (hy : ∀ (j : Nat) (e : Ed), es[j]? = some e → y e.f + e.w ≤ y e.t) {u : Nat} : ∀ k, (∀ j, j < k → 1 ≤ s.rd (it (pf es s) j u)) → y (it (pf es s) k u) + sw es s u k ≤ y u
  | 0, _ => by show y u + 0 ≤ y u; omega
  | k + 1, hr => by
    have ih := sw_keeps h hy (u := u) k (fun j hj => hr j (by omega))
    obtain ⟨e, h1, h2, _⟩ := h.by_ok _ (hr k (by omega))
    have h3 := hy _ e h1
    rw [h2] at h3
    have e1 : pf es s (it (pf es s) k u) = e.f := (fun z hz => by unfold pf; rw [hz]; rfl : ∀ z, es[s.by_ z]? = some e → pf es s z = e.f) _ h1
    have e2 : wb es s (it (pf es s) k u) = e.w := (fun z hz => by unfold wb; rw [hz]; rfl : ∀ z, es[s.by_ z]? = some e → wb es s z = e.w) _ h1
    show y (pf es s (it (pf es s) k u)) + (sw es s u k + wb es s (it (pf es s) k u)) ≤ y u
    rw [e1, e2]
    omega
/-- Where a timetable keeps all waits, round n + 1 raises nothing. -/
theorem ends {es : List Ed} {n : Nat} (hf : ∀ (j : Nat) (e : Ed), es[j]? = some e → e.f < n ∧ e.t < n) {y : Nat → Int} (hy : ∀ (j : Nat) (e : Ed), es[j]? = some e → y e.f + e.w ≤ y e.t) : (rounds es (n + 1)).ra = none := by
  cases h : (rounds es (n + 1)).ra with
  | none => rfl
  | some v =>
    exfalso
    obtain ⟨k, h1, h2, h3, h4⟩ := slower hf h
    have h5 := sw_keeps (rounds_inv es (n + 1)) hy k (u := it (pf es (rounds es (n + 1))) n v) (fun j _ => h3 j)
    rw [h2] at h5
    omega
/-- .. and a way that comes back adds nothing: no cycle is slower. -/
theorem least_keeps {es : List Ed} {r : Nat} (h : (rounds es (r + 1)).ra = none) {y : Nat → Int} (hy : ∀ (j : Nat) (e : Ed), es[j]? = some e → y e.f + e.w ≤ y e.t) (h0 : ∀ v, 0 ≤ y v) :
    (∀ (j : Nat) (e : Ed), es[j]? = some e → (rounds es r).x e.f + e.w ≤ (rounds es r).x e.t) ∧ ∀ v, (rounds es r).x v ≤ y v :=
  ⟨(steady h).1, rounds_least hy h0 r⟩
theorem run_grow {es : List Ed} {R : Nat} {s : St} : ∀ i v, s.x v ≤ (runTo es R i s).x v
  | 0, v => Int.le_refl _
  | i + 1, v => by
    have ih := run_grow (es := es) (R := R) (s := s) i v
    unfold runTo
    cases he : es[i]? with
    | none => exact ih
    | some e =>
      simp only
      unfold one
      split
      · rename_i hc
        show _ ≤ upd _ _ _ v
        by_cases hv : v = e.t
        · subst hv; rw [upd_same]; omega
        · rw [upd_ne _ _ hv]; exact ih
      · exact ih
theorem rounds_nonneg (es : List Ed) : ∀ r v, 0 ≤ (rounds es r).x v
  | 0, _ => Int.le_refl _
  | r + 1, v => Int.le_trans (rounds_nonneg es r v) (run_grow es.length v)
/-! ### Bounds, periods of the ways back, cycles by numbers of waits -/
theorem run_bound {es : List Ed} {R : Nat} {s : St} {M : Int} (hM : ∀ (j : Nat) (e : Ed), es[j]? = some e → e.w ≤ M) (h0 : 0 ≤ M) (hs : ∀ v, s.x v ≤ s.cnt * M) : ∀ i, (∀ v, (runTo es R i s).x v ≤ (runTo es R i s).cnt * M) ∧ s.cnt ≤ (runTo es R i s).cnt ∧ (runTo es R i s).cnt ≤ s.cnt + i
  | 0 => ⟨hs, Nat.le_refl _, Nat.le_refl _⟩
  | i + 1 => by
    obtain ⟨h1, h2, h3⟩ := run_bound (R := R) hM h0 hs i
    unfold runTo
    cases he : es[i]? with
    | none => exact ⟨h1, h2, by simp only; omega⟩
    | some e =>
      simp only
      unfold one
      split
      · refine ⟨fun v => ?_, by show _ ≤ _ + 1; omega, by show _ + 1 ≤ _; omega⟩
        show upd _ _ _ v ≤ ((_ + 1 : Nat) : Int) * M
        have hg : (((runTo es R i s).cnt + 1 : Nat) : Int) * M = (runTo es R i s).cnt * M + M := by push_cast; rw [Int.add_mul, Int.one_mul]
        rw [hg]
        by_cases hv : v = e.t
        · subst hv
          rw [upd_same]
          have := h1 e.f
          have := hM i e he
          omega
        · rw [upd_ne _ _ hv]; have := h1 v; omega
      · exact ⟨h1, h2, by omega⟩
theorem rounds_bound {es : List Ed} {M : Int} (hM : ∀ (j : Nat) (e : Ed), es[j]? = some e → e.w ≤ M) (h0 : 0 ≤ M) : ∀ r, (∀ v, (rounds es r).x v ≤ (rounds es r).cnt * M) ∧ (rounds es r).cnt ≤ r * es.length
  | 0 => ⟨fun v => by show (0 : Int) ≤ ((0 : Nat) : Int) * M; simp, by show 0 ≤ _; omega⟩
  | r + 1 => by
    obtain ⟨h1, h2⟩ := rounds_bound hM h0 r
    obtain ⟨h3, _, h5⟩ := run_bound (R := r + 1) hM h0 h1 es.length
    refine ⟨h3, ?_⟩
    show (runTo es (r + 1) es.length (rounds es r)).cnt ≤ _
    rw [Nat.add_mul]; omega
/-- Within round r + 1, numbers lie from 0 to (r + 1) times the number of waits, times M. -/
theorem mid_bound {es : List Ed} {M : Int} (hM : ∀ (j : Nat) (e : Ed), es[j]? = some e → e.w ≤ M) (h0 : 0 ≤ M) (r i : Nat) (hi : i ≤ es.length) (v : Nat) : 0 ≤ (runTo es (r + 1) i (rounds es r)).x v ∧ (runTo es (r + 1) i (rounds es r)).x v ≤ ((r + 1) * es.length : Nat) * M := by
  obtain ⟨h1, h2⟩ := rounds_bound hM h0 r
  obtain ⟨h3, _, h5⟩ := run_bound (R := r + 1) hM h0 h1 i
  refine ⟨Int.le_trans (rounds_nonneg es r v) (run_grow i v), Int.le_trans (h3 v) (Int.mul_le_mul_of_nonneg_right ?_ h0)⟩
  have : (r + 1) * es.length = r * es.length + es.length := by rw [Nat.add_mul, Nat.one_mul]
  omega
theorem fin_bound {es : List Ed} {M : Int} (hM : ∀ (j : Nat) (e : Ed), es[j]? = some e → e.w ≤ M) (h0 : 0 ≤ M) (r v : Nat) : 0 ≤ (rounds es r).x v ∧ (rounds es r).x v ≤ (r * es.length : Nat) * M := by
  obtain ⟨h1, h2⟩ := rounds_bound hM h0 r
  exact ⟨rounds_nonneg es r v, Int.le_trans (h1 v) (Int.mul_le_mul_of_nonneg_right (by omega) h0)⟩
/-- The least way around. -/
theorem least_nat {p : Nat → Prop} : ∀ n, p n → ∃ k, k ≤ n ∧ p k ∧ ∀ m, m < k → ¬ p m := by
  intro n
  induction n using Nat.strongRecOn with
  | _ n ih =>
    intro h
    by_cases hm : ∃ m, m < n ∧ p m
    · obtain ⟨m, hm, hp⟩ := hm
      obtain ⟨k, h1, h2, h3⟩ := ih m hm hp
      exact ⟨k, by omega, h2, h3⟩
    · exact ⟨n, Nat.le_refl _, h, fun m hmn hp => hm ⟨m, hmn, hp⟩⟩
/-- What is known of the ways back from step v, n steps back and then around: k waits. -/
structure Back (es : List Ed) (S : St) (n v k : Nat) : Prop where
  k1 : 1 ≤ k
  kn : k ≤ n
  it_ : it (pf es S) k v = v
  least : ∀ m, 1 ≤ m → m < k → it (pf es S) m v ≠ v
  rd : ∀ j, 1 ≤ S.rd (it (pf es S) j v)
  lt : ∀ j, it (pf es S) j v < n
  edge : ∀ j, ∃ e, es[S.by_ (it (pf es S) j v)]? = some e ∧ e.t = it (pf es S) j v ∧ e.f = it (pf es S) (j + 1) v
  pos : 0 < sw es S v k
theorem back_of {es : List Ed} {n : Nat} (hf : ∀ (j : Nat) (e : Ed), es[j]? = some e → e.f < n ∧ e.t < n) {v : Nat} (hv : (rounds es (n + 1)).ra = some v) :
    (∀ j, j ≤ n → 1 ≤ (rounds es (n + 1)).rd (it (pf es (rounds es (n + 1))) j v) ∧ it (pf es (rounds es (n + 1))) j v < n ∧ ∃ e, es[(rounds es (n + 1)).by_ (it (pf es (rounds es (n + 1))) j v)]? = some e ∧ e.f = it (pf es (rounds es (n + 1))) (j + 1) v) ∧
    ∃ k, Back es (rounds es (n + 1)) n (it (pf es (rounds es (n + 1))) n v) k := by
  have hI := rounds_inv es (n + 1)
  have hr : (rounds es (n + 1)).rd v = n + 1 := (run_ra (es := es) (R := n + 1) (s := rounds es n) es.length).1 v hv
  obtain ⟨k0, h1, h2, h3⟩ := hI.found hf (v := v) (by omega)
  have hed : ∀ u, 1 ≤ (rounds es (n + 1)).rd u → ∃ e, es[(rounds es (n + 1)).by_ u]? = some e ∧ e.t = u ∧ e.f = pf es (rounds es (n + 1)) u := fun u hu => by
    obtain ⟨e, h1, h2, _⟩ := hI.by_ok u hu
    exact ⟨e, h1, h2, by unfold pf; rw [h1]; rfl⟩
  refine ⟨fun j hj => ?_, ?_⟩
  · have h4 : 1 ≤ (rounds es (n + 1)).rd (it (pf es (rounds es (n + 1))) j v) := by have := hI.orbit (v := v) j (by omega); omega
    obtain ⟨e, h5, h6, h7⟩ := hed _ h4
    exact ⟨h4, by rw [← h6]; exact (hf _ e h5).2, e, h5, h7⟩
  · obtain ⟨k, h4, ⟨h5, h6⟩, h7⟩ := least_nat (p := fun k => 1 ≤ k ∧ it (pf es (rounds es (n + 1))) k (it (pf es (rounds es (n + 1))) n v) = it (pf es (rounds es (n + 1))) n v) k0 ⟨h1, h2⟩
    generalize it (pf es (rounds es (n + 1))) n v = u at *
    have hlt : ∀ j, it (pf es (rounds es (n + 1))) j u < n := fun j => by
      obtain ⟨e, h8, h9, _⟩ := hed _ (h3 j)
      rw [← h9]; exact (hf _ e h8).2
    have hl : ∀ m, 1 ≤ m → m < k → it (pf es (rounds es (n + 1))) m u ≠ u := fun m h1 h2 h3 => h7 m h2 ⟨h1, h3⟩
    have hkn : k ≤ n := by
      refine Classical.byContradiction fun hh => ?_
      obtain ⟨a, b, hab, hb, he⟩ := pigeon n (fun j => it (pf es (rounds es (n + 1))) j u) (fun j _ => hlt j)
      have he' : it (pf es (rounds es (n + 1))) a u = it (pf es (rounds es (n + 1))) b u := he
      refine hl (k - b + a) (by omega) (by omega) ?_
      rw [it_add, he', ← it_add]
      have : k - b + b = k := by omega
      rw [this]; exact h6
    exact ⟨k, h5, hkn, h6, hl, h3, hlt, fun j => by obtain ⟨e, a, b, c⟩ := hed _ (h3 j); exact ⟨e, a, b, c⟩, hI.pos h5 h6 (fun j _ => h3 j)⟩
/-- The waits back from v. -/
def backC (es : List Ed) (S : St) (v k : Nat) : List Nat := (List.range k).map fun j => S.by_ (it (pf es S) j v)
theorem backC_succ (es : List Ed) (S : St) (v k : Nat) : backC es S v (k + 1) = backC es S v k ++ [S.by_ (it (pf es S) k v)] := by
  unfold backC; rw [List.range_succ, List.map_append]; rfl
theorem backC_len (es : List Ed) (S : St) (v k : Nat) : (backC es S v k).length = k := by simp [backC]
/-! ### Cycles by numbers of waits -/
inductive Path (es : List Ed) : Nat → Nat → List Nat → Prop
  | nil (u : Nat) : Path es u u []
  | cons {i v : Nat} {e : Ed} {l : List Nat} (he : es[i]? = some e) (h : Path es e.t v l) : Path es e.f v (i :: l)
def frm (es : List Ed) (i : Nat) : Nat := ((es[i]?).map Ed.f).getD 0
def wgt (es : List Ed) (i : Nat) : Int := ((es[i]?).map Ed.w).getD 0
theorem frm_eq {es : List Ed} {i : Nat} {e : Ed} (h : es[i]? = some e) : frm es i = e.f := by unfold frm; rw [h]; rfl
theorem wgt_eq {es : List Ed} {i : Nat} {e : Ed} (h : es[i]? = some e) : wgt es i = e.w := by unfold wgt; rw [h]; rfl
structure Cyc (es : List Ed) (u : Nat) (c : List Nat) : Prop where
  ne : c ≠ []
  path : Path es u u c
  nd : (c.map (frm es)).Nodup
theorem Path.app {es : List Ed} {u v z : Nat} {l m : List Nat} (h : Path es u v l) (k : Path es v z m) : Path es u z (l ++ m) := by
  induction h with
  | nil u => exact k
  | cons he _ ih => exact .cons he (ih k)
theorem Path.mem {es : List Ed} {u v : Nat} {l : List Nat} (h : Path es u v l) : ∀ i ∈ l, ∃ e, es[i]? = some e := by
  induction h with
  | nil u => intro i hi; simp at hi
  | cons he _ ih => intro i hi; rcases List.mem_cons.1 hi with rfl | hi; exact ⟨_, he⟩; exact ih i hi
theorem Path.keeps {es : List Ed} {y : Nat → Int} (hy : ∀ (j : Nat) (e : Ed), es[j]? = some e → y e.f + e.w ≤ y e.t) {u v : Nat} {l : List Nat} (h : Path es u v l) : y u + (l.map (wgt es)).sum ≤ y v := by
  induction h with
  | nil u => simp
  | cons he _ ih =>
    rename_i e l _
    have := hy _ _ he
    rw [List.map_cons, List.sum_cons, wgt_eq he]
    omega
theorem Path.split {es : List Ed} {u v : Nat} : ∀ {l m : List Nat}, Path es u v (l ++ m) → ∃ z, Path es u z l ∧ Path es z v m
  | [], m, h => ⟨u, .nil u, h⟩
  | i :: l, m, h => by
    cases h with
    | cons he h =>
      obtain ⟨z, h1, h2⟩ := Path.split (l := l) h
      exact ⟨z, .cons he h1, h2⟩
theorem Path.start {es : List Ed} {u v i : Nat} {l : List Nat} (h : Path es u v (i :: l)) : frm es i = u := by
  cases h with
  | cons he _ => exact frm_eq he
/-- A cycle, turned: the same waits from another step on. -/
theorem Cyc.turn {es : List Ed} {u : Nat} {l m : List Nat} (h : Cyc es u (l ++ m)) : ∃ z, Cyc es z (m ++ l) ∧ Path es u z l := by
  obtain ⟨z, h1, h2⟩ := Path.split h.path
  refine ⟨z, ⟨?_, h2.app h1, ?_⟩, h1⟩
  · intro e
    have := h.ne
    simp at e
    simp [e] at this
  · have := h.nd
    rw [List.map_append] at this ⊢
    exact (List.perm_append_comm.nodup_iff).1 this
theorem back_path {es : List Ed} {S : St} {n v k : Nat} (h : Back es S n v k) : ∀ j, Path es (it (pf es S) j v) v (backC es S v j).reverse ∧ ((backC es S v j).reverse.map (wgt es)).sum = sw es S v j ∧ ((backC es S v j).reverse.map (frm es)) = ((List.range j).map fun m => it (pf es S) (m + 1) v).reverse
  | 0 => ⟨by simp [backC]; exact .nil _, by simp [backC, sw], by simp [backC]⟩
  | j + 1 => by
    obtain ⟨h1, h2, h3⟩ := back_path h j
    obtain ⟨e, h4, h5, h6⟩ := h.edge j
    rw [backC_succ, List.reverse_append]
    refine ⟨?_, ?_, ?_⟩
    · rw [← h6]
      exact .cons h4 (by rw [h5]; exact h1)
    · have e2 : wb es S (it (pf es S) j v) = e.w := (fun z hz => by unfold wb; rw [hz]; rfl : ∀ z, es[S.by_ z]? = some e → wb es S z = e.w) _ h4
      show ((_ :: (backC es S v j).reverse).map (wgt es)).sum = sw es S v j + wb es S _
      rw [List.map_cons, List.sum_cons, h2, wgt_eq h4, e2]
      omega
    · show ((_ :: (backC es S v j).reverse).map (frm es)) = _
      rw [List.map_cons, h3, frm_eq h4, h6, List.range_succ, List.map_append, List.reverse_append]
      rfl
theorem nodup_of_inj {α : Type} {f : Nat → α} : ∀ k, (∀ a b, a < b → b < k → f a ≠ f b) → ((List.range k).map f).Nodup
  | 0, _ => by simp
  | k + 1, h => by
    rw [List.range_succ, List.map_append]
    refine List.nodup_append.2 ⟨nodup_of_inj k (fun a b h1 h2 => h a b h1 (by omega)), by simp, fun a ha b hb => ?_⟩
    simp at ha hb
    obtain ⟨c, hc, rfl⟩ := ha
    rw [hb]
    exact h c k hc (by omega)
/-- The cycle that is found: it is one, and slower. -/
theorem back_cyc {es : List Ed} {S : St} {n v k : Nat} (h : Back es S n v k) : Cyc es v (backC es S v k).reverse ∧ 0 < ((backC es S v k).reverse.map (wgt es)).sum ∧ (backC es S v k).reverse.length ≤ n := by
  obtain ⟨h1, h2, h3⟩ := back_path h k
  rw [h.it_] at h1
  refine ⟨⟨?_, h1, ?_⟩, by rw [h2]; exact h.pos, by rw [List.length_reverse, backC_len]; exact h.kn⟩
  · intro e
    have := congrArg List.length e
    rw [List.length_reverse, backC_len] at this
    have := h.k1
    simp at *
    omega
  · rw [h3]
    refine (List.reverse_perm _).nodup_iff.2 (nodup_of_inj k fun a b hab hb he => ?_)
    refine h.least (k - (b + 1) + (a + 1)) (by omega) (by omega) ?_
    have he' : it (pf es S) (a + 1) v = it (pf es S) (b + 1) v := he
    rw [it_add, he', ← it_add]
    have : k - (b + 1) + (b + 1) = k := by omega
    rw [this]; exact h.it_
end PanPlain
end Go.Proofs
