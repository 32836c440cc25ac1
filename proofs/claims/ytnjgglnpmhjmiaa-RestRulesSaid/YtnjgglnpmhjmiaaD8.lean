/- Laws of rotation, plainly: how long the first list is by which two laws differ. -/
import Derived.Test.YtnjgglnpmhjmiaaD5
import Derived.Test.YtnjgglnpmhjmiaaD7
open Go Go.RowKit Go.YtnjgglnpmhjmiaaIt
open Rest
namespace Go.Proofs
namespace Ytnjgglnpmhjmiaa
section
variable {a b : Lw}
/-- What is allowed after a state of the one law (false) or the other. -/
def valS (a b : Lw) (s : Bool × Int) : List Nat → Bool := if s.1 = true then Fut (sysL b) s.2 else Fut (sysL a) s.2
def nxS (a b : Lw) (s : Bool × Int) (c : Nat) : Bool × Int := if s.1 = true then (true, b.at s.2 c) else (false, a.at s.2 c)
def inS (a b : Lw) (s : Bool × Int) : Prop := if s.1 = true then b.st s.2 else a.st s.2
def EqS (a b : Lw) (r : Nat) (s t : Bool × Int) : Prop := ∀ w, Wd 2 w → w.length ≤ r → valS a b s w = valS a b t w
theorem EqS.symm {r : Nat} {s t : Bool × Int} (h : EqS a b r s t) : EqS a b r t s := fun w h1 h2 => (h w h1 h2).symm
theorem EqS.trans {r : Nat} {s t u : Bool × Int} (h : EqS a b r s t) (k : EqS a b r t u) : EqS a b r s u := fun w h1 h2 => (h w h1 h2).trans (k w h1 h2)
theorem EqS.less {r r' : Nat} {s t : Bool × Int} (h : EqS a b r s t) (hr : r' ≤ r) : EqS a b r' s t := fun w h1 h2 => h w h1 (Nat.le_trans h2 hr)
theorem valS_nx (ha : a.k = 2) (hb : b.k = 2) (s : Bool × Int) {c : Nat} (hc : c < 2) (w : List Nat) : valS a b (nxS a b s c) w = valS a b s (c :: w) := by
  obtain ⟨s1, s2⟩ := s
  cases s1
  · exact fut_nx (x := sysL a) (by show c < a.k; omega) w
  · exact fut_nx (x := sysL b) (by show c < b.k; omega) w
theorem inS_nx (ha : a.Ok) (hb : b.Ok) (hka : a.k = 2) (hkb : b.k = 2) {s : Bool × Int} (h : inS a b s) {c : Nat} (hc : c < 2) : inS a b (nxS a b s c) := by
  obtain ⟨s1, s2⟩ := s
  cases s1
  · exact ha.cl h (by omega)
  · exact hb.cl h (by omega)
theorem EqS.stay {P : Bool × Int → Prop} (hP : ∀ s c, P s → c < 2 → P (nxS a b s c)) (hka : a.k = 2) (hkb : b.k = 2) {r : Nat} (h : ∀ s t, P s → P t → EqS a b r s t → EqS a b (r + 1) s t) : ∀ j s t, P s → P t → EqS a b r s t → EqS a b (r + j) s t
  | 0, _, _, _, _, e => e
  | j + 1, s, t, hs, ht, e => by
    have h1 := h s t hs ht e
    intro w hw hl
    cases w with
    | nil => exact e [] hw (Nat.zero_le _)
    | cons c w =>
      obtain ⟨hc, hw2⟩ := wd_cons.1 hw
      have h2 : EqS a b r (nxS a b s c) (nxS a b t c) := fun v hv hl2 => by
        rw [valS_nx hka hkb s hc, valS_nx hka hkb t hc]
        exact h1 (c :: v) (wd_cons.2 ⟨hc, hv⟩) (by rw [List.length_cons]; omega)
      have h3 := EqS.stay hP hka hkb h j _ _ (hP _ _ hs hc) (hP _ _ ht hc) h2
      rw [← valS_nx hka hkb s hc, ← valS_nx hka hkb t hc]
      rw [List.length_cons] at hl
      exact h3 w hw2 (by omega)
def allS (a b : Lw) : List (Bool × Int) := (stsL a).map (fun s => (false, s)) ++ (stsL b).map (fun s => (true, s))
theorem mem_allS {s : Bool × Int} (h : inS a b s) : s ∈ allS a b := by
  obtain ⟨s1, s2⟩ := s
  cases s1
  · exact List.mem_append_left _ (List.mem_map.2 ⟨s2, mem_sts.2 h, rfl⟩)
  · exact List.mem_append_right _ (List.mem_map.2 ⟨s2, mem_sts.2 h, rfl⟩)
theorem run_st {l : Lw} (ho : l.Ok) (hk : l.k = 2) : ∀ {w : List Nat} {s : Int}, l.st s → Wd 2 w → l.st ((sysL l).run s w)
  | [], _, h, _ => h
  | c :: w, s, h, hw => run_st (w := w) ho hk (ho.cl h (c := c) (by have := (wd_cons.1 hw).1; omega)) (wd_cons.1 hw).2
theorem P_run {P : Bool × Int → Prop} (hP : ∀ s c, P s → c < 2 → P (nxS a b s c)) : ∀ (w : List Nat) (s : Bool × Int), P s → Wd 2 w → P (w.foldl (nxS a b) s)
  | [], _, h, _ => h
  | c :: w, s, h, hw => P_run hP w _ (hP s c h (wd_cons.1 hw).1) (wd_cons.1 hw).2
theorem valS_run (hka : a.k = 2) (hkb : b.k = 2) : ∀ (w : List Nat) (s : Bool × Int) (v : List Nat), Wd 2 w → valS a b (w.foldl (nxS a b) s) v = valS a b s (w ++ v)
  | [], _, _, _ => rfl
  | c :: w, s, v, hw => by
    rw [List.foldl_cons, valS_run hka hkb w _ v (wd_cons.1 hw).2, valS_nx hka hkb s (wd_cons.1 hw).1]
    rfl
theorem state_bound {P : Bool × Int → Prop} (hP : ∀ s c, P s → c < 2 → P (nxS a b s c)) (hka : a.k = 2) (hkb : b.k = 2) {U : List (Bool × Int)} (hU : ∀ s, P s → s ∈ U) {p q : Bool × Int} (h0 : P p) (h1 : P q) {u : List Nat} (hu : Wd 2 u) (hg : valS a b p u ≠ valS a b q u) (hmin : ∀ v, Wd 2 v → v.length < u.length → valS a b p v = valS a b q v) : u.length + 2 ≤ U.length := by
  have key : ∀ r, r ≤ u.length → ∃ R : List (Bool × Int), R.length = r + 2 ∧ (∀ s ∈ R, P s) ∧ R.Pairwise fun s t => ¬ EqS a b r s t := fun r => by
    induction r with
    | zero =>
      intro _
      refine ⟨[u.foldl (nxS a b) p, u.foldl (nxS a b) q], rfl, fun s hs => ?_, ?_⟩
      · simp only [List.mem_cons, List.not_mem_nil, or_false] at hs
        rcases hs with rfl | rfl
        · exact P_run hP u _ h0 hu
        · exact P_run hP u _ h1 hu
      · refine List.Pairwise.cons (fun t ht => ?_) (List.pairwise_singleton _ _)
        rw [List.mem_singleton.1 ht]
        intro e
        have e2 := e [] (fun _ h => by cases h) (Nat.le_refl _)
        rw [valS_run hka hkb u p [] hu, valS_run hka hkb u q [] hu, List.append_nil] at e2
        exact hg e2
    | succ r ih =>
      intro hr
      obtain ⟨R, hl, hin, hp⟩ := ih (by omega)
      have hst : ∃ s t, P s ∧ P t ∧ EqS a b r s t ∧ ¬ EqS a b (r + 1) s t := by
        apply Classical.byContradiction
        intro hn
        have h2 : ∀ s t, P s → P t → EqS a b r s t → EqS a b (r + 1) s t := fun s t hs ht e => by
          apply Classical.byContradiction
          intro h3
          exact hn ⟨s, t, hs, ht, e, h3⟩
        have h3 := EqS.stay hP hka hkb h2 (u.length - r) p q h0 h1 fun w hw hl2 => hmin w hw (by omega)
        exact hg (h3 u hu (by omega))
      obtain ⟨s, t, hs, ht, e, hne⟩ := hst
      by_cases hq : ∃ q ∈ R, EqS a b r q s
      · obtain ⟨q, hqR, hqs⟩ := hq
        refine ⟨s :: t :: R.erase q, ?_, ?_, ?_⟩
        · rw [List.length_cons, List.length_cons, List.length_erase_of_mem hqR, hl]
          omega
        · intro x hx
          rcases List.mem_cons.1 hx with rfl | hx
          · exact hs
          rcases List.mem_cons.1 hx with rfl | hx
          · exact ht
          exact hin x (List.mem_of_mem_erase hx)
        · have hsub := (List.erase_sublist (a := q) (l := R))
          have hpe : (R.erase q).Pairwise fun s t => ¬ EqS a b (r + 1) s t := (hp.sublist hsub).imp fun h e => h (e.less (Nat.le_succ r))
          have hxq : ∀ x ∈ R.erase q, ¬ EqS a b r q x := fun x hx e2 => by
            have hp2 := (List.perm_cons_erase hqR).pairwise_iff (R := fun s t => ¬ EqS a b r s t) (fun h e => h e.symm)
            have := (hp2.1 hp)
            rw [List.pairwise_cons] at this
            exact this.1 x hx e2
          rw [List.pairwise_cons, List.pairwise_cons]
          refine ⟨fun x hx => ?_, fun x hx => ?_, hpe⟩
          · rcases List.mem_cons.1 hx with rfl | hx
            · exact hne
            · exact fun e2 => hxq x hx (hqs.trans (e2.less (Nat.le_succ r)))
          · exact fun e2 => hxq x hx ((hqs.trans e).trans (e2.less (Nat.le_succ r)))
      · refine ⟨s :: R, by rw [List.length_cons, hl], fun x hx => ?_, ?_⟩
        · rcases List.mem_cons.1 hx with rfl | hx
          · exact hs
          · exact hin x hx
        · rw [List.pairwise_cons]
          refine ⟨fun x hx e2 => hq ⟨x, hx, (e2.less (Nat.le_succ r)).symm⟩, hp.imp fun h e => h (e.less (Nat.le_succ r))⟩
  obtain ⟨R, hl, hin, hp⟩ := key u.length (Nat.le_refl _)
  have hnd : R.Nodup := hp.imp fun {s t} h e => h (by rw [e]; exact fun _ _ _ => rfl)
  have := hnd.length_le_of_subset (l₂ := U) fun s hs => hU s (hin s hs)
  rw [hl] at this
  exact this
theorem differ_bound (ha : a.Ok) (hb : b.Ok) (hka : a.k = 2) (hkb : b.k = 2) {u : List Nat} (hu : Wd 2 u) (hg : Wl a u ≠ Wl b u) (hmin : ∀ v, Wd 2 v → v.length < u.length → Wl a v = Wl b v) : u.length + 2 ≤ a.nx.length + b.nx.length := by
  have := state_bound (P := inS a b) (fun s c h hc => inS_nx ha hb hka hkb h hc) hka hkb (fun s h => mem_allS h) (p := (false, 0)) (q := (true, 0)) ha.st0 hb.st0 hu hg hmin
  simpa [allS, sts_len] using this
/-- Two states of one law are told apart by a list shorter than it has states by two. -/
theorem apart_bound (ha : a.Ok) (hka : a.k = 2) {s t : Int} (hs : a.st s) (ht : a.st t) {u : List Nat} (hu : Wd 2 u) (hg : Fut (sysL a) s u ≠ Fut (sysL a) t u) (hmin : ∀ v, Wd 2 v → v.length < u.length → Fut (sysL a) s v = Fut (sysL a) t v) : u.length + 2 ≤ a.nx.length := by
  have := state_bound (a := a) (b := a) (P := fun s => s.1 = false ∧ a.st s.2) (fun s c h hc => by
    obtain ⟨s1, s2⟩ := s
    obtain ⟨e, h2⟩ := h
    simp only at e
    subst e
    exact ⟨rfl, ha.cl h2 (by omega)⟩) hka hka (U := (stsL a).map fun s => (false, s)) (fun s h => List.mem_map.2 ⟨s.2, mem_sts.2 h.2, by rw [← h.1]⟩) (p := (false, s)) (q := (false, t)) ⟨rfl, hs⟩ ⟨rfl, ht⟩ hu hg hmin
  simpa [sts_len] using this
end
end Ytnjgglnpmhjmiaa
end Go.Proofs
