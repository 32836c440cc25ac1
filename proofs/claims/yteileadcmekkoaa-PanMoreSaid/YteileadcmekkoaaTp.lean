/- Pans: plain. A work as a set of waits; a work turned around, and with other numbers of steps. -/
import Derived.Test.YteileadcmekkoaaQ17
open Go Go.RowKit Go.YteileadcmekkoaaIt
namespace Go.Proofs
namespace Yteileadcmekkoaa
open PanPlain
theorem keeps_mem {ws : List Wa} {num den : Int} {y : Nat → Int} : Keeps ws num den y ↔ ∀ x ∈ ws, y x.f.toNat + (x.hi * den - x.b * num) ≤ y x.t.toNat := by
  constructor
  · intro h x hx
    obtain ⟨i, hi, rfl⟩ := List.mem_iff_getElem.1 hx
    have := h.get hi; rw [at_lt hi] at this; exact this
  · intro h; exact Keeps.of fun i hi => by rw [at_lt hi]; exact h _ (List.getElem_mem hi)
theorem ns_mem {ws : List Wa} : NS ws ↔ ∃ rk : Nat → Nat, ∀ x ∈ ws, x.b = 0 → rk x.f.toNat < rk x.t.toNat := by
  constructor
  · rintro ⟨rk, h⟩
    refine ⟨rk, fun x hx => ?_⟩
    obtain ⟨i, hi, rfl⟩ := List.mem_iff_getElem.1 hx
    have := h i hi; rw [at_lt hi] at this; exact this
  · rintro ⟨rk, h⟩
    exact ⟨rk, fun i hi => by rw [at_lt hi]; exact h _ (List.getElem_mem hi)⟩
def okV (n : Nat) (x : Wa) : Prop := (0 ≤ x.f ∧ x.f < n) ∧ (0 ≤ x.t ∧ x.t < n) ∧ (0 ≤ x.lo ∧ x.lo ≤ x.hi) ∧ x.hi ≤ 10000 ∧ (0 ≤ x.b ∧ x.b ≤ 4)
theorem val_mem {n : Nat} {ws : List Wa} : Val n ws ↔ (1 ≤ n ∧ n ≤ 10) ∧ ws.length ≤ 40 ∧ ∀ x ∈ ws, okV n x := by
  constructor
  · intro h
    refine ⟨h.n1, h.len, fun x hx => ?_⟩
    obtain ⟨i, hi, rfl⟩ := List.mem_iff_getElem.1 hx
    have := h.ok i hi; rw [at_lt hi] at this; exact this
  · rintro ⟨h1, h2, h3⟩
    exact ⟨h1, h2, fun i hi => by rw [at_lt hi]; exact h3 _ (List.getElem_mem hi)⟩
theorem paceP {m : Nat} {ws : List Wa} (hv : Val m ws) (hs : NS ws) : ∃ l, Slow m ws (pnum m ws) (pden m ws) (ptab m ws) l := by
  obtain ⟨m', l, e, _, _, h⟩ := pace_ok (n := m) (ws := ws) (by rw [chk_of hv, if_pos hs])
  have : m' = m := by omega
  subst this
  exact ⟨l, h⟩
theorem pace_le {m : Nat} {ws : List Wa} (hv : Val m ws) (hs : NS ws) {a b : Nat} {Y : Nat → Int} (hk : Keeps ws a b Y) : pnum m ws * b ≤ a * pden m ws := by
  obtain ⟨l, h⟩ := paceP hv hs
  exact h.le hk
theorem pace_same {m m' : Nat} {ws ws' : List Wa} (hv : Val m ws) (hs : NS ws) (hv' : Val m' ws') (hs' : NS ws') (h1 : ∃ Y, Keeps ws (pnum m' ws' : Nat) (pden m' ws' : Nat) Y) (h2 : ∃ Y, Keeps ws' (pnum m ws : Nat) (pden m ws : Nat) Y) :
    pnum m ws = pnum m' ws' ∧ pden m ws = pden m' ws' := by
  obtain ⟨l, h⟩ := paceP hv hs
  obtain ⟨l', h'⟩ := paceP hv' hs'
  obtain ⟨Y, hY⟩ := h1
  obtain ⟨Z, hZ⟩ := h2
  exact low_eq (Nat.le_antisymm (h.le hY) (h'.le hZ)) h.cop h'.cop h.b.2.1
def turnB (x : Wa) : Wa := ⟨x.t, x.f, x.lo, x.hi, x.b⟩
def turnO (p : Nat → Nat) (x : Wa) : Wa := ⟨p x.f.toNat, p x.t.toNat, x.lo, x.hi, x.b⟩
theorem turnB2 (ws : List Wa) : (ws.map turnB).map turnB = ws := by
  rw [List.map_map]
  conv => rhs; rw [← List.map_id ws]
  rfl
theorem Val.turnB {n : Nat} {ws : List Wa} (h : Val n ws) : Val n (ws.map turnB) := by
  rw [val_mem] at h ⊢
  refine ⟨h.1, by rw [List.length_map]; exact h.2.1, fun x hx => ?_⟩
  obtain ⟨y, hy, rfl⟩ := List.mem_map.1 hx
  obtain ⟨a, b, c⟩ := h.2.2 y hy
  exact ⟨b, a, c⟩
theorem bound_ex (rk : Nat → Nat) : ∀ n, ∃ M, ∀ v, v < n → rk v ≤ M
  | 0 => ⟨0, fun v hv => by omega⟩
  | n + 1 => by
    obtain ⟨M, h⟩ := bound_ex rk n
    refine ⟨M + rk n, fun v hv => ?_⟩
    by_cases e : v = n
    · subst e; omega
    · have := h v (by omega); omega
theorem ns_turnB' {n : Nat} {ws : List Wa} (h : Val n ws) (hs : NS ws) : NS (ws.map Yteileadcmekkoaa.turnB) := by
  rw [ns_mem] at hs ⊢
  obtain ⟨rk, hr⟩ := hs
  obtain ⟨M, hM⟩ := bound_ex rk n
  refine ⟨fun v => M - rk v, fun x hx hb => ?_⟩
  obtain ⟨y, hy, rfl⟩ := List.mem_map.1 hx
  obtain ⟨a, b, _⟩ := (val_mem.1 h).2.2 y hy
  have h1 := hr y hy hb
  have h2 := hM y.t.toNat (by omega)
  show M - rk y.t.toNat < M - rk y.f.toNat
  omega
theorem ns_turnB {n : Nat} {ws : List Wa} (h : Val n ws) : NS (ws.map Yteileadcmekkoaa.turnB) ↔ NS ws :=
  ⟨fun hs => by have := ns_turnB' h.turnB hs; rwa [turnB2] at this, ns_turnB' h⟩
theorem keeps_turnB {ws : List Wa} {a b : Int} {Y : Nat → Int} (h : Keeps ws a b Y) : Keeps (ws.map Yteileadcmekkoaa.turnB) a b (fun v => - Y v) := by
  rw [keeps_mem] at h ⊢
  intro x hx
  obtain ⟨y, hy, rfl⟩ := List.mem_map.1 hx
  have := h y hy
  show -Y y.t.toNat + (y.hi * b - y.b * a) ≤ - Y y.f.toNat
  omega
theorem chk_turnB {n : Nat} {ws : List Wa} (h : Val n ws) : chkE n (ws.map Yteileadcmekkoaa.turnB) = chkE n ws := by
  rw [chk_of h, chk_of h.turnB]
  by_cases hs : NS ws
  · rw [if_pos hs, if_pos ((ns_turnB h).2 hs)]
  · rw [if_neg hs, if_neg (fun e => hs ((ns_turnB h).1 e))]
theorem pace_turnB {n : Nat} {ws : List Wa} (h : Val n ws) : pnum n (ws.map Yteileadcmekkoaa.turnB) = pnum n ws ∧ pden n (ws.map Yteileadcmekkoaa.turnB) = pden n ws := by
  by_cases hs : NS ws
  · have hs' := (ns_turnB h).2 hs
    obtain ⟨l, h1⟩ := paceP h hs
    obtain ⟨l', h2⟩ := paceP h.turnB hs'
    refine pace_same h.turnB hs' h hs ⟨_, keeps_turnB h1.keep⟩ ⟨fun v => - ptab n (ws.map Yteileadcmekkoaa.turnB) v, ?_⟩
    have := keeps_turnB h2.keep
    rwa [turnB2] at this
  · obtain ⟨a, b⟩ := pace_err (n := n) (ws := ws) (by rw [chk_of h, if_neg hs]; omega)
    obtain ⟨c, d⟩ := pace_err (n := n) (ws := ws.map Yteileadcmekkoaa.turnB) (by rw [chk_turnB h, chk_of h, if_neg hs]; omega)
    exact ⟨c.trans a.symm, d.trans b.symm⟩
/-- Other numbers of the steps below n. -/
structure Ren (n : Nat) (p : Nat → Nat) : Prop where
  lt : ∀ s, s < n → p s < n
  inj : ∀ s t, s < n → t < n → p s = p t → s = t
open Classical in
noncomputable def invP (n : Nat) (p : Nat → Nat) (v : Nat) : Nat := if h : ∃ s, s < n ∧ p s = v then h.choose else 0
theorem invP_at {n : Nat} {p : Nat → Nat} (h : Ren n p) {s : Nat} (hs : s < n) : invP n p (p s) = s := by
  have he : ∃ t, t < n ∧ p t = p s := ⟨s, hs, rfl⟩
  unfold invP
  rw [dif_pos he]
  exact h.inj _ _ he.choose_spec.1 hs he.choose_spec.2
/-- Work v has the waits of work u with other numbers of steps. -/
def RenW (p : Nat → Nat) (us vs : List Wa) : Prop := us.length = vs.length ∧ ∀ x, x ∈ vs ↔ ∃ y ∈ us, x = turnO p y
theorem renW_rev (p : Nat → Nat) (us : List Wa) : RenW p us (us.map (turnO p)).reverse := ⟨by simp, fun x => by
  rw [List.mem_reverse, List.mem_map]
  exact ⟨fun ⟨y, h, e⟩ => ⟨y, h, e.symm⟩, fun ⟨y, h, e⟩ => ⟨y, h, e.symm⟩⟩⟩
theorem Val.ren {n : Nat} {p : Nat → Nat} {us vs : List Wa} (h : Val n us) (hp : Ren n p) (hr : RenW p us vs) : Val n vs := by
  rw [val_mem] at h ⊢
  refine ⟨h.1, by rw [← hr.1]; exact h.2.1, fun x hx => ?_⟩
  obtain ⟨y, hy, rfl⟩ := (hr.2 x).1 hx
  obtain ⟨a, b, c⟩ := h.2.2 y hy
  have h1 := hp.lt y.f.toNat (by omega)
  have h2 := hp.lt y.t.toNat (by omega)
  exact ⟨⟨by show (0 : Int) ≤ (p y.f.toNat : Nat); omega, by show ((p y.f.toNat : Nat) : Int) < n; omega⟩, ⟨by show (0 : Int) ≤ (p y.t.toNat : Nat); omega, by show ((p y.t.toNat : Nat) : Int) < n; omega⟩, c⟩
theorem keeps_ren {n : Nat} {p : Nat → Nat} {us vs : List Wa} (h : Val n us) (hp : Ren n p) (hr : RenW p us vs) {a b : Int} {Y : Nat → Int} (hk : Keeps us a b Y) : Keeps vs a b (fun v => Y (invP n p v)) := by
  rw [keeps_mem] at hk ⊢
  intro x hx
  obtain ⟨y, hy, rfl⟩ := (hr.2 x).1 hx
  obtain ⟨c, d, _⟩ := (val_mem.1 h).2.2 y hy
  have := hk y hy
  show Y (invP n p ((p y.f.toNat : Nat) : Int).toNat) + (y.hi * b - y.b * a) ≤ Y (invP n p ((p y.t.toNat : Nat) : Int).toNat)
  rw [Int.toNat_natCast, Int.toNat_natCast, invP_at hp (by omega), invP_at hp (by omega)]
  exact this
theorem keeps_nre {p : Nat → Nat} {us vs : List Wa} (hr : RenW p us vs) {a b : Int} {Y : Nat → Int} (hk : Keeps vs a b Y) : Keeps us a b (fun v => Y (p v)) := by
  rw [keeps_mem] at hk ⊢
  intro y hy
  have := hk _ ((hr.2 _).2 ⟨y, hy, rfl⟩)
  exact this
theorem ns_ren {n : Nat} {p : Nat → Nat} {us vs : List Wa} (h : Val n us) (hp : Ren n p) (hr : RenW p us vs) : NS vs ↔ NS us := by
  rw [ns_mem, ns_mem]
  constructor
  · rintro ⟨rk, hk⟩
    exact ⟨fun v => rk (p v), fun y hy hb => hk _ ((hr.2 _).2 ⟨y, hy, rfl⟩) hb⟩
  · rintro ⟨rk, hk⟩
    refine ⟨fun v => rk (invP n p v), fun x hx hb => ?_⟩
    obtain ⟨y, hy, rfl⟩ := (hr.2 x).1 hx
    obtain ⟨c, d, _⟩ := (val_mem.1 h).2.2 y hy
    show rk (invP n p ((p y.f.toNat : Nat) : Int).toNat) < rk (invP n p ((p y.t.toNat : Nat) : Int).toNat)
    rw [Int.toNat_natCast, Int.toNat_natCast, invP_at hp (by omega), invP_at hp (by omega)]
    exact hk y hy hb
theorem chk_ren {n : Nat} {p : Nat → Nat} {us vs : List Wa} (h : Val n us) (hp : Ren n p) (hr : RenW p us vs) : chkE n vs = chkE n us := by
  rw [chk_of h, chk_of (h.ren hp hr)]
  by_cases hs : NS us
  · rw [if_pos hs, if_pos ((ns_ren h hp hr).2 hs)]
  · rw [if_neg hs, if_neg (fun e => hs ((ns_ren h hp hr).1 e))]
theorem pace_ren {n : Nat} {p : Nat → Nat} {us vs : List Wa} (h : Val n us) (hp : Ren n p) (hr : RenW p us vs) :
    pnum n vs = pnum n us ∧ pden n vs = pden n us ∧ (chkE n us = 0 → ∀ s, s < n → ptab n vs (p s) = ptab n us s) := by
  by_cases hs : NS us
  · have hs' := (ns_ren h hp hr).2 hs
    have h' := h.ren hp hr
    obtain ⟨l, h1⟩ := paceP h hs
    obtain ⟨l', h2⟩ := paceP h' hs'
    obtain ⟨e1, e2⟩ := pace_same h' hs' h hs ⟨_, keeps_ren h hp hr h1.keep⟩ ⟨_, keeps_nre hr h2.keep⟩
    refine ⟨e1, e2, fun _ s hn => Int.le_antisymm ?_ ?_⟩
    · have := h2.least (fun v => ptab n us (invP n p v)) (by rw [e1, e2]; exact keeps_ren h hp hr h1.keep) (fun v => h1.nn _) (p s)
      rwa [invP_at hp hn] at this
    · exact h1.least (fun v => ptab n vs (p v)) (by rw [← e1, ← e2]; exact keeps_nre hr h2.keep) (fun v => h2.nn _) s
  · have he : chkE n us ≠ 0 := by rw [chk_of h, if_neg hs]; omega
    obtain ⟨a, b⟩ := pace_err he
    obtain ⟨c, d⟩ := pace_err (n := n) (ws := vs) (by rw [chk_ren h hp hr]; exact he)
    exact ⟨c.trans a.symm, d.trans b.symm, fun e => absurd e he⟩
theorem ren_turn {n T : Nat} (hn : 1 ≤ n) : Ren n (fun s => (s + T) % n) := by
  refine ⟨fun s _ => Nat.mod_lt _ (by omega), fun s t hs ht h => ?_⟩
  have h' : (s + T) % n = (t + T) % n := h
  have key : ∀ a b : Nat, a ≤ b → b < n → (a + T) % n = (b + T) % n → a = b := fun a b hab hb e => by
    have h1 := Nat.sub_mod_eq_zero_of_mod_eq e.symm
    rw [show b + T - (a + T) = b - a by omega, Nat.mod_eq_of_lt (by omega)] at h1
    omega
  rcases Nat.le_total s t with h1 | h1
  · exact key s t h1 ht h'
  · exact (key t s h1 hs h'.symm).symm
end Yteileadcmekkoaa
end Go.Proofs
