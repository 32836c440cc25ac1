/- Pans: the pace is one; plain Lean. -/
import Derived.Test.YteileadcmekkoaaQ13
open Go Go.RowKit Go.YteileadcmekkoaaIt
namespace Go.Proofs
namespace Yteileadcmekkoaa
open PanPlain (Ed St rounds runTo upd it pf Back backC Path Cyc frm wgt)
/-- A timetable that keeps a period bounds each cycle. -/
theorem keep_cyc {ws : List Wa} {num den : Int} {X : Nat → Int} (hk : Keeps ws num den X) {a b : Int} {u : Nat} {l : List Nat} (h : Cyc (eds ws a b) u l) : hiS ws l * den ≤ bkS ws l * num := by
  have h1 := (path_any (c := num) (d := den) h.path).keeps hk
  rw [wgt_sum (path_lt h.path)] at h1
  omega
theorem gcd_low {p q : Nat} (hq : 1 ≤ q) : Nat.gcd (p / Nat.gcd p q) (q / Nat.gcd p q) = 1 := Nat.gcd_div_gcd_div_gcd_of_pos_right hq
theorem CycP.mul {n : Nat} {ws : List Wa} {num den : Nat} {l : List Nat} (h : CycP n ws num den l) : ∃ g : Nat, 1 ≤ g ∧ hiS ws l = (num * g : Nat) ∧ bkS ws l = (den * g : Nat) ∧ Nat.gcd num den = 1 ∧ 1 ≤ den := by
  obtain ⟨p, q, h1, h2, h3, h4, h5⟩ := h.per
  obtain ⟨l1, l2, l3, l4⟩ := low_mul (p := p) (q := q) h3
  refine ⟨Nat.gcd p q, l1, ?_, ?_, ?_, ?_⟩
  · rw [h1, h4, ← l2]
  · rw [h2, h5, ← l3]
  · rw [h4, h5]; exact gcd_low h3
  · rw [h5]; exact l4
theorem Slow.cop {n : Nat} {ws : List Wa} {num den : Nat} {X : Nat → Int} {l : List Nat} (h : Slow n ws num den X l) : Nat.gcd num den = 1 := by
  rcases h.cyc with ⟨_, rfl, rfl⟩ | ⟨h1, _⟩
  · rfl
  · obtain ⟨_, _, _, _, h2, _⟩ := h1.mul; exact h2
/-- No cycle of a period that is kept is slower. -/
theorem CycP.le {n : Nat} {ws : List Wa} {num den a b : Nat} {l : List Nat} {X : Nat → Int} (h : CycP n ws num den l) (hk : Keeps ws a b X) : num * b ≤ a * den := by
  obtain ⟨g, hg, h1, h2, _, _⟩ := h.mul
  obtain ⟨u, hc⟩ := h.cyc
  have h3 := keep_cyc hk hc
  rw [h1, h2] at h3
  have h4 : num * g * b ≤ den * g * a := by exact_mod_cast h3
  have e1 : num * g * b = num * b * g := by simp only [Nat.mul_comm, Nat.mul_left_comm]
  have e2 : den * g * a = a * den * g := by simp only [Nat.mul_comm, Nat.mul_left_comm]
  rw [e1, e2] at h4
  exact Nat.le_of_mul_le_mul_right h4 hg
theorem Slow.le {n : Nat} {ws : List Wa} {num den a b : Nat} {l : List Nat} {X Y : Nat → Int} (h : Slow n ws num den X l) (hk : Keeps ws a b Y) : num * b ≤ a * den := by
  rcases h.cyc with ⟨_, rfl, _⟩ | ⟨h1, _⟩
  · rw [Nat.zero_mul]; exact Nat.zero_le _
  · exact h1.le hk
theorem low_eq {a b c d : Nat} (h : a * d = c * b) (h1 : Nat.gcd a b = 1) (h2 : Nat.gcd c d = 1) (hb : 1 ≤ b) : a = c ∧ b = d := by
  have e1 : b ∣ d := by
    have : b ∣ a * d := ⟨c, by rw [h, Nat.mul_comm]⟩
    exact Nat.Coprime.dvd_of_dvd_mul_left (Nat.Coprime.symm h1) this
  have e2 : d ∣ b := by
    have : d ∣ c * b := ⟨a, by rw [← h, Nat.mul_comm]⟩
    exact Nat.Coprime.dvd_of_dvd_mul_left (Nat.Coprime.symm h2) this
  have e3 : b = d := Nat.dvd_antisymm e1 e2
  subst e3
  exact ⟨Nat.eq_of_mul_eq_mul_right hb h, rfl⟩
theorem Slow.uniq {n : Nat} {ws : List Wa} {a b c d : Nat} {X Y : Nat → Int} {l m : List Nat} (h : Slow n ws a b X l) (k : Slow n ws c d Y m) : a = c ∧ b = d ∧ ∀ v, X v = Y v := by
  obtain ⟨e1, e2⟩ := low_eq (Nat.le_antisymm (h.le k.keep) (k.le h.keep)) h.cop k.cop h.b.2.1
  subst e1 e2
  exact ⟨rfl, rfl, fun v => Int.le_antisymm (h.least Y k.keep k.nn v) (k.least X h.keep h.nn v)⟩
theorem Slow.exists_ {n : Nat} {ws : List Wa} (hv : Val n ws) (hs : NS ws) : ∃ num den X l, Slow n ws num den X l := by
  have h : ∀ (m num den : Nat) (l : List Nat), mu num den = m → num ≤ 100000 → (1 ≤ den ∧ den ≤ 40) → ((l = [] ∧ num = 0 ∧ den = 1) ∨ (CycP n ws num den l ∧ 1 ≤ num)) → ∃ num den X l, Slow n ws num den X l := by
    intro m
    induction m using Nat.strongRecOn with
    | _ m ih =>
    intro num den l hm hn hd hc
    cases hra : (rounds (eds ws num den) (n + 1)).ra with
    | none => exact ⟨num, den, _, l, slow_of hv hn hd (Nat.le_refl _) hra hc⟩
    | some v =>
      obtain ⟨-, k, hbk⟩ := PanPlain.back_of (hv.ed num den) hra
      have hcy := (PanPlain.back_cyc hbk).1
      have hb1 := sums_bnd hv.bnd _ (path_lt hcy.path)
      obtain ⟨p, hp⟩ := Int.eq_ofNat_of_zero_le hb1.1.1
      obtain ⟨q, hq⟩ := Int.eq_ofNat_of_zero_le hb1.2.1
      obtain ⟨h1, h2, h3, h4⟩ := found_more hv hs hbk hp hq
      have hP : 1 ≤ p / Nat.gcd p q := Nat.pos_of_ne_zero fun e => by rw [e] at h4; omega
      exact ih _ (by rw [← hm]; exact mu_lt hd h3 h2 h4) _ _ _ rfl h2 h3 (.inr ⟨h1, hP⟩)
  exact h _ 0 1 [] rfl (by omega) (by omega) (.inl ⟨rfl, rfl, rfl⟩)
open Classical in
/-- The pace, and its timetable: of a work that is not valid 0 / 0. -/
noncomputable def paceX (n : Int) (ws : List Wa) : (Nat × Nat) × (Nat → Int) :=
  if h : chkE n ws = 0 ∧ ∃ (x : (Nat × Nat) × (Nat → Int)) (l : List Nat), Slow n.toNat ws x.1.1 x.1.2 x.2 l then h.2.choose else ((0, 0), fun _ => 0)
noncomputable def pnum (n : Int) (ws : List Wa) : Nat := (paceX n ws).1.1
noncomputable def pden (n : Int) (ws : List Wa) : Nat := (paceX n ws).1.2
noncomputable def ptab (n : Int) (ws : List Wa) : Nat → Int := (paceX n ws).2
theorem pace_err {n : Int} {ws : List Wa} (h : chkE n ws ≠ 0) : pnum n ws = 0 ∧ pden n ws = 0 := by
  unfold pnum pden paceX; rw [dif_neg (fun h2 => h h2.1)]; exact ⟨rfl, rfl⟩
theorem pace_ok {n : Int} {ws : List Wa} (h : chkE n ws = 0) : ∃ (m : Nat) (l : List Nat), n = m ∧ Val m ws ∧ NS ws ∧ Slow m ws (pnum n ws) (pden n ws) (ptab n ws) l := by
  obtain ⟨m, rfl, hv, hs⟩ := chk_ok h
  have he : chkE (m : Int) ws = 0 ∧ ∃ (x : (Nat × Nat) × (Nat → Int)) (l : List Nat), Slow (m : Int).toNat ws x.1.1 x.1.2 x.2 l := by
    obtain ⟨a, b, X, l, hl⟩ := Slow.exists_ hv hs
    exact ⟨h, ((a, b), X), l, by rw [Int.toNat_natCast]; exact hl⟩
  obtain ⟨l, hl⟩ := he.2.choose_spec
  refine ⟨m, l, rfl, hv, hs, ?_⟩
  have e : paceX (m : Int) ws = he.2.choose := by unfold paceX; rw [dif_pos he]
  unfold pnum pden ptab
  rw [e]
  exact hl
theorem pace_eq {m : Nat} {ws : List Wa} (hv : Val m ws) (hs : NS ws) {a b : Nat} {X : Nat → Int} {l : List Nat} (h : Slow m ws a b X l) : a = pnum m ws ∧ b = pden m ws ∧ ∀ v, X v = ptab m ws v := by
  have h0 : chkE (m : Int) ws = 0 := by rw [chk_of hv, if_pos hs]
  obtain ⟨m', l', e, _, _, h2⟩ := pace_ok h0
  have : m' = m := by omega
  subst this
  exact h.uniq h2
end Yteileadcmekkoaa
end Go.Proofs
