/- Pans: plain Lean on the waits of a work: cycles, their periods, the measure of the search for the slowest cycle. -/
import Derived.Test.YteileadcmekkoaaQ7
open Go Go.RowKit Go.YteileadcmekkoaaIt
namespace Go.Proofs
namespace Yteileadcmekkoaa
open PanPlain (Ed St rounds runTo upd it pf Back backC Path Cyc frm wgt)
/-- No cycle is without strikes: steps of a strike can be put in an order. -/
def NS (ws : List Wa) : Prop := ∃ rk : Nat → Nat, ∀ i, i < ws.length → (at_ ws i).b = 0 → rk (at_ ws i).f.toNat < rk (at_ ws i).t.toNat
theorem eds_ne {ws : List Wa} {a b c d : Int} {i : Nat} {e : Ed} (h : (eds ws a b)[i]? = some e) : ∃ w, (eds ws c d)[i]? = some ⟨e.f, e.t, w⟩ := by
  obtain ⟨h1, rfl⟩ := eds_some h
  exact ⟨_, eds_get h1⟩
theorem path_any {ws : List Wa} {a b c d : Int} {u v : Nat} {l : List Nat} (h : Path (eds ws a b) u v l) : Path (eds ws c d) u v l := by
  induction h with
  | nil u => exact .nil u
  | cons he _ ih =>
    rename_i e _ _
    obtain ⟨w, hw⟩ := eds_ne (c := c) (d := d) he
    exact @Path.cons _ _ _ ⟨e.f, e.t, w⟩ _ hw ih
theorem frm_any (ws : List Wa) (a b c d : Int) : frm (eds ws a b) = frm (eds ws c d) := by
  funext i
  unfold frm
  by_cases h : i < ws.length
  · rw [eds_get h, eds_get h]; rfl
  · rw [List.getElem?_eq_none (by rw [eds_len]; omega), List.getElem?_eq_none (by rw [eds_len]; omega)]
theorem cyc_any {ws : List Wa} {a b c d : Int} {u : Nat} {l : List Nat} (h : Cyc (eds ws a b) u l) : Cyc (eds ws c d) u l := ⟨h.ne, path_any h.path, by rw [frm_any ws c d a b]; exact h.nd⟩
theorem path_lt {ws : List Wa} {a b : Int} {u v : Nat} {l : List Nat} (h : Path (eds ws a b) u v l) : ∀ i ∈ l, i < ws.length := fun i hi => by
  obtain ⟨e, he⟩ := h.mem i hi
  exact (eds_some he).1
theorem wgt_sum {ws : List Wa} {num den : Int} : ∀ {l : List Nat}, (∀ i ∈ l, i < ws.length) → (l.map (wgt (eds ws num den))).sum = hiS ws l * den - bkS ws l * num
  | [], _ => by simp [hiS, bkS]
  | i :: l, h => by
    have ih := wgt_sum (num := num) (den := den) (l := l) (fun j hj => h j (by simp [hj]))
    unfold hiS bkS at *
    simp only [List.map_cons, List.sum_cons, Int.add_mul]
    rw [ih, PanPlain.wgt_eq (eds_get (h i (by simp)))]
    simp only
    omega
theorem Val.bnd {n : Nat} {ws : List Wa} (h : Val n ws) : Bnd ws := fun i hi => by
  obtain ⟨_, _, ⟨h3, h3'⟩, h4, h5, h6⟩ := h.ok i hi
  exact ⟨⟨by omega, h4⟩, h5, h6⟩
theorem rank_path {n : Nat} {ws : List Wa} (hv : Val n ws) {rk : Nat → Nat} (hr : ∀ i, i < ws.length → (at_ ws i).b = 0 → rk (at_ ws i).f.toNat < rk (at_ ws i).t.toNat) {a b : Int} {u v : Nat} {l : List Nat} (h : Path (eds ws a b) u v l) (h0 : bkS ws l ≤ 0) : rk u + l.length ≤ rk v := by
  induction h with
  | nil u => simp
  | cons he hp ih =>
    rename_i i v e l
    obtain ⟨hi, rfl⟩ := eds_some he
    have hb := (hv.bnd i hi).2.1
    have h1 := (sums_bnd hv.bnd l (path_lt hp)).2.1
    have h2 : bkS ws (i :: l) = (at_ ws i).b + bkS ws l := by simp [bkS]
    have h3 := ih (by omega)
    have h4 := hr i hi (by omega)
    simp only [List.length_cons]
    simp only at h3
    omega
theorem cyc_bk {n : Nat} {ws : List Wa} (hv : Val n ws) (hs : NS ws) {a b : Int} {u : Nat} {l : List Nat} (h : Cyc (eds ws a b) u l) : 1 ≤ bkS ws l := by
  obtain ⟨rk, hr⟩ := hs
  refine Classical.byContradiction fun hn => ?_
  have h1 := rank_path hv hr h.path (by omega)
  have : l.length ≠ 0 := fun e => h.ne (List.length_eq_zero_iff.1 e)
  omega
/-- All numbers from 1 to 40 divide it. -/
def KK : Nat := 5342931457063200
theorem KK_dvd : ∀ d, 1 ≤ d → d ≤ 40 → d ∣ KK := by
  have h : ∀ d : Fin 41, 1 ≤ d.val → KK % d.val = 0 := by decide +kernel
  intro d h1 h2
  exact Nat.dvd_of_mod_eq_zero (h ⟨d, by omega⟩ h1)
def mu (num den : Nat) : Nat := 100001 * KK - num * (KK / den)
theorem mu_lt {a b c d : Nat} (hb : 1 ≤ b ∧ b ≤ 40) (hd : 1 ≤ d ∧ d ≤ 40) (hc : c ≤ 100000) (h : a * d < c * b) : mu c d < mu a b := by
  obtain ⟨x, hx⟩ := KK_dvd b hb.1 hb.2
  obtain ⟨y, hy⟩ := KK_dvd d hd.1 hd.2
  have e1 : KK / b = x := by rw [hx]; exact Nat.mul_div_cancel_left _ (by omega)
  have e2 : KK / d = y := by rw [hy]; exact Nat.mul_div_cancel_left _ (by omega)
  have hK : 0 < KK := by unfold KK; omega
  have hx0 : 0 < x := Nat.pos_of_ne_zero fun e => by rw [e] at hx; omega
  have hy0 : 0 < y := Nat.pos_of_ne_zero fun e => by rw [e] at hy; omega
  unfold mu
  rw [e1, e2]
  have h1 : a * x < c * y := by
    have h2 : a * d * (x * y) < c * b * (x * y) := Nat.mul_lt_mul_of_pos_right h (Nat.mul_pos hx0 hy0)
    have h3 : a * d * (x * y) = a * x * KK := by rw [hy]; simp only [Nat.mul_comm, Nat.mul_left_comm]
    have h4 : c * b * (x * y) = c * y * KK := by rw [hx]; simp only [Nat.mul_comm, Nat.mul_left_comm]
    rw [h3, h4] at h2
    exact Nat.lt_of_mul_lt_mul_right h2
  have h5 : c * y ≤ 100000 * KK := Nat.mul_le_mul hc (by rw [← e2]; exact Nat.div_le_self _ _)
  have h6 : 100000 * KK < 100001 * KK := Nat.mul_lt_mul_of_pos_right (by omega) hK
  omega
/-- A cycle whose period is num / den in lowest terms. -/
structure CycP (n : Nat) (ws : List Wa) (num den : Nat) (l : List Nat) : Prop where
  cyc : ∃ u, Cyc (eds ws 0 1) u l
  len : l.length ≤ n
  per : ∃ p q : Nat, hiS ws l = p ∧ bkS ws l = q ∧ 1 ≤ q ∧ num = p / Nat.gcd p q ∧ den = q / Nat.gcd p q
theorem low_mul {p q : Nat} (hq : 1 ≤ q) : 1 ≤ Nat.gcd p q ∧ p = p / Nat.gcd p q * Nat.gcd p q ∧ q = q / Nat.gcd p q * Nat.gcd p q ∧ 1 ≤ q / Nat.gcd p q := by
  have hg : 1 ≤ Nat.gcd p q := Nat.gcd_pos_of_pos_right _ hq
  refine ⟨hg, (Nat.div_mul_cancel (Nat.gcd_dvd_left _ _)).symm, (Nat.div_mul_cancel (Nat.gcd_dvd_right _ _)).symm, (Nat.le_div_iff_mul_le hg).2 (by rw [Nat.one_mul]; exact Nat.gcd_le_right _ hq)⟩
/-- The period of the cycle that is found is greater. -/
theorem found_more {n : Nat} {ws : List Wa} (hv : Val n ws) (hs : NS ws) {num den : Nat} {S : St} {v k : Nat} (h : Back (eds ws num den) S n v k) {p q : Nat} (hp : hiS ws (backC (eds ws num den) S v k).reverse = p) (hq : bkS ws (backC (eds ws num den) S v k).reverse = q) :
    CycP n ws (p / Nat.gcd p q) (q / Nat.gcd p q) (backC (eds ws num den) S v k).reverse ∧ p / Nat.gcd p q ≤ 100000 ∧ (1 ≤ q / Nat.gcd p q ∧ q / Nat.gcd p q ≤ 40) ∧ num * (q / Nat.gcd p q) < p / Nat.gcd p q * den := by
  obtain ⟨h1, h2, h3⟩ := PanPlain.back_cyc h
  have hlt := path_lt h1.path
  have hb := sums_bnd hv.bnd _ hlt
  have hq1 := cyc_bk hv hs h1
  rw [wgt_sum hlt, hp, hq] at h2
  rw [hp, hq] at hb
  rw [hq] at hq1
  have hn := hv.n1
  obtain ⟨l1, l2, l3, l4⟩ := low_mul (p := p) (q := q) (by omega)
  refine ⟨⟨⟨v, cyc_any h1⟩, h3, p, q, hp, hq, by omega, rfl, rfl⟩, ?_, ⟨l4, ?_⟩, ?_⟩
  · have := Nat.div_le_self p (Nat.gcd p q); omega
  · have := Nat.div_le_self q (Nat.gcd p q); omega
  · have h4 : num * q < p * den := by
      have e1 : ((num * q : Nat) : Int) = q * num := by push_cast; rw [Int.mul_comm]
      have e2 : ((p * den : Nat) : Int) = p * den := by push_cast; rfl
      omega
    generalize hP : p / Nat.gcd p q = P at *
    generalize hQ : q / Nat.gcd p q = Q at *
    have e2 : ∀ g, num * (Q * g) = num * Q * g := fun g => by rw [Nat.mul_assoc]
    have e3 : ∀ g, P * g * den = P * den * g := fun g => by rw [Nat.mul_assoc, Nat.mul_comm g, Nat.mul_assoc]
    have h5 : num * Q * Nat.gcd p q < P * den * Nat.gcd p q := by rw [← e2, ← e3, ← l2, ← l3]; exact h4
    exact Nat.lt_of_mul_lt_mul_right h5
end Yteileadcmekkoaa
end Go.Proofs
