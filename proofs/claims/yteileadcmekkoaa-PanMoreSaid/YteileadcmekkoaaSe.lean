/- Pans: plain. The reference's search for the slowest cycle: all are tried. -/
import Derived.Test.YteileadcmekkoaaTp
open Go Go.RowKit Go.YteileadcmekkoaaIt
namespace Go.Proofs
namespace Yteileadcmekkoaa
open PanPlain (Ed Path Cyc frm)
structure Fnd where
  num : Nat
  den : Nat
  cyc : List Nat
/-- The step that waits begin from, and the one that they lead to. -/
def fstN (ws : List Wa) (beg : List Nat) : Nat := fN ws (beg.getD 0 0)
def lstN (ws : List Wa) (beg : List Nat) : Nat := tN ws (beg.getD (beg.length - 1) 0)
def hiN (ws : List Wa) (c : List Nat) : Nat := (hiS ws c).toNat
def bkN (ws : List Wa) (c : List Nat) : Nat := (bkS ws c).toNat
def closeF (ws : List Wa) (beg : List Nat) (F : Fnd) : Fnd :=
  if F.num * bkN ws beg < hiN ws beg * F.den then ⟨hiN ws beg / Nat.gcd (hiN ws beg) (bkN ws beg), bkN ws beg / Nat.gcd (hiN ws beg) (bkN ws beg), beg⟩ else F
def takeI (ws : List Wa) (beg : List Nat) (i : Nat) : Bool := decide (fN ws i = lstN ws beg) && decide (fstN ws beg ≤ tN ws i)
def stepF (rec : List Nat → Fnd → Fnd) (ws : List Wa) (beg : List Nat) (F : Fnd) (i : Nat) : Fnd := if takeI ws beg i = true then rec (beg ++ [i]) F else F
def loopF (rec : List Nat → Fnd → Fnd) (ws : List Wa) (beg : List Nat) (F : Fnd) (k : Nat) : Fnd := (List.range k).foldl (stepF rec ws beg) F
def metB (ws : List Wa) (beg : List Nat) : Bool := beg.any fun i => fN ws i == lstN ws beg
def sea (ws : List Wa) : Nat → List Nat → Fnd → Fnd
  | 0, _, F => F
  | d + 1, beg, F => if lstN ws beg = fstN ws beg then closeF ws beg F else if metB ws beg = true then F else loopF (sea ws d) ws beg F ws.length
def fst0 : Fnd := ⟨0, 1, []⟩
def stepT (n : Nat) (ws : List Wa) (F : Fnd) (i : Nat) : Fnd := if fN ws i ≤ tN ws i then sea ws n [i] F else F
def loopT (n : Nat) (ws : List Wa) (k : Nat) : Fnd := (List.range k).foldl (stepT n ws) fst0
theorem loopF_succ (rec : List Nat → Fnd → Fnd) (ws : List Wa) (beg : List Nat) (F : Fnd) (k : Nat) : loopF rec ws beg F (k + 1) = stepF rec ws beg (loopF rec ws beg F k) k := by
  unfold loopF; rw [List.range_succ, List.foldl_append]; rfl
theorem loopT_succ (n : Nat) (ws : List Wa) (k : Nat) : loopT n ws (k + 1) = stepT n ws (loopT n ws k) k := by
  unfold loopT; rw [List.range_succ, List.foldl_append]; rfl
/-- Waits that begin a cycle: a way of different steps. -/
structure Beg (m : Nat) (ws : List Wa) (beg : List Nat) : Prop where
  path : Path (eds ws 0 1) (fstN ws beg) (lstN ws beg) beg
  ne : beg ≠ []
  nd : (beg.map (fN ws)).Nodup
  lt : ∀ i ∈ beg, i < ws.length
theorem Val.fN {m : Nat} {ws : List Wa} (hv : Val m ws) {i : Nat} (hi : i < ws.length) : fN ws i < m := by
  obtain ⟨h1, _⟩ := hv.ok i hi
  unfold Yteileadcmekkoaa.fN; omega
theorem Beg.len {m : Nat} {ws : List Wa} {beg : List Nat} (hv : Val m ws) (h : Beg m ws beg) : beg.length ≤ m := by
  have := nodup_len h.nd (n := m) (fun x hx => by
    obtain ⟨i, hi, rfl⟩ := List.mem_map.1 hx
    exact hv.fN (h.lt i hi))
  simpa using this
theorem beg_one {m : Nat} {ws : List Wa} {i : Nat} (hi : i < ws.length) : Beg m ws [i] :=
  ⟨@Path.cons _ _ _ _ _ (eds_get hi) (.nil _), by simp, by simp, by simpa using hi⟩
theorem beg_ext {m : Nat} {ws : List Wa} {beg : List Nat} (h : Beg m ws beg) {i : Nat} (hi : i < ws.length) (hf : fN ws i = lstN ws beg) (hm : metB ws beg = false) : Beg m ws (beg ++ [i]) ∧ fstN ws (beg ++ [i]) = fstN ws beg ∧ lstN ws (beg ++ [i]) = tN ws i := by
  have hl : 0 < beg.length := List.length_pos_iff.2 h.ne
  have e1 : fstN ws (beg ++ [i]) = fstN ws beg := by
    unfold fstN
    rw [List.getD_eq_getElem?_getD, List.getElem?_append_left hl, ← List.getD_eq_getElem?_getD]
  have e2 : lstN ws (beg ++ [i]) = tN ws i := by
    unfold lstN
    rw [List.getD_eq_getElem?_getD, List.length_append, List.length_singleton, Nat.add_sub_cancel, List.getElem?_append_right (Nat.le_refl _), Nat.sub_self]
    rfl
  refine ⟨⟨?_, by simp, ?_, ?_⟩, e1, e2⟩
  · rw [e1, e2]
    refine h.path.app ?_
    rw [← hf]
    exact @Path.cons _ _ _ _ _ (eds_get hi) (.nil _)
  · rw [List.map_append, List.nodup_append]
    refine ⟨h.nd, by simp, ?_⟩
    intro a ha b hb
    simp only [List.map_cons, List.map_nil, List.mem_singleton] at hb
    obtain ⟨j, hj, rfl⟩ := List.mem_map.1 ha
    intro e
    have : metB ws beg = true := by
      unfold metB
      rw [List.any_eq_true]
      exact ⟨j, hj, by rw [beq_iff_eq, e, hb, hf]⟩
    rw [hm] at this; cases this
  · intro j hj
    rcases List.mem_append.1 hj with hj | hj
    · exact h.lt j hj
    · rw [List.mem_singleton.1 hj]; exact hi
/-- What is found so far: nothing, or a cycle with its period. -/
def FI (m : Nat) (ws : List Wa) (F : Fnd) : Prop := F = fst0 ∨ (CycP m ws F.num F.den F.cyc ∧ 1 ≤ F.num)
theorem FI.den {m : Nat} {ws : List Wa} {F : Fnd} (h : FI m ws F) : 1 ≤ F.den := by
  rcases h with rfl | ⟨h, _⟩
  · exact Nat.le_refl _
  · obtain ⟨_, _, _, _, _, h⟩ := h.mul; exact h
theorem beg_cyc {m : Nat} {ws : List Wa} {beg : List Nat} (h : Beg m ws beg) (hc : lstN ws beg = fstN ws beg) : Cyc (eds ws 0 1) (fstN ws beg) beg := by
  have := h.path
  rw [hc] at this
  exact ⟨h.ne, this, by rw [frm_map h.lt]; exact h.nd⟩
theorem sums_nat {m : Nat} {ws : List Wa} (hv : Val m ws) {c : List Nat} (hl : ∀ i ∈ c, i < ws.length) : hiS ws c = (hiN ws c : Nat) ∧ bkS ws c = (bkN ws c : Nat) := by
  have := sums_bnd hv.bnd c hl
  unfold hiN bkN; omega
theorem closeF_ok {m : Nat} {ws : List Wa} (hv : Val m ws) (hs : NS ws) {beg : List Nat} {F : Fnd} (h : Beg m ws beg) (hc : lstN ws beg = fstN ws beg) (hF : FI m ws F) :
    FI m ws (closeF ws beg F) ∧ F.num * (closeF ws beg F).den ≤ (closeF ws beg F).num * F.den ∧ hiN ws beg * (closeF ws beg F).den ≤ (closeF ws beg F).num * bkN ws beg := by
  have hcy := beg_cyc h hc
  obtain ⟨e1, e2⟩ := sums_nat hv h.lt
  have hq := cyc_bk hv hs hcy
  have hq1 : 1 ≤ bkN ws beg := by omega
  have hl := h.len hv
  unfold closeF
  generalize hP : hiN ws beg = p at *
  generalize hQ : bkN ws beg = q at *
  by_cases ht : F.num * q < p * F.den
  · rw [if_pos ht]
    obtain ⟨g1, g2, g3, g4⟩ := low_mul (p := p) (q := q) hq1
    have hC : CycP m ws (p / Nat.gcd p q) (q / Nat.gcd p q) beg := ⟨⟨_, hcy⟩, hl, p, q, e1, e2, hq1, rfl, rfl⟩
    simp only
    generalize p / Nat.gcd p q = P at *
    generalize q / Nat.gcd p q = Q at *
    generalize Nat.gcd p q = g at *
    subst g2 g3
    have k1 : F.num * (Q * g) = F.num * Q * g := (Nat.mul_assoc _ _ _).symm
    have k2 : P * g * F.den = P * F.den * g := by rw [Nat.mul_assoc, Nat.mul_comm g, Nat.mul_assoc]
    rw [k1, k2] at ht
    have ht2 := Nat.lt_of_mul_lt_mul_right ht
    refine ⟨.inr ⟨hC, Nat.pos_of_ne_zero fun e => ?_⟩, Nat.le_of_lt ht2, ?_⟩
    · simp only at e; rw [e] at ht2; omega
    · rw [Nat.mul_assoc, Nat.mul_comm g]; exact Nat.le_refl _
  · rw [if_neg ht]
    exact ⟨hF, Nat.le_refl _, by omega⟩
theorem frac_trans {a b c d e f : Nat} (hd : 1 ≤ d) (h1 : a * d ≤ c * b) (h2 : c * f ≤ e * d) : a * f ≤ e * b := by
  have h3 : a * d * f ≤ c * b * f := Nat.mul_le_mul_right _ h1
  have h4 : c * f * b ≤ e * d * b := Nat.mul_le_mul_right _ h2
  have e1 : c * b * f = c * f * b := by rw [Nat.mul_assoc, Nat.mul_comm b, Nat.mul_assoc]
  have e2 : a * d * f = a * f * d := by rw [Nat.mul_assoc, Nat.mul_comm d, Nat.mul_assoc]
  have e3 : e * d * b = e * b * d := by rw [Nat.mul_assoc, Nat.mul_comm d, Nat.mul_assoc]
  rw [e2, e1] at h3
  rw [e3] at h4
  exact Nat.le_of_mul_le_mul_right (Nat.le_trans h3 h4) hd
/-- A cycle that goes on from beg, none of its steps less than the first one. -/
structure Goes (ws : List Wa) (beg c : List Nat) : Prop where
  pre : ∃ r, c = beg ++ r
  cyc : ∃ u, Cyc (eds ws 0 1) u c
  ge : ∀ i ∈ c, fstN ws beg ≤ tN ws i
/-- What search keeps: F's period does not fall, and all cycles that begin so are no slower. -/
structure Sea (m : Nat) (ws : List Wa) (beg : List Nat) (F R : Fnd) : Prop where
  fi : FI m ws R
  le : F.num * R.den ≤ R.num * F.den
  up : ∀ c, Goes ws beg c → hiN ws c * R.den ≤ R.num * bkN ws c
theorem path_cons {ws : List Wa} {a b : Int} {u v i : Nat} {l : List Nat} (h : Path (eds ws a b) u v (i :: l)) : u = fN ws i ∧ i < ws.length ∧ Path (eds ws a b) (tN ws i) v l := by
  cases h with
  | cons he hp =>
    obtain ⟨hi, rfl⟩ := eds_some he
    exact ⟨rfl, hi, hp⟩
theorem path_end {ws : List Wa} {a b : Int} {u v z : Nat} {l : List Nat} (h : Path (eds ws a b) u v l) (k : Path (eds ws a b) u z l) : v = z := by
  induction h with
  | nil u => exact (path_nil k)
  | cons he hp ih =>
    obtain ⟨hi, rfl⟩ := eds_some he
    exact ih (path_cons k).2.2
theorem goes_split {m : Nat} {ws : List Wa} {beg c : List Nat} (h : Beg m ws beg) (g : Goes ws beg c) : (c = beg ∧ lstN ws beg = fstN ws beg) ∨ ∃ j r, c = (beg ++ [j]) ++ r ∧ j < ws.length ∧ fN ws j = lstN ws beg ∧ metB ws beg = false ∧ lstN ws beg ≠ fstN ws beg ∧ fstN ws beg ≤ tN ws j := by
  obtain ⟨r, rfl⟩ := g.pre
  obtain ⟨u, hc⟩ := g.cyc
  obtain ⟨z, h1, h2⟩ := hc.path.split
  have hu : u = fstN ws beg := by
    cases beg with
    | nil => exact absurd rfl h.ne
    | cons i l => exact (path_cons h1).1
  subst hu
  have hz : z = lstN ws beg := path_end h1 h.path
  subst hz
  cases r with
  | nil => exact .inl ⟨by simp, path_nil h2⟩
  | cons j r =>
    obtain ⟨e1, e2, e3⟩ := path_cons h2
    have hnd := hc.nd
    rw [frm_map (path_lt hc.path), List.map_append, List.nodup_append] at hnd
    have hne : ∀ i ∈ beg, fN ws i ≠ fN ws j := fun i hi => hnd.2.2 _ (List.mem_map_of_mem hi) _ (by simp)
    refine .inr ⟨j, r, by simp, e2, e1.symm, ?_, ?_, g.ge j (by simp)⟩
    · cases hm : metB ws beg with
      | false => rfl
      | true =>
        unfold metB at hm
        rw [List.any_eq_true] at hm
        obtain ⟨i, hi, he⟩ := hm
        rw [beq_iff_eq] at he
        exact absurd (he.trans e1) (hne i hi)
    · intro e
      cases beg with
      | nil => exact h.ne rfl
      | cons i l => exact hne i (by simp) (by rw [← e1, e]; rfl)
theorem sea_ok {m : Nat} {ws : List Wa} (hv : Val m ws) (hs : NS ws) : ∀ (d : Nat) (beg : List Nat) (F : Fnd), beg.length + d = m + 1 → Beg m ws beg → FI m ws F → Sea m ws beg F (sea ws d beg F)
  | 0, beg, F, hd, hb, hF => by have := hb.len hv; omega
  | d + 1, beg, F, hd, hb, hF => by
    unfold sea
    by_cases hc : lstN ws beg = fstN ws beg
    · rw [if_pos hc]
      obtain ⟨h1, h2, h3⟩ := closeF_ok hv hs hb hc hF
      refine ⟨h1, h2, fun c hg => ?_⟩
      rcases goes_split hb hg with ⟨rfl, _⟩ | ⟨_, _, _, _, _, _, h, _⟩
      · exact h3
      · exact absurd hc h
    · rw [if_neg hc]
      cases hm : metB ws beg with
      | true =>
        rw [if_pos rfl]
        refine ⟨hF, Nat.le_refl _, fun c hg => ?_⟩
        rcases goes_split hb hg with ⟨_, h⟩ | ⟨_, _, _, _, _, h, _⟩
        · exact absurd h hc
        · rw [hm] at h; cases h
      | false =>
        rw [if_neg (by simp)]
        have key : ∀ k, k ≤ ws.length → FI m ws (loopF (sea ws d) ws beg F k) ∧ F.num * (loopF (sea ws d) ws beg F k).den ≤ (loopF (sea ws d) ws beg F k).num * F.den ∧
            ∀ j, j < k → ∀ r, Goes ws beg ((beg ++ [j]) ++ r) → fN ws j = lstN ws beg → fstN ws beg ≤ tN ws j → hiN ws ((beg ++ [j]) ++ r) * (loopF (sea ws d) ws beg F k).den ≤ (loopF (sea ws d) ws beg F k).num * bkN ws ((beg ++ [j]) ++ r) := by
          intro k
          induction k with
          | zero => exact fun _ => ⟨hF, Nat.le_refl _, fun j hj => absurd hj (Nat.not_lt_zero _)⟩
          | succ k ih =>
            intro hk
            obtain ⟨i1, i2, i3⟩ := ih (by omega)
            rw [loopF_succ]
            generalize loopF (sea ws d) ws beg F k = G at *
            unfold stepF
            cases ht : takeI ws beg k with
            | true =>
              rw [if_pos rfl]
              unfold takeI at ht
              rw [Bool.and_eq_true, decide_eq_true_eq, decide_eq_true_eq] at ht
              obtain ⟨b1, b2, b3⟩ := beg_ext hb (show k < ws.length by omega) ht.1 hm
              have hS := sea_ok hv hs d (beg ++ [k]) G (by simp; omega) b1 i1
              have hGd := i1.den
              refine ⟨hS.fi, frac_trans hGd i2 hS.le, fun j hj r hg hf hge => ?_⟩
              rcases (show j < k ∨ j = k by omega) with hj | rfl
              · exact frac_trans hGd (i3 j hj r hg hf hge) hS.le
              · exact hS.up _ ⟨⟨r, rfl⟩, hg.cyc, fun i hi => by rw [b2]; exact hg.ge i hi⟩
            | false =>
              rw [if_neg (by simp)]
              refine ⟨i1, i2, fun j hj r hg hf hge => ?_⟩
              rcases (show j < k ∨ j = k by omega) with hj | rfl
              · exact i3 j hj r hg hf hge
              · have : takeI ws beg j = true := by unfold takeI; simp [hf, hge]
                rw [ht] at this; cases this
        obtain ⟨k1, k2, k3⟩ := key ws.length (Nat.le_refl _)
        refine ⟨k1, k2, fun c hg => ?_⟩
        rcases goes_split hb hg with ⟨_, h⟩ | ⟨j, r, rfl, hj, hf, _, _, hge⟩
        · exact absurd h hc
        · exact k3 j hj r hg hf hge
theorem loopT_ok {m : Nat} {ws : List Wa} (hv : Val m ws) (hs : NS ws) : ∀ k, k ≤ ws.length → FI m ws (loopT m ws k) ∧
    ∀ j, j < k → ∀ c, Goes ws [j] c → hiN ws c * (loopT m ws k).den ≤ (loopT m ws k).num * bkN ws c := by
  intro k
  induction k with
  | zero => exact fun _ => ⟨.inl rfl, fun j hj => absurd hj (Nat.not_lt_zero _)⟩
  | succ k ih =>
    intro hk
    obtain ⟨i1, i3⟩ := ih (by omega)
    rw [loopT_succ]
    generalize loopT m ws k = G at *
    unfold stepT
    by_cases ht : fN ws k ≤ tN ws k
    · rw [if_pos ht]
      have hS := sea_ok hv hs m [k] G (by simp; omega) (beg_one (show k < ws.length by omega)) i1
      refine ⟨hS.fi, fun j hj c hg => ?_⟩
      rcases (show j < k ∨ j = k by omega) with hj | rfl
      · exact frac_trans i1.den (i3 j hj c hg) hS.le
      · exact hS.up c hg
    · rw [if_neg ht]
      refine ⟨i1, fun j hj c hg => ?_⟩
      rcases (show j < k ∨ j = k by omega) with hj | rfl
      · exact i3 j hj c hg
      · obtain ⟨r, rfl⟩ := hg.pre
        exact absurd (hg.ge j (by simp)) ht
theorem min_mem {f : Nat → Nat} : ∀ {l : List Nat}, l ≠ [] → ∃ i ∈ l, ∀ j ∈ l, f i ≤ f j
  | [], h => absurd rfl h
  | [a], _ => ⟨a, by simp, by simp⟩
  | a :: b :: l, _ => by
    obtain ⟨i, hi, h⟩ := min_mem (f := f) (l := b :: l) (by simp)
    by_cases hc : f a ≤ f i
    · exact ⟨a, by simp, fun j hj => by
        rcases List.mem_cons.1 hj with rfl | hj
        · exact Nat.le_refl _
        · exact Nat.le_trans hc (h j hj)⟩
    · exact ⟨i, List.mem_cons_of_mem _ hi, fun j hj => by
        rcases List.mem_cons.1 hj with rfl | hj
        · omega
        · exact h j hj⟩
theorem to_from {ws : List Wa} {l : List Nat} (h : ShC ws l) {i : Nat} (hi : i ∈ l) : ∃ j ∈ l, tN ws i = fN ws j := by
  obtain ⟨k, hk, rfl⟩ := List.getElem_of_mem hi
  have h1 := h.link k hk
  rw [show l.getD k 0 = l[k] by simp [hk]] at h1
  have h2 : (k + 1) % l.length < l.length := Nat.mod_lt _ (by omega)
  rw [show l.getD ((k + 1) % l.length) 0 = l[(k + 1) % l.length] by simp [h2]] at h1
  exact ⟨_, List.getElem_mem h2, h1⟩
theorem sums_turn {ws : List Wa} (l m : List Nat) : hiN ws (l ++ m) = hiN ws (m ++ l) ∧ bkN ws (l ++ m) = bkN ws (m ++ l) := by
  unfold hiN bkN hiS bkS
  simp only [List.map_append, List.sum_append]
  constructor <;> congr 1 <;> omega
/-- Whatever cycle there is, search finds none that is less slow. -/
theorem loopT_up {m : Nat} {ws : List Wa} (hv : Val m ws) (hs : NS ws) {u : Nat} {c : List Nat} (h : Cyc (eds ws 0 1) u c) : hiN ws c * (loopT m ws ws.length).den ≤ (loopT m ws ws.length).num * bkN ws c := by
  obtain ⟨i, hi, hmin⟩ := min_mem (f := fN ws) h.ne
  obtain ⟨l, r, rfl⟩ := List.append_of_mem hi
  obtain ⟨z, hz, _⟩ := h.turn
  obtain ⟨e1, e2⟩ := sums_turn (ws := ws) l (i :: r)
  rw [e1, e2]
  have hlt := path_lt hz.path
  have hii : i < ws.length := hlt i (by simp)
  refine (loopT_ok hv hs ws.length (Nat.le_refl _)).2 i hii _ ⟨⟨r ++ l, by simp⟩, ⟨z, hz⟩, fun j hj => ?_⟩
  obtain ⟨x, hx, he⟩ := to_from (ShC.of hz) hj
  rw [he]
  exact hmin x (by simp only [List.mem_append, List.mem_cons] at hx ⊢; rcases hx with (rfl | h) | h <;> simp [*])
/-- The reference's slowest cycle has the pace. -/
theorem slowest_pace {m : Nat} {ws : List Wa} (hv : Val m ws) (hs : NS ws) : (loopT m ws ws.length).num = pnum m ws ∧ (loopT m ws ws.length).den = pden m ws ∧ ((loopT m ws ws.length).cyc = [] ↔ pnum m ws = 0) := by
  obtain ⟨l, hS⟩ := paceP hv hs
  have h1 := (loopT_ok hv hs ws.length (Nat.le_refl _)).1
  have h2 : ∀ c, CycP m ws (pnum m ws) (pden m ws) c → pnum m ws * (loopT m ws ws.length).den ≤ (loopT m ws ws.length).num * pden m ws := by
    intro c hc
    obtain ⟨u, hcy⟩ := hc.cyc
    have h := loopT_up hv hs hcy
    obtain ⟨g, hg, g1, g2, _, _⟩ := hc.mul
    obtain ⟨s1, s2⟩ := sums_nat hv (path_lt hcy.path)
    have k1 : hiN ws c = pnum m ws * g := by omega
    have k2 : bkN ws c = pden m ws * g := by omega
    rw [k1, k2] at h
    have e1 : pnum m ws * g * (loopT m ws ws.length).den = pnum m ws * (loopT m ws ws.length).den * g := by rw [Nat.mul_assoc, Nat.mul_comm g, Nat.mul_assoc]
    have e2 : (loopT m ws ws.length).num * (pden m ws * g) = (loopT m ws ws.length).num * pden m ws * g := (Nat.mul_assoc _ _ _).symm
    rw [e1, e2] at h
    exact Nat.le_of_mul_le_mul_right h hg
  rcases h1 with h1 | ⟨h1, h3⟩
  · rw [h1] at h2 ⊢
    rcases hS.cyc with ⟨_, a, b⟩ | ⟨a, b⟩
    · rw [a, b]; exact ⟨rfl, rfl, by simp [fst0]⟩
    · have := h2 _ a
      simp only [fst0] at this
      omega
  · have h4 := h1.le hS.keep
    rcases hS.cyc with ⟨_, a, b⟩ | ⟨a, b⟩
    · rw [a, b] at h4; omega
    · have h5 := h2 _ a
      obtain ⟨_, _, _, _, c1, c2⟩ := h1.mul
      obtain ⟨_, _, _, _, c3, _⟩ := a.mul
      obtain ⟨e1, e2⟩ := low_eq (Nat.le_antisymm h4 h5) c1 c3 c2
      refine ⟨e1, e2, fun e => ?_, fun e => by omega⟩
      obtain ⟨u, hu⟩ := h1.cyc
      exact absurd e hu.ne
end Yteileadcmekkoaa
end Go.Proofs
