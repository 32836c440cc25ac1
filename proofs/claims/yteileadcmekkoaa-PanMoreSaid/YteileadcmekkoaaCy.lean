/- Pans: plain. All cycles of a work, as the law lists them; a work gets stuck just if a cycle has no strikes. -/
import Derived.Test.YteileadcmekkoaaSe
open Go Go.RowKit Go.YteileadcmekkoaaIt
namespace Go.Proofs
namespace Yteileadcmekkoaa
open PanPlain (Ed Path Cyc frm rounds)
def metC (ws : List Wa) (beg : List Nat) (i : Nat) : Bool := beg.any fun k => fN ws k == fN ws i
def skipC (ws : List Wa) (beg : List Nat) (i : Nat) : Bool := (!beg.isEmpty && !decide (lstN ws beg = fN ws i)) || metC ws beg i
def stepC (rec : List Nat → List (List Nat)) (ws : List Wa) (beg : List Nat) (i : Nat) : List (List Nat) :=
  if skipC ws beg i = true then [] else if fstN ws (beg ++ [i]) = tN ws i then [beg ++ [i]] else rec (beg ++ [i])
def loopC (rec : List Nat → List (List Nat)) (ws : List Wa) (beg : List Nat) (k : Nat) : List (List Nat) := (List.range k).flatMap (stepC rec ws beg)
def cycs (ws : List Wa) : Nat → List Nat → List (List Nat)
  | 0, _ => []
  | d + 1, beg => loopC (cycs ws d) ws beg ws.length
theorem loopC_succ (rec : List Nat → List (List Nat)) (ws : List Wa) (beg : List Nat) (k : Nat) : loopC rec ws beg (k + 1) = loopC rec ws beg k ++ stepC rec ws beg k := by
  unfold loopC; rw [List.range_succ, List.flatMap_append]; simp
theorem pow9 (d : Nat) : 1 ≤ 9 ^ d := Nat.pow_pos (by omega)
theorem loopC_len {rec : List Nat → List (List Nat)} {ws : List Wa} {beg : List Nat} {B : Nat} (hB : 1 ≤ B) (h : ∀ b, (rec b).length ≤ B) : ∀ k, (loopC rec ws beg k).length ≤ k * B
  | 0 => by simp [loopC]
  | k + 1 => by
    have ih := loopC_len (ws := ws) (beg := beg) hB h k
    rw [loopC_succ, List.length_append, Nat.add_mul, Nat.one_mul]
    have : (stepC rec ws beg k).length ≤ B := by
      unfold stepC
      split
      · simp
      · split
        · simpa using hB
        · exact h _
    omega
theorem cycs_len {ws : List Wa} (hw : ws.length ≤ 9) : ∀ d beg, (cycs ws d beg).length ≤ 9 ^ d
  | 0, _ => by simp [cycs]
  | d + 1, beg => by
    have := loopC_len (ws := ws) (beg := beg) (pow9 d) (cycs_len hw d) ws.length
    have h2 : ws.length * 9 ^ d ≤ 9 * 9 ^ d := Nat.mul_le_mul_right _ hw
    show (loopC (cycs ws d) ws beg ws.length).length ≤ _
    rw [Nat.pow_succ, Nat.mul_comm (9 ^ d)]
    omega
/-- What cycles is asked for: nothing yet, or a way of different steps that is not closed. -/
def BegC (m : Nat) (ws : List Wa) (beg : List Nat) : Prop := beg = [] ∨ (Beg m ws beg ∧ lstN ws beg ≠ fstN ws beg)
theorem cyc_nd {ws : List Wa} {u : Nat} {c : List Nat} (h : Cyc (eds ws 0 1) u c) : (c.map (fN ws)).Nodup := by
  have := h.nd
  rwa [frm_map (path_lt h.path)] at this
/-- A wait that goes on from a way is neither met nor elsewhere. -/
theorem begC_ext {m : Nat} {ws : List Wa} {beg : List Nat} (h : BegC m ws beg) {i : Nat} (hi : i < ws.length) (hs : skipC ws beg i = false) : Beg m ws (beg ++ [i]) ∧ lstN ws (beg ++ [i]) = tN ws i := by
  unfold skipC at hs
  rw [Bool.or_eq_false_iff] at hs
  rcases h with rfl | ⟨h, _⟩
  · exact ⟨beg_one hi, rfl⟩
  · have hf : fN ws i = lstN ws beg := by
      have h1 := hs.1
      cases beg with
      | nil => exact absurd rfl h.ne
      | cons a l =>
        simp only [List.isEmpty_cons, Bool.not_false, Bool.true_and, Bool.not_eq_false', decide_eq_true_eq] at h1
        exact h1.symm
    have hm : metB ws beg = false := by
      have h2 := hs.2
      unfold metC at h2
      unfold metB
      rw [← hf]; exact h2
    obtain ⟨h1, _, h3⟩ := beg_ext h hi hf hm
    exact ⟨h1, h3⟩
theorem goes_on {m : Nat} {ws : List Wa} {beg : List Nat} (h : BegC m ws beg) {u i : Nat} {r : List Nat} (hc : Cyc (eds ws 0 1) u (beg ++ i :: r)) : i < ws.length ∧ skipC ws beg i = false := by
  have hnd := cyc_nd hc
  have hi : i < ws.length := path_lt hc.path i (by simp)
  refine ⟨hi, ?_⟩
  rw [List.map_append, List.nodup_append] at hnd
  have hmet : metC ws beg i = false := by
    unfold metC
    rw [List.any_eq_false]
    intro k hk
    rw [beq_iff_eq]
    exact fun e => hnd.2.2 _ (List.mem_map_of_mem hk) _ (by simp) e
  unfold skipC
  rw [hmet, Bool.or_false]
  rcases h with rfl | ⟨h, _⟩
  · rfl
  · obtain ⟨z, h1, h2⟩ := hc.path.split
    obtain ⟨e1, _, _⟩ := path_cons h2
    have hu : u = fstN ws beg := by
      cases beg with
      | nil => exact absurd rfl h.ne
      | cons i l => exact (path_cons h1).1
    subst hu
    have hz : z = lstN ws beg := path_end h1 h.path
    rw [hz] at e1
    simp [e1]
theorem mem_stepC {rec : List Nat → List (List Nat)} {ws : List Wa} {beg : List Nat} {k : Nat} {c : List Nat} : c ∈ loopC rec ws beg k ↔ ∃ i, i < k ∧ c ∈ stepC rec ws beg i := by
  unfold loopC
  rw [List.mem_flatMap]
  constructor
  · rintro ⟨i, hi, h⟩; exact ⟨i, List.mem_range.1 hi, h⟩
  · rintro ⟨i, hi, h⟩; exact ⟨i, List.mem_range.2 hi, h⟩
theorem fst_app {ws : List Wa} {beg r : List Nat} (h : beg ≠ []) : fstN ws (beg ++ r) = fstN ws beg := by
  have hl : 0 < beg.length := List.length_pos_iff.2 h
  unfold fstN
  rw [List.getD_eq_getElem?_getD, List.getElem?_append_left hl, ← List.getD_eq_getElem?_getD]
theorem mem_cycs {m : Nat} {ws : List Wa} (hv : Val m ws) : ∀ (d : Nat) (beg : List Nat), beg.length + d = m + 1 → BegC m ws beg → ∀ c, c ∈ cycs ws d beg ↔ (∃ r, r ≠ [] ∧ c = beg ++ r) ∧ ∃ u, Cyc (eds ws 0 1) u c
  | 0, beg, hd, hb, c => by
    rcases hb with rfl | ⟨hb, _⟩
    · simp at hd
    · have := hb.len hv; omega
  | d + 1, beg, hd, hb, c => by
    show c ∈ loopC (cycs ws d) ws beg ws.length ↔ _
    rw [mem_stepC]
    constructor
    · rintro ⟨i, hi, hm⟩
      unfold stepC at hm
      cases hs : skipC ws beg i with
      | true => rw [hs, if_pos rfl] at hm; cases hm
      | false =>
        rw [hs, if_neg (by simp)] at hm
        obtain ⟨hB, hl⟩ := begC_ext hb hi hs
        by_cases hcl : fstN ws (beg ++ [i]) = tN ws i
        · rw [if_pos hcl, List.mem_singleton] at hm
          subst hm
          exact ⟨⟨[i], by simp, rfl⟩, _, beg_cyc hB (by rw [hl, hcl])⟩
        · rw [if_neg hcl] at hm
          obtain ⟨⟨r, hr, rfl⟩, h2⟩ := (mem_cycs hv d (beg ++ [i]) (by simp; omega) (.inr ⟨hB, by rw [hl]; exact fun e => hcl e.symm⟩) c).1 hm
          exact ⟨⟨i :: r, by simp, by simp⟩, h2⟩
    · rintro ⟨⟨r, hr, rfl⟩, u, hc⟩
      cases r with
      | nil => exact absurd rfl hr
      | cons i r =>
        obtain ⟨hi, hs⟩ := goes_on hb hc
        obtain ⟨hB, hl⟩ := begC_ext hb hi hs
        refine ⟨i, hi, ?_⟩
        unfold stepC
        rw [hs, if_neg (by simp)]
        have hu : u = fstN ws (beg ++ [i]) := by
          have hp : Path (eds ws 0 1) u u ((beg ++ [i]) ++ r) := by simpa using hc.path
          obtain ⟨z, h1, _⟩ := hp.split
          cases hbi : beg ++ [i] with
          | nil => simp at hbi
          | cons a l => rw [hbi] at h1; exact (path_cons h1).1
        by_cases hcl : fstN ws (beg ++ [i]) = tN ws i
        · rw [if_pos hcl]
          cases r with
          | nil => simp
          | cons j r =>
            exfalso
            have hp : Path (eds ws 0 1) u u ((beg ++ [i]) ++ (j :: r)) := by simpa using hc.path
            obtain ⟨z, h1, h2⟩ := hp.split
            have hz : z = lstN ws (beg ++ [i]) := by
              rw [hu] at h1
              exact path_end h1 hB.path
            obtain ⟨e1, _, _⟩ := path_cons h2
            have hnd := cyc_nd hc
            rw [show beg ++ i :: j :: r = (beg ++ [i]) ++ (j :: r) by simp, List.map_append, List.nodup_append] at hnd
            have h3 : fN ws ((beg ++ [i]).getD 0 0) ∈ (beg ++ [i]).map (fN ws) := by
              refine List.mem_map_of_mem ?_
              have hlp : 0 < (beg ++ [i]).length := by simp
              rw [List.getD_eq_getElem?_getD, List.getElem?_eq_getElem hlp]
              exact List.getElem_mem _
            exact hnd.2.2 _ h3 _ (List.mem_map_of_mem (by simp : j ∈ j :: r)) (by show fstN ws (beg ++ [i]) = _; rw [hcl, ← hl, ← hz, e1])
        · rw [if_neg hcl]
          cases r with
          | nil =>
            exfalso
            have hp : Path (eds ws 0 1) u u (beg ++ [i]) := hc.path
            rw [hu] at hp
            have := path_end hp hB.path
            exact hcl (by rw [← hl]; exact this)
          | cons j r =>
            exact (mem_cycs hv d (beg ++ [i]) (by simp; omega) (.inr ⟨hB, by rw [hl]; exact fun e => hcl e.symm⟩) _).2 ⟨⟨j :: r, by simp, by simp⟩, u, hc⟩
/-- All cycles: those that begin with any wait. -/
theorem mem_all {m : Nat} {ws : List Wa} (hv : Val m ws) (c : List Nat) : c ∈ cycs ws (m + 1) [] ↔ ∃ u, Cyc (eds ws 0 1) u c := by
  rw [mem_cycs hv (m + 1) [] (by simp) (.inl rfl)]
  constructor
  · rintro ⟨_, h⟩; exact h
  · rintro ⟨u, h⟩; exact ⟨⟨c, h.ne, rfl⟩, u, h⟩
/-- Waits that count one each, and weigh down by their strikes. -/
def oneW (x : Wa) : Wa := ⟨x.f, x.t, 1, 1, x.b⟩
theorem at_one {ws : List Wa} {i : Nat} (h : i < ws.length) : at_ (ws.map oneW) i = oneW (at_ ws i) := by
  rw [at_lt (by rw [List.length_map]; exact h), at_lt h]; simp
theorem path_one {ws : List Wa} {a b c d : Int} {u v : Nat} {l : List Nat} (h : Path (eds (ws.map oneW) a b) u v l) : Path (eds ws c d) u v l := by
  induction h with
  | nil u => exact .nil u
  | cons he _ ih =>
    obtain ⟨hi, rfl⟩ := eds_some he
    rw [List.length_map] at hi
    rw [at_one hi] at ih ⊢
    have h2 : ∀ {i v : Nat} {l : List Nat}, i < ws.length → Path (eds ws c d) (at_ ws i).t.toNat v l → Path (eds ws c d) (at_ ws i).f.toNat v (i :: l) := fun hi h => @Path.cons _ _ _ _ _ (eds_get hi) h
    exact h2 hi ih
theorem sum_one {ws : List Wa} : ∀ {l : List Nat}, (∀ i ∈ l, i < ws.length) → hiS (ws.map oneW) l = l.length ∧ bkS (ws.map oneW) l = bkS ws l
  | [], _ => by simp [hiS, bkS]
  | i :: l, h => by
    obtain ⟨h1, h2⟩ := sum_one (l := l) (fun j hj => h j (by simp [hj]))
    unfold hiS bkS at *
    simp only [List.map_cons, List.sum_cons, List.length_cons]
    rw [h1, h2, at_one (h i (by simp))]
    simp only [oneW]
    refine ⟨?_, trivial⟩
    push_cast
    omega
theorem val_one {m : Nat} {ws : List Wa} (hv : Val m ws) : Val m (ws.map oneW) := by
  rw [val_mem] at hv ⊢
  refine ⟨hv.1, by rw [List.length_map]; exact hv.2.1, fun y hy => ?_⟩
  obtain ⟨x, hx, rfl⟩ := List.mem_map.1 hy
  obtain ⟨h1, h2, _, _, h5⟩ := hv.2.2 x hx
  exact ⟨h1, h2, ⟨by simp [oneW], by simp [oneW]⟩, by simp [oneW], h5⟩
/-- A work that gets stuck has a cycle without strikes. -/
theorem stuck_cyc {m : Nat} {ws : List Wa} (hv : Val m ws) (hs : ¬ NS ws) : ∃ u c, Cyc (eds ws 0 1) u c ∧ bkS ws c = 0 := by
  have hv1 := val_one hv
  cases hra : (rounds (eds (ws.map oneW) 100 1) (m + 1)).ra with
  | none =>
    exfalso
    apply hs
    have hk : ∀ (j : Nat) (e : Ed), (eds (ws.map oneW) 100 1)[j]? = some e → _ := (PanPlain.steady hra).1
    refine ⟨fun v => ((rounds (eds (ws.map oneW) 100 1) m).x v).toNat, fun i hi hb => ?_⟩
    have h1 := hk i _ (eds_get (by rw [List.length_map]; exact hi))
    rw [at_one hi] at h1
    simp only [oneW, hb] at h1
    have h2 := PanPlain.rounds_nonneg (eds (ws.map oneW) 100 1) m (at_ ws i).f.toNat
    show ((rounds (eds (ws.map oneW) 100 1) m).x (at_ ws i).f.toNat).toNat < ((rounds (eds (ws.map oneW) 100 1) m).x (at_ ws i).t.toNat).toNat
    omega
  | some v =>
    obtain ⟨-, k, hbk⟩ := PanPlain.back_of (hv1.ed 100 1) hra
    obtain ⟨h1, h2, h3⟩ := PanPlain.back_cyc hbk
    have hlt := path_lt h1.path
    rw [List.length_map] at hlt
    rw [wgt_sum (by rw [List.length_map]; exact hlt)] at h2
    obtain ⟨e1, e2⟩ := sum_one hlt
    rw [e1, e2] at h2
    have hb := (sums_bnd hv.bnd _ hlt).2.1
    have hn := hv.n1
    have hp := path_one (c := 0) (d := 1) h1.path
    refine ⟨_, _, ⟨h1.ne, hp, ?_⟩, by omega⟩
    rw [frm_map hlt]
    have hnd := h1.nd
    rw [frm_map (by rw [List.length_map]; exact hlt)] at hnd
    have : ∀ i, i < ws.length → fN (ws.map oneW) i = fN ws i := fun i hi => by unfold fN; rw [at_one hi]; rfl
    rw [List.map_congr_left fun i hi => this i (hlt i hi)] at hnd
    exact hnd
end Yteileadcmekkoaa
end Go.Proofs
