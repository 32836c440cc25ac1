/- Laws of rotation: systems of pairs in memory. -/
import Derived.Test.YtnjgglnpmhjmiaaA9
open Go Go.RowKit Go.YtnjgglnpmhjmiaaIt
open Rest
namespace Go.Proofs
namespace Ytnjgglnpmhjmiaa
abbrev P2 : Type := Int × Int
abbrev encP (s : P2) : Value := .agg #[.int .i64 s.1, .int .i64 s.2]
theorem encP_inj : ∀ s t, encP s = encP t → s = t := fun s t e => by
 injection e with e
 have e2 : [Value.int .i64 s.1, Value.int .i64 s.2] = [Value.int .i64 t.1, Value.int .i64 t.2] := by injection e
 injection e2 with e3 e4
 injection e4 with e5 _
 injection e3 with _ e3
 injection e5 with _ e5
 exact Prod.ext e3 e5
theorem key104 : WideMaps.ArrKey Try.prog 104 3 2 := ⟨Try.underlying104, by kernel_rfl, by kernel_rfl, by kernel_rfl⟩
theorem keyed104 : Maps.Keyed Try.prog 104 := Maps.Keyed.of_law key104.law
theorem keyPr {s : P2} (h : (-1000000 ≤ s.1 ∧ s.1 ≤ 1000000) ∧ -1000000 ≤ s.2 ∧ s.2 ≤ 1000000) : ∃ l, keyOf Try.prog 104 (encP s) = some l :=
 keyOf_ints key104 Try.underlying3 ⟨_, rfl⟩ (xs := [s.1, s.2]) rfl (fun x hx => by
  rcases List.mem_cons.1 hx with rfl | hx
  ·exact wfZ h.1
  ·rw [List.mem_singleton.1 hx]; exact wfZ h.2)
theorem info151 : (Try.prog.info? 151).map (fun i => (i.zero, i.size, i.bytes)) = some (some (.agg #[.int .i64 0, .int .i64 0, .slice none 0 0]), 3, 40) := by kernel_rfl
theorem info104 : (Try.prog.info? 104).map (fun i => (i.zero, i.size, i.bytes)) = some (some (.agg #[.int .i64 0, .int .i64 0]), 2, 16) := by kernel_rfl
theorem size151 : (Try.prog.info? 151).map (·.size) = some 3 := by kernel_rfl
theorem size108 : (Try.prog.info? 108).map (·.size) = some 5 := by kernel_rfl
theorem size104 : (Try.prog.info? 104).map (·.size) = some 2 := by kernel_rfl
/-- A system of numbered states, as it lies in memory: its functions keep to what they should from world W0 on. -/
structure SysP (x : RSys P2) (ok : P2 → Prop) (fN fG : Nat) (lN lG : Array Value) (B : Nat) (W0 : World) : Prop where
 k1 : 1 ≤ x.k
 k4 : x.k ≤ 4
 st : ok x.start
 cl : ∀ s c, ok s → c < x.k → ok (x.nx s c)
 bd : ∀ s, ok s → (-1000000 ≤ s.1 ∧ s.1 ≤ 1000000) ∧ -1000000 ≤ s.2 ∧ s.2 ≤ 1000000
 nx : ∀ W, Below B W0 W → ∀ s (c : Nat), ok s → c < x.k → Calls Try.prog fN (#[encP s, .int .i64 c] ++ lN) W fun e w' => e = .returned (encP (x.nx s c)) ∧ Below W.heap.size W w'
 gd : ∀ W, Below B W0 W → ∀ s, ok s → Calls Try.prog fG (#[encP s] ++ lG) W fun e w' => e = .returned (.bool (x.gd s)) ∧ Below W.heap.size W w'
abbrev sysVP (x : RSys P2) (fN fG : Nat) (lN lG : Array Value) : Array Value := #[.int .i64 x.k, .int .i64 x.start.1, .int .i64 x.start.2, .func (.func fN) #[] lN, .func (.func fG) #[] lG]
/-- What a walk hands over: a state, and a list of years in memory that is the rounds' own. -/
def YWP (L : List (P2 × List Nat)) (j : Nat) (S0 S : Nat → Prop) (W : World) (y : Array Value) : Prop :=
 ∃ s ys v, L[j]? = some (s, ys) ∧ y = #[encP s, v] ∧ SlI W v (nI ys) ∧ ∀ g off n c, v = .slice (some ⟨g, off, none⟩) n c → S g ∧ ¬ S0 g
theorem YWP.size {L : List (P2 × List Nat)} {j : Nat} {S0 S : Nat → Prop} {W : World} {y : Array Value} (h : YWP L j S0 S W y) : y.size = 2 := by
 obtain ⟨s, ys, v, -, rfl, -⟩ := h
 rfl
/-- Places in a block of places. -/
def cellsP (pl : List (P2 × List Nat)) (vs : List Value) : List Value := (List.zip pl vs).flatMap fun q => [.int .i64 q.1.1.1, .int .i64 q.1.1.2, q.2]
theorem cellsP_len : ∀ {pl : List (P2 × List Nat)} {vs : List Value}, vs.length = pl.length → (cellsP pl vs).length = pl.length * 3
 | [], [], _ => rfl
 | p :: pl, v :: vs, h => by
  have ih := cellsP_len (pl := pl) (vs := vs) (by simpa using h)
  simp only [cellsP, List.zip_cons_cons, List.flatMap_cons, List.length_append, List.length_cons, List.length_nil] at ih ⊢
  omega
theorem cellsP_push {pl : List (P2 × List Nat)} {vs : List Value} (h : vs.length = pl.length) (p : P2 × List Nat) (v : Value) : cellsP (pl ++ [p]) (vs ++ [v]) = cellsP pl vs ++ [.int .i64 p.1.1, .int .i64 p.1.2, v] := by
 unfold cellsP
 rw [List.zip_append (by omega)]
 simp
/-- The places that are still to be handed over. -/
def OpP (S : Nat → Prop) (w : World) (base go : Nat) (v : Value) (pl : List (P2 × List Nat)) : Prop :=
 ∃ vs : List Value, vs.length = pl.length ∧ QuO w base 151 3 go v pl.length (cellsP pl vs) ∧ ¬ S go ∧ ∀ i (h : i < pl.length) (h' : i < vs.length), Yr S w base vs[i] pl[i].2
theorem OpP.keep {S S' : Nat → Prop} {w w' : World} {base go : Nat} {v : Value} {pl : List (P2 × List Nat)} (h : OpP S w base go v pl) (hs : w.heap.size ≤ w'.heap.size) (hk : ∀ g, base ≤ g → g < w.heap.size → ¬ S g → w'.heap[g]? = w.heap[g]?) (hlt : ∀ g, g < w.heap.size → ¬ S g → ¬ S' g) : OpP S' w' base go v pl := by
 obtain ⟨vs, h1, h2, h3, h4⟩ := h
 exact ⟨vs, h1, h2.keep (hk go h2.base h2.lt h3), hlt go h2.lt h3, fun i hi hi' => (h4 i hi hi').keep hs (fun g _ _ a b c _ => hk g a b c) hlt⟩
/-- Only cells matter. -/
theorem OpP.keepC {S : Nat → Prop} {w w' : World} {base go : Nat} {v : Value} {pl : List (P2 × List Nat)} (h : OpP S w base go v pl) (hs : w.heap.size ≤ w'.heap.size) (hk : ∀ g cs t fr, base ≤ g → ¬ S g → w.heap[g]? = some (.cells cs t fr) → w'.heap[g]? = w.heap[g]?) : OpP S w' base go v pl := by
 obtain ⟨vs, h1, h2, h3, h4⟩ := h
 have hq := h2
 obtain ⟨_, _, cur, _, hb, hg, _⟩ := hq
 exact ⟨vs, h1, h2.keep (hk go _ _ _ hb h3 hg), h3, fun i hi hi' => (h4 i hi hi').keep hs (fun g _ _ a _ c d => hk g _ _ _ a c d) (fun _ _ h => h)⟩
theorem OpP.below {S : Nat → Prop} {w w' : World} {base go : Nat} {v : Value} {pl : List (P2 × List Nat)} (h : OpP S w base go v pl) (hb : Below w.heap.size w w') : OpP S w' base go v pl := h.keep hb.size (fun g _ hl _ => hb.block g hl) (fun _ _ h => h)
theorem OpP.form {S : Nat → Prop} {w : World} {base go : Nat} {v : Value} {pl : List (P2 × List Nat)} (h : OpP S w base go v pl) : ∃ off cap, v = .slice (some ⟨go, off, none⟩) pl.length cap := by
 obtain ⟨vs, h1, h2, -⟩ := h
 exact h2.form
/-- The first place. -/
theorem OpP.head {S : Nat → Prop} {w : World} {base go off n cap : Nat} {p : P2 × List Nat} {pl : List (P2 × List Nat)} (h : OpP S w base go (.slice (some ⟨go, off, none⟩) n cap) (p :: pl)) :
  ∃ vy, w.cell? ⟨go, off, none⟩ = some (.int .i64 p.1.1) ∧ w.cell? ⟨go, off + 1, none⟩ = some (.int .i64 p.1.2) ∧ w.cell? ⟨go, off + 2, none⟩ = some vy ∧ Yr S w base vy p.2 := by
 obtain ⟨vs, h1, h2, -, h4⟩ := h
 obtain ⟨off', cap', e⟩ := h2.form
 injection e with _ e _
 subst e
 cases vs with
 | nil => simp at h1
 | cons vy vs =>
  have hlen : (cellsP (p :: pl) (vy :: vs)).length = (p :: pl).length * 3 := cellsP_len h1
  simp only [List.length_cons] at hlen
  have c0 := h2.at_ (j := 0) (by omega)
  have c1 := h2.at_ (j := 1) (by omega)
  have c2 := h2.at_ (j := 2) (by omega)
  exact ⟨vy, by simpa [cellsP] using c0, by simpa [cellsP] using c1, by simpa [cellsP] using c2, h4 0 (by simp) (by simp)⟩
theorem OpP.cut {S : Nat → Prop} {w : World} {base go off n cap : Nat} {p : P2 × List Nat} {pl : List (P2 × List Nat)} (h : OpP S w base go (.slice (some ⟨go, off, none⟩) n cap) (p :: pl)) : OpP S w base go (.slice (some ⟨go, off + 3, none⟩) (n - 1) (cap - 1)) pl := by
 obtain ⟨vs, h1, h2, h3, h4⟩ := h
 obtain ⟨off', cap', e⟩ := h2.form
 injection e with _ e _
 subst e
 cases vs with
 | nil => simp at h1
 | cons vy vs =>
  simp only [List.length_cons] at h1 h2 ⊢
  refine ⟨vs, by omega, ?_, h3, fun i hi hi' => h4 (i + 1) (by simpa using hi) (by simpa using hi')⟩
  have := h2.cut
  rw [Nat.add_sub_cancel]
  simpa [cellsP] using this
theorem OpP.cutIf {S : Nat → Prop} {w : World} {base go off n cap : Nat} {p : P2 × List Nat} {pl : List (P2 × List Nat)} (h : OpP S w base go (.slice (some ⟨go, off, none⟩) n cap) (p :: pl)) : OpP S w base go (.slice (if cap = 1 then some ⟨go, off, none⟩ else some ⟨go, off + 3, none⟩) (n - 1) (cap - 1)) pl := by
 by_cases hc : cap = 1
 ·rw [if_pos hc]
  obtain ⟨vs, h1, h2, h3, h4⟩ := h
  obtain ⟨off', cap', cur, e, hb, hg, hn, hfit, hlen, hxs⟩ := h2
  injection e with e en ec
  injection e with e
  injection e with _ eo _
  subst hc ec eo
  have hpl : pl = [] := by
   simp only [List.length_cons] at hn
   exact List.length_eq_zero_iff.1 (by omega)
  subst hpl
  refine ⟨[], rfl, ⟨off, 0, cur, ?_, hb, hg, Nat.le_refl _, by omega, rfl, fun j hj => by simp [cellsP] at hj⟩, h3, fun i hi => by simp at hi⟩
  simp only [List.length_cons, List.length_nil] at en
  rw [en]; rfl
 ·rw [if_neg hc]; exact h.cut
/-- One place more. -/
theorem OpP.push {S : Nat → Prop} {w w' : World} {base go go' : Nat} {v v' : Value} {pl : List (P2 × List Nat)} {p : P2 × List Nat} {vy : Value} {xs : List Value} (h : OpP S w base go v pl) (hy : Yr S w base vy p.2) (hS : ∀ i, S i → i < w.heap.size)
  (hxs : ∃ vs, vs.length = pl.length ∧ xs = cellsP pl vs ∧ ∀ i (h : i < pl.length) (h' : i < vs.length), Yr S w base vs[i] pl[i].2) (hq : QuO w' base 151 3 go' v' (pl.length + 1) (xs ++ [.int .i64 p.1.1, .int .i64 p.1.2, vy])) (hg : go' = go ∨ go' = w.heap.size) (hs : w.heap.size ≤ w'.heap.size) (hk : ∀ k, k < w.heap.size → k ≠ go → w'.heap[k]? = w.heap[k]?) :
  OpP S w' base go' v' (pl ++ [p]) := by
 obtain ⟨vs0, -, h2, h3, -⟩ := h
 obtain ⟨vs, h1, rfl, h4⟩ := hxs
 have hgo : ∃ cur, w.heap[go]? = some (.cells cur 151 (0, 0)) := by
  obtain ⟨_, _, cur, _, _, e, _⟩ := h2
  exact ⟨cur, e⟩
 obtain ⟨cur, hcur⟩ := hgo
 have kp : ∀ g cs fr, base ≤ g → g < w.heap.size → ¬ S g → w.heap[g]? = some (.cells cs 3 fr) → w'.heap[g]? = w.heap[g]? := fun g cs fr _ hl _ e => hk g hl (fun eg => by
  rw [eg, hcur] at e
  injection e with e
  injection e with _ e _
  cases e)
 refine ⟨vs ++ [vy], by simp [h1], by rw [List.length_append, cellsP_push h1]; exact hq, ?_, fun i hi hi' => ?_⟩
 ·rcases hg with rfl | rfl
  ·exact h3
  ·exact fun e => Nat.lt_irrefl _ (hS _ e)
 ·by_cases hl : i < pl.length
  ·have e1 : (vs ++ [vy])[i] = vs[i]'(by omega) := List.getElem_append_left (by omega)
   have e2 : (pl ++ [p])[i] = pl[i] := List.getElem_append_left hl
   rw [e1, e2]
   exact (h4 i hl (by omega)).keep hs kp (fun _ _ h => h)
  ·have hi2 : i = pl.length := by simp at hi; omega
   subst hi2
   have e1 : (vs ++ [vy])[pl.length] = vy := by rw [List.getElem_append_right (by omega)]; simp [h1]
   have e2 : (pl ++ [p])[pl.length] = p := by rw [List.getElem_append_right (by omega)]; simp
   rw [e1, e2]
   exact hy.keep hs kp (fun _ _ h => h)
/-- The states that are met. -/
def FmP (l : List (P2 × List Nat)) (s : P2) : Option Value := if s ∈ l.map Prod.fst then some (.bool true) else none
set_option maxRecDepth 100000 in
theorem walkP_any (x : RSys P2) (fN fG : Nat) (lN lG : Array Value) (w : World) :
  Calls Try.prog 96 #[.agg (sysVP x fN fG lN lG)] w fun e w' => e = .returned (.func (.func 108) #[] #[.pointer (some ⟨w.heap.size, 0, none⟩)]) ∧ w'.heap[w.heap.size]? = some (.cells (sysVP x fN fG lN lG) 108 (0, 0)) ∧ Below w.heap.size w w' ∧ w'.heap.size = w.heap.size + 1 := by
 go_enter Try.func96, Try.ntmps96
 go_wp2
 go_ret
 exact ⟨rfl, heap_newI rfl, (Below.refl _ _).alloc (Nat.le_refl _) _, World.size_alloc ..⟩
end Ytnjgglnpmhjmiaa
end Go.Proofs

