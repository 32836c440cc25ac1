/- Laws of rotation, plainly: laws of any number of states, and the system of their classes. -/
import Derived.Test.YtnjgglnpmhjmiaaC8
open Go Go.RowKit Go.YtnjgglnpmhjmiaaIt
open Rest
namespace Go.Proofs
namespace Ytnjgglnpmhjmiaa
/-- A law of any number of states. -/
structure Lw.Fit (l : Lw) : Prop where
 n1 : 1 ≤ l.nx.length
 nM : l.nx.length ≤ 2000
 k1 : 1 ≤ l.k
 k4 : l.k ≤ 4
 gd : l.gd.length = l.nx.length
 row : ∀ i (h : i < l.nx.length), l.nx[i].length = l.k
 ent : ∀ i (h : i < l.nx.length), ∀ s ∈ l.nx[i], 0 ≤ s ∧ s < l.nx.length
theorem Lw.Ok.fit {l : Lw} (h : l.Ok) : l.Fit := ⟨h.n1, by have := h.n40; omega, h.k1, h.k4, h.gd, h.row, h.ent⟩
theorem Lw.Fit.at_eq {l : Lw} (h : l.Fit) {m : Nat} (hm : m < l.nx.length) {c : Nat} (hc : c < l.k) : ∃ h2 : c < (l.nx[m]).length, l.at (m : Int) c = (l.nx[m])[c] := by
 have h2 : c < (l.nx[m]).length := by rw [h.row _ hm]; exact hc
 refine ⟨h2, ?_⟩
 unfold Lw.at
 simp [List.getElem?_eq_getElem hm, List.getElem?_eq_getElem h2]
theorem Lw.Fit.cl {l : Lw} (h : l.Fit) {s : Int} (hs : l.st s) {c : Nat} (hc : c < l.k) : l.st (l.at s c) := by
 obtain ⟨m, rfl, hm⟩ := hs.nat
 obtain ⟨h2, e⟩ := h.at_eq hm hc
 rw [e]
 exact h.ent _ hm _ (List.getElem_mem h2)
theorem Lw.Fit.st0 {l : Lw} (h : l.Fit) : l.st 0 := ⟨by omega, by have := h.n1; omega⟩
theorem Lw.Fit.ne {l : Lw} (h : l.Fit) : l.nx ≠ [] := fun e => by have := h.n1; rw [e] at this; simp at this
/-- All states of a law. -/
def stsL (l : Lw) : List Int := nI (List.range l.nx.length)
theorem mem_sts {l : Lw} {s : Int} : s ∈ stsL l ↔ l.st s := by
 unfold stsL nI Lw.st
 rw [List.mem_map]
 exact ⟨fun ⟨i, hi, e⟩ => by rw [← e]; have := List.mem_range.1 hi; omega, fun h => ⟨s.toNat, List.mem_range.2 (by omega), by omega⟩⟩
theorem sts_len (l : Lw) : (stsL l).length = l.nx.length := by simp [stsL]
theorem sts_get {l : Lw} {i : Nat} (h : i < l.nx.length) : (stsL l)[i]'(by rw [sts_len]; exact h) = (i : Int) := by simp [stsL]
theorem Lw.Fit.closed {l : Lw} (h : l.Fit) : Closed (sysL l) (stsL l) := ⟨fun _ hs _ hc => mem_sts.2 (h.cl (mem_sts.1 hs) hc)⟩
/-- The first state of a class. -/
def oneS (sts : List Int) (cls : Int → Nat) (j : Int) : Int := (sts.find? fun s => decide ((cls s : Int) = j)).getD 0
theorem oneS_ones (sts : List Int) (cls : Int → Nat) : Ones sts cls (oneS sts cls) := ⟨fun s hs => by
 unfold oneS
 cases h : sts.find? (fun t => decide ((cls t : Int) = (cls s : Int))) with
 | none => exact absurd (decide_eq_true rfl) (List.find?_eq_none.1 h s hs)
 | some t =>
  have h1 := List.mem_of_find?_eq_some h
  have h2 := List.find?_some h
  simp at h2
  have h3 : cls t = cls s := by omega
  exact ⟨h1, h3⟩⟩
def clsL (l : Lw) (r : Nat) : Int → Nat := clsN (sysL l) (stsL l) r
/-- The system of the classes of a law. -/
def mrgL (l : Lw) (r : Nat) : RSys Int := mrg (sysL l) (clsL l r) (oneS (stsL l) (clsL l r))
theorem mrgL_nx {l : Lw} {r : Nat} (h : l.Fit) (hS : Stop (sysL l) (stsL l) r) {s : Int} (hs : l.st s) {c : Nat} (hc : c < l.k) : (mrgL l r).nx (clsL l r s : Nat) c = (clsL l r (l.at s c) : Nat) := by
 obtain ⟨a, b⟩ := (oneS_ones (stsL l) (clsL l r)).mem s (mem_sts.2 hs)
 have e : Fut (sysL l) (oneS (stsL l) (clsL l r) (clsL l r s)) = Fut (sysL l) s := (hS.iff h.closed a (mem_sts.2 hs)).1 b
 have e2 : Fut (sysL l) ((sysL l).nx (oneS (stsL l) (clsL l r) (clsL l r s)) c) = Fut (sysL l) ((sysL l).nx s c) := funext fun w => by rw [fut_nx hc, fut_nx hc, e]
 have e3 := (hS.iff h.closed (h.closed.nx _ a c hc) (h.closed.nx _ (mem_sts.2 hs) c hc)).2 e2
 show ((clsL l r ((sysL l).nx (oneS (stsL l) (clsL l r) (clsL l r s)) c) : Nat) : Int) = _
 exact congrArg _ e3
theorem mrgL_gd {l : Lw} {r : Nat} {s : Int} (hs : l.st s) : (mrgL l r).gd (clsL l r s : Nat) = l.good s := by
 obtain ⟨a, b⟩ := (oneS_ones (stsL l) (clsL l r)).mem s (mem_sts.2 hs)
 exact cls_zero r a (mem_sts.2 hs) b
theorem mrgL_ind {l : Lw} {r : Nat} (h : l.Fit) (i : Nat) : ∀ p ∈ after (mrgL l r) i, ∃ s, l.st s ∧ (clsL l r s : Int) = p.1 := fun p hp => by
 have h' := after_ind (mrgL l r) (fun p => p.1 ∈ (stsL l).map (fun s => (clsL l r s : Int))) (mrg_closed h.closed (mem_sts.2 h.st0) (oneS_ones _ _)).1 (fun p c h' hk => (mrg_closed h.closed (mem_sts.2 h.st0) (oneS_ones _ _)).2 p.1 h' c hk) i p hp
 obtain ⟨s, hs, e⟩ := List.mem_map.1 h'
 exact ⟨s, mem_sts.1 hs, e⟩
theorem mrgL_walk {l : Lw} (h : l.Fit) (r : Nat) : ∃ L, Walk (mrgL l r) L ∧ L.length ≤ l.nx.length := by
 obtain ⟨L, hL, hl, -⟩ := walk_exists (mrgL l r) ((stsL l).map (fun s => (clsL l r s : Int))) (mrg_closed h.closed (mem_sts.2 h.st0) (oneS_ones _ _)).1 (mrg_closed h.closed (mem_sts.2 h.st0) (oneS_ones _ _)).2
 exact ⟨L, hL, by rw [List.length_map, sts_len] at hl; exact hl⟩
theorem mrgL_least {l : Lw} {r : Nat} (h : l.Fit) (hS : Stop (sysL l) (stsL l) r) {L : List (Int × List Nat)} (hL : Walk (mrgL l r) L) : LeastT l.k (Fut (sysL l) 0) (tabOf (mrgL l r) L) :=
 mrg_least hS h.closed (mem_sts.2 h.st0) (oneS_ones _ _) hL
/-- Classes are less than their number. -/
theorem clsL_bd (l : Lw) (r : Nat) (s : Int) (hs : l.st s) : clsL l r s ≤ 2 + l.nx.length := by
 cases r with
 | zero => unfold clsL clsN; split <;> omega
 | succ r =>
  have h1 := cls_lt (x := sysL l) (r := r) (mem_sts.2 hs)
  have h2 := cnt_le (sysL l) (stsL l) (r + 1)
  rw [sts_len] at h2
  unfold clsL
  omega
end Ytnjgglnpmhjmiaa
end Go.Proofs
/- Laws of rotation, plainly: the laws that are spelled out as tables have the futures of the systems. -/
open Go Go.RowKit Go.YtnjgglnpmhjmiaaIt
open Rest
namespace Go.Proofs
namespace Ytnjgglnpmhjmiaa
theorem fut_rel {α β : Type} {x : RSys α} {y : RSys β} (R : α → β → Prop) (hk : x.k = y.k) (hg : ∀ s t, R s t → x.gd s = y.gd t) (hn : ∀ s t c, R s t → c < x.k → R (x.nx s c) (y.nx t c)) : ∀ (w : List Nat) (s : α) (t : β), R s t → Fut x s w = Fut y t w
 | [], s, t, h => by rw [fut_nil, fut_nil]; exact hg _ _ h
 | c :: w, s, t, h => by
  by_cases hc : c < x.k
  ·rw [← fut_nx hc, ← fut_nx (x := y) (by rw [← hk]; exact hc)]
   exact fut_rel R hk hg hn w _ _ (hn _ _ _ h hc)
  ·rw [fut_bad (fun h => hc (wd_cons.1 h).1), fut_bad (fun h => hc (by rw [hk]; exact (wd_cons.1 h).1))]
/-- A law by its entries. -/
def lawOf (n k : Nat) (f : Nat → Nat → Int) (g : Nat → Bool) : Lw := ⟨(List.range n).map fun s => (List.range k).map fun c => f s c, (List.range n).map g⟩
theorem lawOf_k {n k : Nat} (f : Nat → Nat → Int) (g : Nat → Bool) (h : 1 ≤ n) : (lawOf n k f g).k = k := by
 obtain ⟨m, rfl⟩ : ∃ m, n = m + 1 := ⟨n - 1, by omega⟩
 unfold lawOf Lw.k
 simp [List.range_succ_eq_map]
theorem lawOf_fit {n k : Nat} {f : Nat → Nat → Int} {g : Nat → Bool} (h1 : 1 ≤ n) (h2 : n ≤ 2000) (h3 : 1 ≤ k) (h4 : k ≤ 4) (hf : ∀ s c, s < n → c < k → 0 ≤ f s c ∧ f s c < (n : Int)) : (lawOf n k f g).Fit := by
 have hk := lawOf_k (k := k) f g h1
 refine ⟨by simp [lawOf]; exact h1, by simp [lawOf]; exact h2, by rw [hk]; exact h3, by rw [hk]; exact h4, by simp [lawOf], fun i hi => by rw [hk]; simp [lawOf], fun i hi s hs => ?_⟩
 simp only [lawOf, List.getElem_map, List.getElem_range, List.mem_map, List.mem_range, List.length_map, List.length_range] at hs hi ⊢
 obtain ⟨c, hc, rfl⟩ := hs
 exact hf i c hi hc
theorem lawOf_at {n k : Nat} (f : Nat → Nat → Int) (g : Nat → Bool) {s c : Nat} (hs : s < n) (hc : c < k) : (lawOf n k f g).at (s : Int) c = f s c := by
 simp [lawOf, Lw.at, hs, hc]
theorem lawOf_good {n k : Nat} (f : Nat → Nat → Int) (g : Nat → Bool) {s : Nat} (hs : s < n) : (lawOf n k f g).good (s : Int) = g s := by
 simp [lawOf, Lw.good, hs]
/-- Where a state of the rule of rest leads. -/
def restF (crop : Int) (Y : Nat) (s c : Nat) : Int := if s = Y + 1 ∨ (0 < s ∧ (c : Int) = crop) then ((Y + 1 : Nat) : Int) else if (c : Int) = crop then ((min 1 Y : Nat) : Int) else if s = 0 ∨ s = Y then 0 else ((s + 1 : Nat) : Int)
def restG (Y : Nat) (s : Nat) : Bool := decide (s ≤ Y)
def withinF (crop : Int) (Y : Nat) (s c : Nat) : Int := if (c : Int) = crop ∧ s < Y then 0 else ((min (s + 1) Y : Nat) : Int)
def withinG (Y : Nat) (s : Nat) : Bool := decide (s < Y)
theorem restF_bd (crop : Int) (Y s c : Nat) (h : s < Y + 2) : 0 ≤ restF crop Y s c ∧ restF crop Y s c < ((Y + 2 : Nat) : Int) := by
 unfold restF
 split
 ·omega
 split
 ·omega
 split
 ·omega
 ·omega
theorem withinF_bd (crop : Int) (Y s c : Nat) : 0 ≤ withinF crop Y s c ∧ withinF crop Y s c < ((Y + 1 : Nat) : Int) := by
 unfold withinF
 split
 ·omega
 ·omega
theorem rest_fut {k : Nat} (_ : 1 ≤ k) (crop : Int) (Y : Nat) : Fut (sysL (lawOf (Y + 2) k (restF crop Y) (restG Y))) 0 = Fut (ruleS k (restedF crop Y)) 0 := by
 funext w
 refine (fut_rel (x := ruleS k (restedF crop Y)) (y := sysL (lawOf (Y + 2) k (restF crop Y) (restG Y))) (fun p q => (p = -1 ∧ q = ((Y + 1 : Nat) : Int)) ∨ (p = 0 ∧ q = 0) ∨ (1 ≤ p ∧ p ≤ Y ∧ q = (Y : Int) + 1 - p)) (by rw [sysL, ruleS]; exact (lawOf_k _ _ (by omega)).symm) (fun p q h => ?_) (fun p q c h hc => ?_) w 0 0 (.inr (.inl ⟨rfl, rfl⟩))).symm
 ·obtain ⟨m, rfl, hm⟩ : ∃ m : Nat, q = (m : Int) ∧ m < Y + 2 := ⟨q.toNat, by omega, by omega⟩
  show (p != -1) = (lawOf (Y + 2) k (restF crop Y) (restG Y)).good (m : Int)
  rw [lawOf_good _ _ hm, restG]
  rcases h with ⟨rfl, h⟩ | ⟨rfl, h⟩ | ⟨h1, h2, h⟩
  ·rw [show decide (m ≤ Y) = false by simp; omega]; rfl
  ·rw [show decide (m ≤ Y) = true by simp; omega]; rfl
  ·rw [show decide (m ≤ Y) = true by simp; omega]; simp; omega
 ·obtain ⟨m, rfl, hm⟩ : ∃ m : Nat, q = (m : Int) ∧ m < Y + 2 := ⟨q.toNat, by omega, by omega⟩
  simp only [ruleS] at hc
  show _ ∨ _ ∨ _
  simp only [ruleS, sysL]
  rw [lawOf_at _ _ hm hc]
  unfold restedF restF
  by_cases hcc : (c : Int) = crop
  ·simp only [hcc, and_true, if_true]
   rcases h with ⟨rfl, h⟩ | ⟨rfl, h⟩ | ⟨h1, h2, h⟩
   ·rw [if_pos (.inl rfl), if_pos (.inl (by omega))]; omega
   ·rw [if_neg (by omega), if_neg (by omega)]; omega
   ·rw [if_pos (.inr (by omega)), if_pos (.inr (by omega))]; omega
  ·simp only [hcc, and_false, or_false, if_false]
   rcases h with ⟨rfl, h⟩ | ⟨rfl, h⟩ | ⟨h1, h2, h⟩
   ·rw [if_pos rfl, if_pos (by omega)]; omega
   ·rw [if_neg (by omega), if_neg (by omega), if_pos (by omega)]; omega
   ·rw [if_neg (by omega), if_neg (by omega)]
    split <;> omega
theorem within_fut {k : Nat} (_ : 1 ≤ k) (crop : Int) {Y : Nat} (hY : 1 ≤ Y) : Fut (sysL (lawOf (Y + 1) k (withinF crop Y) (withinG Y))) 0 = Fut (ruleS k (missedF crop Y)) 0 := by
 funext w
 refine (fut_rel (x := ruleS k (missedF crop Y)) (y := sysL (lawOf (Y + 1) k (withinF crop Y) (withinG Y))) (fun p q => (p = -1 ∧ q = (Y : Int)) ∨ (0 ≤ p ∧ p < Y ∧ q = p)) (by rw [sysL, ruleS]; exact (lawOf_k _ _ (by omega)).symm) (fun p q h => ?_) (fun p q c h hc => ?_) w 0 0 (.inr ⟨by omega, by omega, rfl⟩)).symm
 ·obtain ⟨m, rfl, hm⟩ : ∃ m : Nat, q = (m : Int) ∧ m < Y + 1 := ⟨q.toNat, by omega, by omega⟩
  show (p != -1) = (lawOf (Y + 1) k (withinF crop Y) (withinG Y)).good (m : Int)
  rw [lawOf_good _ _ hm, withinG]
  rcases h with ⟨rfl, h⟩ | ⟨h1, h2, h⟩
  ·rw [show decide (m < Y) = false by simp; omega]; rfl
  ·rw [show decide (m < Y) = true by simp; omega]; simp; omega
 ·obtain ⟨m, rfl, hm⟩ : ∃ m : Nat, q = (m : Int) ∧ m < Y + 1 := ⟨q.toNat, by omega, by omega⟩
  simp only [ruleS] at hc
  show _ ∨ _
  simp only [ruleS, sysL]
  rw [lawOf_at _ _ hm hc]
  unfold missedF withinF
  by_cases hcc : (c : Int) = crop
  ·simp only [hcc, if_true, true_and, ne_eq, not_true_eq_false, false_and, or_false]
   rcases h with ⟨rfl, h⟩ | ⟨h1, h2, h⟩
   ·rw [if_pos rfl, if_neg (by omega)]; omega
   ·rw [if_neg (by omega), if_pos (by omega)]; omega
  ·simp only [hcc, if_false, false_and, ne_eq, not_false_eq_true, true_and]
   rcases h with ⟨rfl, h⟩ | ⟨h1, h2, h⟩
   ·rw [if_pos (.inl rfl)]; omega
   ·split <;> omega
/-- Two laws together, as one table. -/
def pairF (a b : Lw) (u c : Nat) : Int := a.at ((u / b.nx.length : Nat) : Int) c * b.nx.length + b.at ((u % b.nx.length : Nat) : Int) c
def pairG (a b : Lw) (f : Bool → Bool → Bool) (u : Nat) : Bool := f (a.good ((u / b.nx.length : Nat) : Int)) (b.good ((u % b.nx.length : Nat) : Int))
theorem pair_bd {n m s t : Nat} (hs : s < n) (ht : t < m) : s * m + t < n * m := by
 have : (s + 1) * m ≤ n * m := Nat.mul_le_mul_right m hs
 rw [Nat.succ_mul] at this
 omega
theorem pairF_bd {a b : Lw} (ha : a.Ok) (hb : b.Ok) (hk : a.k = b.k) {u c : Nat} (hu : u < a.nx.length * b.nx.length) (hc : c < a.k) : 0 ≤ pairF a b u c ∧ pairF a b u c < ((a.nx.length * b.nx.length : Nat) : Int) := by
 have hm := hb.n1
 have h1 : u / b.nx.length < a.nx.length := Nat.div_lt_of_lt_mul (by rw [Nat.mul_comm]; exact hu)
 have h2 : u % b.nx.length < b.nx.length := Nat.mod_lt _ hm
 obtain ⟨s, es, hs⟩ := (ha.cl (s := ((u / b.nx.length : Nat) : Int)) ⟨Int.natCast_nonneg _, Int.ofNat_lt.2 h1⟩ hc).nat
 obtain ⟨t, et, ht⟩ := (hb.cl (s := ((u % b.nx.length : Nat) : Int)) ⟨Int.natCast_nonneg _, Int.ofNat_lt.2 h2⟩ (by rw [← hk]; exact hc)).nat
 unfold pairF
 rw [es, et]
 have := pair_bd hs ht
 refine ⟨by omega, by exact_mod_cast this⟩
theorem pair_fut {a b : Lw} (ha : a.Ok) (hb : b.Ok) (hk : a.k = b.k) (f : Bool → Bool → Bool) : Fut (sysL (lawOf (a.nx.length * b.nx.length) a.k (pairF a b) (pairG a b f))) 0 = Fut (jointS a b (0, 0) f) (0, 0) := by
 have hn1 := ha.n1
 have hm1 := hb.n1
 have h1 : 1 ≤ a.nx.length * b.nx.length := Nat.mul_pos hn1 hm1
 funext w
 refine (fut_rel (x := jointS a b (0, 0) f) (y := sysL (lawOf (a.nx.length * b.nx.length) a.k (pairF a b) (pairG a b f))) (fun p q => ∃ s t : Nat, s < a.nx.length ∧ t < b.nx.length ∧ p = ((s : Int), (t : Int)) ∧ q = ((s * b.nx.length + t : Nat) : Int)) (lawOf_k _ _ h1).symm (fun p q h => ?_) (fun p q c h hc => ?_) w (0, 0) 0 ⟨0, 0, by omega, by omega, rfl, by simp⟩).symm
 ·obtain ⟨s, t, hs, ht, rfl, rfl⟩ := h
  show f (a.good s) (b.good t) = (lawOf _ _ _ _).good _
  rw [lawOf_good _ _ (pair_bd hs ht)]
  unfold pairG
  rw [show (s * b.nx.length + t) / b.nx.length = s by rw [Nat.mul_comm, Nat.mul_add_div hm1, Nat.div_eq_of_lt ht]; omega, show (s * b.nx.length + t) % b.nx.length = t by rw [Nat.mul_comm, Nat.mul_add_mod, Nat.mod_eq_of_lt ht]]
 ·obtain ⟨s, t, hs, ht, rfl, rfl⟩ := h
  have hc1 : c < a.k := hc
  obtain ⟨s', es, hs'⟩ := (ha.cl (s := (s : Int)) ⟨by omega, by omega⟩ hc1).nat
  obtain ⟨t', et, ht'⟩ := (hb.cl (s := (t : Int)) ⟨by omega, by omega⟩ (by rw [← hk]; exact hc1)).nat
  refine ⟨s', t', hs', ht', ?_, ?_⟩
  ·show (a.at s c, b.at t c) = _
   rw [es, et]
  ·show (lawOf _ _ _ _).at _ c = _
   rw [lawOf_at _ _ (pair_bd hs ht) hc1]
   unfold pairF
   rw [show (s * b.nx.length + t) / b.nx.length = s by rw [Nat.mul_comm, Nat.mul_add_div hm1, Nat.div_eq_of_lt ht]; omega, show (s * b.nx.length + t) % b.nx.length = t by rw [Nat.mul_comm, Nat.mul_add_mod, Nat.mod_eq_of_lt ht], es, et]
   push_cast
   rfl
/-- The law whose good states are the others. -/
def flipL (l : Lw) : Lw := ⟨l.nx, l.gd.map (!·)⟩
theorem flip_k (l : Lw) : (flipL l).k = l.k := rfl
theorem flip_at (l : Lw) : (flipL l).at = l.at := rfl
theorem flip_good {l : Lw} (h : l.gd.length = l.nx.length) {s : Int} (hs : l.st s) : (flipL l).good s = !l.good s := by
 obtain ⟨m, rfl, hm⟩ := hs.nat
 simp [flipL, Lw.good, h, hm]
theorem flip_ok {l : Lw} (h : l.Ok) : (flipL l).Ok := ⟨h.n1, h.n40, h.k1, h.k4, by simp only [flipL, List.length_map]; exact h.gd, h.row, h.ent⟩
theorem flip_fut {l : Lw} (h : l.Ok) : Fut (sysL (flipL l)) 0 = Fut (notS l) 0 := by
 funext w
 refine fut_rel (x := sysL (flipL l)) (y := notS l) (fun p q => p = q ∧ l.st p) rfl (fun p q hp => ?_) (fun p q c hp hc => ?_) w 0 0 ⟨rfl, h.st0⟩
 ·obtain ⟨rfl, hp⟩ := hp
  exact flip_good h.gd hp
 ·obtain ⟨rfl, hp⟩ := hp
  exact ⟨rfl, h.cl hp hc⟩
end Ytnjgglnpmhjmiaa
end Go.Proofs
