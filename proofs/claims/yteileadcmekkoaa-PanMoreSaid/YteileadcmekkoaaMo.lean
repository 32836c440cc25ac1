/- Pans: with longer waits, fewer strikes back or one more wait the pace is no less: plain Lean. -/
import Derived.Test.YteileadcmekkoaaTp
open Go Go.RowKit Go.YteileadcmekkoaaIt
namespace Go.Proofs
namespace Yteileadcmekkoaa
theorem pace_more {m : Nat} {ws ws' : List Wa} (hv : Val m ws) (hs : NS ws) (hv' : Val m ws') (hs' : NS ws') (hk : ∀ (a b : Nat) (Y : Nat → Int), Keeps ws' a b Y → Keeps ws a b Y) : pnum m ws * pden m ws' ≤ pnum m ws' * pden m ws := by
  obtain ⟨l, h⟩ := paceP hv' hs'
  exact pace_le hv hs (hk _ _ _ h.keep)
theorem keeps_app {ws : List Wa} {x : Wa} {a b : Int} {Y : Nat → Int} (h : Keeps (ws ++ [x]) a b Y) : Keeps ws a b Y := keeps_mem.2 fun y hy => keeps_mem.1 h y (List.mem_append_left _ hy)
/-- A wait that is longer, or goes fewer strikes back, asks for more. -/
theorem keeps_set {ws : List Wa} {k : Nat} {x : Wa} {a b : Nat} {Y : Nat → Int} (hk : k < ws.length) (hf : x.f = ws[k].f) (ht : x.t = ws[k].t) (hh : ws[k].hi ≤ x.hi) (hb : x.b ≤ ws[k].b) (h : Keeps (ws.set k x) a b Y) : Keeps ws a b Y := by
  refine keeps_mem.2 fun y hy => ?_
  obtain ⟨i, hi, he⟩ := List.getElem_of_mem hy
  by_cases hik : i = k
  · subst hik
    have h1 := keeps_mem.1 h x (List.mem_iff_getElem.2 ⟨i, by simpa using hi, by simp⟩)
    rw [he] at hf ht hh hb
    rw [hf, ht] at h1
    have h2 : y.hi * (b : Int) ≤ x.hi * (b : Int) := Int.mul_le_mul_of_nonneg_right hh (by omega)
    have h3 : x.b * (a : Int) ≤ y.b * (a : Int) := Int.mul_le_mul_of_nonneg_right hb (by omega)
    omega
  · refine keeps_mem.1 h y (List.mem_iff_getElem.2 ⟨i, by simpa using hi, ?_⟩)
    rw [List.getElem_set_ne (fun e => hik e.symm)]
    exact he
/-- All times multiplied. -/
def mulT (n : Int) (x : Wa) : Wa := ⟨x.f, x.t, n * x.lo, n * x.hi, x.b⟩
theorem keeps_mul {ws : List Wa} {n a b : Int} {Y : Nat → Int} (hn : 0 ≤ n) (h : Keeps ws a b Y) : Keeps (ws.map (mulT n)) (n * a) b (fun v => n * Y v) := by
  refine keeps_mem.2 fun y hy => ?_
  obtain ⟨x, hx, rfl⟩ := List.mem_map.1 hy
  have h1 := keeps_mem.1 h x hx
  have h2 := Int.mul_le_mul_of_nonneg_left h1 hn
  simp only [mulT]
  have e : n * (Y x.f.toNat + (x.hi * b - x.b * a)) = n * Y x.f.toNat + (n * x.hi * b - x.b * (n * a)) := by
    have e1 : n * x.hi * b = n * (x.hi * b) := Int.mul_assoc _ _ _
    have e2 : x.b * (n * a) = n * (x.b * a) := by rw [← Int.mul_assoc, Int.mul_comm x.b n, Int.mul_assoc]
    rw [Int.mul_add, Int.mul_sub, e1, e2]
  rw [e] at h2
  exact h2
/-- Twice as many strikes back. -/
def dblB (x : Wa) : Wa := ⟨x.f, x.t, x.lo, x.hi, x.b * 2⟩
theorem keeps_dbl {ws : List Wa} {a b : Int} {Y : Nat → Int} (h : Keeps ws a b Y) : Keeps (ws.map dblB) a (2 * b) (fun v => 2 * Y v) := by
  refine keeps_mem.2 fun y hy => ?_
  obtain ⟨x, hx, rfl⟩ := List.mem_map.1 hy
  have h1 := keeps_mem.1 h x hx
  simp only [dblB]
  have e1 : x.hi * (2 * b) = 2 * (x.hi * b) := by rw [← Int.mul_assoc, Int.mul_comm x.hi 2, Int.mul_assoc]
  have e2 : x.b * 2 * a = 2 * (x.b * a) := by rw [Int.mul_comm x.b 2, Int.mul_assoc]
  rw [e1, e2]
  omega
theorem val_mul {m : Nat} {ws : List Wa} (hv : Val m ws) {n : Int} (hn : 1 ≤ n) (hh : ∀ x ∈ ws, n * x.hi ≤ 10000) : Val m (ws.map (mulT n)) := by
  rw [val_mem] at hv ⊢
  refine ⟨hv.1, by rw [List.length_map]; exact hv.2.1, fun y hy => ?_⟩
  obtain ⟨x, hx, rfl⟩ := List.mem_map.1 hy
  obtain ⟨h1, h2, h3, h4, h5⟩ := hv.2.2 x hx
  exact ⟨h1, h2, ⟨Int.mul_nonneg (by omega) h3.1, Int.mul_le_mul_of_nonneg_left h3.2 (by omega)⟩, hh x hx, h5⟩
theorem ns_mul {ws : List Wa} (n : Int) : NS (ws.map (mulT n)) ↔ NS ws := by
  rw [ns_mem, ns_mem]
  constructor
  · rintro ⟨rk, h⟩
    exact ⟨rk, fun x hx hb => h (mulT n x) (List.mem_map_of_mem hx) hb⟩
  · rintro ⟨rk, h⟩
    refine ⟨rk, fun y hy hb => ?_⟩
    obtain ⟨x, hx, rfl⟩ := List.mem_map.1 hy
    exact h x hx hb
theorem val_dbl {m : Nat} {ws : List Wa} (hv : Val m ws) (hh : ∀ x ∈ ws, x.b * 2 ≤ 4) : Val m (ws.map dblB) := by
  rw [val_mem] at hv ⊢
  refine ⟨hv.1, by rw [List.length_map]; exact hv.2.1, fun y hy => ?_⟩
  obtain ⟨x, hx, rfl⟩ := List.mem_map.1 hy
  obtain ⟨h1, h2, h3, h4, h5⟩ := hv.2.2 x hx
  have h6 := hh x hx
  exact ⟨h1, h2, h3, h4, ⟨by simp only [dblB]; omega, h6⟩⟩
theorem ns_dbl {ws : List Wa} : NS (ws.map dblB) ↔ NS ws := by
  rw [ns_mem, ns_mem]
  constructor
  · rintro ⟨rk, h⟩
    exact ⟨rk, fun x hx hb => h (dblB x) (List.mem_map_of_mem hx) (by simp only [dblB]; omega)⟩
  · rintro ⟨rk, h⟩
    refine ⟨rk, fun y hy hb => ?_⟩
    obtain ⟨x, hx, rfl⟩ := List.mem_map.1 hy
    simp only [dblB] at hb
    exact h x hx (by omega)
theorem keeps_unmul {ws : List Wa} {n a b : Int} {Y : Nat → Int} (h : Keeps (ws.map (mulT n)) a b Y) : Keeps ws a (n * b) Y := by
  refine keeps_mem.2 fun x hx => ?_
  have h1 := keeps_mem.1 h (mulT n x) (List.mem_map_of_mem hx)
  simp only [mulT] at h1
  have e : x.hi * (n * b) = n * x.hi * b := by rw [← Int.mul_assoc, Int.mul_comm x.hi n]
  rw [e]; exact h1
theorem keeps_undbl {ws : List Wa} {a b : Int} {Y : Nat → Int} (h : Keeps (ws.map dblB) a b Y) : Keeps ws (2 * a) b Y := by
  refine keeps_mem.2 fun x hx => ?_
  have h1 := keeps_mem.1 h (dblB x) (List.mem_map_of_mem hx)
  simp only [dblB] at h1
  have e : x.b * (2 * a) = x.b * 2 * a := (Int.mul_assoc _ _ _).symm
  rw [e]; exact h1
/-- Multiplied times multiply the pace. -/
theorem pace_mul {m n : Nat} {ws : List Wa} (hv : Val m ws) (hs : NS ws) (hv' : Val m (ws.map (mulT n))) : pnum m (ws.map (mulT n)) * pden m ws = n * pnum m ws * pden m (ws.map (mulT n)) := by
  have hs' : NS (ws.map (mulT n)) := (ns_mul _).2 hs
  obtain ⟨l, h⟩ := paceP hv hs
  obtain ⟨l', h'⟩ := paceP hv' hs'
  apply Nat.le_antisymm
  · have hk := keeps_mul (n := (n : Int)) (by omega) h.keep
    have := pace_le hv' hs' (a := n * pnum m ws) (b := pden m ws) (Y := fun v => (n : Int) * ptab m ws v) (by push_cast; exact hk)
    exact this
  · have hk := keeps_unmul h'.keep
    have := pace_le hv hs (a := pnum m (ws.map (mulT n))) (b := n * pden m (ws.map (mulT n))) (Y := ptab m (ws.map (mulT n))) (by push_cast; exact hk)
    have e : pnum m ws * (n * pden m (ws.map (mulT n))) = n * pnum m ws * pden m (ws.map (mulT n)) := by rw [← Nat.mul_assoc, Nat.mul_comm (pnum m ws) n]
    rw [e] at this
    exact this
theorem pace_dbl {m : Nat} {ws : List Wa} (hv : Val m ws) (hs : NS ws) (hv' : Val m (ws.map dblB)) : 2 * pnum m (ws.map dblB) * pden m ws = pnum m ws * pden m (ws.map dblB) := by
  have hs' : NS (ws.map dblB) := ns_dbl.2 hs
  obtain ⟨l, h⟩ := paceP hv hs
  obtain ⟨l', h'⟩ := paceP hv' hs'
  apply Nat.le_antisymm
  · have hk := keeps_dbl h.keep
    have := pace_le hv' hs' (a := pnum m ws) (b := 2 * pden m ws) (Y := fun v => 2 * ptab m ws v) (by push_cast; exact hk)
    have e : pnum m (ws.map dblB) * (2 * pden m ws) = 2 * pnum m (ws.map dblB) * pden m ws := by rw [← Nat.mul_assoc, Nat.mul_comm (pnum m (ws.map dblB)) 2]
    rw [e] at this
    exact this
  · have hk := keeps_undbl h'.keep
    have := pace_le hv hs (a := 2 * pnum m (ws.map dblB)) (b := pden m (ws.map dblB)) (Y := ptab m (ws.map dblB)) (by push_cast; exact hk)
    exact this
/-- What keeps waits that weigh c times as much is c times the least timetable at least. -/
theorem least_scale {m : Nat} {ws : List Wa} {p d : Nat} {T : Nat → Int} {l : List Nat} (h : Slow m ws p d T l) {c : Int} (hc : 1 ≤ c) {Y : Nat → Int} (h0 : ∀ v, 0 ≤ Y v) (hk : ∀ x ∈ ws, Y x.f.toNat + c * (x.hi * d - x.b * p) ≤ Y x.t.toNat) (v : Nat) : c * T v ≤ Y v := by
  have h1 := h.least (fun v => Y v / c) (keeps_mem.2 fun x hx => by
    have h2 := hk x hx
    have h3 : (Y x.f.toNat + c * (x.hi * d - x.b * p)) / c ≤ Y x.t.toNat / c := Int.ediv_le_ediv (by omega) h2
    rw [Int.add_mul_ediv_left _ _ (by omega)] at h3
    exact h3) (fun v => Int.ediv_nonneg (h0 v) (by omega)) v
  have h4 : c * T v ≤ c * (Y v / c) := Int.mul_le_mul_of_nonneg_left h1 (by omega)
  have h5 : c * (Y v / c) ≤ Y v := Int.mul_ediv_self_le (by omega)
  omega
/-- Multiplied times multiply the timetable. -/
theorem tab_mul {m n : Nat} {ws : List Wa} (hv : Val m ws) (hs : NS ws) (hn : 1 ≤ n) (hv' : Val m (ws.map (mulT n))) (v : Nat) : ptab m (ws.map (mulT n)) v * (pden m ws : Int) = n * ptab m ws v * (pden m (ws.map (mulT n)) : Int) := by
  have hs' : NS (ws.map (mulT n)) := (ns_mul _).2 hs
  have hp := pace_mul hv hs hv'
  obtain ⟨l, h⟩ := paceP hv hs
  obtain ⟨l', h'⟩ := paceP hv' hs'
  generalize hT : ptab m ws = T at *
  generalize hT' : ptab m (ws.map (mulT n)) = T' at *
  generalize pnum m ws = p at *
  generalize pnum m (ws.map (mulT n)) = p' at *
  have hd := h.b.2.1
  have hd' := h'.b.2.1
  generalize pden m ws = d at *
  generalize pden m (ws.map (mulT n)) = d' at *
  have hp2 : (p' : Int) * d = n * p * d' := by exact_mod_cast hp
  have hc1 : (1 : Int) ≤ n * d' := by
    have : 1 ≤ n * d' := Nat.mul_pos hn hd'
    exact_mod_cast this
  have key : ∀ x : Wa, ((d : Int)) * (n * x.hi * d' - x.b * p') = (n * d' : Int) * (x.hi * d - x.b * p) := fun x => by
    rw [Int.mul_sub, Int.mul_sub]
    have e1 : (d : Int) * (n * x.hi * d') = n * d' * (x.hi * d) := by
      rw [Int.mul_comm (d : Int), Int.mul_assoc (n : Int), Int.mul_comm x.hi d', ← Int.mul_assoc (n : Int), Int.mul_assoc (n * d' : Int)]
    have e2 : (d : Int) * (x.b * p') = n * d' * (x.b * p) := by
      have : (d : Int) * (x.b * p') = x.b * (p' * d) := by rw [Int.mul_comm (d : Int), Int.mul_assoc]
      rw [this, hp2, ← Int.mul_assoc, ← Int.mul_assoc, ← Int.mul_assoc]
      rw [Int.mul_comm x.b n, Int.mul_assoc (n : Int) x.b p, Int.mul_assoc (n : Int) (x.b * p) d', Int.mul_comm (x.b * p) d', ← Int.mul_assoc (n : Int), ← Int.mul_assoc]
    rw [e1, e2]
  apply Int.le_antisymm
  · -- T' is the least: what is left of n d' T / d keeps it
    have h1 := h'.least (fun v => (n * d' * T v) / d) (keeps_mem.2 fun y hy => by
      obtain ⟨x, hx, rfl⟩ := List.mem_map.1 hy
      have h2 := keeps_mem.1 h.keep x hx
      have h3 : (n * d' : Int) * (T x.f.toNat + (x.hi * d - x.b * p)) ≤ n * d' * T x.t.toNat := Int.mul_le_mul_of_nonneg_left h2 (by omega)
      rw [Int.mul_add, ← key x] at h3
      have h4 : ((n * d' : Int) * T x.f.toNat + d * (n * x.hi * d' - x.b * p')) / d ≤ (n * d' * T x.t.toNat) / d := Int.ediv_le_ediv (by omega) h3
      rw [Int.add_mul_ediv_left _ _ (by omega)] at h4
      exact h4) (fun v => Int.ediv_nonneg (Int.mul_nonneg (by omega) (h.nn v)) (by omega)) v
    have h5 : T' v * (d : Int) ≤ (n * d' * T v) / d * d := Int.mul_le_mul_of_nonneg_right h1 (by omega)
    have h6 : (n * d' * T v) / d * d ≤ n * d' * T v := Int.ediv_mul_le _ (by omega)
    have e : (n : Int) * T v * d' = n * d' * T v := by rw [Int.mul_assoc, Int.mul_comm (T v), ← Int.mul_assoc]
    rw [e]; omega
  · have h1 := least_scale h (c := n * d') hc1 (Y := fun v => d * T' v) (fun v => Int.mul_nonneg (by omega) (h'.nn v)) (fun x hx => by
      have h2 := keeps_mem.1 h'.keep (mulT n x) (List.mem_map_of_mem hx)
      simp only [mulT] at h2
      have h3 : (d : Int) * (T' x.f.toNat + (n * x.hi * d' - x.b * p')) ≤ d * T' x.t.toNat := Int.mul_le_mul_of_nonneg_left h2 (by omega)
      rw [Int.mul_add, key x] at h3
      exact h3) v
    have e : (n : Int) * T v * d' = n * d' * T v := by rw [Int.mul_assoc, Int.mul_comm (T v), ← Int.mul_assoc]
    rw [e, Int.mul_comm (T' v)]
    exact h1
end Yteileadcmekkoaa
end Go.Proofs
