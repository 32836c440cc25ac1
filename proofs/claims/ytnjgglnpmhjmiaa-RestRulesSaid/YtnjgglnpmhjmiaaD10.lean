/- Laws of rotation, plainly: the first list by which laws differ, among all lists of at most 8 years. -/
import Derived.Test.YtnjgglnpmhjmiaaD3
import Derived.Test.YtnjgglnpmhjmiaaD8
open Go Go.RowKit Go.YtnjgglnpmhjmiaaIt
open Rest
namespace Go.Proofs
namespace Ytnjgglnpmhjmiaa
theorem range_two : ∀ (k s : Nat), ((List.range' s k).flatMap fun m => [2 * m, 2 * m + 1]) = List.range' (2 * s) (2 * k)
  | 0, s => rfl
  | k + 1, s => by
    rw [List.range'_succ, List.flatMap_cons, range_two k (s + 1), show 2 * (k + 1) = (2 * k + 1) + 1 by omega, List.range'_succ, List.range'_succ]
    rfl
theorem lev_codes : ∀ n, (levL n).map (fun ys => code (toW ys)) = List.range' (2 ^ n) (2 ^ n)
  | 0 => rfl
  | n + 1 => by
    have h : ∀ ls : List (List Int), (ls.flatMap fun l => [l ++ [0], l ++ [1]]).map (fun ys => code (toW ys)) = (ls.map fun ys => code (toW ys)).flatMap fun m => [2 * m, 2 * m + 1] := fun ls => by
      induction ls with
      | nil => rfl
      | cons l ls ih =>
        show _ = (code (toW l) :: ls.map fun ys => code (toW ys)).flatMap fun m => [2 * m, 2 * m + 1]
        rw [List.flatMap_cons, List.map_append, ih, List.flatMap_cons]
        congr 1
        simp only [List.map_cons, List.map_nil, toW_app]
        rw [show toW [0] = [0] from rfl, show toW [1] = [1] from rfl, code_snoc, code_snoc]
        rfl
    rw [levL, h, lev_codes n, range_two, Nat.pow_succ, Nat.mul_comm]
theorem all_codes : ∀ n, (allL n).map (fun ys => code (toW ys)) = List.range' 1 (2 ^ (n + 1) - 1)
  | 0 => rfl
  | n + 1 => by
    have h1 := Nat.one_le_two_pow (n := n + 1)
    rw [allL, List.map_append, all_codes n, lev_codes, show 2 ^ (n + 1 + 1) - 1 = (2 ^ (n + 1) - 1) + 2 ^ (n + 1) by rw [Nat.pow_succ 2 (n + 1)]; omega, ← List.range'_append_1]
    congr 2
    omega
theorem all_code {n i : Nat} (h : i < (allL n).length) : code (toW (allL n)[i]) = i + 1 := by
  have h1 := all_codes n
  have h2 : ((allL n).map (fun ys => code (toW ys)))[i]'(by rw [List.length_map]; exact h) = i + 1 := by
    simp only [h1, List.getElem_range']
    omega
  rwa [List.getElem_map] at h2
theorem all_has {n : Nat} {v : List Nat} (hv : Wd 2 v) (hl : v.length ≤ n) : ∃ (i : Nat) (h : i < (allL n).length), toW (allL n)[i] = v ∧ i + 1 = code v := by
  have h1 := code_bd v hv
  have h2 : 2 ^ (v.length + 1) ≤ 2 ^ (n + 1) := Nat.pow_le_pow_right (by decide) (by omega)
  have h3 := Nat.one_le_two_pow (n := v.length)
  have hlt : code v - 1 < (allL n).length := by rw [allL_len]; omega
  refine ⟨code v - 1, hlt, ?_, by omega⟩
  refine code_inj _ (toW_wd (allL_wd n _ (List.getElem_mem hlt)).2) _ hv ?_
  rw [all_code hlt]
  omega
theorem nI_toW : ∀ {ys : List Int}, (∀ c ∈ ys, 0 ≤ c ∧ c < 2) → nI (toW ys) = ys
  | [], _ => rfl
  | c :: ys, h => by
    have h1 := h c (List.mem_cons_self)
    have h2 := nI_toW (ys := ys) fun d hd => h d (List.mem_cons_of_mem _ hd)
    show ((c.toNat : Nat) : Int) :: nI (toW ys) = c :: ys
    rw [h2, show ((c.toNat : Nat) : Int) = c by omega]
theorem len_lt_code {u v : List Nat} (hu : Wd 2 u) (hv : Wd 2 v) (h : v.length < u.length) : code v < code u := by
  have h1 := (code_bd v hv).2
  have h2 := (code_bd u hu).1
  have h3 : 2 ^ (v.length + 1) ≤ 2 ^ u.length := Nat.pow_le_pow_right (by decide) (by omega)
  omega
section
variable {a b : Lw} {n m : Nat}
theorem diff_fut (ha : Tw a n) (hb : Tw b m) {w : List Nat} (hw : Wd 2 w) : Fut (diffS a b (0, 0)) (0, 0) w = (Wl a w != Wl b w) := by
  have e1 : Fut (diffS a b (0, 0)) (0, 0) w = (a.good ((diffS a b (0, 0)).run (0, 0) w).1 != b.good ((diffS a b (0, 0)).run (0, 0) w).2) := fut_ok (x := diffS a b (0, 0)) (by show Wd a.k w; rw [ha.k2]; exact hw)
  rw [e1, show (diffS a b (0, 0)).run (0, 0) w = ((sysL a).run 0 w, (sysL b).run 0 w) from joint_run w 0 0]
  show _ = (Fut (sysL a) 0 w != Fut (sysL b) 0 w)
  rw [fut_ok (x := sysL a) (by show Wd a.k w; rw [ha.k2]; exact hw), fut_ok (x := sysL b) (by show Wd b.k w; rw [hb.k2]; exact hw)]
  rfl
theorem diff_walk (ha : Tw a n) (hb : Tw b m) : ∃ L, Walk (diffS a b (0, 0)) L := by
  obtain ⟨L, hL, -⟩ := joint_walk ha.ok hb.ok (ha.k2.trans hb.k2.symm) (fun a b => a != b) (st := (0, 0)) ⟨ha.ok.st0, hb.ok.st0⟩
  exact ⟨L, hL⟩
theorem dF_some (ha : Tw a n) (hb : Tw b m) {u : List Nat} (hu : Wd 2 u) (hg : Wl a u ≠ Wl b u) (hmin : ∀ v, Wd 2 v → Wl a v ≠ Wl b v → code u ≤ code v) : firstO (diffS a b (0, 0)) = some u := by
  obtain ⟨L, hL⟩ := diff_walk ha hb
  exact firstO_some hL ha.k2 hu (by rw [show (diffS a b (0, 0)).start = (0, 0) from rfl, diff_fut ha hb hu]; simpa using hg) fun v hv h => hmin v hv (by rw [show (diffS a b (0, 0)).start = (0, 0) from rfl, diff_fut ha hb hv] at h; simpa using h)
theorem dF_none (ha : Tw a n) (hb : Tw b m) (h : ∀ v, Wd 2 v → Wl a v = Wl b v) : firstO (diffS a b (0, 0)) = none := by
  obtain ⟨L, hL⟩ := diff_walk ha hb
  exact firstO_none hL ha.k2 fun v hv => by rw [show (diffS a b (0, 0)).start = (0, 0) from rfl, diff_fut ha hb hv, h v hv]; simp
theorem dF_symm (ha : Tw a n) (hb : Tw b m) : firstO (diffS b a (0, 0)) = firstO (diffS a b (0, 0)) := by
  by_cases hx : ∃ v, Wd 2 v ∧ Wl a v ≠ Wl b v
  · obtain ⟨v, hv, hg⟩ := hx
    obtain ⟨u, hu, h1, h2⟩ := first_ex (g := fun w => Wl a w != Wl b w) hv (by simpa using hg)
    have h1' : Wl a u ≠ Wl b u := by simpa using h1
    rw [dF_some ha hb hu h1' fun v hv h => h2 v hv (by simpa using h), dF_some hb ha hu (Ne.symm h1') fun v hv h => h2 v hv (by simpa using Ne.symm h)]
  · have hn : ∀ v, Wd 2 v → Wl a v = Wl b v := fun v hv => Classical.byContradiction fun h => hx ⟨v, hv, h⟩
    rw [dF_none ha hb hn, dF_none hb ha fun v hv => (hn v hv).symm]
/-- The first of all lists by which two laws differ. -/
theorem diff_at (ha : Tw a a.nx.length) (hb : Tw b b.nx.length) {k i : Nat} (hi : i < (allL k).length) (hg : Wl a (toW (allL k)[i]) ≠ Wl b (toW (allL k)[i])) (hmin : ∀ j (h : j < i), Wl a (toW ((allL k)[j]'(by omega))) = Wl b (toW ((allL k)[j]'(by omega)))) : firstO (diffS a b (0, 0)) = some (toW (allL k)[i]) ∧ (toW (allL k)[i]).length + 2 ≤ a.nx.length + b.nx.length := by
  have hw := toW_wd (allL_wd k _ (List.getElem_mem hi)).2
  have hm : ∀ v, Wd 2 v → code v < code (toW (allL k)[i]) → Wl a v = Wl b v := fun v hv hc => by
    rw [all_code hi] at hc
    have h1 : code v ≥ 1 := Nat.le_trans Nat.one_le_two_pow (code_bd v hv).1
    have hlt : code v - 1 < (allL k).length := by omega
    have e : toW (allL k)[code v - 1] = v := code_inj _ (toW_wd (allL_wd k _ (List.getElem_mem hlt)).2) _ hv (by rw [all_code hlt]; omega)
    have := hmin (code v - 1) (by omega)
    rwa [e] at this
  refine ⟨dF_some ha hb hw hg fun v hv h => ?_, differ_bound ha.ok hb.ok ha.k2 hb.k2 hw hg fun v hv hl => hm v hv (len_lt_code hw hv hl)⟩
  apply Classical.byContradiction
  intro hc
  exact h (hm v hv (by omega))
/-- Without a list of at most 8 years there is none at all. -/
theorem diff_all (ha : Tw a a.nx.length) (hb : Tw b b.nx.length) (hn : a.nx.length + b.nx.length ≤ 10) (h : ∀ i (h : i < (allL 8).length), Wl a (toW (allL 8)[i]) = Wl b (toW (allL 8)[i])) : ∀ v, Wd 2 v → Wl a v = Wl b v := by
  intro v hv
  apply Classical.byContradiction
  intro hx
  obtain ⟨u, hu, h1, h2⟩ := first_ex (g := fun w => Wl a w != Wl b w) hv (by simpa using hx)
  have h1' : Wl a u ≠ Wl b u := by simpa using h1
  have h3 := differ_bound ha.ok hb.ok ha.k2 hb.k2 hu h1' fun v hv hl => by
    apply Classical.byContradiction
    intro h4
    have := h2 v hv (by simpa using h4)
    have := len_lt_code hu hv hl
    omega
  obtain ⟨i, hi, e, -⟩ := all_has (n := 8) hu (by omega)
  have := h i hi
  rw [e] at this
  exact h1' this
theorem Tw.self (h : Tw a n) : Tw a a.nx.length := ⟨h.ok, h.k2, Nat.le_refl _⟩
/-- The first of all lists that a law allows. -/
theorem first_at (ha : Tw a n) {k i : Nat} (hi : i < (allL k).length) (hg : Wl a (toW (allL k)[i]) = true) (hmin : ∀ j (h : j < i), Wl a (toW ((allL k)[j]'(by omega))) = false) : firstO (sysL a) = some (toW (allL k)[i]) := by
  have hw := toW_wd (allL_wd k _ (List.getElem_mem hi)).2
  obtain ⟨L, hL, -⟩ := ha.ok.walk
  refine firstO_some hL ha.k2 hw hg fun v hv h => ?_
  apply Classical.byContradiction
  intro hc
  rw [all_code hi] at hc
  have h1 : code v ≥ 1 := Nat.le_trans Nat.one_le_two_pow (code_bd v hv).1
  have hlt : code v - 1 < (allL k).length := by omega
  have e : toW (allL k)[code v - 1] = v := code_inj _ (toW_wd (allL_wd k _ (List.getElem_mem hlt)).2) _ hv (by rw [all_code hlt]; omega)
  have := hmin (code v - 1) (by omega)
  rw [e] at this
  have h' : Wl a v = true := h
  rw [this] at h'
  cases h'
theorem first_all (ha : Tw a n) (hn : n ≤ 9) (h : ∀ i (h : i < (allL 8).length), Wl a (toW (allL 8)[i]) = false) : firstO (sysL a) = none := by
  obtain ⟨L, hL, -⟩ := ha.ok.walk
  refine firstO_none hL ha.k2 fun v hv => ?_
  have h1 := diff_all (a := a) (b := lawN) ha.self lawN_tw.1.self (by have := ha.len; have : lawN.nx.length = 1 := rfl; omega) (fun i hi => by rw [h i hi, lawN_tw.2 _ (toW_wd (allL_wd 8 _ (List.getElem_mem hi)).2)]) v hv
  rw [lawN_tw.2 v hv] at h1
  exact h1
theorem least_ne (ha : Tw a n) (hb : Tw b m) {w : List Nat} (h : Wl a w ≠ Wl b w) : leastL a ≠ leastL b := fun e => h (by rw [← (leastL_tw ha).2 w, ← (leastL_tw hb).2 w, e])
end
end Ytnjgglnpmhjmiaa
end Go.Proofs
