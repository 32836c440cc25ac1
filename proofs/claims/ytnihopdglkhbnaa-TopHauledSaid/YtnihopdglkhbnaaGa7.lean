/- Gangs: the sugar of a best plan is that of its fields. -/
import Derived.Test.YtnihopdglkhbnaaGa6
open Go Go.RowKit Go.YtnihopdglkhbnaaIt
namespace Go.Proofs
namespace Ytnihopdglkhbnaa
theorem rowG_gf {fs : List (List Int)} (ok : FOk fs) {i : Nat} (hi : i < fs.length) {j : Nat} (hj : j < (tabR fs i).length) : (mkG (tabR fs i)[j] i).g = (tabR fs i)[j] ∧ (mkG (tabR fs i)[j] i).f = i := by
  have h := ok.good i hi j hj
  rw [at0_lt hj] at h
  have := ok.n
  exact mkG_g h (by omega)
theorem rowG_f {fs : List (List Int)} (ok : FOk fs) {i : Nat} (hi : i < fs.length) {x : Gs} (hx : x ∈ rowG fs i) : x.f = i := by
  unfold rowG at hx
  obtain ⟨y, hy, rfl⟩ := List.mem_map.1 hx
  obtain ⟨j, hj, rfl⟩ := List.getElem_of_mem hy
  exact (rowG_gf ok hi hj).2
theorem rowG_g {fs : List (List Int)} (ok : FOk fs) {i : Nat} (hi : i < fs.length) : (rowG fs i).map Gs.g = tabR fs i := by
  unfold rowG
  rw [List.map_map]
  apply List.ext_getElem (by simp)
  intro j h1 h2
  simp only [List.getElem_map, Function.comp]
  exact (rowG_gf ok hi h2).1
theorem row_mono {fs : List (List Int)} (ok : FOk fs) {i : Nat} (hi : i < fs.length) : ∀ b a, a ≤ b → b < (tabR fs i).length → at0 (tabR fs i) b ≤ at0 (tabR fs i) a
  | 0, a, h, _ => by have : a = 0 := by omega
                     subst this; exact Int.le_refl _
  | b + 1, a, h, hb => by
    by_cases e : a = b + 1
    · subst e; exact Int.le_refl _
    · exact Int.le_trans (ok.after i hi b hb) (row_mono ok hi b a (by omega) (by omega))
theorem lt_iff {x y : Gs} : ltOf cfG y x = false ↔ y.g < x.g ∨ (y.g = x.g ∧ x.f ≤ y.f) := by
  unfold ltOf cfG
  rw [decide_eq_false_iff_not]
  split <;> omega
theorem rowG_srt {fs : List (List Int)} (ok : FOk fs) {i : Nat} (hi : i < fs.length) : (rowG fs i).Pairwise fun x y => ltOf cfG y x = false := by
  rw [List.pairwise_iff_getElem]
  intro a b ha hb hab
  have ha' : a < (tabR fs i).length := by simpa [rowG] using ha
  have hb' : b < (tabR fs i).length := by simpa [rowG] using hb
  have e1 : (rowG fs i)[a] = mkG (tabR fs i)[a] i := by simp [rowG]
  have e2 : (rowG fs i)[b] = mkG (tabR fs i)[b] i := by simp [rowG]
  rw [e1, e2, lt_iff, (rowG_gf ok hi ha').1, (rowG_gf ok hi ha').2, (rowG_gf ok hi hb').1, (rowG_gf ok hi hb').2]
  have := row_mono ok hi b a (by omega) hb'
  rw [at0_lt ha', at0_lt hb'] at this
  omega
theorem filt_all {fs : List (List Int)} (ok : FOk fs) {i : Nat} : ∀ n, n ≤ fs.length → (allN fs n).filter (fun x => x.f == (i : Int)) = if i < n then rowG fs i else []
  | 0, _ => by simp [allN]
  | n + 1, hn => by
    rw [allN_succ, List.filter_append, filt_all ok n (by omega)]
    by_cases h1 : i < n
    · rw [if_pos h1, if_pos (by omega)]
      have : (rowG fs n).filter (fun x => x.f == (i : Int)) = [] := by
        rw [List.filter_eq_nil_iff]
        intro x hx
        rw [rowG_f ok (by omega) hx]; simp; omega
      rw [this, List.append_nil]
    · rw [if_neg h1, List.nil_append]
      by_cases h2 : i = n
      · subst h2
        rw [if_pos (by omega), List.filter_eq_self]
        intro x hx
        rw [rowG_f ok (by omega) hx]; simp
      · rw [if_neg (by omega), List.filter_eq_nil_iff]
        intro x hx
        rw [rowG_f ok (by omega) hx]; simp; omega
theorem gone_pre {fs : List (List Int)} (ok : FOk fs) {ys : List Gs} (hp : ys.Perm (allN fs fs.length)) (hs : ys.Pairwise fun x y => ltOf cfG y x = false) {i : Nat} (hi : i < fs.length) (k : Nat) :
    (ys.take k).filter (fun x => x.f == (i : Int)) = (rowG fs i).take ((ys.take k).filter (fun x => x.f == (i : Int))).length := by
  have h1 : ys.filter (fun x => x.f == (i : Int)) = rowG fs i := by
    refine List.Perm.eq_of_pairwise (le := fun x y => ltOf cfG y x = false) ?_ (hs.filter _) (rowG_srt ok hi) ?_
    · intro a b _ _ h1 h2
      rw [lt_iff] at h1 h2
      exact Gs.ext (by omega) (by omega)
    · have := hp.filter (fun x => x.f == (i : Int))
      rw [filt_all ok fs.length (Nat.le_refl _), if_pos hi] at this
      exact this
  have h2 := List.IsPrefix.filter (fun x : Gs => x.f == (i : Int)) (List.take_prefix k ys)
  rw [h1] at h2
  exact List.prefix_iff_eq_take.1 h2
theorem sum_ite (n f : Nat) (c : Int) (h : f < n) : ((List.range n).map fun (i : Nat) => if f = i then c else 0).sum = c := by
  induction n with
  | zero => omega
  | succ n ih =>
    rw [List.range_succ, List.map_append, List.sum_append]
    by_cases e : f = n
    · subst e
      have : ((List.range f).map fun (i : Nat) => if f = i then c else 0) = (List.range f).map fun _ => 0 := by
        apply List.map_congr_left; intro i hi; rw [if_neg (by have := List.mem_range.1 hi; omega)]
      rw [this]
      have z : ∀ m : Nat, ((List.range m).map fun _ => (0 : Int)).sum = 0 := fun m => by
        induction m with
        | zero => rfl
        | succ m ih2 => rw [List.range_succ, List.map_append, List.sum_append, ih2]; simp
      rw [z]; simp
    · rw [ih (by omega)]; simp [e]
theorem sum_add (n : Nat) (a b : Nat → Int) : ((List.range n).map fun i => a i + b i).sum = ((List.range n).map a).sum + ((List.range n).map b).sum := by
  induction n with
  | zero => rfl
  | succ n ih => rw [List.range_succ]; simp only [List.map_append, List.sum_append, ih]; simp; omega
theorem sum_part (n : Nat) : ∀ l : List Gs, (∀ x ∈ l, ∃ f : Nat, f < n ∧ x.f = f) → (l.map Gs.g).sum = ((List.range n).map fun (i : Nat) => ((l.filter fun x => x.f == (i : Int)).map Gs.g).sum).sum
  | [], _ => by
    have z : ∀ m : Nat, ((List.range m).map fun (_ : Nat) => (0 : Int)).sum = 0 := fun m => by
      induction m with
      | zero => rfl
      | succ m ih2 => rw [List.range_succ, List.map_append, List.sum_append, ih2]; simp
    simp only [List.filter_nil, List.map_nil, List.sum_nil]
    exact (z n).symm
  | x :: l, h => by
    obtain ⟨f, hf, hx⟩ := h x (by simp)
    rw [List.map_cons, List.sum_cons, sum_part n l (fun y hy => h y (by simp [hy])), ← sum_ite n f x.g hf, ← sum_add]
    congr 1
    apply List.map_congr_left
    intro i _
    rw [List.filter_cons]
    by_cases e : f = i
    · subst e; simp [hx]
    · have : (x.f == (i : Int)) = false := by rw [hx]; simp; omega
      simp [this, e]
/-- The sugar of the first gangs of a field. -/
def preS (fs : List (List Int)) (P : List Int) (i : Nat) : Int := ((tabR fs i).take (at0 P i).toNat).sum
theorem plan_sum {fs : List (List Int)} (ok : FOk fs) {ys : List Gs} (hp : ys.Perm (allN fs fs.length)) (hs : ys.Pairwise fun x y => ltOf cfG y x = false) (k : Nat) :
    sugK ys k = ((List.range fs.length).map (preS fs (gone ys fs.length k))).sum ∧ ∀ i, i < fs.length → 0 ≤ at0 (gone ys fs.length k) i ∧ at0 (gone ys fs.length k) i ≤ (tabR fs i).length := by
  refine ⟨?_, fun i hi => ?_⟩
  · unfold sugK
    rw [sum_part fs.length (ys.take k) (fun x hx => allN_f (hp.subset (List.mem_of_mem_take hx)))]
    congr 1
    apply List.map_congr_left
    intro i hi
    have hi := List.mem_range.1 hi
    unfold preS
    rw [gone_at hi, Int.toNat_natCast, ← rowG_g ok hi, ← List.map_take, ← gone_pre ok hp hs hi k]
  · rw [gone_at hi]
    have h := gone_pre ok hp hs hi k
    have h2 := congrArg List.length h
    rw [List.length_take] at h2
    have h3 : (rowG fs i).length = (tabR fs i).length := by simp [rowG]
    omega
set_option maxHeartbeats 1000000 in
theorem gbest_any (v : Value) (fs : List (List Int)) (g0 : Int) (w : World) (ok : FOk fs) (h12 : (allN fs fs.length).length ≤ 12) (hg : 0 ≤ g0 ∧ g0 ≤ 200) (hv : SlII w v fs) :
    Calls Try.prog 5 #[v, .int .i64 g0] w fun e w' => ∃ (u : Value) (P : List Int) (s : Int), e = .returned (.tuple #[u, .int .i64 s, .int .i64 0]) ∧ SlI w' u P ∧ P.length = fs.length ∧ s = ((List.range fs.length).map (preS fs P)).sum ∧
      (∀ i, i < fs.length → 0 ≤ at0 P i ∧ at0 P i ≤ (tabR fs i).length) ∧ Below w.heap.size w w' := by
  have h1 := checked_any v fs g0 w ok hv hg
  have h2 := fun (W : World) (hW : Below w.heap.size w W) => best_any v fs g0 W ok h12 hg (hv.below hW (Nat.le_refl _))
  have H2 := Lib.hid h2
  have HOK := Lib.hid ok
  clear h2 ok h12
  obtain ⟨ad, cap, rfl, -, -, -⟩ := hv.opened
  clear hv
  go_enter Try.func5, Try.ntmps5
  go_wp2_with (first | (go_at_call 9; refine h1.mono ?_; rintro e w2 ⟨rfl, hb⟩; have h2 := H2.out w2 hb) | (go_at_call 10; refine h2.mono ?_; rintro e w3 ⟨ys, u, k, rfl, hp, hs, hk, hu, hb3⟩; obtain ⟨au, cu, rfl, -, -⟩ := id hu))
  go_ret3
  have hps := plan_sum HOK.out hp hs k
  exact ⟨_, _, _, rfl, hu, gone_len _ _ _, hps.1, hps.2, btr hb hb3 (Nat.le_refl _)⟩
end Ytnihopdglkhbnaa
end Go.Proofs
