/- Laws of rotation, plainly: rules, by what their words mean. -/
import Derived.Test.YtnjgglnpmhjmiaaD5
import Derived.Test.YtnjgglnpmhjmiaaD10
open Go Go.RowKit Go.YtnjgglnpmhjmiaaIt
open Rest
namespace Go.Proofs
namespace Ytnjgglnpmhjmiaa
/-- So many years of rest: i is the year, last the last one with the crop. -/
def restB (c n : Int) : List Int → Int → Int → Bool
  | [], _, _ => true
  | y :: ys, i, last => if y = c then (if 0 ≤ last ∧ i - last - 1 < n then false else restB c n ys (i + 1) i) else restB c n ys (i + 1) last
/-- The crop within so many years. -/
def winB (c : Int) (n : Nat) : List Int → Bool
  | [] => true
  | y :: ys => (decide ((y :: ys).length < n) || ((y :: ys).take n).any (fun x => x == c)) && winB c n ys
theorem rest_tw {c : Int} {n : Nat} (hn : n ≤ 20) : Tw (restL 2 c n) (n + 2) ∧ ∀ w, Wl (restL 2 c n) w = Fut (ruleS 2 (restedF c n)) 0 w := by
  have hf := rest_fut (k := 2) (by decide) c n
  have hfit : (lawOf (n + 2) 2 (restF c n) (restG n)).Fit := lawOf_fit (by omega) (by omega) (by decide) (by decide) fun s t hs _ => restF_bd c n s t hs
  have hk : (lawOf (n + 2) 2 (restF c n) (restG n)).k = 2 := lawOf_k _ _ (by omega)
  have hlen : (lawOf (n + 2) 2 (restF c n) (restG n)).nx.length = n + 2 := by simp [lawOf]
  have hT : Tw (lawOf (n + 2) 2 (restF c n) (restG n)) (n + 2) := ⟨⟨hfit.n1, by omega, hfit.k1, hfit.k4, hfit.gd, hfit.row, hfit.ent⟩, hk, by omega⟩
  have e : restL 2 c n = leastL (lawOf (n + 2) 2 (restF c n) (restG n)) := by
    unfold leastL
    rw [hk, hf]
    rfl
  have h := leastL_tw hT
  rw [← e] at h
  refine ⟨h.1, fun w => (h.2 w).trans ?_⟩
  show Fut (sysL _) 0 w = _
  rw [hf]
theorem within_tw {c : Int} {n : Nat} (h1 : 1 ≤ n) (hn : n ≤ 20) : Tw (withinL 2 c n) (n + 1) ∧ ∀ w, Wl (withinL 2 c n) w = Fut (ruleS 2 (missedF c n)) 0 w := by
  have hf := within_fut (k := 2) (by decide) c h1
  have hfit : (lawOf (n + 1) 2 (withinF c n) (withinG n)).Fit := lawOf_fit (by omega) (by omega) (by decide) (by decide) fun s t _ _ => withinF_bd c n s t
  have hk : (lawOf (n + 1) 2 (withinF c n) (withinG n)).k = 2 := lawOf_k _ _ (by omega)
  have hlen : (lawOf (n + 1) 2 (withinF c n) (withinG n)).nx.length = n + 1 := by simp [lawOf]
  have hT : Tw (lawOf (n + 1) 2 (withinF c n) (withinG n)) (n + 1) := ⟨⟨hfit.n1, by omega, hfit.k1, hfit.k4, hfit.gd, hfit.row, hfit.ent⟩, hk, by omega⟩
  have e : withinL 2 c n = leastL (lawOf (n + 1) 2 (withinF c n) (withinG n)) := by
    unfold leastL
    rw [hk, hf]
    rfl
  have h := leastL_tw hT
  rw [← e] at h
  refine ⟨h.1, fun w => (h.2 w).trans ?_⟩
  show Fut (sysL _) 0 w = _
  rw [hf]
theorem rule_nil (F : Int → Int → Int) (s : Int) : Fut (ruleS 2 F) s [] = (s != -1) := fut_nil _ _
theorem rule_cons (F : Int → Int → Int) (s : Int) {c : Nat} (hc : c < 2) (w : List Nat) : Fut (ruleS 2 F) s (c :: w) = Fut (ruleS 2 F) (F s (c : Int)) w := (fut_nx (x := ruleS 2 F) hc w).symm
theorem rule_broken {F : Int → Int → Int} (h : ∀ y, F (-1) y = -1) : ∀ {w : List Nat}, Wd 2 w → Fut (ruleS 2 F) (-1) w = false
  | [], _ => rule_nil F (-1)
  | c :: w, hw => by rw [rule_cons F _ (wd_cons.1 hw).1, h]; exact rule_broken h (wd_cons.1 hw).2
theorem rest_word {c : Int} {n : Nat} : ∀ {w : List Nat} {i last s : Int}, Wd 2 w → -1 ≤ last → last < i → 0 ≤ i → s = (if last < 0 then 0 else max 0 ((n : Int) - (i - last - 1))) → Fut (ruleS 2 (restedF c n)) s w = restB c n (nI w) i last
  | [], i, last, s, _, _, _, _, hs => by
    rw [rule_nil]
    have : s ≠ -1 := by split at hs <;> omega
    simp [restB, nI, this]
  | y :: w, i, last, s, hw, h1, h2, h3, hs => by
    obtain ⟨hy, hw2⟩ := wd_cons.1 hw
    rw [rule_cons _ _ hy]
    show _ = restB c n ((y : Int) :: nI w) i last
    rw [restB]
    have hs0 : 0 ≤ s := by split at hs <;> omega
    by_cases hyc : (y : Int) = c
    · rw [if_pos hyc]
      by_cases hb : 0 ≤ last ∧ i - last - 1 < (n : Int)
      · rw [if_pos hb]
        have hsp : 0 < s := by rw [if_neg (by omega)] at hs; omega
        rw [restedF, if_pos (.inr ⟨hsp, hyc⟩)]
        exact rule_broken (fun y => by rw [restedF, if_pos (.inl rfl)]) hw2
      · rw [if_neg hb]
        have hsz : s = 0 := by split at hs <;> omega
        rw [restedF, if_neg (by omega), if_pos hyc]
        refine rest_word hw2 (by omega) (by omega) (by omega) ?_
        rw [if_neg (by omega)]
        omega
    · rw [if_neg hyc, restedF, if_neg (by omega), if_neg hyc]
      refine rest_word hw2 h1 (by omega) (by omega) ?_
      split at hs
      · rw [if_pos (by assumption)]; omega
      · rw [if_neg (by assumption)]; omega
theorem rest_is {c : Int} {n : Nat} (hn : n ≤ 20) {w : List Nat} (hw : Wd 2 w) : Wl (restL 2 c n) w = restB c n (nI w) 0 (-1) := by
  rw [(rest_tw hn).2]
  exact rest_word hw (by omega) (by omega) (by omega) (by rw [if_pos (by omega)])
theorem restB_mono {c n m : Int} (h : n ≤ m) : ∀ (ys : List Int) (i last : Int), restB c m ys i last = true → restB c n ys i last = true
  | [], _, _, _ => rfl
  | y :: ys, i, last, hb => by
    rw [restB] at hb ⊢
    by_cases hy : y = c
    · rw [if_pos hy] at hb ⊢
      split at hb
      · cases hb
      · rw [if_neg (by omega)]; exact restB_mono h ys _ _ hb
    · rw [if_neg hy] at hb ⊢
      exact restB_mono h ys _ _ hb
theorem winB_short {c : Int} {n : Nat} : ∀ {ys : List Int}, ys.length < n → winB c n ys = true
  | [], _ => rfl
  | y :: ys, h => by
    rw [winB, decide_eq_true h, Bool.true_or, Bool.true_and]
    exact winB_short (by simp at h; omega)
theorem winB_hit {c d : Int} {n : Nat} {l : List Int} : ∀ {s : Nat}, s < n → winB c n (List.replicate s d ++ c :: l) = winB c n l
  | 0, h => by
    obtain ⟨m, rfl⟩ : ∃ m, n = m + 1 := ⟨n - 1, by omega⟩
    rw [List.replicate_zero, List.nil_append, winB]
    simp
  | s + 1, h => by
    rw [List.replicate_succ, List.cons_append, winB, winB_hit (by omega)]
    have : ((d :: (List.replicate s d ++ c :: l)).take n).any (fun x => x == c) = true := by
      rw [List.any_eq_true]
      refine ⟨c, ?_, by simp⟩
      rw [List.mem_take_iff_getElem]
      refine ⟨s + 1, by simp; omega, ?_⟩
      simp
    rw [this, Bool.or_true, Bool.true_and]
theorem winB_miss {c d : Int} (hd : d ≠ c) {n : Nat} (hn : 1 ≤ n) (l : List Int) : winB c n (List.replicate n d ++ l) = false := by
  obtain ⟨m, rfl⟩ : ∃ m, n = m + 1 := ⟨n - 1, by omega⟩
  rw [List.replicate_succ, List.cons_append, winB]
  have h1 : decide ((d :: (List.replicate m d ++ l)).length < m + 1) = false := by simp
  have h2 : ((d :: (List.replicate m d ++ l)).take (m + 1)).any (fun x => x == c) = false := by
    rw [List.any_eq_false]
    intro x hx
    rw [List.take_succ_cons, List.take_append_of_le_length (by simp)] at hx
    have : x = d := by
      rcases List.mem_cons.1 hx with h | h
      · exact h
      · exact List.eq_of_mem_replicate (List.mem_of_mem_take h)
    rw [this]
    simpa using hd
  rw [h1, h2]
  rfl
theorem win_word {c : Int} {n : Nat} (hn : 1 ≤ n) (hc : 0 ≤ c ∧ c < 2) : ∀ {w : List Nat} {s : Nat}, Wd 2 w → s < n → Fut (ruleS 2 (missedF c n)) (s : Int) w = winB c n (List.replicate s (1 - c) ++ nI w)
  | [], s, _, hs => by
    rw [rule_nil, show nI [] = [] from rfl, List.append_nil, winB_short (by simpa using hs)]
    simp
  | y :: w, s, hw, hs => by
    obtain ⟨hy, hw2⟩ := wd_cons.1 hw
    rw [rule_cons _ _ hy]
    show _ = winB c n (List.replicate s (1 - c) ++ (y : Int) :: nI w)
    by_cases hyc : (y : Int) = c
    · rw [hyc, winB_hit hs, missedF, if_neg (by omega), if_pos rfl]
      have := win_word hn hc (w := w) (s := 0) hw2 (by omega)
      rw [List.replicate_zero, List.nil_append] at this
      exact this
    · have hyd : (y : Int) = 1 - c := by omega
      have e : List.replicate s (1 - c) ++ (y : Int) :: nI w = List.replicate (s + 1) (1 - c) ++ nI w := by
        rw [hyd, List.replicate_succ', List.append_assoc]
        rfl
      rw [e]
      by_cases hsn : s + 1 = n
      · rw [missedF, if_pos (.inr ⟨hyc, by omega⟩), hsn, winB_miss (by omega) hn]
        exact rule_broken (fun y => by rw [missedF, if_pos (.inl rfl)]) hw2
      · rw [missedF, if_neg (by omega), if_neg hyc]
        have := win_word hn hc (w := w) (s := s + 1) hw2 (by omega)
        rw [← this]
        congr 1
theorem win_is {c : Int} {n : Nat} (hn : 1 ≤ n) (h20 : n ≤ 20) (hc : 0 ≤ c ∧ c < 2) {w : List Nat} (hw : Wd 2 w) : Wl (withinL 2 c n) w = winB c n (nI w) := by
  rw [(within_tw hn h20).2]
  have := win_word hn hc (w := w) (s := 0) hw (by omega)
  rw [List.replicate_zero, List.nil_append] at this
  exact this
theorem winB_mono {c : Int} {n m : Nat} (h : n ≤ m) : ∀ (ys : List Int), winB c n ys = true → winB c m ys = true
  | [], _ => rfl
  | y :: ys, hb => by
    rw [winB, Bool.and_eq_true, Bool.or_eq_true] at hb ⊢
    refine ⟨?_, winB_mono h ys hb.2⟩
    rcases hb.1 with h1 | h1
    · left
      have := of_decide_eq_true h1
      exact decide_eq_true (by omega)
    · right
      rw [List.any_eq_true] at h1 ⊢
      obtain ⟨x, hx, hxc⟩ := h1
      exact ⟨x, (List.take_subset_take_left _ h) hx, hxc⟩
/-- Just behind the crop: it does not come again if it has to rest and to come within as many years. -/
theorem rest_free {c : Int} {n : Int} : ∀ (l : List Int) (i last : Int), 0 ≤ last → restB c n l i last = true → ∀ (q : Nat) (h : q < l.length), (q : Int) + (i - last - 1) < n → l[q] ≠ c
  | [], _, _, _, _, q, h, _ => by simp at h
  | y :: l, i, last, h0, hb, q, hq, hqn => by
    rw [restB] at hb
    by_cases hy : y = c
    · rw [if_pos hy] at hb
      have : ¬ (0 ≤ last ∧ i - last - 1 < n) := fun h => by rw [if_pos h] at hb; cases hb
      omega
    · rw [if_neg hy] at hb
      match q, hq with
      | 0, _ => exact hy
      | q + 1, hq =>
        have := rest_free l (i + 1) last h0 hb q (by simpa using hq) (by omega)
        simpa using this
theorem once_after {c : Int} {n : Nat} (_ : 1 ≤ n) {l : List Int} {i : Int} (hi : 0 ≤ i) (hb : restB c n l (i + 1) i = true) (hw : winB c n l = true) : l.count c = 0 := by
  rw [List.count_eq_zero]
  intro hm
  obtain ⟨j, hj, e⟩ := List.getElem_of_mem hm
  have hfree := rest_free l (i + 1) i hi hb
  have hjn : n ≤ j := by
    apply Classical.byContradiction
    intro h
    exact hfree j hj (by omega) e
  cases l with
  | nil => simp at hj
  | cons y ys =>
    rw [winB, Bool.and_eq_true, Bool.or_eq_true] at hw
    rcases hw.1 with h1 | h1
    · have := of_decide_eq_true h1
      omega
    · rw [List.any_eq_true] at h1
      obtain ⟨x, hx, hxc⟩ := h1
      rw [List.mem_take_iff_getElem] at hx
      obtain ⟨q, hq, e2⟩ := hx
      exact hfree q (by omega) (by omega) (by rw [e2]; simpa using hxc)
theorem once_all {c : Int} {n : Nat} (hn : 1 ≤ n) : ∀ (l : List Int) (i : Int), 0 ≤ i → restB c n l i (-1) = true → winB c n l = true → l.count c ≤ 1
  | [], _, _, _, _ => by simp
  | y :: l, i, hi, hb, hw => by
    rw [restB] at hb
    have hw2 : winB c n l = true := by rw [winB, Bool.and_eq_true] at hw; exact hw.2
    by_cases hy : y = c
    · rw [if_pos hy, if_neg (by omega)] at hb
      have := once_after hn hi hb hw2
      rw [List.count_cons]
      split <;> omega
    · rw [if_neg hy] at hb
      have := once_all hn l (i + 1) (by omega) hb hw2
      rw [List.count_cons]
      have : (y == c) = false := by simpa using hy
      rw [this]
      simpa using by assumption
end Ytnjgglnpmhjmiaa
end Go.Proofs
