/- Laws of rotation, plainly: both rules of a crop together; what the walk of RestRules asks of them. -/
import Derived.Test.YtnjgglnpmhjmiaaD12
open Go Go.RowKit Go.YtnjgglnpmhjmiaaIt
open Rest
namespace Go.Proofs
namespace Ytnjgglnpmhjmiaa
theorem join_least {a b : Lw} {n m : Nat} (ha : Tw a n) (hb : Tw b m) (f : Bool → Bool → Bool) : LeastT 2 (Fut (jointS a b (0, 0) f) (0, 0)) (joinT a b f) := by
  have hk : a.k = b.k := ha.k2.trans hb.k2.symm
  have h1 := Nat.mul_le_mul ha.ok.n40 hb.ok.n40
  have h2 : 1 ≤ a.nx.length * b.nx.length := Nat.mul_pos ha.ok.n1 hb.ok.n1
  have hfit : (pairL a b f).Fit := lawOf_fit h2 (by omega) ha.ok.k1 ha.ok.k4 fun u c hu hc => pairF_bd ha.ok hb.ok hk hu hc
  have hkk : (pairL a b f).k = 2 := (lawOf_k _ _ h2).trans ha.k2
  have hf : Fut (sysL (pairL a b f)) 0 = Fut (jointS a b (0, 0) f) (0, 0) := pair_fut ha.ok hb.ok hk f
  have h := fit_least hfit
  rw [hf, hkk] at h
  have e : joinT a b f = theT 2 (Fut (jointS a b (0, 0) f) (0, 0)) := by unfold joinT; rw [ha.k2]
  rw [e]
  exact h
theorem join_fut {a b : Lw} {n m : Nat} (ha : Tw a n) (hb : Tw b m) {f : Bool → Bool → Bool} {w : List Nat} (hw : Wd 2 w) : Fut (jointS a b (0, 0) f) (0, 0) w = f (Wl a w) (Wl b w) := by
  rw [fut_ok (x := jointS a b (0, 0) f) (by show Wd a.k w; rw [ha.k2]; exact hw), joint_run]
  show f (a.good _) (b.good _) = f (Fut (sysL a) 0 w) (Fut (sysL b) 0 w)
  rw [fut_ok (x := sysL a) (by show Wd a.k w; rw [ha.k2]; exact hw), fut_ok (x := sysL b) (by show Wd b.k w; rw [hb.k2]; exact hw)]
  rfl
theorem join_small {a b : Lw} {n m : Nat} (ha : Tw a n) (hb : Tw b m) {f : Bool → Bool → Bool} (h40 : (joinT a b f).st.length ≤ 40) : Tw (tabL (joinT a b f)) 40 ∧ (∀ w, Wd 2 w → Wl (tabL (joinT a b f)) w = f (Wl a w) (Wl b w)) ∧ joinE a b f = 0 := by
  have h := join_least ha hb f
  have hok := (least_ok h).law (by decide) (by decide) h40
  have hnx := (least_ok h).nx
  refine ⟨⟨hok.1, hok.2, by simp only [tabL, List.length_map]; omega⟩, fun w hw => ?_, ?_⟩
  · rw [tab_fut h (by decide) (by decide) h40 w, join_fut ha hb hw, decide_eq_true (show ∀ c ∈ w, c < 2 from hw), Bool.true_and]
  · unfold joinE
    rw [if_pos (show chk2E a b = 0 from chk2_tw ha hb), if_neg (by omega)]
/-- Both rules: broken is one state. -/
def bothS (c : Int) (n : Nat) : RSys (Option (Int × Int)) := ⟨2, some (0, 0), fun s y => match s with
  | none => none
  | some (s, t) => if restedF c n s y = -1 ∨ missedF c n t y = -1 then none else some (restedF c n s y, missedF c n t y), fun s => s.isSome⟩
def bothU (n : Nat) : List (Option (Int × Int)) := none :: (List.range (n + 1)).flatMap fun (s : Nat) => (List.range n).map fun (t : Nat) => some ((s : Int), (t : Int))
theorem bothU_len (n : Nat) : (bothU n).length = (n + 1) * n + 1 := by
  have h : ∀ l : List Nat, (l.flatMap fun (s : Nat) => (List.range n).map fun (t : Nat) => some ((s : Int), (t : Int))).length = l.length * n := fun l => by
    induction l with
    | nil => simp
    | cons x l ih => rw [List.flatMap_cons, List.length_append, ih, List.length_map, List.length_range, List.length_cons, Nat.succ_mul, Nat.add_comm]
  unfold bothU
  rw [List.length_cons, h, List.length_range]
theorem both_in {c : Int} {n : Nat} : ∀ (w : List Nat) (s : Option (Int × Int)), (∀ p, s = some p → (0 ≤ p.1 ∧ p.1 ≤ n) ∧ 0 ≤ p.2 ∧ p.2 < n) → ∀ p, (bothS c n).run s w = some p → (0 ≤ p.1 ∧ p.1 ≤ n) ∧ 0 ≤ p.2 ∧ p.2 < n
  | [], _, h, p, e => h p e
  | y :: w, s, h, p, e => by
    refine both_in w ((bothS c n).nx s y) (fun q hq => ?_) p e
    cases s with
    | none => cases hq
    | some s =>
      obtain ⟨s, t⟩ := s
      have h0 := h (s, t) rfl
      simp only [bothS] at hq
      split at hq
      · cases hq
      · rename_i hne
        injection hq with hq
        rw [← hq]
        simp only at h0 ⊢
        unfold restedF missedF at hne ⊢
        constructor
        · split
          · rename_i h1; rw [if_pos h1] at hne; omega
          · split <;> omega
        · split
          · rename_i h1; rw [if_pos h1] at hne; omega
          · split <;> omega
theorem both_fut {c : Int} {n : Nat} : ∀ (w : List Nat) (s t : Int), Wd 2 w → s ≠ -1 → t ≠ -1 → Fut (bothS c n) (some (s, t)) w = (Fut (ruleS 2 (restedF c n)) s w && Fut (ruleS 2 (missedF c n)) t w)
  | [], s, t, _, hs, ht => by
    rw [fut_nil, rule_nil, rule_nil]
    have h1 : (s != -1) = true := by simpa using hs
    have h2 : (t != -1) = true := by simpa using ht
    rw [h1, h2]
    rfl
  | y :: w, s, t, hw, hs, ht => by
    obtain ⟨hy, hw2⟩ := wd_cons.1 hw
    rw [rule_cons _ _ hy, rule_cons _ _ hy, ← fut_nx (x := bothS c n) (s := some (s, t)) hy]
    have hbr : ∀ {w : List Nat}, Wd 2 w → Fut (bothS c n) none w = false := fun {w} => by
      induction w with
      | nil => intro _; rfl
      | cons z w ih =>
        intro hz
        rw [← fut_nx (x := bothS c n) (s := none) (wd_cons.1 hz).1]
        exact ih (wd_cons.1 hz).2
    show Fut (bothS c n) (if restedF c n s y = -1 ∨ missedF c n t y = -1 then none else some (restedF c n s y, missedF c n t y)) w = _
    by_cases h1 : restedF c n s y = -1
    · rw [if_pos (.inl h1), hbr hw2, h1, rule_broken (fun y => by rw [restedF, if_pos (.inl rfl)]) hw2, Bool.false_and]
    · by_cases h2 : missedF c n t y = -1
      · rw [if_pos (.inr h2), hbr hw2, h2, rule_broken (F := missedF c n) (fun y => by rw [missedF, if_pos (.inl rfl)]) hw2, Bool.and_false]
      · rw [if_neg (by omega)]
        exact both_fut w _ _ hw2 h1 h2
theorem rules_small {c : Int} {n : Nat} (h1 : 1 ≤ n) (h5 : n ≤ 5) : (joinT (restL 2 c n) (withinL 2 c n) (fun a b => a && b)).st.length ≤ 40 := by
  have ha := (rest_tw (c := c) (show n ≤ 20 by omega))
  have hb := (within_tw (c := c) h1 (show n ≤ 20 by omega))
  have h := join_least ha.1 hb.1 (fun a b => a && b)
  have e : Fut (jointS (restL 2 c n) (withinL 2 c n) (0, 0) (fun a b => a && b)) (0, 0) = Fut (bothS c n) (some (0, 0)) := funext fun w => by
    by_cases hw : Wd 2 w
    · rw [join_fut ha.1 hb.1 hw, ha.2, hb.2, both_fut w 0 0 hw (by decide) (by decide)]
    · rw [fut_bad (by show ¬ Wd (restL 2 c n).k w; rw [ha.1.k2]; exact hw), fut_bad (x := bothS c n) hw]
  rw [e] at h
  have h2 := least_len (x := bothS c n) h (U := bothU n) fun ws _ => by
    cases e2 : (bothS c n).run (bothS c n).start ws with
    | none => exact List.mem_cons_self
    | some p =>
      have h3 := both_in (c := c) ws (some (0, 0)) (fun p hp => by injection hp with hp; rw [← hp]; simp only; omega) p e2
      refine List.mem_cons_of_mem _ (List.mem_flatMap.2 ⟨p.1.toNat, List.mem_range.2 (by omega), List.mem_map.2 ⟨p.2.toNat, List.mem_range.2 (by omega), ?_⟩⟩)
      obtain ⟨s, t⟩ := p
      simp only at h3 ⊢
      rw [show ((s.toNat : Nat) : Int) = s by omega, show ((t.toNat : Nat) : Int) = t by omega]
  rw [bothU_len] at h2
  have := Nat.mul_le_mul (show n + 1 ≤ 6 by omega) h5
  omega
theorem rest_c {c n : Nat} (hc : c < 2) (hn : n ≤ 20) (w : World) : Calls Try.prog 15 #[.int .i64 2, .int .i64 c, .int .i64 n] w fun e w' => ∃ vn vg, e = .returned (.tuple #[.agg #[vn, vg], .int .i64 0]) ∧ LawA w' (.agg #[vn, vg]) (restL 2 c n) ∧ Below w.heap.size w w' := by
  have h := rest15_any 2 c n w
  have hm : madeE 2 c 0 n = 0 := by
    unfold madeE
    rw [if_neg (by decide), if_neg (by rw [btw_false]; omega), if_neg (by rw [btw_false]; omega)]
  rw [hm] at h
  exact h.mono (by rintro e w' ⟨vn, vg, h1, h2, h3⟩; exact ⟨vn, vg, h1, h2.now, h3⟩)
theorem within_c {c n : Nat} (hc : c < 2) (h1 : 1 ≤ n) (hn : n ≤ 20) {N : Int} (hN : N = n) (w : World) : Calls Try.prog 17 #[.int .i64 2, .int .i64 c, .int .i64 N] w fun e w' => ∃ vn vg, e = .returned (.tuple #[.agg #[vn, vg], .int .i64 0]) ∧ LawA w' (.agg #[vn, vg]) (withinL 2 c n) ∧ Below w.heap.size w w' := by
  subst hN
  have h := within17_any 2 c n w
  have hm : madeE 2 c 1 n = 0 := by
    unfold madeE
    rw [if_neg (by decide), if_neg (by rw [btw_false]; omega), if_neg (by rw [btw_false]; omega)]
  rw [hm] at h
  exact h.mono (by rintro e w' ⟨vn, vg, h1, h2, h3⟩; exact ⟨vn, vg, h1, h2.now, h3⟩)
theorem allows_cc {v vy : Value} {l : Lw} {n : Nat} {ys : List Int} {w : World} {b : Bool} (e : Wl l (toW ys) = b) (h : LawA w v l) (t : Tw l n) (hy : SlI w vy ys) (hl : ys.length ≤ 60) (hc : ∀ c ∈ ys, 0 ≤ c ∧ c < 2) : Calls Try.prog 38 #[v, vy] w fun e w' => e = .returned (.tuple #[.bool b, .int .i64 0]) ∧ Below w.heap.size w w' := by
  have h1 := allows38_any h hy
  have hE : allowsE l ys = 0 := by
    unfold allowsE
    rw [if_pos (ok_chkL t.ok)]
    exact ok_lstE hl fun c hcy => by rw [t.k2]; exact hc c hcy
  have hB : allowsB l ys = b := by
    unfold allowsB
    rw [hE, ← e, ← end_one t hc]
    simp [endI]
  rw [hE, hB] at h1
  exact h1
end Ytnjgglnpmhjmiaa
end Go.Proofs
