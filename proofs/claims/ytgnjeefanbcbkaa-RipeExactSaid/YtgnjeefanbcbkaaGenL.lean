/- A region whose order is open: a condition on the world is held until operation z has come up (a store that waits for the loads). Over whatever program. -/
import Derived.Test.YtgnjeefanbcbkaaGenJ
open Go Go.RowKit Go.YtgnjeefanbcbkaaIt
namespace Go
namespace YtgnjeefanbcbkaaIt
section
variable {P : Program} {ops : Array Oper} {Q : Exit → Act → World → Prop} {md : Region.Mode} {S : World → Prop} {z : Nat}
/-- Whatever order is picked, and S holds until z has come up. -/
def wpAnyY (P : Program) (md : Region.Mode) (ops : Array Oper) (Q : Exit → Act → World → Prop) (S : World → Prop) (z : Nat) : Nat → Array Bool → Act → World → Prop
  | 0, listed, a, w => Region.ready md ops listed = [] ∧ Q .normal a w
  | fuel + 1, listed, a, w =>
    (Region.ready md ops listed = [] → Q .normal a w) ∧
    ∀ i ∈ Region.ready md ops listed, wpOp P ops Q i (fun a' w' => ((listed.setIfInBounds i true).getD z true = false → S w') ∧ wpAnyY P md ops Q S z fuel (listed.setIfInBounds i true) a' w') a w
theorem wpAny_of_y : ∀ (fuel : Nat) (listed : Array Bool) (a : Act) (w : World), wpAnyY P md ops Q S z fuel listed a w → wpAny P md ops Q fuel listed a w
  | 0, _, _, _, h => h
  | fuel + 1, _, _, _, h => ⟨h.1, fun i hi => wpOp_mono (fun a' w' h' => wpAny_of_y fuel _ a' w' h'.2) (h.2 i hi)⟩
theorem getD_set_le {l : Array Bool} {i z : Nat} (h : (l.setIfInBounds i true).getD z true = false) : l.getD z true = false := by
  by_cases hz : i = z
  · subst hz
    rcases Nat.lt_or_ge i l.size with h' | h'
    · simp [h'] at h
    · simp [h'] at h
  · rw [getD_set_ne true hz] at h; exact h
theorem wpAnyY_first {i : Nat} {oi : Oper} {v : Value} {T : World → Prop} (hi : ops[i]? = some oi) (hsel : ∀ (j : Nat) (o : Oper) cs b, ops[j]? = some o → o.op ≠ .select cs b)
    (hQ : ∀ c a w, Q (.panic c) (a.put oi.dst v) w → Q (.panic c) a w) (hiz : i ≠ z) (hT : (waitsB md ops z i = true ∧ T = S) ∨ T = fun _ => True) :
    ∀ (fuel : Nat) (listed : Array Bool) (a : Act) (w : World), (waitsB md ops z i = true → T = S → listed.getD z true = false) →
      (∀ j oj, ops[j]? = some oj → j ≠ i → listed.getD j true = false → (∀ e ∈ oj.after, Region.binds md e = true → e.on ≠ i) → oi.apart ops oj = true) →
      i ∈ Region.ready md ops listed → YieldsIf P ops T oi v a → (listed.getD z true = false → S w) →
      wpAnyY P md ops Q S z fuel (listed.setIfInBounds i true) (a.put oi.dst v) w → wpAnyY P md ops Q S z (fuel + 1) listed a w := by
  have hTw : ∀ {listed : Array Bool} {w : World}, (waitsB md ops z i = true → T = S → listed.getD z true = false) → (listed.getD z true = false → S w) → T w := fun h1 h2 => by
    rcases hT with ⟨a, rfl⟩ | rfl
    · exact h2 (h1 a rfl)
    · trivial
  intro fuel
  induction fuel with
  | zero =>
    intro listed a w hzz _ hr hy hS H
    refine ⟨fun h => (by rw [h] at hr; cases hr), fun j hj => ?_⟩
    by_cases hji : j = i
    · subst hji; exact hy.wpOp hi (hTw hzz hS) ⟨fun h => hS (getD_set_le h), H⟩
    · have := ready_mono hj hji
      rw [H.1] at this
      cases this
  | succ fuel ih =>
    intro listed a w hzz hfree hr hy hS H
    refine ⟨fun h => (by rw [h] at hr; cases hr), fun j hj => ?_⟩
    by_cases hji : j = i
    · subst hji; exact hy.wpOp hi (hTw hzz hS) ⟨fun h => hS (getD_set_le h), H⟩
    · have h1 := H.2 j (ready_mono hj hji)
      obtain ⟨hjun, oj, hoj, hall⟩ := mem_ready.1 hj
      have hnot : ∀ e ∈ oj.after, Region.binds md e = true → e.on ≠ i := fun e he hb heq => by
        have h1 := hall e he hb
        have h0 := (mem_ready.1 hr).1
        rw [heq] at h1
        rcases Nat.lt_or_ge i listed.size with h' | h'
        · simp [h'] at h0 h1; rw [h0] at h1; cases h1
        · simp [Array.getElem?_eq_none h'] at h1
      have h2 := wpOp_putIf hoj (hfree j oj hoj hji hjun hnot) (fun cs b => hsel i oi cs b hi) (fun cs b => hsel j oj cs b hoj) hQ hy h1
      have hzz' : waitsB md ops z i = true → T = S → (listed.setIfInBounds j true).getD z true = false := fun hw hTS => by
        have h0 := hzz hw hTS
        have hjz : j ≠ z := fun e => by
          subst e
          unfold waitsB at hw
          rw [hoj] at hw
          obtain ⟨e, he, hb⟩ := Array.any_eq_true'.1 hw
          simp only [Bool.and_eq_true, beq_iff_eq] at hb
          exact hnot e he hb.1 hb.2
        rw [getD_set_ne true hjz]; exact h0
      have hfree' : ∀ k ok, ops[k]? = some ok → k ≠ i → (listed.setIfInBounds j true).getD k true = false →
          (∀ e ∈ ok.after, Region.binds md e = true → e.on ≠ i) → oi.apart ops ok = true := fun k ok hk hki hun hno => by
        refine hfree k ok hk hki ?_ hno
        by_cases hjk : j = k
        · subst hjk; exact hjun
        · rw [getD_set_ne true hjk] at hun; exact hun
      have hcomm : (listed.setIfInBounds i true).setIfInBounds j true = (listed.setIfInBounds j true).setIfInBounds i true := Array.setIfInBounds_comm _ _ (Ne.symm hji)
      have hback : ∀ {W : World}, (((listed.setIfInBounds i true).setIfInBounds j true).getD z true = false → S W) → (z ≠ i → (listed.setIfInBounds j true).getD z true = false → S W) := fun h hz h0 => h (by rw [hcomm, getD_set_ne true (Ne.symm hz)]; exact h0)
      refine wpOp_mono (fun a' w' h3 => ?_) h2
      refine ⟨hback h3.2.1 (Ne.symm hiz), ih (listed.setIfInBounds j true) a' w' hzz' hfree' (ready_mono hr (Ne.symm hji)) h3.1 (hback h3.2.1 (Ne.symm hiz)) ?_⟩
      rw [← hcomm]
      exact h3.2.2
/-- Take number i first: it needs S, and z waits for it. -/
theorem wpAnyY_take {i : Nat} {oi : Oper} {v : Value} {fuel : Nat} {listed : Array Bool} {a : Act} {w : World} (hi : ops[i]? = some oi)
    (hs : Region.noSelect ops = true) (hf : (Region.free md ops listed i && waitsB md ops z i && !(listed.getD z true) && decide (i ≠ z)) = true) (hr : (Region.ready md ops listed).contains i = true)
    (hQ : ∀ c a w, Q (.panic c) (a.put oi.dst v) w → Q (.panic c) a w) (hy : YieldsIf P ops S oi v a) (hS : listed.getD z true = false → S w)
    (h : wpAnyY P md ops Q S z fuel (listed.setIfInBounds i true) (a.put oi.dst v) w) : wpAnyY P md ops Q S z (fuel + 1) listed a w := by
  simp only [Bool.and_eq_true, Bool.not_eq_true', decide_eq_true_eq] at hf
  exact wpAnyY_first (T := S) hi (Region.noSelect_spec hs) hQ hf.2 (.inl ⟨hf.1.1.2, rfl⟩) fuel listed a w (fun _ _ => hf.1.2) (Region.free_spec hi hf.1.1.1) (by simpa using hr) hy hS h
/-- Take number i first: it yields the same in whatever world. -/
theorem wpAnyY_pure {i : Nat} {oi : Oper} {v : Value} {fuel : Nat} {listed : Array Bool} {a : Act} {w : World} (hi : ops[i]? = some oi)
    (hs : Region.noSelect ops = true) (hf : (Region.free md ops listed i && decide (i ≠ z) && !(waitsB md ops z i && listed.getD z true)) = true) (hr : (Region.ready md ops listed).contains i = true)
    (hQ : ∀ c a w, Q (.panic c) (a.put oi.dst v) w → Q (.panic c) a w) (hy : YieldsIf P ops (fun _ => True) oi v a) (hS : listed.getD z true = false → S w)
    (h : wpAnyY P md ops Q S z fuel (listed.setIfInBounds i true) (a.put oi.dst v) w) : wpAnyY P md ops Q S z (fuel + 1) listed a w := by
  simp only [Bool.and_eq_true, Bool.not_eq_true', decide_eq_true_eq, Bool.and_eq_false_iff] at hf
  exact wpAnyY_first (T := fun _ => True) hi (Region.noSelect_spec hs) hQ hf.1.2 (.inr rfl) fuel listed a w (fun h1 _ => hf.2.resolve_left (by rw [h1]; simp)) (Region.free_spec hi hf.1.1) (by simpa using hr) hy hS h
theorem wpAnyY_done {listed : Array Bool} {a : Act} {w : World} (hr : Region.ready md ops listed = []) (h : Q .normal a w) :
    ∀ fuel, wpAnyY P md ops Q S z fuel listed a w
  | 0 => ⟨hr, h⟩
  | _ + 1 => ⟨fun _ => h, by rw [hr]; simp⟩
theorem wp_region_y {id : Nat} {a : Act} {w : World} (hm : P.follows .mixedOrders = true)
    (h : wpAnyY P .any ops Q S z ops.size (Array.replicate ops.size false) a { w with drawn := w.drawn + 1 }) : (Code.region id ops true).wp P Q a w :=
  wp_region_any hm (wpAny_of_y _ _ _ _ h)
theorem wpIn_region_y {r : Option Nat} {n id : Nat} {a : Act} {w : World} (hm : P.follows .mixedOrders = true) (hnd : noDefer ops = true) (hL : LetsOut Q → False)
    (h : wpAnyY P .any ops Q S z ops.size (Array.replicate ops.size false) a { w with drawn := w.drawn + 1 }) : (Code.region id ops true).wpIn (fw r) n P Q a w :=
  wpIn_region_any' hm hnd hL (wpAny_of_y _ _ _ _ h)
/-- The only one that may come up comes up. -/
theorem wpAnyY_one {i : Nat} {o : Oper} {fuel : Nat} {listed : Array Bool} {a : Act} {w : World} (hr : Region.ready md ops listed = [i]) (ho : ops[i]? = some o) (hw : Region.wanted o (yielded ops a.tmps) = true)
    (h : ∀ K : Act → World → Prop, (∀ a' w', ((listed.setIfInBounds i true).getD z true = false → S w') → wpAnyY P md ops Q S z fuel (listed.setIfInBounds i true) a' w' → K a' w') → Oper.wp P o a w K Q) : wpAnyY P md ops Q S z (fuel + 1) listed a w :=
  ⟨fun h0 => absurd (hr ▸ h0) (by simp), fun j hj => by
    rw [hr] at hj
    simp only [List.mem_singleton] at hj
    subst hj
    unfold wpOp
    rw [ho]
    simp only
    rw [if_pos hw]
    exact .inl (h _ fun a' w' h1 h2 => ⟨h1, h2⟩)⟩
/-- A builtin max or min yields the same in whatever world. -/
theorem yields_max {C : World → Prop} {a : Act} {o : Oper} (x y : Operand) (ats : Array TypeId) (ho : o.op = .call { callee := .builtin .max, args := #[x, y], argTypes := ats }) {k : IntKind} {m n : Int} (hx : a.eval x = .int k m) (hy : a.eval y = .int k n) :
    ∀ w, C w → (execOp a.eval o).run P w = .ok (.value (.int k (max m n))) w := by
  intro w _
  unfold execOp
  simp only [ho, resolve, invoke, builtin, Sem.run_bind, Sem.run_pure, Result.andThen_ok, List.map_toArray, List.map_cons, List.map_nil, hx, hy]
  have e : (if m < n then n else m) = max m n := by rw [Int.max_def]; split <;> split <;> omega
  simp [Builtin.max_, Builtin.max2, go_sem, e]
theorem yields_min {C : World → Prop} {a : Act} {o : Oper} (x y : Operand) (ats : Array TypeId) (ho : o.op = .call { callee := .builtin .min, args := #[x, y], argTypes := ats }) {k : IntKind} {m n : Int} (hx : a.eval x = .int k m) (hy : a.eval y = .int k n) :
    ∀ w, C w → (execOp a.eval o).run P w = .ok (.value (.int k (min m n))) w := by
  intro w _
  unfold execOp
  simp only [ho, resolve, invoke, builtin, Sem.run_bind, Sem.run_pure, Result.andThen_ok, List.map_toArray, List.map_cons, List.map_nil, hx, hy]
  have e : (if n < m then n else m) = min m n := by rw [Int.min_def]; split <;> split <;> omega
  simp [Builtin.min_, Builtin.min2, go_sem, e]
end
end YtgnjeefanbcbkaaIt
end Go
/- A region whose order is open: a condition on the world is held until operation z has come up (a store that waits for the loads), another one to the end. Over whatever program. -/
open Go Go.RowKit Go.YtgnjeefanbcbkaaIt
namespace Go
namespace YtgnjeefanbcbkaaIt
section
variable {P : Program} {ops : Array Oper} {Q : Exit → Act → World → Prop} {md : Region.Mode} {R S : World → Prop} {z : Nat}
/-- Whatever order is picked, R holds to the end, and S until z has come up. -/
def wpAnyX (P : Program) (md : Region.Mode) (ops : Array Oper) (Q : Exit → Act → World → Prop) (R S : World → Prop) (z : Nat) : Nat → Array Bool → Act → World → Prop
  | 0, listed, a, w => Region.ready md ops listed = [] ∧ Q .normal a w
  | fuel + 1, listed, a, w =>
    (Region.ready md ops listed = [] → Q .normal a w) ∧
    ∀ i ∈ Region.ready md ops listed, wpOp P ops Q i (fun a' w' => (R w' ∧ ((listed.setIfInBounds i true).getD z true = false → S w')) ∧ wpAnyX P md ops Q R S z fuel (listed.setIfInBounds i true) a' w') a w
theorem wpAny_of_x : ∀ (fuel : Nat) (listed : Array Bool) (a : Act) (w : World), wpAnyX P md ops Q R S z fuel listed a w → wpAny P md ops Q fuel listed a w
  | 0, _, _, _, h => h
  | fuel + 1, _, _, _, h => ⟨h.1, fun i hi => wpOp_mono (fun a' w' h' => wpAny_of_x fuel _ a' w' h'.2) (h.2 i hi)⟩
theorem wpAnyX_first {i : Nat} {oi : Oper} {v : Value} {T : World → Prop} (hi : ops[i]? = some oi) (hsel : ∀ (j : Nat) (o : Oper) cs b, ops[j]? = some o → o.op ≠ .select cs b)
    (hQ : ∀ c a w, Q (.panic c) (a.put oi.dst v) w → Q (.panic c) a w) (hiz : i ≠ z) (hT : (waitsB md ops z i = true ∧ T = fun w => R w ∧ S w) ∨ T = R) :
    ∀ (fuel : Nat) (listed : Array Bool) (a : Act) (w : World), (waitsB md ops z i = true → (T = fun w => R w ∧ S w) → listed.getD z true = false) →
      (∀ j oj, ops[j]? = some oj → j ≠ i → listed.getD j true = false → (∀ e ∈ oj.after, Region.binds md e = true → e.on ≠ i) → oi.apart ops oj = true) →
      i ∈ Region.ready md ops listed → YieldsIf P ops T oi v a → (R w ∧ (listed.getD z true = false → S w)) →
      wpAnyX P md ops Q R S z fuel (listed.setIfInBounds i true) (a.put oi.dst v) w → wpAnyX P md ops Q R S z (fuel + 1) listed a w := by
  have hTw : ∀ {listed : Array Bool} {w : World}, (waitsB md ops z i = true → (T = fun w => R w ∧ S w) → listed.getD z true = false) → R w ∧ (listed.getD z true = false → S w) → T w := fun h1 h2 => by
    rcases hT with ⟨a, rfl⟩ | rfl
    · exact ⟨h2.1, h2.2 (h1 a rfl)⟩
    · exact h2.1
  intro fuel
  induction fuel with
  | zero =>
    intro listed a w hzz _ hr hy hS H
    refine ⟨fun h => (by rw [h] at hr; cases hr), fun j hj => ?_⟩
    by_cases hji : j = i
    · subst hji; exact hy.wpOp hi (hTw hzz hS) ⟨⟨hS.1, fun h => hS.2 (getD_set_le h)⟩, H⟩
    · have := ready_mono hj hji
      rw [H.1] at this
      cases this
  | succ fuel ih =>
    intro listed a w hzz hfree hr hy hS H
    refine ⟨fun h => (by rw [h] at hr; cases hr), fun j hj => ?_⟩
    by_cases hji : j = i
    · subst hji; exact hy.wpOp hi (hTw hzz hS) ⟨⟨hS.1, fun h => hS.2 (getD_set_le h)⟩, H⟩
    · have h1 := H.2 j (ready_mono hj hji)
      obtain ⟨hjun, oj, hoj, hall⟩ := mem_ready.1 hj
      have hnot : ∀ e ∈ oj.after, Region.binds md e = true → e.on ≠ i := fun e he hb heq => by
        have h1 := hall e he hb
        have h0 := (mem_ready.1 hr).1
        rw [heq] at h1
        rcases Nat.lt_or_ge i listed.size with h' | h'
        · simp [h'] at h0 h1; rw [h0] at h1; cases h1
        · simp [Array.getElem?_eq_none h'] at h1
      have h2 := wpOp_putIf hoj (hfree j oj hoj hji hjun hnot) (fun cs b => hsel i oi cs b hi) (fun cs b => hsel j oj cs b hoj) hQ hy h1
      have hzz' : waitsB md ops z i = true → (T = fun w => R w ∧ S w) → (listed.setIfInBounds j true).getD z true = false := fun hw hTS => by
        have h0 := hzz hw hTS
        have hjz : j ≠ z := fun e => by
          subst e
          unfold waitsB at hw
          rw [hoj] at hw
          obtain ⟨e, he, hb⟩ := Array.any_eq_true'.1 hw
          simp only [Bool.and_eq_true, beq_iff_eq] at hb
          exact hnot e he hb.1 hb.2
        rw [getD_set_ne true hjz]; exact h0
      have hfree' : ∀ k ok, ops[k]? = some ok → k ≠ i → (listed.setIfInBounds j true).getD k true = false →
          (∀ e ∈ ok.after, Region.binds md e = true → e.on ≠ i) → oi.apart ops ok = true := fun k ok hk hki hun hno => by
        refine hfree k ok hk hki ?_ hno
        by_cases hjk : j = k
        · subst hjk; exact hjun
        · rw [getD_set_ne true hjk] at hun; exact hun
      have hcomm : (listed.setIfInBounds i true).setIfInBounds j true = (listed.setIfInBounds j true).setIfInBounds i true := Array.setIfInBounds_comm _ _ (Ne.symm hji)
      have hback : ∀ {W : World}, (((listed.setIfInBounds i true).setIfInBounds j true).getD z true = false → S W) → (z ≠ i → (listed.setIfInBounds j true).getD z true = false → S W) := fun h hz h0 => h (by rw [hcomm, getD_set_ne true (Ne.symm hz)]; exact h0)
      refine wpOp_mono (fun a' w' h3 => ?_) h2
      refine ⟨⟨h3.2.1.1, hback h3.2.1.2 (Ne.symm hiz)⟩, ih (listed.setIfInBounds j true) a' w' hzz' hfree' (ready_mono hr (Ne.symm hji)) h3.1 ⟨h3.2.1.1, hback h3.2.1.2 (Ne.symm hiz)⟩ ?_⟩
      rw [← hcomm]
      exact h3.2.2
/-- Take number i first: it needs S, and z waits for it. -/
theorem wpAnyX_take {i : Nat} {oi : Oper} {v : Value} {fuel : Nat} {listed : Array Bool} {a : Act} {w : World} (hi : ops[i]? = some oi)
    (hs : Region.noSelect ops = true) (hf : (Region.free md ops listed i && waitsB md ops z i && !(listed.getD z true) && decide (i ≠ z)) = true) (hr : (Region.ready md ops listed).contains i = true)
    (hQ : ∀ c a w, Q (.panic c) (a.put oi.dst v) w → Q (.panic c) a w) (hy : YieldsIf P ops (fun w => R w ∧ S w) oi v a) (hS : R w ∧ (listed.getD z true = false → S w))
    (h : wpAnyX P md ops Q R S z fuel (listed.setIfInBounds i true) (a.put oi.dst v) w) : wpAnyX P md ops Q R S z (fuel + 1) listed a w := by
  simp only [Bool.and_eq_true, Bool.not_eq_true', decide_eq_true_eq] at hf
  exact wpAnyX_first (T := fun w => R w ∧ S w) hi (Region.noSelect_spec hs) hQ hf.2 (.inl ⟨hf.1.1.2, rfl⟩) fuel listed a w (fun _ _ => hf.1.2) (Region.free_spec hi hf.1.1.1) (by simpa using hr) hy hS h
/-- Take number i first: it needs only what holds to the end. -/
theorem wpAnyX_keep {i : Nat} {oi : Oper} {v : Value} {fuel : Nat} {listed : Array Bool} {a : Act} {w : World} (hi : ops[i]? = some oi)
    (hs : Region.noSelect ops = true) (hf : (Region.free md ops listed i && decide (i ≠ z) && !(waitsB md ops z i && listed.getD z true)) = true) (hr : (Region.ready md ops listed).contains i = true)
    (hQ : ∀ c a w, Q (.panic c) (a.put oi.dst v) w → Q (.panic c) a w) (hy : YieldsIf P ops R oi v a) (hS : R w ∧ (listed.getD z true = false → S w))
    (h : wpAnyX P md ops Q R S z fuel (listed.setIfInBounds i true) (a.put oi.dst v) w) : wpAnyX P md ops Q R S z (fuel + 1) listed a w := by
  simp only [Bool.and_eq_true, Bool.not_eq_true', decide_eq_true_eq, Bool.and_eq_false_iff] at hf
  exact wpAnyX_first (T := R) hi (Region.noSelect_spec hs) hQ hf.1.2 (.inr rfl) fuel listed a w (fun h1 _ => hf.2.resolve_left (by rw [h1]; simp)) (Region.free_spec hi hf.1.1) (by simpa using hr) hy hS h
theorem wpAnyX_done {listed : Array Bool} {a : Act} {w : World} (hr : Region.ready md ops listed = []) (h : Q .normal a w) :
    ∀ fuel, wpAnyX P md ops Q R S z fuel listed a w
  | 0 => ⟨hr, h⟩
  | _ + 1 => ⟨fun _ => h, by rw [hr]; simp⟩
theorem wp_region_x {id : Nat} {a : Act} {w : World} (hm : P.follows .mixedOrders = true)
    (h : wpAnyX P .any ops Q R S z ops.size (Array.replicate ops.size false) a { w with drawn := w.drawn + 1 }) : (Code.region id ops true).wp P Q a w :=
  wp_region_any hm (wpAny_of_x _ _ _ _ h)
theorem wpIn_region_x {r : Option Nat} {n id : Nat} {a : Act} {w : World} (hm : P.follows .mixedOrders = true) (hnd : noDefer ops = true) (hL : LetsOut Q → False)
    (h : wpAnyX P .any ops Q R S z ops.size (Array.replicate ops.size false) a { w with drawn := w.drawn + 1 }) : (Code.region id ops true).wpIn (fw r) n P Q a w :=
  wpIn_region_any' hm hnd hL (wpAny_of_x _ _ _ _ h)
/-- The only one that may come up comes up. -/
theorem wpAnyX_one {i : Nat} {o : Oper} {fuel : Nat} {listed : Array Bool} {a : Act} {w : World} (hr : Region.ready md ops listed = [i]) (ho : ops[i]? = some o) (hw : Region.wanted o (yielded ops a.tmps) = true)
    (h : ∀ K : Act → World → Prop, (∀ a' w', (R w' ∧ ((listed.setIfInBounds i true).getD z true = false → S w')) → wpAnyX P md ops Q R S z fuel (listed.setIfInBounds i true) a' w' → K a' w') → Oper.wp P o a w K Q) : wpAnyX P md ops Q R S z (fuel + 1) listed a w :=
  ⟨fun h0 => absurd (hr ▸ h0) (by simp), fun j hj => by
    rw [hr] at hj
    simp only [List.mem_singleton] at hj
    subst hj
    unfold wpOp
    rw [ho]
    simp only
    rw [if_pos hw]
    exact .inl (h _ fun a' w' h1 h2 => ⟨h1, h2⟩)⟩
/-- Each of these may come up. -/
def AllReadyX (P : Program) (md : Region.Mode) (ops : Array Oper) (Q : Exit → Act → World → Prop) (R S : World → Prop) (z : Nat) (fuel : Nat) (listed : Array Bool) (a : Act) (w : World) (rs : List Nat) : Prop :=
  ∀ i ∈ rs, wpOp P ops Q i (fun a' w' => (R w' ∧ ((listed.setIfInBounds i true).getD z true = false → S w')) ∧ wpAnyX P md ops Q R S z fuel (listed.setIfInBounds i true) a' w') a w
theorem AllReadyX.nil {fuel : Nat} {listed : Array Bool} {a : Act} {w : World} : AllReadyX P md ops Q R S z fuel listed a w [] := fun _ h => by cases h
theorem AllReadyX.cons {fuel : Nat} {listed : Array Bool} {a : Act} {w : World} {i : Nat} {o : Oper} {rs : List Nat} (ho : ops[i]? = some o) (hw : Region.wanted o (yielded ops a.tmps) = true)
    (h : ∀ K : Act → World → Prop, (∀ a' w', (R w' ∧ ((listed.setIfInBounds i true).getD z true = false → S w')) → wpAnyX P md ops Q R S z fuel (listed.setIfInBounds i true) a' w' → K a' w') → Oper.wp P o a w K Q)
    (hs : AllReadyX P md ops Q R S z fuel listed a w rs) : AllReadyX P md ops Q R S z fuel listed a w (i :: rs) := fun j hj => by
  rcases List.mem_cons.1 hj with rfl | hj
  · unfold wpOp
    rw [ho]
    simp only
    rw [if_pos hw]
    exact .inl (h _ fun a' w' h1 h2 => ⟨h1, h2⟩)
  · exact hs j hj
theorem wpAnyX_ready {rs : List Nat} {fuel : Nat} {listed : Array Bool} {a : Act} {w : World} (hr : Region.ready md ops listed = rs) (hne : rs ≠ [])
    (h : AllReadyX P md ops Q R S z fuel listed a w rs) : wpAnyX P md ops Q R S z (fuel + 1) listed a w := ⟨fun h0 => absurd (hr ▸ h0) hne, hr ▸ h⟩
end
end YtgnjeefanbcbkaaIt
end Go
