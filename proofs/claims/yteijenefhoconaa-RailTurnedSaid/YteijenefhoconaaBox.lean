/- A region whose order is open, that reads, makes one variable and stores into it at its end. Over whatever program. -/
import Derived.Test.YteijenefhoconaaLaws
import Derived.StillTail
namespace Go
namespace YteijenefhoconaaIt
open Go.RowKit
section
variable {P : Program}
/-- Operations that compute or read. -/
def plainOp : Op → Bool
  | .move _ | .assign _ | .load .. | .binOp .. | .unOp .. | .convert .. | .fieldAddr .. | .field .. | .indexAddr .. | .index .. | .build .. | .slice .. | .extract .. => true
  | .call c => match c.callee with
    | .builtin .len => true
    | _ => false
  | _ => false
theorem run_value_form {s : Sem Value} {W W' : World} {x : Next} (h : ((do pure (Next.value (← s))) : Sem Next).run P W = .ok x W') : ∃ u, x = .value u := by
  rw [Sem.run_bind] at h
  cases hr : s.run P W with
  | ok u w1 =>
    rw [hr] at h
    simp only [Result.andThen_ok] at h
    have h2 : Result.ok (Next.value u) w1 = .ok x W' := h
    injection h2 with e1 _
    exact ⟨u, e1.symm⟩
  | halt x w1 => rw [hr] at h; cases h
theorem plain_form {o : Oper} {ρ : Operand → Value} (h : plainOp o.op = true) {W W' : World} {x : Next} (hr : (execOp ρ o).run P W = .ok x W') : ∃ u, x = .value u := by
  unfold execOp at hr
  unfold plainOp at h
  revert h hr
  cases o.op with
  | move y => intro _ hr; injection hr with e _; exact ⟨_, e.symm⟩
  | assign y => intro _ hr; injection hr with e _; exact ⟨_, e.symm⟩
  | call c =>
    intro h hr
    dsimp only at hr h
    unfold resolve at hr
    cases hc : c.callee with
    | builtin b =>
      rw [hc] at h hr
      cases b <;> simp only [Bool.false_eq_true] at h
      simp only [invoke] at hr
      exact run_value_form hr
    | _ => rw [hc] at h; simp at h
  | load t x => intro _ hr; exact run_value_form hr
  | binOp p t x y u => intro _ hr; exact run_value_form hr
  | unOp p t x => intro _ hr; exact run_value_form hr
  | convert t u x => intro _ hr; exact run_value_form hr
  | fieldAddr t x f => intro _ hr; exact run_value_form hr
  | field t x f => intro _ hr; exact run_value_form hr
  | indexAddr t x f => intro _ hr; exact run_value_form hr
  | index t x f => intro _ hr; exact run_value_form hr
  | build t x => intro _ hr; exact run_value_form hr
  | slice t x l h m => intro _ hr; exact run_value_form hr
  | extract t i => intro _ hr; exact run_value_form hr
  | _ => intro h; simp at h


variable {Q : Exit → Act → World → Prop} {D0 D1 : World}
theorem ready_same {md : Region.Mode} {ops ops' : Array Oper} (hs : ops'.size = ops.size) (ha : ∀ i : Nat, (ops'[i]?).map Oper.after = (ops[i]?).map Oper.after) (listed : Array Bool) : Region.ready md ops' listed = Region.ready md ops listed := by
  unfold Region.ready
  rw [hs]
  refine List.filter_congr fun i _ => ?_
  have h := ha i
  cases h1 : ops'[i]? with
  | none => cases h2 : ops[i]? with
    | none => rfl
    | some o => rw [h1, h2] at h; cases h
  | some o' => cases h2 : ops[i]? with
    | none => rw [h1, h2] at h; cases h
    | some o =>
      rw [h1, h2] at h
      have e : o'.after = o.after := by simpa using h
      simp [e]
/-- An operation waits for earlier ones alone. -/
def backB (ops : Array Oper) : Bool := (List.range ops.size).all fun j => ((ops[j]?).map fun o => o.after.all fun e => !Region.binds .any e || decide (e.on < j)).getD true
theorem ready_some {ops : Array Oper} (hb : backB ops = true) {listed : Array Bool} (hsz : listed.size = ops.size) : ∀ i, i < ops.size → listed.getD i true = false → Region.ready .any ops listed ≠ [] := by
  intro i
  induction i using Nat.strongRecOn with
  | _ i ih =>
  intro hi hun
  obtain ⟨o, ho⟩ : ∃ o, ops[i]? = some o := ⟨_, Array.getElem?_eq_getElem hi⟩
  have h1 := List.all_eq_true.1 hb i (List.mem_range.2 hi)
  rw [ho] at h1
  have h2 : ∀ e ∈ o.after, Region.binds .any e = true → e.on < i := fun e he hbd => by
    have h3 : (o.after.all fun e => !Region.binds .any e || decide (e.on < i)) = true := h1
    have := Array.all_eq_true'.1 h3 e he
    simpa [hbd] using this
  by_cases hall : ∀ e ∈ o.after, Region.binds .any e = true → listed.getD e.on false = true
  · intro h0
    have : i ∈ Region.ready .any ops listed := mem_ready.2 ⟨hun, o, ho, hall⟩
    rw [h0] at this; cases this
  · have : ∃ e ∈ o.after, Region.binds .any e = true ∧ listed.getD e.on false ≠ true := by
      refine Classical.byContradiction fun hc => hall fun e he hbd => Classical.byContradiction fun hn => hc ⟨e, he, hbd, hn⟩
    obtain ⟨e, he, hbd, hne⟩ := this
    refine ih e.on (h2 e he hbd) (by have := h2 e he hbd; omega) ?_
    have := h2 e he hbd
    cases hl : listed.getD e.on true with
    | false => rfl
    | true =>
      have hlt : e.on < listed.size := by rw [hsz]; omega
      simp [hlt] at hl hne
      rw [hl] at hne; cases hne
/-- Which world it is: with the new variable, or not yet. -/
def Ph (n : Nat) (D0 D1 : World) (listed : Array Bool) (W : World) : Prop := W = if listed.getD n false then D1 else D0
theorem sim_alloc {ops ops' : Array Oper} {n t : Nat} {on ot : Oper} {elem : TypeId} {p : Value} (hnt : n < t) (htl : t + 1 = ops.size) (hon : ops[n]? = some on) (honop : on.op = .alloc elem) (hot : ops[t]? = some ot) (htd : ot.dst = none)
    (hg : ∀ (i : Nat) (o : Oper), ops[i]? = some o → o.guard = none)
    (hrest : ∀ (i : Nat) (o : Oper), ops[i]? = some o → i ≠ n → i ≠ t → plainOp o.op = true ∧ ops'[i]? = some o)
    (hn' : ops'[n]? = some { on with op := .move (.const p) }) (ht' : ops'[t]? = some { ot with op := .move (.const undef) })
    (hr : ∀ listed, Region.ready .any ops' listed = Region.ready .any ops listed) (hback : backB ops = true)
    (hsink : Region.sinkB .any ops t = true) (hchain : Region.chainB .any ops t = true)
    (hal : (Instr.alloc elem true (.tuple #[])).run P D0 = .ok p D1) {C : World → Prop} (hC0 : C D0) (hC1 : C D1) {R : Act → Prop}
    (hR : ∀ a, R a → ot.wp P a D1 (fun a' w' => Q .normal a' w') Q ∨ (ot.asks P a D1 ∧ LetsOut Q)) :
    ∀ (fuel : Nat) (listed : Array Bool) (a : Act) (W : World), HeadInv .any ops t listed → wpAnyQ P .any ops' C R fuel listed a → Ph n D0 D1 listed W →
      wpAny P .any ops Q fuel listed a W := by
  have wanted : ∀ (i : Nat) (o : Oper), ops[i]? = some o → ∀ y, Region.wanted o y = true := fun i o h y => by simp [Region.wanted, hg i o h]
  intro fuel
  induction fuel with
  | zero =>
    intro listed a W inv h _
    have h0 := h.1
    rw [hr] at h0
    exact absurd h0 (ready_some hback inv.size t (by omega) (inv.tail t (Nat.le_refl _) (by omega)))
  | succ fuel ih =>
    intro listed a W inv h hph
    refine ⟨fun h0 => absurd h0 (ready_some hback inv.size t (by omega) (inv.tail t (Nat.le_refl _) (by omega))), fun i hi => ?_⟩
    have hq := h.2 i (by rw [hr]; exact hi)
    obtain ⟨hun, oi, hoi, hall⟩ := mem_ready.1 hi
    have hilt : i < ops.size := (Array.getElem?_eq_some_iff.1 hoi).1
    have hwi := wanted i oi hoi
    unfold wpOp
    simp only [hoi, hwi, if_true]
    by_cases hit : i = t
    · subst hit
      have : oi = ot := Option.some.inj (hoi.symm.trans hot)
      subst this
      have hbefore : ∀ j, j < i → listed.getD j true = true := fun j hj => by
        cases hl : listed.getD j true with
        | true => rfl
        | false => exact absurd hi (tail_waits hsink hchain (by omega) inv _ j rfl hj hl i (Nat.le_refl _))
      have hnl : listed.getD n false = true := by
        have h1 := hbefore n hnt
        have : n < listed.size := by rw [inv.size]; omega
        simp [this] at h1 ⊢; exact h1
      have hW : W = D1 := by rw [hph, hnl]; rfl
      subst hW
      have hnil : ∀ l2 : Array Bool, l2 = listed.setIfInBounds i true → Region.ready .any ops l2 = [] := fun l2 hl2 => by
        refine List.eq_nil_iff_forall_not_mem.2 fun j hj => ?_
        obtain ⟨hjun, oj, hoj, _⟩ := mem_ready.1 hj
        have hjlt : j < ops.size := (Array.getElem?_eq_some_iff.1 hoj).1
        rw [hl2] at hjun
        by_cases hji : i = j
        · subst hji
          have : i < listed.size := by rw [inv.size]; omega
          simp [this] at hjun
        · rw [getD_set_ne true hji, hbefore j (by omega)] at hjun; cases hjun
      unfold qOp at hq
      simp only [ht'] at hq
      rw [if_pos (by simp [Region.wanted, hg _ _ hoi])] at hq
      obtain ⟨v, _, hK⟩ := hq
      have hRa : R a := by
        have e : a.put ({ oi with op := .move (.const undef) } : Oper).dst v = a := by simp [htd, Act.put]
        rw [e] at hK
        have hn0 := hnil _ rfl
        rw [← hr] at hn0
        cases fuel with
        | zero => exact hK.2
        | succ f => exact hK.1 hn0
      refine (hR a hRa).imp (Oper.wp_mono (fun a' w' hq' => ?_)) id
      have hn0 := hnil _ rfl
      cases fuel with
      | zero => exact ⟨hn0, hq'⟩
      | succ f => exact ⟨fun _ => hq', fun j hj => by rw [hn0] at hj; cases hj⟩
    · left
      by_cases hin : i = n
      · subst hin
        have : oi = on := Option.some.inj (hoi.symm.trans hon)
        subst this
        have hnl : listed.getD i false = false := getD_both hun
        have hW : W = D0 := by rw [hph, hnl]; rfl
        subst hW
        unfold qOp at hq
        simp only [hn'] at hq
        rw [if_pos (by simp [Region.wanted, hg _ _ hoi])] at hq
        obtain ⟨v, hv, hK⟩ := hq
        have h3 := hv W hC0
        unfold Oper.quietAt execOp at h3
        have h4 : W = W ∧ p = v := h3
        rw [← h4.2] at hK
        unfold Oper.wp execOp
        simp only [honop, Sem.run_bind, hal, Result.andThen_ok]
        refine ih _ _ _ (inv.set hi hnt) hK ?_
        unfold Ph
        have : i < listed.size := by rw [inv.size]; omega
        simp [this]
      · obtain ⟨hpl, hoi'⟩ := hrest i oi hoi hin hit
        unfold qOp at hq
        simp only [hoi'] at hq
        rw [if_pos (by simp [Region.wanted, hg _ _ hoi])] at hq
        obtain ⟨v, hv, hK⟩ := hq
        have hC : C W := by
          unfold Ph at hph
          cases hl : listed.getD n false <;> rw [hl] at hph
          · rw [hph]; exact hC0
          · rw [hph]; exact hC1
        have h3 := hv W hC
        unfold Oper.quietAt at h3
        unfold Oper.wp
        have hpf := fun x W' => plain_form (P := P) (ρ := a.eval) hpl (W := W) (W' := W') (x := x)
        generalize hrun : (execOp a.eval oi).run P W = r at *
        cases r with
        | halt x w' => exact h3.elim
        | ok x w' =>
          obtain ⟨u, rfl⟩ := hpf x w' rfl
          obtain ⟨e1, e2⟩ : w' = W ∧ u = v := h3
          rw [e1, e2]
          refine ih _ _ _ (inv.set hi (by omega)) hK ?_
          unfold Ph at hph ⊢
          rw [getD_set_ne false hin]
          exact hph

/-- The region's operations with the two that write struck. -/
def struck (l : List Oper) (n t : Nat) (p : Value) : List Oper := l.mapIdx fun i o => if i = n then { o with op := .move (.const p) } else if i = t then { o with op := .move (.const undef) } else o
def chkA (l : List Oper) (n t : Nat) : Bool :=
  decide (n < t) && decide (t + 1 = l.length) && l.zipIdx.all (fun x => x.1.guard.isNone && (x.2 == n || x.2 == t || plainOp x.1.op)) &&
  backB l.toArray && Region.sinkB .any l.toArray t && Region.chainB .any l.toArray t
theorem struck_get (l : List Oper) (n t : Nat) (p : Value) (i : Nat) : (struck l n t p)[i]? = (l[i]?).map fun o => if i = n then { o with op := .move (.const p) } else if i = t then { o with op := .move (.const undef) } else o := by
  simp [struck]
/-- One of two worlds. -/
structure Tw (D0 D1 : World) where
  val : World
  ok : val = D0 ∨ val = D1
theorem tw_cell {w : World} {o : Obj} (x : Tw w.drew (w.alloc o).drew) {p : Addr} (h : p.block < w.heap.size) : x.val.cell? p = w.cell? p := by
  rcases x.ok with h1 | h1 <;> rw [h1]
  · rfl
  · exact World.cell?_of_block (w := w) (by show (w.heap.push o)[p.block]? = _; rw [Array.getElem?_push, if_neg (by omega)])
instance {D0 D1 : World} : Nonempty (Tw D0 D1) := ⟨⟨D0, .inl rfl⟩⟩
def struckS (l : List Oper) (n t : Nat) (on ot : Oper) (p : Value) : List Oper := (l.set n { on with op := .move (.const p) }).set t { ot with op := .move (.const undef) }
theorem struckS_eq {l : List Oper} {n t : Nat} {on ot : Oper} {p : Value} (hne : n < t) (hon : l[n]? = some on) (hot : l[t]? = some ot) : struckS l n t on ot p = struck l n t p := by
  apply List.ext_getElem?
  intro i
  rw [struck_get, struckS, List.getElem?_set, List.getElem?_set]
  obtain ⟨h1, rfl⟩ := List.getElem?_eq_some_iff.1 hon
  obtain ⟨h2, rfl⟩ := List.getElem?_eq_some_iff.1 hot
  by_cases e1 : t = i
  · subst e1
    have : ¬ t = n := by omega
    simp [h2, this]
  · rw [if_neg e1]
    by_cases e2 : n = i
    · subst e2; simp [h1]
    · rw [if_neg e2]
      have e1' : ¬ i = t := fun h => e1 h.symm
      have e2' : ¬ i = n := fun h => e2 h.symm
      cases l[i]? <;> simp [e1', e2']
theorem wp_region_alloc {id : Nat} {Q : Exit → Act → World → Prop} {a : Act} {w : World} {l : List Oper} (n t : Nat) {on ot : Oper} {elem : TypeId} {obj : Obj} {p : Value} (hm : P.follows .mixedOrders = true)
    (hc : chkA l n t = true) (hon : l[n]? = some on) (honop : on.op = .alloc elem) (hot : l[t]? = some ot) (htd : ot.dst = none) (hB : Region.lexB .any (struckS l n t on ot p).toArray = true)
    (hal : (Instr.alloc elem true (.tuple #[])).run P w.drew = .ok p (w.alloc obj).drew)
    (h : wpQuiet P (struckS l n t on ot p).toArray (fun W => ∃ x : Tw w.drew (w.alloc obj).drew, W = x.val) (fun a' => wpList P l.toArray Q [ot] a' (w.alloc obj).drew) (struckS l n t on ot p) a) : (Code.region id l.toArray true).wp P Q a w := by
  simp only [chkA, Bool.and_eq_true, decide_eq_true_eq] at hc
  obtain ⟨⟨⟨⟨⟨hnt, htl⟩, hall⟩, hback⟩, hsink⟩, hchain⟩ := hc
  rw [struckS_eq hnt hon hot] at hB h
  have each : ∀ (i : Nat) (o : Oper), l[i]? = some o → o.guard = none ∧ (i ≠ n → i ≠ t → plainOp o.op = true) := fun i o ho => by
    have hmem : (o, i) ∈ l.zipIdx := by
      rw [List.mem_zipIdx_iff_getElem?]; exact ho
    have := List.all_eq_true.1 hall _ hmem
    simp only [Bool.and_eq_true, Option.isNone_iff_eq_none, Bool.or_eq_true, beq_iff_eq] at this
    exact ⟨this.1, fun h1 h2 => by rcases this.2 with (h3 | h3) | h3 <;> first | contradiction | exact h3⟩
  have hg : ∀ (i : Nat) (o : Oper), l.toArray[i]? = some o → o.guard = none := fun i o ho => (each i o (by simpa using ho)).1
  have hrest : ∀ (i : Nat) (o : Oper), l.toArray[i]? = some o → i ≠ n → i ≠ t → plainOp o.op = true ∧ (struck l n t p).toArray[i]? = some o := fun i o ho h1 h2 => by
    have ho' : l[i]? = some o := by simpa using ho
    refine ⟨(each i o ho').2 h1 h2, ?_⟩
    rw [List.getElem?_toArray, struck_get, ho']
    simp [h1, h2]
  have hr : ∀ listed, Region.ready .any (struck l n t p).toArray listed = Region.ready .any l.toArray listed := ready_same (by simp [struck]) fun i => by
    rw [List.getElem?_toArray, List.getElem?_toArray, struck_get]
    cases l[i]? with
    | none => rfl
    | some o =>
      simp only [Option.map_some]
      split
      · rfl
      · split <;> rfl
  have hB' := hB
  simp only [Region.lexB, Bool.and_eq_true] at hB'
  refine wp_region_any hm ?_
  have hq := wpAnyQ_lex (P := P) (C := fun W => ∃ x : Tw w.drew (w.alloc obj).drew, W = x.val) (md := .any) hB'.1 (struck l n t p) 0 (Array.replicate (struck l n t p).toArray.size false) a (by simp) (by simpa using hB'.2) h
  have e1 : (struck l n t p).toArray.size = l.toArray.size := by simp [struck]
  rw [e1] at hq
  have e2 : (struck l n t p).length = l.toArray.size := by simp [struck]
  rw [e2] at hq
  refine sim_alloc (D0 := w.drew) (D1 := w.drew.alloc obj) (p := p) hnt (by simpa using htl) (by simpa using hon) honop (by simpa using hot) htd hg hrest ?_ ?_ hr hback hsink hchain hal ⟨⟨_, .inl rfl⟩, rfl⟩ ⟨⟨_, .inr rfl⟩, rfl⟩ (R := fun a' => wpList P l.toArray Q [ot] a' (w.alloc obj).drew) ?_ _ _ _ _ ⟨by simp, fun j oj _ hl e _ _ => ?_, fun i hi hilt => ?_⟩ hq ?_
  · rw [List.getElem?_toArray, struck_get, hon]; simp
  · rw [List.getElem?_toArray, struck_get, hot]
    have : ¬ t = n := by omega
    simp [this]
  · intro a' ha'
    have hgt := (each t ot hot).1
    have hw : Region.wanted ot (yielded l.toArray a'.tmps) = true := by simp [Region.wanted, hgt]
    unfold wpList at ha'
    rw [if_pos hw] at ha'
    exact ha'
  · rw [getD_replicate_false] at hl; cases hl
  · have : i < l.length := by simpa using hilt
    simp [this]
  · unfold Ph
    rw [getD_replicate_false]; rfl
end
end YteijenefhoconaaIt
end Go
