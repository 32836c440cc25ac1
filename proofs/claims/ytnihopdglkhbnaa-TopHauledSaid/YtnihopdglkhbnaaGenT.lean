/- Generic laws besides. -/
import Derived.Test.YtnihopdglkhbnaaDisp
import Derived.Test.YtnihopdglkhbnaaBox
import Derived.RangeFuncNested
import Derived.RangeFuncBound
import Derived.RangeFuncCalls
import Derived.RangeFuncLeaves
import Derived.RangeFuncWrites
import Derived.Shelf.Abstract
import Derived.WalkKit
import Derived.Deep.QuietTactic
import Derived.BigQuiet
import Derived.TacticsInMore
import Derived.Maps.Keyed
import Derived.StillTailTactics
import Derived.Deep.RegionLaw
import Derived.StillTail
import Derived.OrdersIn
import Derived.OrdersHeld
import Derived.WideKeyArr
import Derived.Maps.AppendAt
import Derived.Deep.AppendLies
import Derived.RegionTactic
import Derived.OwnWalk
import Derived.Below
import Derived.Laws.OwnMore
import Derived.Deep.Draws
import Derived.ChangeSame
import Derived.ProofKit
import Derived.OpenShut
import Derived.Outline
import Derived.WalkLawsBesides
import Derived.WalkSpells
import Derived.Lib.Hide
import Derived.Handy
import Derived.Deep.LoopGhost
import Derived.LoopNIn
import Derived.LoopIn
import Derived.OwnWalkIn
import Derived.Lib.SmallJoins
import Derived.Laws.StructEq
import Derived.Deep.SlicePairs
import Derived.Deep.RegionHeld3
import Derived.SizedLaws
import Derived.Carry
import Derived.ChangeSlices
namespace Go
namespace YtnihopdglkhbnaaIt
open Go.RowKit

section
variable {P : Program}

variable {V : FuncId → Prop} {r : Option Nat} {Q : Exit → Act → World → Prop} {a : Act} {w : World}

end
end YtnihopdglkhbnaaIt
end Go
namespace Go
namespace YtnihopdglkhbnaaIt
open Go.RowKit
section
variable {P : Program}
instance {B : Nat} {w : World} : Nonempty (Ab B w) := ⟨⟨w, Below.refl _ _⟩⟩
end
end YtnihopdglkhbnaaIt
end Go
namespace Go
namespace YtnihopdglkhbnaaIt
open Go.RowKit
section
variable {P : Program}
/-- Operations that compute or read. -/
def plainOp : Op → Bool
  | .move _ | .assign _ | .load .. | .binOp .. | .unOp .. | .convert .. | .fieldAddr .. | .field .. | .indexAddr .. | .index .. | .build .. | .slice .. | .extract .. => true
  | .call c => match c.callee with
    | .builtin .len => true
    | _ => false
  | _ => false
theorem run_value_form {s : Sem Value} {W W' : World} {x : Next} (h : ((do pure (Next.value (← s))) : Sem Next).run P W = .ok x W') : ∃ u, x = .value u := by
  rw [Sem.run_bind] at h
  cases hr : s.run P W with
  | ok u w1 =>
    rw [hr] at h
    simp only [Result.andThen_ok] at h
    have h2 : Result.ok (Next.value u) w1 = .ok x W' := h
    injection h2 with e1 _
    exact ⟨u, e1.symm⟩
  | halt x w1 => rw [hr] at h; cases h
theorem plain_form {o : Oper} {ρ : Operand → Value} (h : plainOp o.op = true) {W W' : World} {x : Next} (hr : (execOp ρ o).run P W = .ok x W') : ∃ u, x = .value u := by
  unfold execOp at hr
  unfold plainOp at h
  revert h hr
  cases o.op with
  | move y => intro _ hr; injection hr with e _; exact ⟨_, e.symm⟩
  | assign y => intro _ hr; injection hr with e _; exact ⟨_, e.symm⟩
  | call c =>
    intro h hr
    dsimp only at hr h
    unfold resolve at hr
    cases hc : c.callee with
    | builtin b =>
      rw [hc] at h hr
      cases b <;> simp only [Bool.false_eq_true] at h
      simp only [invoke] at hr
      exact run_value_form hr
    | _ => rw [hc] at h; simp at h
  | load t x => intro _ hr; exact run_value_form hr
  | binOp p t x y u => intro _ hr; exact run_value_form hr
  | unOp p t x => intro _ hr; exact run_value_form hr
  | convert t u x => intro _ hr; exact run_value_form hr
  | fieldAddr t x f => intro _ hr; exact run_value_form hr
  | field t x f => intro _ hr; exact run_value_form hr
  | indexAddr t x f => intro _ hr; exact run_value_form hr
  | index t x f => intro _ hr; exact run_value_form hr
  | build t x => intro _ hr; exact run_value_form hr
  | slice t x l h m => intro _ hr; exact run_value_form hr
  | extract t i => intro _ hr; exact run_value_form hr
  | _ => intro h; simp at h


variable {Q : Exit → Act → World → Prop} {D0 D1 : World}
theorem ready_same {md : Region.Mode} {ops ops' : Array Oper} (hs : ops'.size = ops.size) (ha : ∀ i : Nat, (ops'[i]?).map Oper.after = (ops[i]?).map Oper.after) (listed : Array Bool) : Region.ready md ops' listed = Region.ready md ops listed := by
  unfold Region.ready
  rw [hs]
  refine List.filter_congr fun i _ => ?_
  have h := ha i
  cases h1 : ops'[i]? with
  | none => cases h2 : ops[i]? with
    | none => rfl
    | some o => rw [h1, h2] at h; cases h
  | some o' => cases h2 : ops[i]? with
    | none => rw [h1, h2] at h; cases h
    | some o =>
      rw [h1, h2] at h
      have e : o'.after = o.after := by simpa using h
      simp [e]
/-- An operation waits for earlier ones alone. -/
def backB (ops : Array Oper) : Bool := (List.range ops.size).all fun j => ((ops[j]?).map fun o => o.after.all fun e => !Region.binds .any e || decide (e.on < j)).getD true
theorem ready_some {ops : Array Oper} (hb : backB ops = true) {listed : Array Bool} (hsz : listed.size = ops.size) : ∀ i, i < ops.size → listed.getD i true = false → Region.ready .any ops listed ≠ [] := by
  intro i
  induction i using Nat.strongRecOn with
  | _ i ih =>
  intro hi hun
  obtain ⟨o, ho⟩ : ∃ o, ops[i]? = some o := ⟨_, Array.getElem?_eq_getElem hi⟩
  have h1 := List.all_eq_true.1 hb i (List.mem_range.2 hi)
  rw [ho] at h1
  have h2 : ∀ e ∈ o.after, Region.binds .any e = true → e.on < i := fun e he hbd => by
    have h3 : (o.after.all fun e => !Region.binds .any e || decide (e.on < i)) = true := h1
    have := Array.all_eq_true'.1 h3 e he
    simpa [hbd] using this
  by_cases hall : ∀ e ∈ o.after, Region.binds .any e = true → listed.getD e.on false = true
  · intro h0
    have : i ∈ Region.ready .any ops listed := mem_ready.2 ⟨hun, o, ho, hall⟩
    rw [h0] at this; cases this
  · have : ∃ e ∈ o.after, Region.binds .any e = true ∧ listed.getD e.on false ≠ true := by
      refine Classical.byContradiction fun hc => hall fun e he hbd => Classical.byContradiction fun hn => hc ⟨e, he, hbd, hn⟩
    obtain ⟨e, he, hbd, hne⟩ := this
    refine ih e.on (h2 e he hbd) (by have := h2 e he hbd; omega) ?_
    have := h2 e he hbd
    cases hl : listed.getD e.on true with
    | false => rfl
    | true =>
      have hlt : e.on < listed.size := by rw [hsz]; omega
      simp [hlt] at hl hne
      rw [hl] at hne; cases hne
/-- Which world it is: with the new variable, or not yet. -/
def Ph (n : Nat) (D0 D1 : World) (listed : Array Bool) (W : World) : Prop := W = if listed.getD n false then D1 else D0
theorem sim_alloc {ops ops' : Array Oper} {n t : Nat} {on ot : Oper} {elem : TypeId} {p : Value} (hnt : n < t) (htl : t + 1 = ops.size) (hon : ops[n]? = some on) (honop : on.op = .alloc elem) (hot : ops[t]? = some ot) (htd : ot.dst = none)
    (hg : ∀ (i : Nat) (o : Oper), ops[i]? = some o → o.guard = none)
    (hrest : ∀ (i : Nat) (o : Oper), ops[i]? = some o → i ≠ n → i ≠ t → plainOp o.op = true ∧ ops'[i]? = some o)
    (hn' : ops'[n]? = some { on with op := .move (.const p) }) (ht' : ops'[t]? = some { ot with op := .move (.const undef) })
    (hr : ∀ listed, Region.ready .any ops' listed = Region.ready .any ops listed) (hback : backB ops = true)
    (hsink : Region.sinkB .any ops t = true) (hchain : Region.chainB .any ops t = true)
    (hal : (Instr.alloc elem true (.tuple #[])).run P D0 = .ok p D1) {C : World → Prop} (hC0 : C D0) (hC1 : C D1) {R : Act → Prop}
    (hR : ∀ a, R a → ot.wp P a D1 (fun a' w' => Q .normal a' w') Q ∨ (ot.asks P a D1 ∧ LetsOut Q)) :
    ∀ (fuel : Nat) (listed : Array Bool) (a : Act) (W : World), HeadInv .any ops t listed → wpAnyQ P .any ops' C R fuel listed a → Ph n D0 D1 listed W →
      wpAny P .any ops Q fuel listed a W := by
  have wanted : ∀ (i : Nat) (o : Oper), ops[i]? = some o → ∀ y, Region.wanted o y = true := fun i o h y => by simp [Region.wanted, hg i o h]
  intro fuel
  induction fuel with
  | zero =>
    intro listed a W inv h _
    have h0 := h.1
    rw [hr] at h0
    exact absurd h0 (ready_some hback inv.size t (by omega) (inv.tail t (Nat.le_refl _) (by omega)))
  | succ fuel ih =>
    intro listed a W inv h hph
    refine ⟨fun h0 => absurd h0 (ready_some hback inv.size t (by omega) (inv.tail t (Nat.le_refl _) (by omega))), fun i hi => ?_⟩
    have hq := h.2 i (by rw [hr]; exact hi)
    obtain ⟨hun, oi, hoi, hall⟩ := mem_ready.1 hi
    have hilt : i < ops.size := (Array.getElem?_eq_some_iff.1 hoi).1
    have hwi := wanted i oi hoi
    unfold wpOp
    simp only [hoi, hwi, if_true]
    by_cases hit : i = t
    · subst hit
      have : oi = ot := Option.some.inj (hoi.symm.trans hot)
      subst this
      have hbefore : ∀ j, j < i → listed.getD j true = true := fun j hj => by
        cases hl : listed.getD j true with
        | true => rfl
        | false => exact absurd hi (tail_waits hsink hchain (by omega) inv _ j rfl hj hl i (Nat.le_refl _))
      have hnl : listed.getD n false = true := by
        have h1 := hbefore n hnt
        have : n < listed.size := by rw [inv.size]; omega
        simp [this] at h1 ⊢; exact h1
      have hW : W = D1 := by rw [hph, hnl]; rfl
      subst hW
      have hnil : ∀ l2 : Array Bool, l2 = listed.setIfInBounds i true → Region.ready .any ops l2 = [] := fun l2 hl2 => by
        refine List.eq_nil_iff_forall_not_mem.2 fun j hj => ?_
        obtain ⟨hjun, oj, hoj, _⟩ := mem_ready.1 hj
        have hjlt : j < ops.size := (Array.getElem?_eq_some_iff.1 hoj).1
        rw [hl2] at hjun
        by_cases hji : i = j
        · subst hji
          have : i < listed.size := by rw [inv.size]; omega
          simp [this] at hjun
        · rw [getD_set_ne true hji, hbefore j (by omega)] at hjun; cases hjun
      unfold qOp at hq
      simp only [ht'] at hq
      rw [if_pos (by simp [Region.wanted, hg _ _ hoi])] at hq
      obtain ⟨v, _, hK⟩ := hq
      have hRa : R a := by
        have e : a.put ({ oi with op := .move (.const undef) } : Oper).dst v = a := by simp [htd, Act.put]
        rw [e] at hK
        have hn0 := hnil _ rfl
        rw [← hr] at hn0
        cases fuel with
        | zero => exact hK.2
        | succ f => exact hK.1 hn0
      refine (hR a hRa).imp (Oper.wp_mono (fun a' w' hq' => ?_)) id
      have hn0 := hnil _ rfl
      cases fuel with
      | zero => exact ⟨hn0, hq'⟩
      | succ f => exact ⟨fun _ => hq', fun j hj => by rw [hn0] at hj; cases hj⟩
    · left
      by_cases hin : i = n
      · subst hin
        have : oi = on := Option.some.inj (hoi.symm.trans hon)
        subst this
        have hnl : listed.getD i false = false := getD_both hun
        have hW : W = D0 := by rw [hph, hnl]; rfl
        subst hW
        unfold qOp at hq
        simp only [hn'] at hq
        rw [if_pos (by simp [Region.wanted, hg _ _ hoi])] at hq
        obtain ⟨v, hv, hK⟩ := hq
        have h3 := hv W hC0
        unfold Oper.quietAt execOp at h3
        have h4 : W = W ∧ p = v := h3
        rw [← h4.2] at hK
        unfold Oper.wp execOp
        simp only [honop, Sem.run_bind, hal, Result.andThen_ok]
        refine ih _ _ _ (inv.set hi hnt) hK ?_
        unfold Ph
        have : i < listed.size := by rw [inv.size]; omega
        simp [this]
      · obtain ⟨hpl, hoi'⟩ := hrest i oi hoi hin hit
        unfold qOp at hq
        simp only [hoi'] at hq
        rw [if_pos (by simp [Region.wanted, hg _ _ hoi])] at hq
        obtain ⟨v, hv, hK⟩ := hq
        have hC : C W := by
          unfold Ph at hph
          cases hl : listed.getD n false <;> rw [hl] at hph
          · rw [hph]; exact hC0
          · rw [hph]; exact hC1
        have h3 := hv W hC
        unfold Oper.quietAt at h3
        unfold Oper.wp
        have hpf := fun x W' => plain_form (P := P) (ρ := a.eval) hpl (W := W) (W' := W') (x := x)
        generalize hrun : (execOp a.eval oi).run P W = r at *
        cases r with
        | halt x w' => exact h3.elim
        | ok x w' =>
          obtain ⟨u, rfl⟩ := hpf x w' rfl
          obtain ⟨e1, e2⟩ : w' = W ∧ u = v := h3
          rw [e1, e2]
          refine ih _ _ _ (inv.set hi (by omega)) hK ?_
          unfold Ph at hph ⊢
          rw [getD_set_ne false hin]
          exact hph

/-- The region's operations with the two that write struck. -/
def struck (l : List Oper) (n t : Nat) (p : Value) : List Oper := l.mapIdx fun i o => if i = n then { o with op := .move (.const p) } else if i = t then { o with op := .move (.const undef) } else o
def chkA (l : List Oper) (n t : Nat) : Bool :=
  decide (n < t) && decide (t + 1 = l.length) && l.zipIdx.all (fun x => x.1.guard.isNone && (x.2 == n || x.2 == t || plainOp x.1.op)) &&
  backB l.toArray && Region.sinkB .any l.toArray t && Region.chainB .any l.toArray t
theorem struck_get (l : List Oper) (n t : Nat) (p : Value) (i : Nat) : (struck l n t p)[i]? = (l[i]?).map fun o => if i = n then { o with op := .move (.const p) } else if i = t then { o with op := .move (.const undef) } else o := by
  simp [struck]
theorem tw_cell {w : World} {o : Obj} (x : Tw w.drew (w.alloc o).drew) {p : Addr} (h : p.block < w.heap.size) : x.val.cell? p = w.cell? p := by
  rcases x.ok with h1 | h1 <;> rw [h1]
  · rfl
  · exact World.cell?_of_block (w := w) (by show (w.heap.push o)[p.block]? = _; rw [Array.getElem?_push, if_neg (by omega)])
instance {D0 D1 : World} : Nonempty (Tw D0 D1) := ⟨⟨D0, .inl rfl⟩⟩
def struckS (l : List Oper) (n t : Nat) (on ot : Oper) (p : Value) : List Oper := (l.set n { on with op := .move (.const p) }).set t { ot with op := .move (.const undef) }
theorem struckS_eq {l : List Oper} {n t : Nat} {on ot : Oper} {p : Value} (hne : n < t) (hon : l[n]? = some on) (hot : l[t]? = some ot) : struckS l n t on ot p = struck l n t p := by
  apply List.ext_getElem?
  intro i
  rw [struck_get, struckS, List.getElem?_set, List.getElem?_set]
  obtain ⟨h1, rfl⟩ := List.getElem?_eq_some_iff.1 hon
  obtain ⟨h2, rfl⟩ := List.getElem?_eq_some_iff.1 hot
  by_cases e1 : t = i
  · subst e1
    have : ¬ t = n := by omega
    simp [h2, this]
  · rw [if_neg e1]
    by_cases e2 : n = i
    · subst e2; simp [h1]
    · rw [if_neg e2]
      have e1' : ¬ i = t := fun h => e1 h.symm
      have e2' : ¬ i = n := fun h => e2 h.symm
      cases l[i]? <;> simp [e1', e2']
theorem wp_region_alloc {id : Nat} {Q : Exit → Act → World → Prop} {a : Act} {w : World} {l : List Oper} (n t : Nat) {on ot : Oper} {elem : TypeId} {obj : Obj} {p : Value} (hm : P.follows .mixedOrders = true)
    (hc : chkA l n t = true) (hon : l[n]? = some on) (honop : on.op = .alloc elem) (hot : l[t]? = some ot) (htd : ot.dst = none) (hB : Region.lexB .any (struckS l n t on ot p).toArray = true)
    (hal : (Instr.alloc elem true (.tuple #[])).run P w.drew = .ok p (w.alloc obj).drew)
    (h : wpQuiet P (struckS l n t on ot p).toArray (fun W => ∃ x : Tw w.drew (w.alloc obj).drew, W = x.val) (fun a' => wpList P l.toArray Q [ot] a' (w.alloc obj).drew) (struckS l n t on ot p) a) : (Code.region id l.toArray true).wp P Q a w := by
  simp only [chkA, Bool.and_eq_true, decide_eq_true_eq] at hc
  obtain ⟨⟨⟨⟨⟨hnt, htl⟩, hall⟩, hback⟩, hsink⟩, hchain⟩ := hc
  rw [struckS_eq hnt hon hot] at hB h
  have each : ∀ (i : Nat) (o : Oper), l[i]? = some o → o.guard = none ∧ (i ≠ n → i ≠ t → plainOp o.op = true) := fun i o ho => by
    have hmem : (o, i) ∈ l.zipIdx := by
      rw [List.mem_zipIdx_iff_getElem?]; exact ho
    have := List.all_eq_true.1 hall _ hmem
    simp only [Bool.and_eq_true, Option.isNone_iff_eq_none, Bool.or_eq_true, beq_iff_eq] at this
    exact ⟨this.1, fun h1 h2 => by rcases this.2 with (h3 | h3) | h3 <;> first | contradiction | exact h3⟩
  have hg : ∀ (i : Nat) (o : Oper), l.toArray[i]? = some o → o.guard = none := fun i o ho => (each i o (by simpa using ho)).1
  have hrest : ∀ (i : Nat) (o : Oper), l.toArray[i]? = some o → i ≠ n → i ≠ t → plainOp o.op = true ∧ (struck l n t p).toArray[i]? = some o := fun i o ho h1 h2 => by
    have ho' : l[i]? = some o := by simpa using ho
    refine ⟨(each i o ho').2 h1 h2, ?_⟩
    rw [List.getElem?_toArray, struck_get, ho']
    simp [h1, h2]
  have hr : ∀ listed, Region.ready .any (struck l n t p).toArray listed = Region.ready .any l.toArray listed := ready_same (by simp [struck]) fun i => by
    rw [List.getElem?_toArray, List.getElem?_toArray, struck_get]
    cases l[i]? with
    | none => rfl
    | some o =>
      simp only [Option.map_some]
      split
      · rfl
      · split <;> rfl
  have hB' := hB
  simp only [Region.lexB, Bool.and_eq_true] at hB'
  refine wp_region_any hm ?_
  have hq := wpAnyQ_lex (P := P) (C := fun W => ∃ x : Tw w.drew (w.alloc obj).drew, W = x.val) (md := .any) hB'.1 (struck l n t p) 0 (Array.replicate (struck l n t p).toArray.size false) a (by simp) (by simpa using hB'.2) h
  have e1 : (struck l n t p).toArray.size = l.toArray.size := by simp [struck]
  rw [e1] at hq
  have e2 : (struck l n t p).length = l.toArray.size := by simp [struck]
  rw [e2] at hq
  refine sim_alloc (D0 := w.drew) (D1 := w.drew.alloc obj) (p := p) hnt (by simpa using htl) (by simpa using hon) honop (by simpa using hot) htd hg hrest ?_ ?_ hr hback hsink hchain hal ⟨⟨_, .inl rfl⟩, rfl⟩ ⟨⟨_, .inr rfl⟩, rfl⟩ (R := fun a' => wpList P l.toArray Q [ot] a' (w.alloc obj).drew) ?_ _ _ _ _ ⟨by simp, fun j oj _ hl e _ _ => ?_, fun i hi hilt => ?_⟩ hq ?_
  · rw [List.getElem?_toArray, struck_get, hon]; simp
  · rw [List.getElem?_toArray, struck_get, hot]
    have : ¬ t = n := by omega
    simp [this]
  · intro a' ha'
    have hgt := (each t ot hot).1
    have hw : Region.wanted ot (yielded l.toArray a'.tmps) = true := by simp [Region.wanted, hgt]
    unfold wpList at ha'
    rw [if_pos hw] at ha'
    exact ha'
  · rw [getD_replicate_false] at hl; cases hl
  · have : i < l.length := by simpa using hilt
    simp [this]
  · unfold Ph
    rw [getD_replicate_false]; rfl
end
end YtnihopdglkhbnaaIt
end Go
namespace Go
namespace YtnihopdglkhbnaaIt
open Go.RowKit
theorem wpList_min {P : Program} {ops : Array Oper} {rest : List Oper} {o : Oper} {a : Act} {w : World} {Q : Exit → Act → World → Prop} (hgd : o.guard = none) (x y : Operand) (ats : Array TypeId)
    (ho : o.op = .call { callee := .builtin .min, args := #[x, y], argTypes := ats }) {k : IntKind} {m n : Int} (hx : a.eval x = .int k m) (hy : a.eval y = .int k n)
    (h : wpList P ops Q rest (a.put o.dst (.int k (min m n))) w) : wpList P ops Q (o :: rest) a w :=
  wpList_plain hgd fun K hK => by
    have hr : (execOp a.eval o).run P w = .ok (.value (.int k (min m n))) w := by
      unfold execOp
      simp only [ho, resolve, invoke, builtin, Sem.run_bind, Sem.run_pure, Result.andThen_ok, List.map_toArray, List.map_cons, List.map_nil, hx, hy]
      have e : (if n < m then n else m) = min m n := by rw [Int.min_def]; split <;> split <;> omega
      simp [Builtin.min_, Builtin.min2, go_sem, e]
    unfold Oper.wp
    rw [hr]
    exact hK _ _ h
end YtnihopdglkhbnaaIt
end Go
namespace Go
namespace YtnihopdglkhbnaaIt
open Go.RowKit
section
variable {P : Program} {ops : Array Oper} {Q : Exit → Act → World → Prop} {md : Region.Mode}

def noDefer (ops : Array Oper) : Bool := ops.toList.all fun o => match o.op with | .defer _ => false | _ => true
theorem noDefer_at (h : noDefer ops = true) {i : Nat} {o : Oper} (ho : ops[i]? = some o) : ∀ c, o.op ≠ .defer c := by
  intro c hc
  have hm : o ∈ ops.toList := List.mem_of_getElem? (by simpa using ho)
  have := List.all_eq_true.1 h o hm
  rw [hc] at this
  cases this
theorem wpOpIn_of_wpOp {r : Option Nat} {n : Nat} (hnd : noDefer ops = true) (hL : LetsOut Q → False) {i : Nat} {K : Act → World → Prop} {a : Act} {w : World} (h : wpOp P ops Q i K a w) : wpOpIn (fw r) n P ops Q i K a w := by
  unfold wpOp at h
  unfold wpOpIn
  split at h
  · rename_i ho; rw [ho]; exact h
  · rename_i o ho
    rw [ho]
    simp only
    split at h
    · rename_i hw
      rw [if_pos hw]
      rcases h with h | h
      · refine ⟨fun _ _ => trivial, ?_⟩
        rw [Oper.semAt_eq _ _ _ (noDefer_at hnd ho)]
        unfold Oper.wp at h
        generalize (execOp a.eval o).run P w = x at h
        cases x with
        | ok x w' =>
          cases x <;> simp only [Oper.upon, Oper.uponIn] at h ⊢ <;>
            first
              | exact h
              | exact ⟨fun h => by simp at h, callsFw.2 h⟩
              | exact ⟨fun h => by simp at h, fun c cs _ => let ⟨v, w'', hR, hs⟩ := h c cs; ⟨v, w'', hR, stepsIn_wide.2 hs⟩⟩
        | halt x w' => cases x <;> simp only [Oper.upon, Oper.uponIn] at h ⊢ <;> exact h
      · exact (hL h.2).elim
    · rename_i hw
      rw [if_neg hw]
      exact ⟨fun _ _ => trivial, h⟩
theorem wpAnyIn_of_wpAny {r : Option Nat} {n : Nat} (hnd : noDefer ops = true) (hL : LetsOut Q → False) : ∀ (fuel : Nat) (listed : Array Bool) (a : Act) (w : World), wpAny P md ops Q fuel listed a w → wpAnyIn (fw r) n P md ops Q fuel listed a w
  | 0, _, _, _, h => h
  | fuel + 1, _, _, _, h => ⟨h.1, fun i hi => wpOpIn_mono (fun a' w' h' => wpAnyIn_of_wpAny hnd hL fuel _ a' w' h') (wpOpIn_of_wpOp hnd hL (h.2 i hi))⟩
theorem wpIn_region_any' {r : Option Nat} {n id : Nat} {a : Act} {w : World} (hm : P.follows .mixedOrders = true) (hnd : noDefer ops = true) (hL : LetsOut Q → False)
    (h : wpAny P .any ops Q ops.size (Array.replicate ops.size false) a { w with drawn := w.drawn + 1 }) : (Code.region id ops true).wpIn (fw r) n P Q a w :=
  wpIn_region_any hm (wpAnyIn_of_wpAny hnd hL _ _ _ _ h)
/-- The beginning, in a round or not: a condition S on the world is held. -/
theorem wpIn_region_held {r : Option Nat} {n id : Nat} {a : Act} {w : World} {S : World → Prop} (hm : P.follows .mixedOrders = true) (hnd : noDefer ops = true) (hL : LetsOut Q → False)
    (h : wpAnyH P .any ops Q S ops.size (Array.replicate ops.size false) a { w with drawn := w.drawn + 1 }) : (Code.region id ops true).wpIn (fw r) n P Q a w :=
  wpIn_region_any' hm hnd hL (wpAny_of_held _ _ _ _ h)
/-- The only one that may come up comes up. -/
theorem wpAnyH_one {S : World → Prop} {i : Nat} {o : Oper} {fuel : Nat} {listed : Array Bool} {a : Act} {w : World} (hr : Region.ready md ops listed = [i]) (ho : ops[i]? = some o) (hw : Region.wanted o (yielded ops a.tmps) = true)
    (h : ∀ K : Act → World → Prop, (∀ a' w', S w' → wpAnyH P md ops Q S fuel (listed.setIfInBounds i true) a' w' → K a' w') → Oper.wp P o a w K Q) : wpAnyH P md ops Q S (fuel + 1) listed a w :=
  wpAnyH_all hr (by simp) fun j hj => by
    simp only [List.mem_singleton] at hj
    subst hj
    unfold wpOp
    rw [ho]
    simp only
    rw [if_pos hw]
    exact .inl (h _ fun a' w' h1 h2 => ⟨h1, h2⟩)
end
end YtnihopdglkhbnaaIt
end Go
namespace Go
namespace YtnihopdglkhbnaaIt
open Go.RowKit
open Go.Maps (Keyed)

section
variable {P : Program}
theorem wpList_lookup_run {ops : Array Oper} {rest : List Oper} {o : Oper} {a : Act} {w : World} {Q : Exit → Act → World → Prop} (hw : Region.wanted o (yielded ops a.tmps) = true) (t : TypeId) (m k : Operand) (ok : Bool) (ho : o.op = .lookup t m k ok)
    {mv kv v : Value} (hm : a.eval m = mv) (hk : a.eval k = kv) (hrun : (Instr.lookup t mv kv ok).run P w = .ok v w) (h : wpList P ops Q rest (a.put o.dst v) w) : wpList P ops Q (o :: rest) a w := by
  refine wpList_step fun K hK => ?_
  rw [if_pos hw]
  unfold Oper.wp execOp
  simp only [ho, hm, hk, Sem.run_bind, hrun, Result.andThen_ok, Sem.run_pure]
  exact hK _ _ h
end
end YtnihopdglkhbnaaIt
end Go
namespace Go
namespace YtnihopdglkhbnaaIt
open Go.RowKit
theorem block_of_add (a : Addr) (n : Nat) : (a.add n).block = a.block := by unfold Addr.add; split <;> rfl
theorem add_of_add (a : Addr) (i j : Nat) : (a.add i).add j = a.add (i + j) := by
  unfold Addr.add
  by_cases hi : i = 0 <;> by_cases hj : j = 0 <;> simp [hi, hj, Nat.add_assoc]

def Reads (w : World) (B size : Nat) (A : Option Addr) (n : Nat) (xs : List Value) : Prop :=
  xs.length = n * size ∧ (0 < n → ∃ ad, A = some ad ∧ ad.block < B ∧ ∀ j u, xs[j]? = some u → w.cell? (ad.add j) = some u)

section
variable {w w' : World} {B B' size n : Nat} {A : Option Addr} {xs : List Value}
theorem Reads.none_ : Reads w B size A 0 [] := ⟨by simp, fun h => absurd h (by omega)⟩
theorem Reads.at_ {k : Nat} (h : Reads w B 1 A n xs) (hk : k < n) : ∃ ad u, A = some ad ∧ ad.block < B ∧ xs[k]? = some u ∧ w.cell? (ad.add k) = some u := by
  obtain ⟨ad, e, hb, hc⟩ := h.2 (by omega)
  have hl : k < xs.length := by have := h.1; omega
  exact ⟨ad, xs[k], e, hb, List.getElem?_eq_getElem hl, hc k _ (List.getElem?_eq_getElem hl)⟩
theorem Reads.keep (h : Reads w B size A n xs) (hk : ∀ p : Addr, p.block < B → w'.cell? p = w.cell? p) : Reads w' B size A n xs :=
  ⟨h.1, fun hn => by
    obtain ⟨ad, e, hb, hc⟩ := h.2 hn
    exact ⟨ad, e, hb, fun j u hu => (hk _ (by rw [block_of_add]; exact hb)).trans (hc j u hu)⟩⟩
theorem Reads.more (h : Reads w B size A n xs) (hB : B ≤ B') : Reads w B' size A n xs :=
  ⟨h.1, fun hn => by
    obtain ⟨ad, e, hb, hc⟩ := h.2 hn
    exact ⟨ad, e, by omega, hc⟩⟩
theorem Reads.below (h : Reads w B size A n xs) (hb : Below B w w') : Reads w' B size A n xs := h.keep fun _ hp => hb.cell hp
theorem Reads.drew (h : Reads w B size A n xs) : Reads w.drew B size A n xs := h
theorem Reads.drewN (h : Reads w B size A n xs) (k : Nat) : Reads (w.drewN k) B size A n xs := h
theorem Reads.alloc (h : Reads w B size A n xs) (hB : B ≤ w.heap.size) (o : Obj) : Reads (w.alloc o) B size A n xs := h.keep fun p hp => World.cell?_alloc_lt w o p (by omega)
theorem Reads.setCell (h : Reads w B size A n xs) {p : Addr} (hB : B ≤ p.block) (u : Value) : Reads (w.setCell p u) B size A n xs :=
  h.keep fun q hq => World.cell?_setCell_other w p q u (fun e => by subst e; omega)
theorem Reads.grown (h : Reads w B size A n xs) {row : Option Nat} (hg : w.grownBy w' row) (hB : B ≤ w.heap.size) (hr : ∀ g, row = some g → B ≤ g) : Reads w' B size A n xs :=
  h.keep fun p hp => World.cell?_of_block (hg.block p.block (by omega) (fun e => by have := hr _ e.symm; omega))
theorem Reads.cut (h : Reads w B size A n xs) {k cap : Nat} (hk : k ≤ n) (hc : n ≤ cap) :
    Reads w B size (if cap = k then A else A.map (·.add (k * size))) (n - k) (xs.drop (k * size)) := by
  refine ⟨by rw [List.length_drop, h.1, Nat.sub_mul], fun hn => ?_⟩
  obtain ⟨ad, rfl, hb, hcell⟩ := h.2 (by omega)
  rw [if_neg (by omega)]
  refine ⟨ad.add (k * size), rfl, by rw [block_of_add]; exact hb, fun j u hu => ?_⟩
  rw [add_of_add]
  exact hcell _ u (by rw [← hu, List.getElem?_drop])
theorem Reads.of_own {base : Nat} {e : TypeId} {c : Nat} (h : w.ownsRow base e size (.slice A n c) n xs) : Reads w w.heap.size size A n xs := by
  refine ⟨h.1, fun hn => ?_⟩
  obtain ⟨g, cap, hv, _, hlt⟩ := h.form hn
  have hA : A = some ⟨g, 0, none⟩ := by injection hv
  subst hA
  exact ⟨_, rfl, hlt, h.cells (g := g) rfl⟩
end
section
variable {P : Program} (w : World)

theorem run_append_of_nil (base : Nat) (t ty e : TypeId) (i : TypeInfo) (size : Nat) (ht : P.underlying t = some (.slice e)) (hi : P.info? e = some i)
    (v : Value) (n : Nat) (xs : List Value) (hown : w.ownsRow base e size v n xs) (c : Nat) : (Builtin.append_ #[t, t] ty #[v, .slice none 0 c]).run P w = .ok v w := by
  rcases hown.2 with ⟨rfl, rfl⟩ | ⟨g, cap, cur, rfl, _, _, hnc, _⟩
  · simp [Builtin.append_, run_underlying ht, sizeOf, typeInfo, hi, Builtin.lenOf, Builtin.firstCells]
  · simp [Builtin.append_, run_underlying ht, sizeOf, typeInfo, hi, Builtin.lenOf, Builtin.firstCells, hnc, storeCells]

theorem run_append_any (base : Nat) (t ty e : TypeId) (i : TypeInfo) (z : Value) (size bytes : Nat) (ht : P.underlying t = some (.slice e)) (hi : P.info? e = some i) (hz : i.zero = some z)
    (hsize : i.size = size) (hby : i.bytes = bytes) (hzs : z.cells.size = size) (hsz : 0 < size)
    (v : Value) (n : Nat) (xs : List Value) (hown : w.ownsRow base e size v n xs)
    (B : Nat) (A : Option Addr) (m c : Nat) (news : List Value) (hr : Reads w B size A m news) (h1 : ∀ u ∈ news, u.oneCell' = true)
    (h63 : n + m ≤ maxLen) (hbytes : (n + m) * bytes ≤ 140737488355328) (hbase : base ≤ w.heap.size) :
    ∃ v' w', (Builtin.append_ #[t, t] ty #[v, .slice A m c]).run P w = .ok v' w' ∧ w'.ownsRow base e size v' (n + m) (xs ++ news) ∧ w.grownBy w' v.ownBlock ∧
      (v'.ownBlock = v.ownBlock ∨ v'.ownBlock = some w.heap.size) := by
  rcases A with _ | ad
  · have hm : m = 0 := by
      rcases Nat.eq_zero_or_pos m with h0 | h0
      · exact h0
      · obtain ⟨ad, h, _⟩ := hr.2 h0
        cases h
    subst hm
    have hn : news = [] := List.eq_nil_of_length_eq_zero (by simpa using hr.1)
    subst hn
    exact ⟨v, w, run_append_of_nil w base t ty e i size ht hi v n xs hown c, by simpa using hown, World.grownBy.refl w _, .inl rfl⟩
  · have hcells : ∀ j u, news[j]? = some u → w.cell? (ad.add j) = some u := by
      intro j u hu
      rcases Nat.eq_zero_or_pos m with h0 | h0
      · subst h0
        have hn : news = [] := List.eq_nil_of_length_eq_zero (by simpa using hr.1)
        subst hn
        simp at hu
      · obtain ⟨ad', h, _, hc⟩ := hr.2 h0
        injection h with h
        subst h
        exact hc j u hu
    obtain ⟨v', w', hrun, h2, h3, _, h5⟩ := run_append_own_at (P := P) w base t ty e i z size bytes ht hi hz hsize hby hzs hsz v n xs hown ad m c news hr.1 hcells h1 h63 hbytes hbase
    exact ⟨v', w', hrun, h2, h3, h5⟩

theorem wp_append_any {o : Oper} {a : Act} {K : Act → World → Prop} {Q : Exit → Act → World → Prop} (s x : Operand) (t : TypeId)
    (ho : o.op = .call { callee := .builtin .append, args := #[s, x], argTypes := #[t, t] })
    (base : Nat) (e : TypeId) (i : TypeInfo) (z : Value) (size bytes : Nat) (ht : P.underlying t = some (.slice e)) (hi : P.info? e = some i) (hz : i.zero = some z)
    (hsize : i.size = size) (hby : i.bytes = bytes) (hzs : z.cells.size = size) (hsz : 0 < size)
    (v : Value) (n : Nat) (xs : List Value) (hs : a.eval s = v) (hown : w.ownsRow base e size v n xs)
    (B : Nat) (A : Option Addr) (m c : Nat) (news : List Value) (hx : a.eval x = .slice A m c) (hr : Reads w B size A m news) (h1 : ∀ u ∈ news, u.oneCell' = true)
    (h63 : n + m ≤ maxLen) (hbytes : (n + m) * bytes ≤ 140737488355328) (hbase : base ≤ w.heap.size)
    (h : ∀ v' w', w'.ownsRow base e size v' (n + m) (xs ++ news) → w.grownBy w' v.ownBlock → (v'.ownBlock = v.ownBlock ∨ v'.ownBlock = some w.heap.size) → K (a.put o.dst v') w') : o.wp P a w K Q := by
  obtain ⟨v', w', hrun, h2, h3, h4⟩ := run_append_any (P := P) w base t o.type e i z size bytes ht hi hz hsize hby hzs hsz v n xs hown B A m c news hr h1 h63 hbytes hbase
  unfold Oper.wp execOp
  simp only [ho, resolve, invoke, builtin, Sem.run_bind, Sem.run_pure, Result.andThen_ok, List.map_toArray, List.map_cons, List.map_nil, hs, hx, hrun]
  exact h v' w' h2 h3 h4

theorem wpList_append_any {ops : Array Oper} {rest : List Oper} {o : Oper} {a : Act} {Q : Exit → Act → World → Prop} (hgd : o.guard = none) (s x : Operand) (t : TypeId)
    (ho : o.op = .call { callee := .builtin .append, args := #[s, x], argTypes := #[t, t] })
    (base : Nat) (e : TypeId) (i : TypeInfo) (z : Value) (size bytes : Nat) (ht : P.underlying t = some (.slice e)) (hi : P.info? e = some i) (hz : i.zero = some z)
    (hsize : i.size = size) (hby : i.bytes = bytes) (hzs : z.cells.size = size) (hsz : 0 < size)
    (v : Value) (n : Nat) (xs : List Value) (hs : a.eval s = v) (hown : w.ownsRow base e size v n xs)
    (B : Nat) (A : Option Addr) (m c : Nat) (news : List Value) (hx : a.eval x = .slice A m c) (hr : Reads w B size A m news) (h1 : ∀ u ∈ news, u.oneCell' = true)
    (h63 : n + m ≤ maxLen) (hbytes : (n + m) * bytes ≤ 140737488355328) (hbase : base ≤ w.heap.size)
    (h : ∀ v' w', w'.ownsRow base e size v' (n + m) (xs ++ news) → w.grownBy w' v.ownBlock → (v'.ownBlock = v.ownBlock ∨ v'.ownBlock = some w.heap.size) → wpList P ops Q rest (a.put o.dst v') w') : wpList P ops Q (o :: rest) a w :=
  wpList_plain hgd fun _ hK => wp_append_any w s x t ho base e i z size bytes ht hi hz hsize hby hzs hsz v n xs hs hown B A m c news hx hr h1 h63 hbytes hbase fun v' w' h2 h3 h4 => hK _ _ (h v' w' h2 h3 h4)

theorem step_append_any {ops : Array Oper} {o : Oper} {a : Act} {K : Act → World → Prop} {Q : Exit → Act → World → Prop} {E : Prop} (hgd : o.guard = none) (s x : Operand) (t : TypeId)
    (ho : o.op = .call { callee := .builtin .append, args := #[s, x], argTypes := #[t, t] })
    (base : Nat) (e : TypeId) (i : TypeInfo) (z : Value) (size bytes : Nat) (ht : P.underlying t = some (.slice e)) (hi : P.info? e = some i) (hz : i.zero = some z)
    (hsize : i.size = size) (hby : i.bytes = bytes) (hzs : z.cells.size = size) (hsz : 0 < size)
    (v : Value) (n : Nat) (xs : List Value) (hs : a.eval s = v) (hown : w.ownsRow base e size v n xs)
    (B : Nat) (A : Option Addr) (m c : Nat) (news : List Value) (hx : a.eval x = .slice A m c) (hr : Reads w B size A m news) (h1 : ∀ u ∈ news, u.oneCell' = true)
    (h63 : n + m ≤ maxLen) (hbytes : (n + m) * bytes ≤ 140737488355328) (hbase : base ≤ w.heap.size)
    (h : ∀ v' w', w'.ownsRow base e size v' (n + m) (xs ++ news) → w.grownBy w' v.ownBlock → (v'.ownBlock = v.ownBlock ∨ v'.ownBlock = some w.heap.size) → K (a.put o.dst v') w') :
    if Region.wanted o (yielded ops a.tmps) = true then Oper.wp P o a w K Q else E := by
  have hw : Region.wanted o (yielded ops a.tmps) = true := by simp [Region.wanted, hgd]
  rw [if_pos hw]
  exact wp_append_any w s x t ho base e i z size bytes ht hi hz hsize hby hzs hsz v n xs hs hown B A m c news hx hr h1 h63 hbytes hbase h
end

end YtnihopdglkhbnaaIt
end Go
namespace Go
namespace YtnihopdglkhbnaaIt
open Go.RowKit Go.WideShapes Go.ChangeShapes
section
variable {H : Type} {enc : TypeId × Value → H} {P : Program}
theorem post_of_below {f : Func} {s : ChangeSpec} {apart fresh handsOn again : Bool} {W W' : World} {args : Array Value} {v : Value} {ds gs : List (DataW H)} {before pa pv : List MemPlace}
    (hW : DataW.Whole enc P f.params.toList s.vars apart W args.toList ds gs before)
    (hres : ∀ (b : Nat) (sp : Nat → Bool) (hd : Bool), DataW.TrodAll enc P W' b sp hd f.resultTypes.toList (v.resultList f.resultTypes.size) (s.fn H (ds ++ gs)).results [])
    (hargs : ∀ sp : Nat → Bool, (∀ p ∈ before, sp p.block = true) → DataW.TrodAll enc P W' 0 sp true f.params.toList args.toList (s.fn H (ds ++ gs)).args pa)
    (hvars : ∀ sp : Nat → Bool, (∀ p ∈ before, sp p.block = true) → DataW.TrodVars enc P W' sp s.vars (s.fn H (ds ++ gs)).vars pv)
    (hps : before = pa ++ pv) (hb : Below W.heap.size W W')
    (hok : ∀ (j : Nat) (t : TypeId) (r : Value), f.resultTypes[j]? = some t → (v.resultList f.resultTypes.size)[j]? = some r → Value.okWide P W' .any 0 t r) :
    s.post enc P f apart fresh handsOn again W args v W' := by
  have hlt : ∀ p ∈ before, p.block < W.heap.size := fun p hp => hW.lt p hp
  have hold : ∀ p ∈ before, (fun b => decide (b < W.heap.size)) p.block = true := fun p hp => by simpa using hlt p hp
  refine ⟨ds, gs, before, [], pa, pv, hW, hres _ _ _, hargs _ hold, hvars _ hold, World.keptBut_mono (fun p hp => ⟨hp, ?_⟩) (hb.frame (· ∈ before)), fun _ => ?_⟩
  · rw [hps, List.mem_append] at hp
    exact Or.inr hp
  · obtain ⟨_, _, _, _, _, hz, hn⟩ := hW
    refine ⟨hok, _, _, ([] ++ pa) ++ pv, ⟨[] ++ pa, pv, trodAll_append (hargs _ (fun _ _ => rfl)) (hres _ _ _), hvars _ (fun _ _ => rfl), rfl, ?_, ?_⟩, ?_⟩
    · intro b off hp
      have hin : MemPlace.cell b off ∈ before := by rw [hps]; simpa using hp
      rw [hb.frozen (hlt _ hin)]
      exact hz b off hin
    · intro ha
      have := hn ha
      rw [hps] at this
      simpa using this
    · intro p hp _
      rw [hps]
      simpa using hp
end
end YtnihopdglkhbnaaIt
end Go

open Go Go.RowKit Go.YtnihopdglkhbnaaIt
attribute [go_sem] Oper.semAt_some
namespace Go.Proofs
namespace Ytnihopdglkhbnaa

theorem btw_true {lo n hi : Int} : btw lo n hi = true ↔ lo ≤ n ∧ n ≤ hi := by simp [btw]
theorem btw_false {lo n hi : Int} : btw lo n hi = false ↔ ¬ (lo ≤ n ∧ n ≤ hi) := by simp only [btw, decide_eq_false_iff_not]

theorem blk_keep {W W' : World} {b : Nat} {o : Obj} (h : W.heap[b]? = some o) (hb : Below W.heap.size W W') : W'.heap[b]? = some o := blk_below h hb (lt_blk h)
theorem btr {n : Nat} {w x y : World} (h : Below n w x) (k : Below x.heap.size x y) (hn : n ≤ w.heap.size) : Below n w y := h.trans (k.mono (Nat.le_trans hn h.size))
theorem addr_block (a : Addr) (j : Nat) : (a.add j).block = a.block := by unfold Addr.add; split <;> rfl
theorem add_at {b o i : Nat} : (⟨b, o, none⟩ : Addr).add i = ⟨b, o + i, none⟩ := by cases i <;> simp [Addr.add]

theorem sz_al (w : World) (o : Obj) : (w.alloc o).heap.size = w.heap.size + 1 := World.size_alloc w o
theorem blkE1 {w w1 : World} {a : Obj} (h : w.alloc a = w1) : w1.heap[w.heap.size]? = some a ∧ Below w.heap.size w w1 ∧ w1.heap.size = w.heap.size + 1 := by
  subst h
  exact ⟨heap_newI rfl, (Below.refl _ _).alloc (Nat.le_refl _) _, sz_al _ _⟩
theorem blkE2 {w w1 : World} {a b : Obj} (h : (w.alloc a).alloc b = w1) : w1.heap[w.heap.size]? = some a ∧ w1.heap[w.heap.size + 1]? = some b ∧ Below w.heap.size w w1 ∧ w1.heap.size = w.heap.size + 2 := by
  subst h
  obtain ⟨hba, hb, hs⟩ := blkE1 (w := w) (a := a) rfl
  exact ⟨(heap_oldI (by rw [hs]; omega)).trans hba, heap_newI (by rw [hs]), hb.alloc hb.size _, by rw [sz_al, hs]⟩
theorem blkE3 {w w1 : World} {a b c : Obj} (h : ((w.alloc a).alloc b).alloc c = w1) : w1.heap[w.heap.size]? = some a ∧ w1.heap[w.heap.size + 1]? = some b ∧ w1.heap[w.heap.size + 1 + 1]? = some c ∧ Below w.heap.size w w1 ∧ w1.heap.size = w.heap.size + 3 := by
  subst h
  obtain ⟨hba, hbb, hb, hs⟩ := blkE2 (w := w) (a := a) (b := b) rfl
  exact ⟨(heap_oldI (by rw [hs]; omega)).trans hba, (heap_oldI (by rw [hs]; omega)).trans hbb, heap_newI (by rw [hs]), hb.alloc hb.size _, by rw [sz_al, hs]⟩
theorem blkE4 {w w1 : World} {a b c d : Obj} (h : (((w.alloc a).alloc b).alloc c).alloc d = w1) : w1.heap[w.heap.size]? = some a ∧ w1.heap[w.heap.size + 1]? = some b ∧ w1.heap[w.heap.size + 1 + 1]? = some c ∧ w1.heap[w.heap.size + 1 + 1 + 1]? = some d ∧ Below w.heap.size w w1 ∧ w1.heap.size = w.heap.size + 4 := by
  subst h
  obtain ⟨hba, hbb, hbc, hb, hs⟩ := blkE3 (w := w) (a := a) (b := b) (c := c) rfl
  exact ⟨(heap_oldI (by rw [hs]; omega)).trans hba, (heap_oldI (by rw [hs]; omega)).trans hbb, (heap_oldI (by rw [hs]; omega)).trans hbc, heap_newI (by rw [hs]), hb.alloc hb.size _, by rw [sz_al, hs]⟩
theorem blkE5 {w w1 : World} {a b c d e : Obj} (h : ((((w.alloc a).alloc b).alloc c).alloc d).alloc e = w1) : w1.heap[w.heap.size]? = some a ∧ w1.heap[w.heap.size + 1]? = some b ∧ w1.heap[w.heap.size + 1 + 1]? = some c ∧ w1.heap[w.heap.size + 1 + 1 + 1]? = some d ∧ w1.heap[w.heap.size + 1 + 1 + 1 + 1]? = some e ∧ Below w.heap.size w w1 ∧ w1.heap.size = w.heap.size + 5 := by
  subst h
  obtain ⟨hba, hbb, hbc, hbd, hb, hs⟩ := blkE4 (w := w) (a := a) (b := b) (c := c) (d := d) rfl
  exact ⟨(heap_oldI (by rw [hs]; omega)).trans hba, (heap_oldI (by rw [hs]; omega)).trans hbb, (heap_oldI (by rw [hs]; omega)).trans hbc, (heap_oldI (by rw [hs]; omega)).trans hbd, heap_newI (by rw [hs]), hb.alloc hb.size _, by rw [sz_al, hs]⟩
theorem blkE6 {w w1 : World} {a b c d e f : Obj} (h : (((((w.alloc a).alloc b).alloc c).alloc d).alloc e).alloc f = w1) : w1.heap[w.heap.size]? = some a ∧ w1.heap[w.heap.size + 1]? = some b ∧ w1.heap[w.heap.size + 1 + 1]? = some c ∧ w1.heap[w.heap.size + 1 + 1 + 1]? = some d ∧ w1.heap[w.heap.size + 1 + 1 + 1 + 1]? = some e ∧ w1.heap[w.heap.size + 1 + 1 + 1 + 1 + 1]? = some f ∧ Below w.heap.size w w1 ∧ w1.heap.size = w.heap.size + 6 := by
  subst h
  obtain ⟨hba, hbb, hbc, hbd, hbe, hb, hs⟩ := blkE5 (w := w) (a := a) (b := b) (c := c) (d := d) (e := e) rfl
  exact ⟨(heap_oldI (by rw [hs]; omega)).trans hba, (heap_oldI (by rw [hs]; omega)).trans hbb, (heap_oldI (by rw [hs]; omega)).trans hbc, (heap_oldI (by rw [hs]; omega)).trans hbd, (heap_oldI (by rw [hs]; omega)).trans hbe, heap_newI (by rw [hs]), hb.alloc hb.size _, by rw [sz_al, hs]⟩
theorem blkE7 {w w1 : World} {a b c d e f g : Obj} (h : ((((((w.alloc a).alloc b).alloc c).alloc d).alloc e).alloc f).alloc g = w1) : w1.heap[w.heap.size]? = some a ∧ w1.heap[w.heap.size + 1]? = some b ∧ w1.heap[w.heap.size + 1 + 1]? = some c ∧ w1.heap[w.heap.size + 1 + 1 + 1]? = some d ∧ w1.heap[w.heap.size + 1 + 1 + 1 + 1]? = some e ∧ w1.heap[w.heap.size + 1 + 1 + 1 + 1 + 1]? = some f ∧ w1.heap[w.heap.size + 1 + 1 + 1 + 1 + 1 + 1]? = some g ∧ Below w.heap.size w w1 ∧ w1.heap.size = w.heap.size + 7 := by
  subst h
  obtain ⟨hba, hbb, hbc, hbd, hbe, hbf, hb, hs⟩ := blkE6 (w := w) (a := a) (b := b) (c := c) (d := d) (e := e) (f := f) rfl
  exact ⟨(heap_oldI (by rw [hs]; omega)).trans hba, (heap_oldI (by rw [hs]; omega)).trans hbb, (heap_oldI (by rw [hs]; omega)).trans hbc, (heap_oldI (by rw [hs]; omega)).trans hbd, (heap_oldI (by rw [hs]; omega)).trans hbe, (heap_oldI (by rw [hs]; omega)).trans hbf, heap_newI (by rw [hs]), hb.alloc hb.size _, by rw [sz_al, hs]⟩
theorem blk1 {w w1 : World} {a : Obj} (h : w.alloc a = w1) : w1.heap[w.heap.size]? = some a ∧ Below w.heap.size w w1 ∧ w.heap.size + 1 ≤ w1.heap.size := by
  obtain ⟨h0, hb, hs⟩ := blkE1 h
  exact ⟨h0, hb, Nat.le_of_eq hs.symm⟩
theorem blk2 {w w1 : World} {a b : Obj} (h : (w.alloc a).alloc b = w1) : w1.heap[w.heap.size]? = some a ∧ w1.heap[w.heap.size + 1]? = some b ∧ Below w.heap.size w w1 ∧ w.heap.size + 2 ≤ w1.heap.size := by
  obtain ⟨h0, h1, hb, hs⟩ := blkE2 h
  exact ⟨h0, h1, hb, Nat.le_of_eq hs.symm⟩
theorem blk3 {w w1 : World} {a b c : Obj} (h : ((w.alloc a).alloc b).alloc c = w1) : w1.heap[w.heap.size]? = some a ∧ w1.heap[w.heap.size + 1]? = some b ∧ w1.heap[w.heap.size + 1 + 1]? = some c ∧ Below w.heap.size w w1 ∧ w.heap.size + 3 ≤ w1.heap.size := by
  obtain ⟨h0, h1, h2, hb, hs⟩ := blkE3 h
  exact ⟨h0, h1, h2, hb, Nat.le_of_eq hs.symm⟩
theorem blk4 {w w1 : World} {a b c d : Obj} (h : (((w.alloc a).alloc b).alloc c).alloc d = w1) : w1.heap[w.heap.size]? = some a ∧ w1.heap[w.heap.size + 1]? = some b ∧ w1.heap[w.heap.size + 1 + 1]? = some c ∧ w1.heap[w.heap.size + 1 + 1 + 1]? = some d ∧ Below w.heap.size w w1 ∧ w.heap.size + 4 ≤ w1.heap.size := by
  obtain ⟨h0, h1, h2, h3, hb, hs⟩ := blkE4 h
  exact ⟨h0, h1, h2, h3, hb, Nat.le_of_eq hs.symm⟩
theorem blk5 {w w1 : World} {a b c d e : Obj} (h : ((((w.alloc a).alloc b).alloc c).alloc d).alloc e = w1) : w1.heap[w.heap.size]? = some a ∧ w1.heap[w.heap.size + 1]? = some b ∧ w1.heap[w.heap.size + 1 + 1]? = some c ∧ w1.heap[w.heap.size + 1 + 1 + 1]? = some d ∧ w1.heap[w.heap.size + 1 + 1 + 1 + 1]? = some e ∧ Below w.heap.size w w1 ∧ w.heap.size + 5 ≤ w1.heap.size := by
  obtain ⟨h0, h1, h2, h3, h4, hb, hs⟩ := blkE5 h
  exact ⟨h0, h1, h2, h3, h4, hb, Nat.le_of_eq hs.symm⟩
theorem blk6 {w w1 : World} {a b c d e f : Obj} (h : (((((w.alloc a).alloc b).alloc c).alloc d).alloc e).alloc f = w1) : w1.heap[w.heap.size]? = some a ∧ w1.heap[w.heap.size + 1]? = some b ∧ w1.heap[w.heap.size + 1 + 1]? = some c ∧ w1.heap[w.heap.size + 1 + 1 + 1]? = some d ∧ w1.heap[w.heap.size + 1 + 1 + 1 + 1]? = some e ∧ w1.heap[w.heap.size + 1 + 1 + 1 + 1 + 1]? = some f ∧ Below w.heap.size w w1 ∧ w.heap.size + 6 ≤ w1.heap.size := by
  obtain ⟨h0, h1, h2, h3, h4, h5, hb, hs⟩ := blkE6 h
  exact ⟨h0, h1, h2, h3, h4, h5, hb, Nat.le_of_eq hs.symm⟩
theorem blk7 {w w1 : World} {a b c d e f g : Obj} (h : ((((((w.alloc a).alloc b).alloc c).alloc d).alloc e).alloc f).alloc g = w1) : w1.heap[w.heap.size]? = some a ∧ w1.heap[w.heap.size + 1]? = some b ∧ w1.heap[w.heap.size + 1 + 1]? = some c ∧ w1.heap[w.heap.size + 1 + 1 + 1]? = some d ∧ w1.heap[w.heap.size + 1 + 1 + 1 + 1]? = some e ∧ w1.heap[w.heap.size + 1 + 1 + 1 + 1 + 1]? = some f ∧ w1.heap[w.heap.size + 1 + 1 + 1 + 1 + 1 + 1]? = some g ∧ Below w.heap.size w w1 ∧ w.heap.size + 7 ≤ w1.heap.size := by
  obtain ⟨h0, h1, h2, h3, h4, h5, h6, hb, hs⟩ := blkE7 h
  exact ⟨h0, h1, h2, h3, h4, h5, h6, hb, Nat.le_of_eq hs.symm⟩
/-- A call that turns nothing, in a region whose order is open. -/
theorem calls_ab_same {P : Program} {f : FuncId} {args : Array Value} {B : Nat} {w0 : World} {v : Value} (x : Ab B w0) (h : Calls P f args x.val fun e w' => e = .returned v ∧ x.val = w') :
    Calls P f args x.val fun e w'' => e = .returned v ∧ AbC B w0 w'' := h.mono fun _ _ ⟨he, hw⟩ => ⟨he, x, hw.symm⟩
theorem calls_quiet_same {P : Program} {f : FuncId} {args : Array Value} {w : World} {n : Nat} {v : Value} (h : Calls P f args (w.drewN n) fun e w' => e = .returned v ∧ w.drewN n = w') : Calls P f args (w.drewN n) fun e w'' => e = .returned v ∧ ∃ m, w'' = w.drewN m :=
  h.mono fun _ _ ⟨he, hm⟩ => ⟨he, n, hm.symm⟩

/-- A region whose order is open, in a round or not, that reads and calls what lays blocks. -/
theorem wpIn_region_ab {P : Program} {r : Option Nat} {n id : Nat} {Q : Exit → Act → World → Prop} {a : Act} {w : World} {l : List Oper} (B : Nat) (w0 : World) (hm : P.follows .mixedOrders = true) (hB : Region.lexB .any l.toArray = true) (hnd : noDefer l.toArray = true) (hL : LetsOut Q → False) (hb : Below B w0 w)
    (h : wpQuiet P l.toArray (AbC B w0) (fun a' => ∀ w', AbC B w0 w' → Q .normal a' w') l a) : (Code.region id l.toArray true).wpIn (fw r) n P Q a w := by
  simp only [Region.lexB, Bool.and_eq_true] at hB
  refine wpIn_region_any' hm hnd hL (wpAny_of_quiet (C := AbC B w0) (Q := fun a' => ∀ w', AbC B w0 w' → Q .normal a' w') (fun _ w' hw' h => h w' hw') _ _ _ _ ⟨⟨{ w with drawn := w.drawn + 1 }, hb.trans ⟨rfl, rfl, rfl, Nat.le_refl _, fun _ _ => rfl⟩⟩, rfl⟩ ?_)
  have := wpAnyQ_lex (C := AbC B w0) (md := .any) hB.1 l 0 (Array.replicate l.toArray.size false) a (by simp) (by simpa using hB.2) h
  simpa using this

/-- A region whose order is open, in a round or not: what reads comes first, then what writes, one after the other. -/
theorem wpIn_region_tail {P : Program} {r : Option Nat} {m id : Nat} {Q : Exit → Act → World → Prop} {a : Act} {w : World} {l : List Oper} (n : Nat) (hm : P.follows .mixedOrders = true) (hB : Region.lexTailB .any l.toArray n = true) (hnd : noDefer l.toArray = true) (hL : LetsOut Q → False)
    (h : wpStill P l.toArray (World.drew w) (fun a' => wpList P l.toArray Q (l.drop n) a' (World.drew w)) (l.take n) a) : (Code.region id l.toArray true).wpIn (fw r) m P Q a w := by
  simp only [Region.lexTailB, Bool.and_eq_true, decide_eq_true_eq] at hB
  obtain ⟨⟨⟨⟨h1, h2⟩, h3⟩, h4⟩, h5⟩ := hB
  have h2' : n < l.length := by simpa using h2
  have e1 : (l.take n).length = n := by rw [List.length_take]; omega
  have e2 : (l.drop n).length = l.toArray.size - n := by simp
  have first : ∀ i : Nat, l.toArray[i]? = l[i]? := fun i => List.getElem?_toArray
  refine wpIn_region_any' hm hnd hL ?_
  have H := wpAnyL_lex (md := .any) (g := l.toArray.size - n) h1 h3 h4 h2 (l.take n) 0 (Array.replicate l.toArray.size false) a
    (fun j hj => by rw [e1] at hj; rw [Nat.zero_add, first, List.getElem?_take, if_pos hj]) (by rw [e1, Nat.zero_add])
    ⟨by simp, fun j _ _ hl => (by rw [getD_replicate_false] at hl; cases hl), fun t _ ht => getD_in (by simpa using ht) (getD_replicate_false _ _)⟩ (by rw [e1]; exact h5) h
  have T := wpAny_of_head (Q' := Q) (g := l.toArray.size - n) (fun listed a' hT => by
    have := wpAny_of_seq (md := .any) (Q' := Q) (l.drop n) n listed a' (World.drew w) (fun j => by rw [first, List.getElem?_drop]) (by rw [e2]; exact hT.1) hT.2
    rwa [e2] at this) _ _ _ H
  rw [e1, show n + (l.toArray.size - n) = l.toArray.size by omega] at T
  exact T

def mk (D : Nat) : Deferred := { target := .collected D, args := #[] }
structure Mk (B : Nat) (ds : List Nat) (w : World) : Prop where
  nd : ds.Nodup
  at_ : ∀ D ∈ ds, B ≤ D ∧ w.heap[D]? = some (.deferred (some []))
theorem Mk.nil (B : Nat) (w : World) : Mk B [] w := ⟨List.nodup_nil, fun _ h => by simp at h⟩
theorem Mk.keep {B : Nat} {ds : List Nat} {w w' : World} (h : Mk B ds w) (hk : ∀ (k : Nat) (o : Obj), w.heap[k]? = some o → o.isCells = false → w'.heap[k]? = some o) : Mk B ds w' :=
  ⟨h.nd, fun D hD => ⟨(h.at_ D hD).1, hk D _ (h.at_ D hD).2 rfl⟩⟩
theorem Mk.below {B : Nat} {ds : List Nat} {w w' : World} (h : Mk B ds w) (hb : Below w.heap.size w w') : Mk B ds w' := h.keep fun _ _ ho _ => blk_keep ho hb
theorem Mk.set {B b i : Nat} {ds : List Nat} {w : World} {v : Value} {c : Array Value} {t : TypeId} {fr : Nat × Nat} (h : Mk B ds w) (hb : w.heap[b]? = some (.cells c t fr)) : Mk B ds (w.setCell ⟨b, i, none⟩ v) :=
  h.keep fun k o ho hc => (heap_set_other (by rintro rfl; rw [hb] at ho; cases ho; cases hc)).trans ho
theorem Mk.put {B b : Nat} {ds : List Nat} {w : World} {o' : Obj} {c : Array Value} {t : TypeId} {fr : Nat × Nat} (h : Mk B ds w) (hb : w.heap[b]? = some (.cells c t fr)) : Mk B ds (w.putObj b o') :=
  h.keep fun k o ho hc => (World.putObj_heap_other (by rintro rfl; rw [hb] at ho; cases ho; cases hc)).trans ho
theorem Mk.cons {B D : Nat} {ds : List Nat} {w0 w : World} (h0 : Mk B ds w0) (h : Mk B ds w) (hD : D = w0.heap.size) (hB : B ≤ D) (hd : w.heap[D]? = some (.deferred (some []))) : Mk B (D :: ds) w :=
  ⟨List.nodup_cons.2 ⟨fun hm => by have := lt_blk (h0.at_ D hm).2; omega, h.nd⟩, fun E hE => by
    rcases List.mem_cons.1 hE with rfl | hE
    · exact ⟨hB, hd⟩
    · exact h.at_ E hE⟩
theorem Mk.stb {B n : Nat} {ds : List Nat} {w : World} (h : Mk B ds w) (hn : w.heap.size ≤ n) : Stb n (fun W => Mk B ds W) := fun _ _ g hW =>
  ⟨hW.nd, fun D hD => ⟨(hW.at_ D hD).1, (g.block D (lt_blk (hW.at_ D hD).2) (.inl (Nat.lt_of_lt_of_le (lt_blk (h.at_ D hD).2) hn))).trans (hW.at_ D hD).2⟩⟩
theorem leaves_marks {P : Program} {fn : Func} {tmps : Array Value} {R : Ending → World → Prop} {B : Nat} : ∀ (ds : List Nat) (w : World), Mk B ds w →
    (∀ w', Below B w w' → (∀ (k : Nat) (c : Array Value) t fr, w.heap[k]? = some (.cells c t fr) → w'.heap[k]? = some (.cells c t fr)) → ∃ v, (results fn tmps).run P w' = .ok v w' ∧ R (.returned v) w') →
    LeavesInM (fw none) 0 P fn tmps R (ds.map mk) .returning w
  | [], w, _, h => h w (Below.refl _ _) (fun _ _ _ _ h => h)
  | D :: ds, w, hm, h => by
    have hD := hm.at_ D (by simp)
    refine ⟨by simp, .inl ⟨D, _, rfl, run_takeDeferred hD.2, ?_⟩⟩
    have hb : Below B w (w.putObj D (.deferred none)) := ⟨rfl, rfl, rfl, by simp, fun k hk => World.putObj_heap_other (by omega)⟩
    have hc : ∀ (k : Nat) (c : Array Value) t fr, w.heap[k]? = some (.cells c t fr) → (w.putObj D (.deferred none)).heap[k]? = some (.cells c t fr) := fun k c t fr hk =>
      (World.putObj_heap_other (by rintro rfl; rw [hD.2] at hk; cases hk)).trans hk
    refine leaves_marks ds _ ⟨(List.nodup_cons.1 hm.nd).2, fun E hE => ⟨(hm.at_ E (by simp [hE])).1, (World.putObj_heap_other ?_).trans (hm.at_ E (by simp [hE])).2⟩⟩ (fun w' h1 h2 => h w' (hb.trans h1) (fun k c t fr hk => h2 k c t fr (hc k c t fr hk)))
    rintro rfl
    exact (List.nodup_cons.1 hm.nd).1 hE
/-- A struct or an array that lies in memory, as the result. -/
theorem results_blk {P : Program} {fn : Func} {p : Tmp} {ty : TypeId} (h : fn.results = #[.cell p ty]) (tmps : Array Value) (w : World) (g : Nat) {t : TypeId} {cs : Array Value} {fr : Nat × Nat} {d : TypeDesc}
    (hp : tmps.getD p undef = .pointer (some ⟨g, 0, none⟩)) (hg : w.heap[g]? = some (.cells cs t fr))
    (hu : P.underlying ty = some d) (hd : (match d with | .struct _ | .array _ _ => true | _ => false) = true) {k : Nat} (hi : (P.info? ty).map (·.size) = some k) (hk : cs.size = k) :
    (results fn tmps).run P w = .ok (.agg cs) w := by
  subst hk
  have hp' : tmps[p]?.getD undef = .pointer (some ⟨g, 0, none⟩) := by simpa using hp
  simp [results, h, hp', asAddr, run_loadVar_row w g t ty cs fr d hg hu hd hi]

/-- A slice value that reads as a list of values of one cell each. -/
def SlV (w : World) (v : Value) (vs : List Value) : Prop :=
  ∃ ad cap, v = .slice ad vs.length cap ∧ vs.length ≤ 17592186044416 ∧ vs.length ≤ cap ∧
    (0 < vs.length → ∃ b off, ad = some ⟨b, off, none⟩ ∧ b < w.heap.size ∧ ∀ i (h : i < vs.length), w.cell? ⟨b, off + i, none⟩ = some vs[i])
theorem SlV.below {w w' : World} {v : Value} {xs : List Value} {B : Nat} (h : SlV w v xs) (hb : Below B w w') (hB : w.heap.size ≤ B) : SlV w' v xs := by
  obtain ⟨ad, cap, hv, hm, hp, hc⟩ := h
  refine ⟨ad, cap, hv, hm, hp, fun h0 => ?_⟩
  obtain ⟨b, off, ha, hlt, hcell⟩ := hc h0
  exact ⟨b, off, ha, Nat.lt_of_lt_of_le hlt hb.size, fun i hi => (hb.cell (p := ⟨b, off + i, none⟩) (by simpa using by omega)).trans (hcell i hi)⟩

/-- A slice value that reads as a list of things of sz cells each. -/
def SlG {α : Type} (enc : α → List Value) (sz : Nat) (w : World) (v : Value) (xs : List α) : Prop :=
  ∃ ad cap, v = .slice ad xs.length cap ∧ xs.length ≤ 8796093022208 ∧ xs.length ≤ cap ∧
    (0 < xs.length → ∃ b off, ad = some ⟨b, off, none⟩ ∧ b < w.heap.size ∧ ∀ i (h : i < xs.length) f u, (enc xs[i])[f]? = some u → w.cell? ⟨b, off + i * sz + f, none⟩ = some u)
theorem SlG.below {α : Type} {enc : α → List Value} {sz : Nat} {w w' : World} {v : Value} {xs : List α} {B : Nat} (h : SlG enc sz w v xs) (hb : Below B w w') (hB : w.heap.size ≤ B) : SlG enc sz w' v xs := by
  obtain ⟨ad, cap, hv, hm, hp, hc⟩ := h
  refine ⟨ad, cap, hv, hm, hp, fun h0 => ?_⟩
  obtain ⟨b, off, ha, hlt, hcell⟩ := hc h0
  exact ⟨b, off, ha, Nat.lt_of_lt_of_le hlt hb.size, fun i hi f u hu => (hb.cell (p := ⟨b, _, none⟩) (by simpa using by omega)).trans (hcell i hi f u hu)⟩
theorem slG_nil {α : Type} (enc : α → List Value) (sz : Nat) (w : World) : SlG enc sz w (.slice none 0 0) [] := ⟨none, 0, rfl, by simp, by simp, fun h => by simp at h⟩

theorem flat_length {α β : Type} {enc : α → List β} {sz : Nat} (he : ∀ x, (enc x).length = sz) (xs : List α) : (xs.flatMap enc).length = xs.length * sz := by
  induction xs with
  | nil => simp
  | cons x xs ih => rw [List.flatMap_cons, List.length_append, he, ih, List.length_cons, Nat.add_mul]; omega
theorem flat_get {α β : Type} {enc : α → List β} {sz : Nat} (he : ∀ x, (enc x).length = sz) : ∀ {xs : List α} {k : Nat} (hk : k < xs.length) {f : Nat}, f < sz → (xs.flatMap enc)[k * sz + f]? = (enc xs[k])[f]?
  | [], _, hk, _, _ => by simp at hk
  | x :: xs, 0, _, f, hf => by
    rw [List.flatMap_cons, Nat.zero_mul, Nat.zero_add, List.getElem?_append_left (by rw [he]; exact hf)]; rfl
  | x :: xs, k + 1, hk, f, hf => by
    rw [List.flatMap_cons, List.getElem?_append_right (by rw [he, Nat.add_mul]; omega), he]
    have e : (k + 1) * sz + f - sz = k * sz + f := by rw [Nat.add_mul]; omega
    rw [e, flat_get he (xs := xs) (by simpa using hk) hf]; rfl
theorem flat_split {α β : Type} {enc : α → List β} {sz : Nat} (he : ∀ x, (enc x).length = sz) {xs : List α} {j : Nat} {u : β} (h : (xs.flatMap enc)[j]? = some u) (h0 : 0 < sz) : ∃ (hk : j / sz < xs.length), (enc xs[j / sz])[j % sz]? = some u := by
  have hl : j < (xs.flatMap enc).length := (List.getElem?_eq_some_iff.1 h).1
  rw [flat_length he] at hl
  have hk : j / sz < xs.length := (Nat.div_lt_iff_lt_mul h0).2 hl
  refine ⟨hk, ?_⟩
  rw [← flat_get he hk (Nat.mod_lt _ h0), Nat.div_add_mod' j sz]; exact h

theorem cap_of {W : World} {base : Nat} {e : TypeId} {sz : Nat} {v : Value} {n : Nat} {xs : List Value} (h : W.ownsRow base e sz v n xs) : ∀ ad m cap, v = .slice ad m cap → m ≤ cap := by
  intro ad m cap hv
  rcases h.2 with ⟨h1, _⟩ | ⟨g, c, cur, h1, _, _, hnc, _⟩
  · rw [h1] at hv; injection hv with _ e2 e3; omega
  · rw [h1] at hv; injection hv with _ e2 e3; omega
theorem slG_own {α : Type} {enc : α → List Value} {sz : Nat} (he : ∀ x, (enc x).length = sz) {W : World} {base : Nat} {e : TypeId} {v : Value} {xs : List α} {n : Nat} (h : W.ownsRow base e sz v n (xs.flatMap enc)) (hn : n = xs.length) (hm : xs.length ≤ 8796093022208) : SlG enc sz W v xs := by
  subst hn
  have hcap := cap_of h
  rcases Joins.ownsRow_forms h with ⟨rfl, h0⟩ | ⟨g, cap, rfl⟩
  · exact ⟨none, 0, by rw [h0], hm, by omega, fun h1 => by omega⟩
  · have hl := h.lt g rfl
    refine ⟨_, cap, rfl, hm, hcap _ _ _ rfl, fun _ => ⟨g, 0, rfl, hl.2, fun i hi f u hu => ?_⟩⟩
    have hf : f < sz := by rw [← he xs[i]]; exact (List.getElem?_eq_some_iff.1 hu).1
    have h1 : i * sz + f < xs.length * sz := by
      have : (i + 1) * sz ≤ xs.length * sz := Nat.mul_le_mul_right _ hi
      rw [Nat.add_mul] at this; omega
    have := h.cellAt (i * sz + f) (by first | exact h1 | (rw [flat_length he]; exact h1))
    rw [Nat.zero_add, this, flat_get he hi hf]; exact hu
theorem slV_own {W : World} {base : Nat} {e : TypeId} {v : Value} {xs : List Value} {n : Nat} (h : W.ownsRow base e 1 v n xs) (hn : n = xs.length) (hm : xs.length ≤ 17592186044416) : SlV W v xs := by
  subst hn
  have hcap := cap_of h
  rcases Joins.ownsRow_forms h with ⟨rfl, h0⟩ | ⟨g, cap, rfl⟩
  · exact ⟨none, 0, by rw [h0], hm, by omega, fun h1 => by omega⟩
  · have hl := h.lt g rfl
    refine ⟨_, cap, rfl, hm, hcap _ _ _ rfl, fun _ => ⟨g, 0, rfl, hl.2, fun i hi => ?_⟩⟩
    have := h.cellAt i (by omega)
    rw [Nat.zero_add, this]
    simp [hi]
/-- A new block, as a slice. -/
theorem slI_new {w : World} {xs : List Int} {t : TypeId} {cap : Nat} {fr : Nat × Nat} (hm : xs.length ≤ 17592186044416) (_ : xs.length ≤ cap) {k : Nat} (hk : w.heap[k]? = some (.cells (xs.map (Value.int .i64)).toArray t fr)) : SlI w (.slice (some ⟨k, 0, none⟩) xs.length cap) xs := by
  refine ⟨_, cap, rfl, hm, fun _ => ⟨k, 0, rfl, lt_blk hk, fun i hi => ?_⟩⟩
  rw [Nat.zero_add, cell_blk hk]
  simp [hi, at0]
theorem slV_new {w : World} {xs : List Value} {t : TypeId} {cap : Nat} {fr : Nat × Nat} (hm : xs.length ≤ 17592186044416) (hc : xs.length ≤ cap) {k : Nat} (hk : w.heap[k]? = some (.cells xs.toArray t fr)) : SlV w (.slice (some ⟨k, 0, none⟩) xs.length cap) xs := by
  refine ⟨_, cap, rfl, hm, hc, fun _ => ⟨k, 0, rfl, lt_blk hk, fun i hi => ?_⟩⟩
  rw [Nat.zero_add, cell_blk hk]
  simp [hi]
theorem slG_new {α : Type} {enc : α → List Value} {sz : Nat} (he : ∀ x, (enc x).length = sz) {w : World} {xs : List α} {t : TypeId} {cap : Nat} {fr : Nat × Nat} (hm : xs.length ≤ 8796093022208) (hc : xs.length ≤ cap) {k : Nat} (hk : w.heap[k]? = some (.cells (xs.flatMap enc).toArray t fr)) : SlG enc sz w (.slice (some ⟨k, 0, none⟩) xs.length cap) xs := by
  refine ⟨_, cap, rfl, hm, hc, fun _ => ⟨k, 0, rfl, lt_blk hk, fun i hi f u hu => ?_⟩⟩
  have hf : f < sz := by rw [← he xs[i]]; exact (List.getElem?_eq_some_iff.1 hu).1
  rw [Nat.zero_add, cell_blk hk, List.getElem?_toArray, flat_get he hi hf]; exact hu
/-- Such a slice as a source of append. -/
theorem reads_of_slI {w : World} {ad : Option Addr} {n cap : Nat} {xs : List Int} (h : SlI w (.slice ad n cap) xs) : Reads w w.heap.size 1 ad n (xs.map (.int .i64)) := by
  obtain ⟨ad', cap', h1, _, h3⟩ := h
  injection h1 with e1 e2 _
  subst e1 e2
  refine ⟨by simp, fun h0 => ?_⟩
  obtain ⟨b, off, rfl, hlt, hc⟩ := h3 h0
  refine ⟨_, rfl, hlt, fun j u hu => ?_⟩
  have hj : j < xs.length := by simpa using (List.getElem?_eq_some_iff.1 hu).1
  rw [add_at, hc j hj]
  simp [hj] at hu
  rw [at0_lt hj, hu]
theorem reads_of_slV {w : World} {ad : Option Addr} {n cap : Nat} {xs : List Value} (h : SlV w (.slice ad n cap) xs) : Reads w w.heap.size 1 ad n xs := by
  obtain ⟨ad', cap', h1, _, _, h3⟩ := h
  injection h1 with e1 e2 _
  subst e1 e2
  refine ⟨by simp, fun h0 => ?_⟩
  obtain ⟨b, off, rfl, hlt, hc⟩ := h3 h0
  refine ⟨_, rfl, hlt, fun j u hu => ?_⟩
  obtain ⟨hj, rfl⟩ := List.getElem?_eq_some_iff.1 hu
  rw [add_at, hc j hj]
theorem reads_of_slG {α : Type} {enc : α → List Value} {sz : Nat} (he : ∀ x, (enc x).length = sz) (h0s : 0 < sz) {w : World} {ad : Option Addr} {n cap : Nat} {xs : List α} (h : SlG enc sz w (.slice ad n cap) xs) : Reads w w.heap.size sz ad n (xs.flatMap enc) := by
  obtain ⟨ad', cap', h1, _, _, h3⟩ := h
  injection h1 with e1 e2 _
  subst e1 e2
  refine ⟨flat_length he xs, fun h0 => ?_⟩
  obtain ⟨b, off, rfl, hlt, hc⟩ := h3 h0
  refine ⟨_, rfl, hlt, fun j u hu => ?_⟩
  obtain ⟨hk, hu2⟩ := flat_split he hu h0s
  have := hc _ hk _ _ hu2
  rw [add_at]
  rw [Nat.add_assoc, Nat.div_add_mod' j sz] at this
  exact this

theorem row_below {W W' : World} {base : Nat} {e : TypeId} {sz : Nat} {v : Value} {n : Nat} {xs : List Value} (h : W.ownsRow base e sz v n xs) (hb : Below W.heap.size W W') : W'.ownsRow base e sz v n xs := Stb.row (B := 0) W W' (Gr.below hb) h
theorem row_set_other {W : World} {base : Nat} {e : TypeId} {sz : Nat} {v : Value} {n : Nat} {xs : List Value} {b i : Nat} {x : Value} (h : W.ownsRow base e sz v n xs) (hne : v.ownBlock ≠ some b) : (W.setCell ⟨b, i, none⟩ x).ownsRow base e sz v n xs := by
  refine ⟨h.1, ?_⟩
  rcases h.2 with h | ⟨g, cap, cur, rfl, hb, hh, r1, r2, r3, r4⟩
  · exact .inl h
  · exact .inr ⟨g, cap, cur, rfl, hb, (heap_set_other (fun e => hne (by rw [e]; rfl))).trans hh, r1, r2, r3, r4⟩
theorem form_of {W : World} {base : Nat} {e : TypeId} {sz n : Nat} {v : Value} {xs : List Value} (h : W.ownsRow base e sz v n xs) : ∃ ad cap, v = .slice ad n cap := by
  rcases Joins.ownsRow_forms h with ⟨rfl, h0⟩ | ⟨g, cap, rfl⟩
  · exact ⟨none, 0, by rw [h0]⟩
  · exact ⟨_, cap, rfl⟩
theorem cell_newL {W : World} {xs : List Value} {t : TypeId} {g : Nat} (hg : g = W.heap.size) : ∀ j u, xs[j]? = some u → (W.alloc (.cells xs.toArray t)).cell? ((⟨g, 0, none⟩ : Addr).add j) = some u := by
  subst hg
  intro j u h
  rw [add_at, cell_blk (heap_newI rfl), Nat.zero_add, List.getElem?_toArray]; exact h
theorem append_same {W w1 : World} {base : Nat} {e : TypeId} {sz : Nat} {v : Value} {n : Nat} {xs : List Value} {o : Obj} (ho : W.ownsRow base e sz v n xs) (hg : (W.alloc o).drew.grownBy w1 v.ownBlock) :
    (∀ k, k < W.heap.size → v.ownBlock ≠ some k → w1.heap[k]? = W.heap[k]?) ∧ W.heap.size + 1 ≤ w1.heap.size ∧ (base ≤ W.heap.size → Below base W w1) := by
  have hsz : (W.alloc o).drew.heap.size = W.heap.size + 1 := by show (W.alloc o).heap.size = _; rw [World.size_alloc]
  have h1 : ∀ k, k < W.heap.size → v.ownBlock ≠ some k → w1.heap[k]? = W.heap[k]? := fun k hk hne => by
    rw [hg.block k (by omega) (fun h => hne h.symm)]
    exact heap_oldI hk
  refine ⟨h1, by have := hg.size; omega, fun hb => ⟨hg.os, hg.tape, hg.output, by have := hg.size; omega, fun k hk => h1 k (by omega) (fun h => by have := (ho.lt k h).1; omega)⟩⟩
theorem append_kx {W w1 : World} {base B : Nat} {TT : TypeId → Prop} {e : TypeId} {sz : Nat} {v : Value} {n : Nat} {xs : List Value} {o : Obj} (ho : W.ownsRow base e sz v n xs) (hg : (W.alloc o).drew.grownBy w1 v.ownBlock) (he : ¬ TT e) : Kx B TT W w1 := by
  obtain ⟨h1, h2, -⟩ := append_same ho hg
  rcases ho.2 with ⟨rfl, _⟩ | ⟨g, cap, cur, rfl, hbg, hh, _⟩
  · exact ⟨by omega, fun k _ _ h _ => (h1 k (Array.getElem?_eq_some_iff.1 h).1 (by simp [Value.ownBlock])).trans h, fun k _ _ _ h _ => (h1 k (Array.getElem?_eq_some_iff.1 h).1 (by simp [Value.ownBlock])).trans h⟩
  · exact Kx.one (b := g) hh he (by omega) (fun k hk hne => h1 k hk (by simpa [Value.ownBlock] using fun h => hne h.symm))
theorem SlV.memo {w w' : World} {v : Value} {xs : List Value} {m : Nat} {G : Value → Value → Prop} (h : SlV w v xs) (hm : Memo w m G) (hb : Bm m w.heap.size w w') : SlV w' v xs := by
  obtain ⟨es, clock, hmb, _⟩ := hm
  obtain ⟨ad, cap, hv, hmx, hp, hc⟩ := h
  refine ⟨ad, cap, hv, hmx, hp, fun h0 => ?_⟩
  obtain ⟨b, off, ha, hlt, hcell⟩ := hc h0
  have hn : b ≠ m := by rintro rfl; have := hcell 0 h0; simp [World.cell?, hmb] at this
  exact ⟨b, off, ha, Nat.lt_of_lt_of_le hlt hb.size, fun i hi => (World.cell?_of_block (w := w) (hb.block b hlt hn)).trans (hcell i hi)⟩
theorem SlG.memo {α : Type} {enc : α → List Value} {sz : Nat} (he : ∀ x, (enc x).length = sz) (h0s : 0 < sz) {w w' : World} {v : Value} {xs : List α} {m : Nat} {G : Value → Value → Prop} (h : SlG enc sz w v xs) (hm : Memo w m G) (hb : Bm m w.heap.size w w') : SlG enc sz w' v xs := by
  obtain ⟨es, clock, hmb, _⟩ := hm
  obtain ⟨ad, cap, hv, hmx, hp, hc⟩ := h
  refine ⟨ad, cap, hv, hmx, hp, fun h0 => ?_⟩
  obtain ⟨b, off, ha, hlt, hcell⟩ := hc h0
  have hn : b ≠ m := by
    rintro rfl
    have hl : 0 < (enc xs[0]).length := by rw [he]; exact h0s
    have := hcell 0 h0 0 _ (List.getElem?_eq_getElem hl)
    simp [World.cell?, hmb] at this
  exact ⟨b, off, ha, Nat.lt_of_lt_of_le hlt hb.size, fun i hi f u hu => (World.cell?_of_block (w := w) (hb.block b hlt hn)).trans (hcell i hi f u hu)⟩
theorem memo_new (W : World) (n : Nat) (G : Value → Value → Prop) : Memo (W.alloc (.map #[] n)) W.heap.size G := ⟨#[], n, heap_newI rfl, fun e he => by simp at he⟩
theorem below_of_bm {W X W' : World} {B : Nat} (h : Bm W.heap.size B X W') (hB : W.heap.size ≤ B) (hX : Below W.heap.size W X) : Below W.heap.size W W' :=
  ⟨h.os.trans hX.os, h.tape.trans hX.tape, h.output.trans hX.output, Nat.le_trans hX.size h.size, fun k hk => (h.block k (by omega) (by omega)).trans (hX.block k hk)⟩
theorem bm_below {m B : Nat} {W W' X : World} (h : Bm m B W W') (hb : Below W'.heap.size W' X) (hB : B ≤ W'.heap.size) : Bm m B W X := h.trans (Bm.of (hb.mono hB))
end Ytnihopdglkhbnaa
end Go.Proofs

open Go Go.RowKit Go.YtnihopdglkhbnaaIt
namespace Go.Proofs
namespace Ytnihopdglkhbnaa
theorem row_same {W W' : World} {base : Nat} {e : TypeId} {sz : Nat} {v : Value} {n : Nat} {xs : List Value} (h : W.ownsRow base e sz v n xs) (hk : ∀ g, v.ownBlock = some g → W'.heap[g]? = W.heap[g]?) : W'.ownsRow base e sz v n xs := by
  refine ⟨h.1, ?_⟩
  rcases h.2 with h | ⟨g, cap, cur, rfl, hb, hh, r1, r2, r3, r4⟩
  · exact .inl h
  · exact .inr ⟨g, cap, cur, rfl, hb, (hk g rfl).trans hh, r1, r2, r3, r4⟩
theorem row_putO {W : World} {base : Nat} {e : TypeId} {sz : Nat} {v : Value} {n b : Nat} {xs : List Value} {o : Obj} (h : W.ownsRow base e sz v n xs) (hb : b < base) : (W.putObj b o).ownsRow base e sz v n xs :=
  row_same h fun g hg => World.putObj_heap_other (by have := (h.lt g hg).1; omega)
/-- A slice of lists of numbers. -/
def SlII (w : World) (v : Value) (rows : List (List Int)) : Prop := ∃ vs : List Value, SlV w v vs ∧ vs.length = rows.length ∧ ∀ i (h : i < vs.length) (h' : i < rows.length), SlI w vs[i] rows[i]
theorem SlII.below {w w' : World} {v : Value} {rows : List (List Int)} {B : Nat} (h : SlII w v rows) (hb : Below B w w') (hB : w.heap.size ≤ B) : SlII w' v rows := by
  obtain ⟨vs, h1, h2, h3⟩ := h
  exact ⟨vs, h1.below hb hB, h2, fun i hi hi' => (h3 i hi hi').below hb hB⟩
theorem slI_form {w : World} {v : Value} {xs : List Int} (h : SlI w v xs) : ∃ ad c, v = .slice ad xs.length c := by
  obtain ⟨ad, cap, hv, _⟩ := h; exact ⟨ad, cap, hv⟩
theorem made_rep (z : Value) (hz : z.cells = #[z]) (n : Nat) : (madeCells z.cells (n * 1)).toList = List.replicate n z := by
  apply List.ext_getElem?
  intro i
  rw [List.getElem?_replicate]
  by_cases h : i < n
  · simp [madeCells, hz, h, Nat.mod_one]
  · simp [madeCells, hz, h]
/-- A row's block, opened. -/
theorem row_block {W : World} {base : Nat} {e : TypeId} {sz n cap g : Nat} {xs : List Value} (h : W.ownsRow base e sz (.slice (some ⟨g, 0, none⟩) n cap) n xs) : ∃ cur, W.heap[g]? = some (.cells cur e (0, 0)) := by
  rcases h.2 with ⟨h, _⟩ | ⟨g2, cap2, cur, hv, _, hh, _⟩
  · cases h
  · injection hv with e1 _ _
    injection e1 with e1
    injection e1 with e1
    subst e1
    exact ⟨cur, hh⟩
theorem row_full {W : World} {base : Nat} {e : TypeId} {n g : Nat} {xs : List Value} (h : W.ownsRow base e 1 (.slice (some ⟨g, 0, none⟩) n n) n xs) : W.heap[g]? = some (.cells xs.toArray e (0, 0)) := by
  rcases h.2 with ⟨h, _⟩ | ⟨g2, cap2, cur, hv, _, hh, _, _, hsz, ht⟩
  · cases h
  · injection hv with e1 _ e3
    injection e1 with e1
    injection e1 with e1
    subst e1 e3
    rw [hh]
    have : cur = xs.toArray := by
      apply Array.toList_inj.1
      rw [← ht, List.take_of_length_le (by simp [hsz])]
    rw [this]
/-- A call of a function by its contract, as one step of a region whose order is open. -/
theorem step_call {P : Program} {ops : Array Oper} {o : Oper} {a : Act} {w : World} {K : Act → World → Prop} {Q : Exit → Act → World → Prop} {E : Prop} (hgd : o.guard = none) {f : Nat} {xs : Array Operand} {ts : Array TypeId}
    (hop : o.op = Op.call { callee := Callee.value (Operand.func f), args := xs, argTypes := ts }) (eg : ∀ args w, (callFunc f args).run P w = .ok (.enter f args) w) {v : Value} {R : World → Prop} {args : List Value} (ha : xs.toList.map a.eval = args)
    (hc : Calls P f args.toArray w fun e w' => e = .returned v ∧ R w') (h : ∀ w', R w' → K (a.put o.dst v) w') :
    if Region.wanted o (yielded ops a.tmps) = true then Oper.wp P o a w K Q else E := by
  have ha' : xs.map a.eval = args.toArray := by
    apply Array.toList_inj.1
    rw [Array.toList_map, ha]
  have hw : Region.wanted o (yielded ops a.tmps) = true := by simp [Region.wanted, hgd]
  rw [if_pos hw]
  unfold Oper.wp
  simp [execOp, hop, resolve, invoke, Act.eval, go_sem, eg]
  rw [ha']
  refine Calls.mono hc ?_
  rintro e w' ⟨rfl, hr⟩
  exact h w' hr
theorem append_same1 {W w1 : World} {e : TypeId} {sz base : Nat} {v : Value} {n : Nat} {xs : List Value} {o : Obj} (_ho : W.ownsRow base e sz v n xs) (hg : (W.alloc o).grownBy w1 v.ownBlock) :
    (∀ k, k < W.heap.size → v.ownBlock ≠ some k → w1.heap[k]? = W.heap[k]?) ∧ W.heap.size + 1 ≤ w1.heap.size ∧ w1.os = W.os ∧ w1.tape = W.tape ∧ w1.output = W.output := by
  have hsz : (W.alloc o).heap.size = W.heap.size + 1 := sz_al W o
  refine ⟨fun k hk hne => ?_, by have := hg.size; omega, hg.os, hg.tape, hg.output⟩
  rw [hg.block k (by omega) (fun h => hne h.symm)]
  exact heap_oldI hk
/-- The region of a number in a code. -/
def regionIn (id : Nat) : Code → Option Code
  | .region i ops d => if i = id then some (.region i ops d) else none
  | .seq a b => match regionIn id a with
    | some c => some c
    | none => regionIn id b
  | .block _ c => regionIn id c
  | .loop c => regionIn id c
  | .scope c => regionIn id c
  | .cond _ a b => match regionIn id a with
    | some c => some c
    | none => regionIn id b
  | .rangeFunc _ _ a b => match regionIn id a with
    | some c => some c
    | none => regionIn id b
  | _ => none
def regOf (f : Func) (id : Nat) : Code := ((f.body.bind (regionIn id)).getD .skip)
end Ytnihopdglkhbnaa
end Go.Proofs

open Go Go.RowKit Go.YtnihopdglkhbnaaIt
namespace Go.Proofs
namespace Ytnihopdglkhbnaa
/-- A call of a function value by its contract, as one step. -/
theorem oper_callg {P : Program} {o : Oper} {a : Act} {w : World} {K : Act → World → Prop} {Q : Exit → Act → World → Prop} {c : Operand} {f : Nat} {lb : Array Value} {xs : Array Operand} {ts : Array TypeId}
    (hop : o.op = Op.call { callee := Callee.value c, args := xs, argTypes := ts }) (hcv : a.eval c = .func (.func f) #[] lb) (eg : ∀ args w, (callFunc f args).run P w = .ok (.enter f args) w) {args : List Value} (ha : xs.toList.map a.eval = args) {R : Value → World → Prop}
    (hc : Calls P f (args.toArray ++ lb) w fun e w' => ∃ v, e = .returned v ∧ R v w') (h : ∀ v w', R v w' → K (a.put o.dst v) w') : Oper.wp P o a w K Q := by
  have ha' : xs.map a.eval = args.toArray := by
    apply Array.toList_inj.1
    rw [Array.toList_map, ha]
  have hrs : resolve a.eval { callee := Callee.value c, args := xs, argTypes := ts } o.type = pure { target := .fn (.func f) lb, args := args.toArray } := by
    unfold resolve
    simp only [hcv, ha', Deferred.ofValue]
    simp
  unfold Oper.wp execOp
  simp only [hop, hrs, Sem.run_bind, Sem.run_pure, Result.andThen_ok, invoke, eg]
  simp only [go_sem]
  refine Calls.mono hc ?_
  rintro e w' ⟨v, rfl, hr⟩
  exact h v w' hr
/-- A load of a whole block yields the same in whatever world has the block. -/
theorem yields_load_blk {P : Program} {S : World → Prop} {a : Act} {o : Oper} (ty : TypeId) (x : Operand) (ho : o.op = .load ty x)
    (g : Nat) (hx : a.eval x = .pointer (some ⟨g, 0, none⟩)) {t : TypeId} {cs : Array Value} {fr : Nat × Nat} (hg : ∀ W, S W → W.heap[g]? = some (.cells cs t fr)) {d : TypeDesc}
    (hu : P.underlying ty = some d) (hd : (match d with | .struct _ | .array _ _ => true | _ => false) = true) {k : Nat} (hi : (P.info? ty).map (·.size) = some k) (hk : cs.size = k) :
    ∀ w, S w → (execOp a.eval o).run P w = .ok (.value (.agg cs)) w := by
  intro W hW
  unfold execOp
  simp only [ho, hx, Instr.loadAt, Instr.sureAddr, Sem.run_bind, Sem.run_pure, Result.andThen_ok, run_loadVar_row W g t ty cs fr d (hg W hW) hu hd (by rw [hi, hk])]
/-- A store of a whole block, as one step. -/
theorem oper_store_blk {P : Program} {o : Oper} {a : Act} {w : World} {K : Act → World → Prop} {Q : Exit → Act → World → Prop} (ty : TypeId) (x y : Operand) (ho : o.op = .store ty x y)
    (g : Nat) (hx : a.eval x = .pointer (some ⟨g, 0, none⟩)) {cells : Array Value} (hy : a.eval y = .agg cells)
    {t : TypeId} {old : Array Value} (hg : w.heap[g]? = some (.cells old t (0, 0))) {k : Nat} (hi : (P.info? ty).map (·.size) = some k) (hk : cells.size = k)
    (hold : old.size = k) (h1 : cells.all (·.oneCell') = true)
    (h : K (a.put o.dst undef) (w.putObj g (.cells cells t (0, 0)))) : Oper.wp P o a w K Q :=
  wp_store_row ty x y ho g cells hx hy t old hg (by rw [hk]; exact hi) (by omega) h1 (by rw [setRow_putObj hg]; exact h)
end Ytnihopdglkhbnaa
end Go.Proofs
