/- Generic: calls and loads of whole blocks as single steps of a region whose order is open. -/
import Derived.Test.YtgnjeefanbcbkaaGenC
open Go Go.RowKit Go.YtgnjeefanbcbkaaIt
namespace Go.Proofs
namespace Ytgnjeefanbcbkaa
/-- A call of a function value by its contract, as one step. -/
theorem oper_callg {P : Program} {o : Oper} {a : Act} {w : World} {K : Act → World → Prop} {Q : Exit → Act → World → Prop} {c : Operand} {f : Nat} {lb : Array Value} {xs : Array Operand} {ts : Array TypeId}
    (hop : o.op = Op.call { callee := Callee.value c, args := xs, argTypes := ts }) (hcv : a.eval c = .func (.func f) #[] lb) (eg : ∀ args w, (callFunc f args).run P w = .ok (.enter f args) w) {args : List Value} (ha : xs.toList.map a.eval = args) {R : Value → World → Prop}
    (hc : Calls P f (args.toArray ++ lb) w fun e w' => ∃ v, e = .returned v ∧ R v w') (h : ∀ v w', R v w' → K (a.put o.dst v) w') : Oper.wp P o a w K Q := by
  have ha' : xs.map a.eval = args.toArray := by
    apply Array.toList_inj.1
    rw [Array.toList_map, ha]
  have hrs : resolve a.eval { callee := Callee.value c, args := xs, argTypes := ts } o.type = pure { target := .fn (.func f) lb, args := args.toArray } := by
    unfold resolve
    simp only [hcv, ha', Deferred.ofValue]
    simp
  unfold Oper.wp execOp
  simp only [hop, hrs, Sem.run_bind, Sem.run_pure, Result.andThen_ok, invoke, eg]
  simp only [go_sem]
  refine Calls.mono hc ?_
  rintro e w' ⟨v, rfl, hr⟩
  exact h v w' hr
/-- A load of a whole block yields the same in whatever world has the block. -/
theorem yields_load_blk {P : Program} {S : World → Prop} {a : Act} {o : Oper} (ty : TypeId) (x : Operand) (ho : o.op = .load ty x)
    (g : Nat) (hx : a.eval x = .pointer (some ⟨g, 0, none⟩)) {t : TypeId} {cs : Array Value} {fr : Nat × Nat} (hg : ∀ W, S W → W.heap[g]? = some (.cells cs t fr)) {d : TypeDesc}
    (hu : P.underlying ty = some d) (hd : (match d with | .struct _ | .array _ _ => true | _ => false) = true) {k : Nat} (hi : (P.info? ty).map (·.size) = some k) (hk : cs.size = k) :
    ∀ w, S w → (execOp a.eval o).run P w = .ok (.value (.agg cs)) w := by
  intro W hW
  unfold execOp
  simp only [ho, hx, Instr.loadAt, Instr.sureAddr, Sem.run_bind, Sem.run_pure, Result.andThen_ok, run_loadVar_row W g t ty cs fr d (hg W hW) hu hd (by rw [hi, hk])]
/-- A store of a whole block, as one step. -/
theorem oper_store_blk {P : Program} {o : Oper} {a : Act} {w : World} {K : Act → World → Prop} {Q : Exit → Act → World → Prop} (ty : TypeId) (x y : Operand) (ho : o.op = .store ty x y)
    (g : Nat) (hx : a.eval x = .pointer (some ⟨g, 0, none⟩)) {cells : Array Value} (hy : a.eval y = .agg cells)
    {t : TypeId} {old : Array Value} (hg : w.heap[g]? = some (.cells old t (0, 0))) {k : Nat} (hi : (P.info? ty).map (·.size) = some k) (hk : cells.size = k)
    (hold : old.size = k) (h1 : cells.all (·.oneCell') = true)
    (h : K (a.put o.dst undef) (w.putObj g (.cells cells t (0, 0)))) : Oper.wp P o a w K Q :=
  wp_store_row ty x y ho g cells hx hy t old hg (by rw [hk]; exact hi) (by omega) h1 (by rw [setRow_putObj hg]; exact h)
end Ytgnjeefanbcbkaa
end Go.Proofs
