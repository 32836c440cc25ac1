/- Laws of rotation: a list of numbers that is copied by append to an empty list, and a number put behind it. -/
import Derived.Test.YtnjgglnpmhjmiaaProg
import Derived.Test.YtnjgglnpmhjmiaaGenX
import Derived.Test.YtnjgglnpmhjmiaaPl4
open Go Go.RowKit Go.YtnjgglnpmhjmiaaIt
namespace Go.Proofs
namespace Ytnjgglnpmhjmiaa
theorem info3 : (Try.prog.info? 3).map (fun i => (i.zero, i.size, i.bytes)) = some (some (.int .i64 0), 1, 8) := by kernel_rfl
theorem one_ints (xs : List Int) : ∀ u ∈ xs.map (Value.int .i64), u.oneCell' = true := by
 intro u hu
 obtain ⟨x, -, rfl⟩ := List.mem_map.1 hu
 rfl
theorem own_formI {W : World} {base n : Nat} {e : TypeId} {v : Value} {xs : List Value} (h : W.ownsRow base e 1 v n xs) (h0 : 0 < n) : ∃ g c, v = .slice (some ⟨g, 0, none⟩) n c := by
 rcases h.2 with ⟨_, h1⟩ | ⟨g, cap, cur, e1, _⟩
 ·omega
 ·exact ⟨g, cap, e1⟩
/-- append([]int{}, xs...) -/
theorem oper_copy {o : Oper} {a : Act} {K : Act → World → Prop} {Q : Exit → Act → World → Prop} (s x : Operand) (ho : o.op = .call { callee := .builtin .append, args := #[s, x], argTypes := #[40, 40] })
  {W w : World} {g : Nat} {vb : Value} {xs : List Int} (hv : SlI w vb xs) (hl : xs.length ≤ 10000) (hs : a.eval s = .slice (some ⟨g, 0, none⟩) 0 0) (hx : a.eval x = vb)
  (hg : w.heap[g]? = some (Obj.cells #[] 3 (0, 0))) (hB : Below W.heap.size W w) (hBg : W.heap.size ≤ g)
  (h : ∀ v' w', w'.ownsRow W.heap.size 3 1 v' xs.length (xs.map (.int .i64)) → Below W.heap.size W w' → (∀ b, b < w.heap.size → b ≠ g → w'.heap[b]? = w.heap[b]?) → (v'.ownBlock = some g ∨ v'.ownBlock = some w.heap.size) → K (a.put o.dst v') w') : o.wp Try.prog a w K Q := by
 obtain ⟨ad, cap, rfl, hm, hc, hcc⟩ := hv
 obtain ⟨i3, hi3, hy1, hy2, hy3⟩ := info_parts info3
 have hown : w.ownsRow W.heap.size 3 1 (.slice (some ⟨g, 0, none⟩) 0 0) 0 [] := ⟨rfl, .inr ⟨g, 0, #[], rfl, hBg, hg, by decide, by decide, rfl, rfl⟩⟩
 have hrd := reads_of_slI (⟨ad, cap, rfl, hm, hc, hcc⟩ : SlI w (.slice ad xs.length cap) xs)
 have hb := lt_blk hg
 refine wp_append_any w s x 40 ho W.heap.size 3 i3 (.int .i64 0) 1 8 Try.underlying40 hi3 hy1 hy2 hy3 rfl (by decide) _ 0 [] hs hown _ ad xs.length cap _ hx hrd (one_ints xs) (Nat.le_trans (by omega : 0 + xs.length ≤ 10000) (by decide)) (by omega) (by omega) ?_
 intro v' w' r1 r2 r3
 rw [Nat.zero_add, List.nil_append] at r1
 have hk : ∀ b, b < w.heap.size → b ≠ g → w'.heap[b]? = w.heap[b]? := fun b hb hne => r2.block b hb (fun e => hne (Option.some.inj e))
 refine h v' w' r1 ⟨r2.os.trans hB.os, r2.tape.trans hB.tape, r2.output.trans hB.output, Nat.le_trans hB.size r2.size, fun b hb => (hk b (Nat.lt_of_lt_of_le hb hB.size) (by omega)).trans (hB.block b hb)⟩ hk (r3.imp_left fun e => e)
/-- append(v, i) -/
theorem oper_push {o : Oper} {a : Act} {K : Act → World → Prop} {Q : Exit → Act → World → Prop} (s x : Operand) (ho : o.op = .call { callee := .builtin .append, args := #[s, x], argTypes := #[40, 40] })
  {W w : World} {g : Nat} {v : Value} {xs : List Int} {i : Int} (hr : w.ownsRow W.heap.size 3 1 v xs.length (xs.map (.int .i64))) (hl : xs.length ≤ 10000) (hs : a.eval s = v) (hx : a.eval x = .slice (some ⟨g, 0, none⟩) 1 1)
  (hg : w.heap[g]? = some (Obj.cells #[.int .i64 i] 3 (0, 0))) (hB : Below W.heap.size W w)
  (h : ∀ v' w', w'.ownsRow W.heap.size 3 1 v' (xs.length + 1) ((xs ++ [i]).map (.int .i64)) → Below W.heap.size W w' → K (a.put o.dst v') w') : o.wp Try.prog a w K Q := by
 obtain ⟨i3, hi3, hy1, hy2, hy3⟩ := info_parts info3
 have hrd := reads_of_slI (slI_new (xs := [i]) (cap := 1) (by simp) (by simp) hg : SlI w (.slice (some ⟨g, 0, none⟩) 1 1) [i])
 have hws := hB.size
 refine wp_append_any w s x 40 ho W.heap.size 3 i3 (.int .i64 0) 1 8 Try.underlying40 hi3 hy1 hy2 hy3 rfl (by decide) _ xs.length _ hs hr _ (some ⟨g, 0, none⟩) 1 1 _ hx hrd (one_ints [i]) (Nat.le_trans (by omega : xs.length + 1 ≤ 10001) (by decide)) (by omega) hws ?_
 intro v' w' r1 r2 r3
 rw [← List.map_append] at r1
 refine h v' w' r1 ⟨r2.os.trans hB.os, r2.tape.trans hB.tape, r2.output.trans hB.output, Nat.le_trans hB.size r2.size, fun b hb => (r2.block b (Nat.lt_of_lt_of_le hb hB.size) (fun e => by have := (hr.lt b e.symm).1; omega)).trans (hB.block b hb)⟩
theorem wpList_copy {ops : Array Oper} {rest : List Oper} {o : Oper} {a : Act} {Q : Exit → Act → World → Prop} (hgd : o.guard = none) (s x : Operand) (ho : o.op = .call { callee := .builtin .append, args := #[s, x], argTypes := #[40, 40] })
  {W w : World} {g : Nat} {vb : Value} {xs : List Int} (hv : SlI w vb xs) (hl : xs.length ≤ 10000) (hs : a.eval s = .slice (some ⟨g, 0, none⟩) 0 0) (hx : a.eval x = vb)
  (hg : w.heap[g]? = some (Obj.cells #[] 3 (0, 0))) (hB : Below W.heap.size W w) (hBg : W.heap.size ≤ g)
  (h : ∀ v' w', w'.ownsRow W.heap.size 3 1 v' xs.length (xs.map (.int .i64)) → Below W.heap.size W w' → wpList Try.prog ops Q rest (a.put o.dst v') w') : wpList Try.prog ops Q (o :: rest) a w :=
 wpList_plain hgd fun _ hK => oper_copy s x ho hv hl hs hx hg hB hBg fun v' w' r1 r2 _ _ => hK _ _ (h v' w' r1 r2)
theorem wpList_push {ops : Array Oper} {rest : List Oper} {o : Oper} {a : Act} {Q : Exit → Act → World → Prop} (hgd : o.guard = none) (s x : Operand) (ho : o.op = .call { callee := .builtin .append, args := #[s, x], argTypes := #[40, 40] })
  {W w : World} {g : Nat} {v : Value} {xs : List Int} {i : Int} (hr : w.ownsRow W.heap.size 3 1 v xs.length (xs.map (.int .i64))) (hl : xs.length ≤ 10000) (hs : a.eval s = v) (hx : a.eval x = .slice (some ⟨g, 0, none⟩) 1 1)
  (hg : w.heap[g]? = some (Obj.cells #[.int .i64 i] 3 (0, 0))) (hB : Below W.heap.size W w)
  (h : ∀ v' w', w'.ownsRow W.heap.size 3 1 v' (xs.length + 1) ((xs ++ [i]).map (.int .i64)) → Below W.heap.size W w' → wpList Try.prog ops Q rest (a.put o.dst v') w') : wpList Try.prog ops Q (o :: rest) a w :=
 wpList_plain hgd fun _ hK => oper_push s x ho hr hl hs hx hg hB fun v' w' r1 r2 => hK _ _ (h v' w' r1 r2)
end Ytnjgglnpmhjmiaa
end Go.Proofs
/- Laws of rotation: slices.Clone and slices.Clip of lists of numbers. -/
open Go Go.RowKit Go.YtnjgglnpmhjmiaaIt
namespace Go.Proofs
namespace Ytnjgglnpmhjmiaa
set_option maxRecDepth 100000 in
set_option maxHeartbeats 4000000 in
theorem clone_any (v : Value) (xs : List Int) (w : World) (hv : SlI w v xs) (hl : xs.length ≤ 10000) :
  Calls Try.prog 106 #[v] w fun e w' => ∃ v', e = .returned v' ∧ SlI w' v' xs ∧ (∀ g off n c, v' = .slice (some ⟨g, off, none⟩) n c → w.heap.size ≤ g ∧ g < w'.heap.size) ∧ Below w.heap.size w w' := by
 have HV := Lib.hid hv
 obtain ⟨ad, cap, rfl, hm, hcp, hc⟩ := hv
 have qT : ∀ (w : World) (a : Option Addr) (n c n' c' : Nat), (binOp .eql 40 (.slice a n c) (.slice none n' c')).run Try.prog w = .ok (.bool a.isNone) w := fun w a n c n' c' => Lib.run_eql_slice_nil w _ _ a n c n' c' Try.underlying40
 cases ad with
 | none =>
  have hx : xs = [] := by
   cases xs with
   | nil => rfl
   | cons x l => obtain ⟨b, off, e, -⟩ := hc (by simp); cases e
  subst hx
  clear hc
  go_enter Try.func106, Try.ntmps106
  go_wp2
  go_ret
  exact ⟨_, rfl, slI_nil _, fun g off n c e => by (injection e with e _ _; cases e), Below.refl _ _⟩
 | some p =>
  clear hc
  have hA7 := (Below.refl _ w).alloc (Nat.le_refl _) (.cells #[] 3)
  have hS7 := HV.out.below hA7 (Nat.le_refl _)
  have HX := Lib.hid (And.intro hl (And.intro hA7 hS7))
  clear hA7 hS7 hl
  go_enter Try.func106, Try.ntmps106
  go_wp2_with (at_builtin; refine wpList_copy rfl _ _ rfl (W := w) HX.out.2.2 HX.out.1 rfl rfl (heap_newI rfl) HX.out.2.1 (Nat.le_refl _) ?_; intro v8 w8 r8 hb8)
  go_ret
  exact ⟨v8, rfl, slI_own r8 rfl hm, fun g off n c e => r8.lt g (by rw [e]; rfl), hb8⟩
theorem clip_any (ad : Option Addr) (n cap : Nat) (w : World) (h : n ≤ cap) :
  Calls Try.prog 107 #[.slice ad n cap] w fun e w' => e = .returned (.slice ad n n) ∧ w = w' := by
 go_enter Try.func107, Try.ntmps107
 go_wp2
 go_ret
 exact ⟨rfl, rfl⟩
set_option maxRecDepth 100000 in
/-- append(s, x) of a slice without spare room: a new row. -/
theorem oper_push_full {o : Oper} {a : Act} {w : World} {K : Act → World → Prop} {Q : Exit → Act → World → Prop} (s x : Operand) (ho : o.op = .call { callee := .builtin .append, args := #[s, x], argTypes := #[40, 40] })
  {ad : Option Addr} {n : Nat} {xs : List Int} (hv : SlI w (.slice ad n n) xs) (hl : xs.length ≤ 10000) (hs : a.eval s = .slice ad n n) {g : Nat} {i : Int} (hx : a.eval x = .slice (some ⟨g, 0, none⟩) 1 1) (hg : w.heap[g]? = some (Obj.cells #[.int .i64 i] 3 (0, 0)))
  (h : ∀ v' w', SlI w' v' (xs ++ [i]) → (∀ g off n c, v' = .slice (some ⟨g, off, none⟩) n c → w.heap.size ≤ g ∧ ∃ cs fr, w'.heap[g]? = some (.cells cs 3 fr)) → Below w.heap.size w w' → K (a.put o.dst v') w') : o.wp Try.prog a w K Q := by
 obtain ⟨i3, hi3, hy1, hy2, hy3⟩ := info_parts info3
 obtain ⟨ad', cap', e, hm, hcp, hc⟩ := hv
 injection e with e1 e2 e3
 subst e1 e2
 have hnews : ∀ j u, [Value.int .i64 i][j]? = some u → w.cell? ((⟨g, 0, none⟩ : Addr).add j) = some u := fun j u hu => by
  have : j = 0 := by have := (List.getElem?_eq_some_iff.1 hu).1; simpa using this
  subst this
  have h0 := cell_blk (i := 0) hg
  simp only [List.getElem?_toArray, List.getElem?_cons_zero, Option.some.injEq] at h0 hu
  rw [← hu]
  exact h0
 have key : ∃ cap', (Builtin.append_ #[40, 40] o.type #[.slice ad xs.length xs.length, .slice (some ⟨g, 0, none⟩) 1 1]).run Try.prog w = .ok (.slice (some ⟨w.heap.size, 0, none⟩) (xs.length + 1) cap') (w.drew.alloc (.cells ((xs.map (Value.int .i64)).toArray ++ [Value.int .i64 i].toArray ++ Builtin.zeroCells (Value.int .i64 0).cells (cap' - (xs.length + 1))) 3)) ∧ xs.length + 1 ≤ cap' := by
  cases ad with
  | none =>
   have hx0 : xs = [] := by
    cases xs with
    | nil => rfl
    | cons x l => obtain ⟨b, off, e, -⟩ := hc (by simp); cases e
   subst hx0
   have hr := run_append_nil (P := Try.prog) w 40 o.type 3 i3 (.int .i64 0) Try.underlying40 hi3 hy1 ⟨g, 0, none⟩ 1 1 [.int .i64 i] (by simp [hy2]) hnews (by omega) (by decide) (by rw [hy3]; decide)
   exact ⟨_, by simpa using hr, grownCap_ge w 1 0 3⟩
  | some ad =>
   have holds : ∀ j v, (xs.map (Value.int .i64))[j]? = some v → w.cell? (ad.add j) = some v := fun j v hj => by
    have hjl := (List.getElem?_eq_some_iff.1 hj).1
    rw [List.length_map] at hjl
    obtain ⟨b, off, e, -, hcell⟩ := hc (by omega)
    injection e with e
    subst e
    rw [List.getElem?_map, List.getElem?_eq_getElem hjl] at hj
    injection hj with hj
    rw [add_at, hcell j hjl, at0_lt hjl, ← hj]
   have hr := run_append_grow (P := Try.prog) w 40 o.type 3 i3 (.int .i64 0) Try.underlying40 hi3 hy1 ad xs.length xs.length (xs.map (Value.int .i64)) (by simp [hy2]) holds ⟨g, 0, none⟩ 1 1 [.int .i64 i] (by simp [hy2]) hnews (by omega) (by omega) (growslice_fits (by omega) (by rw [hy3]; omega))
   exact ⟨_, hr, grownCap_ge w (xs.length + 1) xs.length 3⟩
 obtain ⟨cap2, hrun, hcap⟩ := key
 have hnew := World.alloc_heap_new w.drew (.cells ((xs.map (Value.int .i64)).toArray ++ [Value.int .i64 i].toArray ++ Builtin.zeroCells (Value.int .i64 0).cells (cap2 - (xs.length + 1))) 3)
 unfold Oper.wp execOp
 simp only [ho, resolve, invoke, builtin, Sem.run_bind, Sem.run_pure, Result.andThen_ok, List.map_toArray, List.map_cons, List.map_nil, hs, hx, hrun]
 refine h _ _ ⟨some ⟨w.heap.size, 0, none⟩, cap2, by rw [List.length_append]; rfl, by simp; omega, by simp; omega, fun _ => ⟨w.heap.size, 0, rfl, by simp, fun j hj => ?_⟩⟩ (fun g off n c e => ?_) ((Below.refl _ w).drew.alloc (Nat.le_refl _) _)
 ·rw [Nat.zero_add, at0_lt hj]
  refine (cell_blk (b := w.heap.size) hnew).trans ?_
  have hj2 : j < xs.length + 1 := by simpa using hj
  rw [Array.getElem?_append_left (by simp; omega)]
  have e : (xs.map (Value.int .i64)).toArray ++ [Value.int .i64 i].toArray = ((xs ++ [i]).map (Value.int .i64)).toArray := by simp
  rw [e, List.getElem?_toArray, List.getElem?_map, List.getElem?_eq_getElem hj]
  rfl
 ·injection e with e _ _
  injection e with e
  injection e with e _ _
  subst e
  exact ⟨Nat.le_refl _, _, _, hnew⟩
end Ytnjgglnpmhjmiaa
end Go.Proofs
/- Laws of rotation: systems in memory; what a walk hands over. -/
open Go Go.RowKit Go.YtnjgglnpmhjmiaaIt
open Rest
namespace Go.Proofs
namespace Ytnjgglnpmhjmiaa
theorem c64 {q : Int} (h : -4000000000000000000 ≤ q ∧ q < 4000000000000000000) : IntKind.i64.wrap q = q := by
 rw [IntWalk.i64_left]
 exact IntWalk.wrap64_in _ (by omega)
structure BoxP (p : Prop) : Prop where
 out : p
theorem cutme {p : Prop} (h : BoxP p) : p := h.out
theorem slI_clip {w : World} {ad : Option Addr} {n c : Nat} {xs : List Int} (h : SlI w (.slice ad n c) xs) : SlI w (.slice ad n n) xs := by
 obtain ⟨ad', cap, e, hm, hc, hh⟩ := h
 injection e with e1 e2 e3
 subst e1 e2
 exact ⟨_, _, rfl, hm, Nat.le_refl _, hh⟩
abbrev nI (l : List Nat) : List Int := l.map fun (i : Nat) => (i : Int)
theorem tryN_word {α : Type} [DecidableEq α] {x : RSys α} {p : α × List Nat} {l : List (α × List Nat)} {i : Nat} (hp : p.2.length ≤ i) (hi : i < l.length) (hl : ∀ j (h : j < l.length), l[j].2.length ≤ j) : ∀ m, ∀ j (h : j < (tryN x p l m).length), (tryN x p l m)[j].2.length ≤ j
 | 0, j, h => hl j h
 | m + 1, j, h => by
  have ih := tryN_word (x := x) hp hi hl m
  have hlen := (tryN_pre x p l m).length_le
  simp only [tryN_succ] at h ⊢
  unfold tryC at h ⊢
  by_cases hin : x.nx p.1 m ∈ (tryN x p l m).map Prod.fst
  ·simp only [if_pos hin] at h ⊢; exact ih j h
  ·simp only [if_neg hin] at h ⊢
   rw [List.getElem_append]
   split
   ·exact ih j (by assumption)
   ·rename_i hj
    have : ∀ (a : α × List Nat) (k : Nat) (hk : k < [a].length), [a][k] = a := fun a k hk => by
     have : k = 0 := by simpa using hk
     subst this; rfl
    rw [this]
    simp only [List.length_append, List.length_cons, List.length_nil]
    omega
theorem after_word {α : Type} [DecidableEq α] (x : RSys α) : ∀ i j (h : j < (after x i).length), (after x i)[j].2.length ≤ j
 | 0, j, h => by
  have hj : j = 0 := by simpa [after] using h
  subst hj
  exact Nat.le_of_eq rfl
 | i + 1, j, h => by
  have ih := after_word x i
  cases hq : (after x i)[i]? with
  | none =>
   have e : after x (i + 1) = after x i := by rw [after, hq]
   simp only [e] at h ⊢
   exact ih j h
  | some p =>
   have e : after x (i + 1) = tryN x p (after x i) x.k := by rw [after, hq]
   simp only [e] at h ⊢
   obtain ⟨hi, ep⟩ := List.getElem?_eq_some_iff.1 hq
   exact tryN_word (by rw [← ep]; exact ih i hi) hi ih x.k j h
/-- A system of numbered states, as it lies in memory: its functions keep to what they should from world W0 on. -/
structure SysM (x : RSys Int) (ok : Int → Prop) (fN fG : Nat) (lN lG : Array Value) (B : Nat) (W0 : World) : Prop where
 k1 : 1 ≤ x.k
 k4 : x.k ≤ 4
 st : ok x.start
 cl : ∀ s c, ok s → c < x.k → ok (x.nx s c)
 bd : ∀ s, ok s → -1000000 ≤ s ∧ s ≤ 1000000
 nx : ∀ W, Below B W0 W → ∀ s (c : Nat), ok s → c < x.k → Calls Try.prog fN (#[.int .i64 s, .int .i64 c] ++ lN) W fun e w' => e = .returned (.int .i64 (x.nx s c)) ∧ Below W.heap.size W w'
 gd : ∀ W, Below B W0 W → ∀ s, ok s → Calls Try.prog fG (#[.int .i64 s] ++ lG) W fun e w' => e = .returned (.bool (x.gd s)) ∧ Below W.heap.size W w'
abbrev sysV (x : RSys Int) (fN fG : Nat) (lN lG : Array Value) : Array Value := #[.int .i64 x.k, .int .i64 x.start, .func (.func fN) #[] lN, .func (.func fG) #[] lG]
/-- What a walk hands over: a state, and a list of years in memory that is the rounds' own. -/
def YW (L : List (Int × List Nat)) (j : Nat) (S0 S : Nat → Prop) (W : World) (y : Array Value) : Prop :=
 ∃ s ys v, L[j]? = some (s, ys) ∧ y = #[.int .i64 s, v] ∧ SlI W v (nI ys) ∧ ∀ g off n c, v = .slice (some ⟨g, off, none⟩) n c → S g ∧ ¬ S0 g
theorem YW.size {L : List (Int × List Nat)} {j : Nat} {S0 S : Nat → Prop} {W : World} {y : Array Value} (h : YW L j S0 S W y) : y.size = 2 := by
 obtain ⟨s, ys, v, -, rfl, -⟩ := h
 rfl
theorem SlI.keepB {w w' : World} {v : Value} {xs : List Int} (h : SlI w v xs) (hs : w.heap.size ≤ w'.heap.size) (hk : ∀ g off n c, v = .slice (some ⟨g, off, none⟩) n c → g < w.heap.size → w'.heap[g]? = w.heap[g]?) : SlI w' v xs := by
 obtain ⟨ad, cap, hv, hm, hp, hc⟩ := h
 refine ⟨ad, cap, hv, hm, hp, fun h0 => ?_⟩
 obtain ⟨b, off, ha, hlt, hcell⟩ := hc h0
 exact ⟨b, off, ha, Nat.lt_of_lt_of_le hlt hs, fun i hi => (World.cell?_of_block (w := w) (a := ⟨b, off + i, none⟩) (hk b off _ _ (by rw [hv, ha]) hlt)).trans (hcell i hi)⟩
/-- A list of years of the walk's own. -/
def Yr (S : Nat → Prop) (w : World) (base : Nat) (v : Value) (ys : List Nat) : Prop := SlI w v (nI ys) ∧ ∀ g off n c, v = .slice (some ⟨g, off, none⟩) n c → base ≤ g ∧ ¬ S g ∧ ∃ cs fr, w.heap[g]? = some (.cells cs 3 fr)
/-- What the rounds and the walk itself leave of it. -/
theorem Yr.keep {S S' : Nat → Prop} {w w' : World} {base : Nat} {v : Value} {ys : List Nat} (h : Yr S w base v ys) (hs : w.heap.size ≤ w'.heap.size) (hk : ∀ g cs fr, base ≤ g → g < w.heap.size → ¬ S g → w.heap[g]? = some (.cells cs 3 fr) → w'.heap[g]? = w.heap[g]?) (hlt : ∀ g, g < w.heap.size → ¬ S g → ¬ S' g) : Yr S' w' base v ys :=
 ⟨h.1.keepB hs (fun g off n c e hl => by
  obtain ⟨h1, h2, cs, fr, h3⟩ := h.2 g off n c e
  exact hk g cs fr h1 hl h2 h3), fun g off n c e => by
  obtain ⟨h1, h2, cs, fr, h3⟩ := h.2 g off n c e
  have hl := lt_blk h3
  exact ⟨h1, hlt g hl h2, cs, fr, (hk g cs fr h1 hl h2 h3).trans h3⟩⟩
theorem Yr.nil (S : Nat → Prop) (w : World) (base : Nat) : Yr S w base (.slice none 0 0) [] := ⟨slI_nil _, fun g off n c e => by injection e with e _ _; cases e⟩
/-- Places in a block of places. -/
def cellsW (pl : List (Int × List Nat)) (vs : List Value) : List Value := (List.zip pl vs).flatMap fun q => [.int .i64 q.1.1, q.2]
theorem cellsW_len : ∀ {pl : List (Int × List Nat)} {vs : List Value}, vs.length = pl.length → (cellsW pl vs).length = pl.length * 2
 | [], [], _ => rfl
 | p :: pl, v :: vs, h => by
  have ih := cellsW_len (pl := pl) (vs := vs) (by simpa using h)
  simp only [cellsW, List.zip_cons_cons, List.flatMap_cons, List.length_append, List.length_cons, List.length_nil] at ih ⊢
  omega
theorem cellsW_push {pl : List (Int × List Nat)} {vs : List Value} (h : vs.length = pl.length) (p : Int × List Nat) (v : Value) : cellsW (pl ++ [p]) (vs ++ [v]) = cellsW pl vs ++ [.int .i64 p.1, v] := by
 unfold cellsW
 rw [List.zip_append (by omega)]
 simp
/-- The places that are still to be handed over. -/
def OpW (S : Nat → Prop) (w : World) (base go : Nat) (v : Value) (pl : List (Int × List Nat)) : Prop :=
 ∃ vs : List Value, vs.length = pl.length ∧ QuO w base 145 2 go v pl.length (cellsW pl vs) ∧ ¬ S go ∧ ∀ i (h : i < pl.length) (h' : i < vs.length), Yr S w base vs[i] pl[i].2
theorem OpW.keep {S S' : Nat → Prop} {w w' : World} {base go : Nat} {v : Value} {pl : List (Int × List Nat)} (h : OpW S w base go v pl) (hs : w.heap.size ≤ w'.heap.size) (hk : ∀ g, base ≤ g → g < w.heap.size → ¬ S g → w'.heap[g]? = w.heap[g]?) (hlt : ∀ g, g < w.heap.size → ¬ S g → ¬ S' g) : OpW S' w' base go v pl := by
 obtain ⟨vs, h1, h2, h3, h4⟩ := h
 exact ⟨vs, h1, h2.keep (hk go h2.base h2.lt h3), hlt go h2.lt h3, fun i hi hi' => (h4 i hi hi').keep hs (fun g _ _ a b c _ => hk g a b c) hlt⟩
/-- Only cells matter. -/
theorem OpW.keepC {S : Nat → Prop} {w w' : World} {base go : Nat} {v : Value} {pl : List (Int × List Nat)} (h : OpW S w base go v pl) (hs : w.heap.size ≤ w'.heap.size) (hk : ∀ g cs t fr, base ≤ g → ¬ S g → w.heap[g]? = some (.cells cs t fr) → w'.heap[g]? = w.heap[g]?) : OpW S w' base go v pl := by
 obtain ⟨vs, h1, h2, h3, h4⟩ := h
 have hq := h2
 obtain ⟨_, _, cur, _, hb, hg, _⟩ := hq
 exact ⟨vs, h1, h2.keep (hk go _ _ _ hb h3 hg), h3, fun i hi hi' => (h4 i hi hi').keep hs (fun g _ _ a _ c d => hk g _ _ _ a c d) (fun _ _ h => h)⟩
theorem OpW.below {S : Nat → Prop} {w w' : World} {base go : Nat} {v : Value} {pl : List (Int × List Nat)} (h : OpW S w base go v pl) (hb : Below w.heap.size w w') : OpW S w' base go v pl := h.keep hb.size (fun g _ hl _ => hb.block g hl) (fun _ _ h => h)
theorem OpW.form {S : Nat → Prop} {w : World} {base go : Nat} {v : Value} {pl : List (Int × List Nat)} (h : OpW S w base go v pl) : ∃ off cap, v = .slice (some ⟨go, off, none⟩) pl.length cap := by
 obtain ⟨vs, h1, h2, -⟩ := h
 exact h2.form
/-- The first place. -/
theorem OpW.head {S : Nat → Prop} {w : World} {base go off n cap : Nat} {p : Int × List Nat} {pl : List (Int × List Nat)} (h : OpW S w base go (.slice (some ⟨go, off, none⟩) n cap) (p :: pl)) :
  ∃ vy, w.cell? ⟨go, off, none⟩ = some (.int .i64 p.1) ∧ w.cell? ⟨go, off + 1, none⟩ = some vy ∧ Yr S w base vy p.2 := by
 obtain ⟨vs, h1, h2, -, h4⟩ := h
 obtain ⟨off', cap', e⟩ := h2.form
 injection e with _ e _
 subst e
 cases vs with
 | nil => simp at h1
 | cons vy vs =>
  have hlen : (cellsW (p :: pl) (vy :: vs)).length = (p :: pl).length * 2 := cellsW_len h1
  simp only [List.length_cons] at hlen
  have c0 := h2.at_ (j := 0) (by omega)
  have c1 := h2.at_ (j := 1) (by omega)
  exact ⟨vy, by simpa [cellsW] using c0, by simpa [cellsW] using c1, h4 0 (by simp) (by simp)⟩
theorem OpW.cut {S : Nat → Prop} {w : World} {base go off n cap : Nat} {p : Int × List Nat} {pl : List (Int × List Nat)} (h : OpW S w base go (.slice (some ⟨go, off, none⟩) n cap) (p :: pl)) : OpW S w base go (.slice (some ⟨go, off + 2, none⟩) (n - 1) (cap - 1)) pl := by
 obtain ⟨vs, h1, h2, h3, h4⟩ := h
 obtain ⟨off', cap', e⟩ := h2.form
 injection e with _ e _
 subst e
 cases vs with
 | nil => simp at h1
 | cons vy vs =>
  simp only [List.length_cons] at h1 h2 ⊢
  refine ⟨vs, by omega, ?_, h3, fun i hi hi' => h4 (i + 1) (by simpa using hi) (by simpa using hi')⟩
  have := h2.cut
  rw [Nat.add_sub_cancel]
  simpa [cellsW] using this
theorem OpW.cutIf {S : Nat → Prop} {w : World} {base go off n cap : Nat} {p : Int × List Nat} {pl : List (Int × List Nat)} (h : OpW S w base go (.slice (some ⟨go, off, none⟩) n cap) (p :: pl)) : OpW S w base go (.slice (if cap = 1 then some ⟨go, off, none⟩ else some ⟨go, off + 2, none⟩) (n - 1) (cap - 1)) pl := by
 by_cases hc : cap = 1
 ·rw [if_pos hc]
  obtain ⟨vs, h1, h2, h3, h4⟩ := h
  obtain ⟨off', cap', cur, e, hb, hg, hn, hfit, hlen, hxs⟩ := h2
  injection e with e en ec
  injection e with e
  injection e with _ eo _
  subst hc ec eo
  have hpl : pl = [] := by
   simp only [List.length_cons] at hn
   exact List.length_eq_zero_iff.1 (by omega)
  subst hpl
  refine ⟨[], rfl, ⟨off, 0, cur, ?_, hb, hg, Nat.le_refl _, by omega, rfl, fun j hj => by simp [cellsW] at hj⟩, h3, fun i hi => by simp at hi⟩
  simp only [List.length_cons, List.length_nil] at en
  rw [en]; rfl
 ·rw [if_neg hc]; exact h.cut
/-- One place more. -/
theorem OpW.push {S : Nat → Prop} {w w' : World} {base go go' : Nat} {v v' : Value} {pl : List (Int × List Nat)} {p : Int × List Nat} {vy : Value} {xs : List Value} (h : OpW S w base go v pl) (hy : Yr S w base vy p.2) (hS : ∀ i, S i → i < w.heap.size)
  (hxs : ∃ vs, vs.length = pl.length ∧ xs = cellsW pl vs ∧ ∀ i (h : i < pl.length) (h' : i < vs.length), Yr S w base vs[i] pl[i].2) (hq : QuO w' base 145 2 go' v' (pl.length + 1) (xs ++ [.int .i64 p.1, vy])) (hg : go' = go ∨ go' = w.heap.size) (hs : w.heap.size ≤ w'.heap.size) (hk : ∀ k, k < w.heap.size → k ≠ go → w'.heap[k]? = w.heap[k]?) :
  OpW S w' base go' v' (pl ++ [p]) := by
 obtain ⟨vs0, -, h2, h3, -⟩ := h
 obtain ⟨vs, h1, rfl, h4⟩ := hxs
 have hgo : ∃ cur, w.heap[go]? = some (.cells cur 145 (0, 0)) := by
  obtain ⟨_, _, cur, _, _, e, _⟩ := h2
  exact ⟨cur, e⟩
 obtain ⟨cur, hcur⟩ := hgo
 have kp : ∀ g cs fr, base ≤ g → g < w.heap.size → ¬ S g → w.heap[g]? = some (.cells cs 3 fr) → w'.heap[g]? = w.heap[g]? := fun g cs fr _ hl _ e => hk g hl (fun eg => by
  rw [eg, hcur] at e
  injection e with e
  injection e with _ e _
  cases e)
 refine ⟨vs ++ [vy], by simp [h1], by rw [List.length_append, cellsW_push h1]; exact hq, ?_, fun i hi hi' => ?_⟩
 ·rcases hg with rfl | rfl
  ·exact h3
  ·exact fun e => Nat.lt_irrefl _ (hS _ e)
 ·by_cases hl : i < pl.length
  ·have e1 : (vs ++ [vy])[i] = vs[i]'(by omega) := List.getElem_append_left (by omega)
   have e2 : (pl ++ [p])[i] = pl[i] := List.getElem_append_left hl
   rw [e1, e2]
   exact (h4 i hl (by omega)).keep hs kp (fun _ _ h => h)
  ·have hi2 : i = pl.length := by simp at hi; omega
   subst hi2
   have e1 : (vs ++ [vy])[pl.length] = vy := by rw [List.getElem_append_right (by omega)]; simp [h1]
   have e2 : (pl ++ [p])[pl.length] = p := by rw [List.getElem_append_right (by omega)]; simp
   rw [e1, e2]
   exact hy.keep hs kp (fun _ _ h => h)
/-- The states that are met. -/
def FmW (l : List (Int × List Nat)) (s : Int) : Option Value := if s ∈ l.map Prod.fst then some (.bool true) else none
abbrev encZ (s : Int) : Value := .int .i64 s
theorem encZ_inj : ∀ s t, encZ s = encZ t → s = t := fun s t e => by injection e
theorem keyZ {s : Int} (h : -1000000 ≤ s ∧ s ≤ 1000000) : ∃ l, keyOf Try.prog 3 (encZ s) = some l := by
 unfold keyOf
 rw [Try.underlying3]
 simp only [mapKey, Try.underlying3]
 refine ⟨_, if_pos ⟨trivial, ?_⟩⟩
 have e1 : IntKind.i64.min = -9223372036854775808 := by decide
 have e2 : IntKind.i64.max = 9223372036854775807 := by decide
 simp only [Lit.wf, e1, e2, Bool.and_eq_true, decide_eq_true_eq]
 omega
end Ytnjgglnpmhjmiaa
end Go.Proofs
