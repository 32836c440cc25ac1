/- Table: the terms of all states. -/
import Derived.Test.YtndmjginmomfiaaW12
import Derived.Test.YtndmjginmomfiaaGenC
open Go Go.RowKit Go.YtndmjginmomfiaaIt
namespace Go.Proofs
namespace Ytndmjginmomfiaa
def rowP (y : Yd) (m : Nat) : List Int := (List.range (y.room.toNat + 1)).map fun s => termP y s m
def tabP (y : Yd) : List (List Int) := (List.range y.ws.length).map (rowP y)
theorem info28 : (Try.prog.info? 28).map (fun i => (i.zero, i.size, i.bytes)) = some (some (.slice none 0 0), 1, 24) := by kernel_rfl
theorem rowP_len (y : Yd) (m : Nat) : (rowP y m).length = y.room.toNat + 1 := by simp [rowP]
theorem rowP_take (y : Yd) (m : Nat) {s : Nat} (h : s < y.room.toNat + 1) : (((rowP y m).take s).map (Value.int .i64)) ++ [.int .i64 (termP y s m)] = ((rowP y m).take (s + 1)).map (.int .i64) := by
  rw [List.take_succ_eq_append_getElem (by rw [rowP_len]; exact h), List.map_append]
  simp [rowP]
theorem set_set_self {α : Type} (l : List α) (i : Nat) (a b : α) : (l.set i a).set i b = l.set i b := List.set_set ..
theorem oper_append_own {P : Program} {o : Oper} {a : Act} {w : World} {K : Act → World → Prop} {Q : Exit → Act → World → Prop}
    (s x : Operand) (t : TypeId) (hop : o.op = Op.call { callee := Callee.builtin Builtin.append, args := #[s, x], argTypes := #[t, t] })
    (base e : Nat) (i : TypeInfo) (z : Value) (size bytes : Nat) (h1 : P.underlying t = some (.slice e)) (h2 : P.info? e = some i) (h3 : i.zero = some z) (h4 : i.size = size) (h5 : i.bytes = bytes) (h6 : z.cells.size = size) (h7 : 0 < size)
    (v : Value) (n : Nat) (xs : List Value) (hs : a.eval s = v) (hown : w.ownsRow base e size v n xs)
    (ad : Addr) (m c : Nat) (news : List Value) (hx : a.eval x = .slice (some ad) m c) (hn : news.length = m * size) (hc : ∀ j u, news[j]? = some u → w.cell? (ad.add j) = some u) (h1c : ∀ u ∈ news, u.oneCell' = true)
    (b1 : n + m ≤ maxLen) (b2 : (n + m) * bytes ≤ 140737488355328) (hbase : base ≤ w.heap.size)
    (hK : ∀ v' w', w'.ownsRow base e size v' (n + m) (xs ++ news) → w.grownBy w' v.ownBlock → K (a.put o.dst v') w') : Oper.wp P o a w K Q := by
  obtain ⟨v', w', hrun, r1, r2, _⟩ := run_append_own (P := P) w base t o.type e i z size bytes h1 h2 h3 h4 h5 h6 h7 v n xs hown ad m c news hn hc h1c b1 b2 hbase
  unfold Oper.wp
  simp [execOp, hop, resolve, invoke, builtin, hs, hx, hrun, Result.andThen]
  exact hK v' w' r1 r2
theorem oper_call {P : Program} {o : Oper} {a : Act} {w : World} {K : Act → World → Prop} {Q : Exit → Act → World → Prop} (hgd : o.guard = none) {f : Nat} {xs : Array Operand} {ts : Array TypeId}
    (hop : o.op = Op.call { callee := Callee.value (Operand.func f), args := xs, argTypes := ts }) (eg : ∀ args w, (callFunc f args).run P w = .ok (.enter f args) w) {v : Value} {R : World → Prop} {args : List Value} (ha : xs.toList.map a.eval = args)
    (hc : Calls P f args.toArray w fun e w' => e = .returned v ∧ R w') (h : ∀ w', R w' → K (a.put o.dst v) w') : Oper.wp P o a w K Q := by
  have h' := step_call (ops := #[]) (Q := Q) (E := False) hgd hop eg ha hc h
  rwa [if_pos (by simp [Region.wanted, hgd])] at h'
set_option maxRecDepth 100000 in
set_option maxHeartbeats 8000000 in
theorem reg12 (K : Act → World → Prop) (c0 c1 c2 c3 c4 c9 c10 c11 c12 c13 c14 c15 c16 c17 c18 c19 c20 c21 c22 c23 c24 c25 c26 c27 c28 c29 c30 c31 c32 c33 c34 c35 c36 c37 c38 c39 c40 c41 c42 c43 c44 c45 c46 : Value) (wr : World) (bo n k s g base : Nat) (T : Int) (u : Value) (vs us : List Value) (_ : n ≤ 4) (hk : k < n) (hs : s ≤ 60) (ho : wr.ownsRow bo 28 1 (.slice (some ⟨bo, 0, none⟩) n n) n vs) (hvk : vs[k]? = some u) (hu : wr.ownsRow base 3 1 u s us) (hbb : bo < base) (hbw : base ≤ wr.heap.size)
    (hT : ∀ U, Below wr.heap.size wr U → Calls Try.prog 41 #[.pointer (some ⟨g, 0, none⟩), .int .i64 s, .int .i64 k] U fun e w' => e = .returned (.int .i64 T) ∧ Below U.heap.size U w')
    (hK : ∀ (q31 q32 q33 q34 q35 q36 q37 q38 q39 q40 q41 q42 q43 : Value) (u' : Value) (w' : World), w'.ownsRow bo 28 1 (.slice (some ⟨bo, 0, none⟩) n n) n (vs.set k u') → w'.ownsRow base 3 1 u' (s + 1) (us ++ [.int .i64 T]) → Bm bo base wr w' → K ⟨(c0 :: c1 :: c2 :: c3 :: c4 :: .pointer (some ⟨g, 0, none⟩) :: .slice (some ⟨bo, 0, none⟩) n n :: .int .i64 k :: .int .i64 s :: c9 :: c10 :: c11 :: c12 :: c13 :: c14 :: c15 :: c16 :: c17 :: c18 :: c19 :: c20 :: c21 :: c22 :: c23 :: c24 :: c25 :: c26 :: c27 :: c28 :: c29 :: c30 :: q31 :: q32 :: q33 :: q34 :: q35 :: q36 :: q37 :: q38 :: q39 :: q40 :: q41 :: q42 :: q43 :: c44 :: c45 :: c46 :: []).toArray, []⟩ w') :
    (regOf Try.f16 12).wp Try.prog (Exit.then K (fun _ _ _ => False)) ⟨(c0 :: c1 :: c2 :: c3 :: c4 :: .pointer (some ⟨g, 0, none⟩) :: .slice (some ⟨bo, 0, none⟩) n n :: .int .i64 k :: .int .i64 s :: c9 :: c10 :: c11 :: c12 :: c13 :: c14 :: c15 :: c16 :: c17 :: c18 :: c19 :: c20 :: c21 :: c22 :: c23 :: c24 :: c25 :: c26 :: c27 :: c28 :: c29 :: c30 :: c31 :: c32 :: c33 :: c34 :: c35 :: c36 :: c37 :: c38 :: c39 :: c40 :: c41 :: c42 :: c43 :: c44 :: c45 :: c46 :: []).toArray, []⟩ wr := by
  conv => arg 2; whnf
  have hbw2 : bo < wr.heap.size := by omega
  have cb := ho.cellAt k (by omega)
  rw [hvk] at cb
  have fb := ho.frozenAt k
  have hub : u.ownBlock ≠ some bo := fun h => by have := (hu.lt _ h).1; omega
  obtain ⟨au, cu, rfl⟩ := form_of hu
  obtain ⟨i3, hi3, hz1, hz2, hz3⟩ := info_parts info3
  have htc : Calls Try.prog 41 #[.pointer (some ⟨g, 0, none⟩), .int .i64 s, .int .i64 k] wr.drew fun e w' => e = .returned (.int .i64 T) ∧ Below wr.heap.size wr w' := (hT wr.drew (Below.refl _ _).drew).mono fun e w' ⟨h1, h2⟩ => ⟨h1, (Below.refl wr.heap.size wr).drew.trans h2⟩
  have HTC := Lib.hid htc
  have HKK := Lib.hid hK
  have HT := Lib.hid hvk
  have hi0 : (0 : Int) ≤ (k : Int) := by omega
  have hi1 : (k : Int) < (n : Int) := by omega
  clear htc hK hT hvk
  have eg41 : ∀ args w, (callFunc 41 args).run Try.prog w = .ok (.enter 41 args) w := enters_of Try.func41 (by kernel_rfl) rfl
  refine wp_region_held (S := fun _ => True) (by kernel_rfl) ?_
  change wpAnyH _ _ _ _ _ _ _ _ (World.drew wr)
  refine wpAnyH_take (i := 0) (oi := { dst := some 31, op := _, type := _, pos := _, after := _, guard := none }) (v := ?_) rfl (by kernel_rfl) (by kernel_rfl) (by kernel_rfl) (fun _ _ _ h => h) (Or.inl ⟨by rfl, ?_⟩) trivial ?_
  rotate_left
  · intro U hU
    go_simp
    all_goals with_reducible rfl
  simp only [Act.put, List.setIfInBounds_toArray, List.set_cons_zero, List.set_cons_succ]
  refine wpAnyH_take (i := 1) (oi := { dst := some 32, op := _, type := _, pos := _, after := _, guard := none }) (v := ?_) rfl (by kernel_rfl) (by kernel_rfl) (by kernel_rfl) (fun _ _ _ h => h) (Or.inl ⟨by rfl, ?_⟩) trivial ?_
  rotate_left
  · intro U hU
    go_simp
    all_goals with_reducible rfl
  simp only [Act.put, List.setIfInBounds_toArray, List.set_cons_zero, List.set_cons_succ]
  refine wpAnyH_take (i := 2) (oi := { dst := some 33, op := _, type := _, pos := _, after := _, guard := none }) (v := ?_) rfl (by kernel_rfl) (by kernel_rfl) (by kernel_rfl) (fun _ _ _ h => h) (Or.inl ⟨by rfl, ?_⟩) trivial ?_
  rotate_left
  · intro U hU
    go_simp
    all_goals with_reducible rfl
  simp only [Act.put, List.setIfInBounds_toArray, List.set_cons_zero, List.set_cons_succ]
  refine wpAnyH_take (i := 3) (oi := { dst := some 34, op := _, type := _, pos := _, after := _, guard := none }) (v := ?_) rfl (by kernel_rfl) (by kernel_rfl) (by kernel_rfl) (fun _ _ _ h => h) (Or.inl ⟨by rfl, ?_⟩) trivial ?_
  rotate_left
  · intro U hU
    go_simp
    all_goals with_reducible rfl
  simp only [Act.put, List.setIfInBounds_toArray, List.set_cons_zero, List.set_cons_succ]
  refine wpAnyH_take (i := 4) (oi := { dst := some 35, op := _, type := _, pos := _, after := _, guard := none }) (v := ?_) rfl (by kernel_rfl) (by kernel_rfl) (by kernel_rfl) (fun _ _ _ h => h) (Or.inl ⟨by rfl, ?_⟩) trivial ?_
  rotate_left
  · intro U hU
    go_simp
    all_goals with_reducible rfl
  simp only [Act.put, List.setIfInBounds_toArray, List.set_cons_zero, List.set_cons_succ]
  refine wpAnyH_take (i := 6) (oi := { dst := some 37, op := _, type := _, pos := _, after := _, guard := none }) (v := ?_) rfl (by kernel_rfl) (by kernel_rfl) (by kernel_rfl) (fun _ _ _ h => h) (Or.inl ⟨by rfl, ?_⟩) trivial ?_
  rotate_left
  · intro U hU
    go_simp
    all_goals with_reducible rfl
  simp only [Act.put, List.setIfInBounds_toArray, List.set_cons_zero, List.set_cons_succ]
  refine wpAnyH_take (i := 7) (oi := { dst := some 38, op := _, type := _, pos := _, after := _, guard := none }) (v := ?_) rfl (by kernel_rfl) (by kernel_rfl) (by kernel_rfl) (fun _ _ _ h => h) (Or.inl ⟨by rfl, ?_⟩) trivial ?_
  rotate_left
  · intro U hU
    go_simp
    all_goals with_reducible rfl
  simp only [Act.put, List.setIfInBounds_toArray, List.set_cons_zero, List.set_cons_succ]
  refine wpAnyH_take (i := 8) (oi := { dst := some 39, op := _, type := _, pos := _, after := _, guard := none }) (v := ?_) rfl (by kernel_rfl) (by kernel_rfl) (by kernel_rfl) (fun _ _ _ h => h) (Or.inl ⟨by rfl, ?_⟩) trivial ?_
  rotate_left
  · intro U hU
    go_simp
    all_goals with_reducible rfl
  simp only [Act.put, List.setIfInBounds_toArray, List.set_cons_zero, List.set_cons_succ]
  refine wpAnyH_ready (rs := [5, 9]) (by kernel_rfl) (by simp) ?_
  refine AllReadyH.cons (o := { dst := some 36, op := _, type := _, pos := _, after := _, guard := none }) rfl (fun K1 hK1 => ?_) ?_
  · rw [if_pos (by rfl)]
    have HK := Lib.hid hK1; clear hK1
    go_simp
    refine HK.out _ _ trivial ?_
    clear HK K1
    intro _
    refine wpAnyH_one (i := 9) (o := { dst := some 40, op := Op.call { callee := Callee.value (Operand.func 41), args := #[Operand.tmp 37, Operand.tmp 38, Operand.tmp 39], argTypes := _ }, type := _, pos := _, after := _, guard := none }) (by kernel_rfl) rfl (by rfl) (fun K1 hK1 => ?_)
    have HK := Lib.hid hK1; clear hK1
    refine oper_call rfl rfl eg41 (R := fun W => Below wr.heap.size wr W) rfl HTC.out ?_
    intro w2 hbd
    have hs2 := hbd.size
    have cb2 := (hbd.cell (p := ⟨bo, k, none⟩) hbw2).trans cb
    have fb2 := (hbd.frozen (p := ⟨bo, k, none⟩) hbw2).trans fb
    have ho3 := row_below ho hbd
    have hu3 := row_below hu hbd
    refine HK.out _ _ trivial ?_
    clear HK K1
    simp only [Act.put, List.setIfInBounds_toArray, List.set_cons_zero, List.set_cons_succ]
    refine wpAnyH_one (i := 10) (o := { dst := some 41, op := _, type := _, pos := _, after := _, guard := none }) (by kernel_rfl) rfl (by rfl) (fun K1 hK1 => ?_)
    have HK := Lib.hid hK1; clear hK1
    go_simp
    refine HK.out _ _ trivial ?_
    clear HK K1
    refine wpAnyH_one (i := 11) (o := { dst := some 42, op := Op.call { callee := Callee.builtin Builtin.append, args := #[Operand.tmp 36, Operand.tmp 41], argTypes := _ }, type := _, pos := _, after := _, guard := none }) (by kernel_rfl) rfl (by rfl) (fun K1 hK1 => ?_)
    have HK := Lib.hid hK1; clear hK1
    refine oper_append_own (.tmp 36) (.tmp 41) 28 rfl base 3 i3 (.int .i64 0) 1 8 Try.underlying28 hi3 hz1 hz2 hz3 rfl (by decide) (.slice au s cu) s _ rfl (hu3.alloc _) ⟨w2.heap.size, 0, none⟩ 1 1 [.int .i64 T] rfl rfl (cell_new1 rfl) (by simp [Value.oneCell']) (Nat.le_trans (by omega : s + 1 ≤ 2000) (by decide)) (by omega) (by rw [World.size_alloc]; omega) ?_
    intro v' w6 r1 r2
    obtain ⟨av, cv, rfl⟩ := form_of r1
    have hsm := append_same1 hu3 r2
    have cb6 := (World.cell?_of_block (a := ⟨bo, k, none⟩) (hsm.1 bo (by omega) hub)).trans cb2
    have fb6 := (World.frozen?_of_block (a := ⟨bo, k, none⟩) (hsm.1 bo (by omega) hub)).trans fb2
    refine HK.out _ _ trivial ?_
    clear HK K1
    simp only [Act.put, List.setIfInBounds_toArray, List.set_cons_zero, List.set_cons_succ]
    refine wpAnyH_take (i := 12) (oi := { dst := some 43, op := _, type := _, pos := _, after := _, guard := none }) (v := ?_) rfl (by kernel_rfl) (by kernel_rfl) (by kernel_rfl) (fun _ _ _ h => h) (Or.inl ⟨by rfl, ?_⟩) trivial ?_
    rotate_left
    · intro U hU
      go_simp
      all_goals with_reducible rfl
    simp only [Act.put, List.setIfInBounds_toArray, List.set_cons_zero, List.set_cons_succ]
    refine wpAnyH_one (i := 13) (o := { dst := none, op := _, type := _, pos := _, after := _, guard := none }) (by kernel_rfl) rfl (by rfl) (fun K1 hK1 => ?_)
    have HK := Lib.hid hK1; clear hK1
    go_simp
    refine HK.out _ _ trivial ?_
    clear HK K1
    refine wpAnyH_done (by kernel_rfl) ?_ _
    refine HKK.out _ _ _ _ _ _ _ _ _ _ _ _ _ (.slice av (s + 1) cv) _ ?_ ?_ ?_
    · exact ((row_same ho3 (fun b hb => by injection hb with hb; subst hb; exact hsm.1 bo (by omega) hub)).stored k _).1
    · exact row_set_other r1 (fun h => by have := (r1.lt _ h).1; omega)
    · exact ⟨hsm.2.2.1.trans hbd.os, hsm.2.2.2.1.trans hbd.tape, hsm.2.2.2.2.trans hbd.output, by have := hsm.2.1; rw [World.size_setCell]; omega, fun j hj hne => (heap_set_other hne).trans ((hsm.1 j (by omega) (fun h => by have := (hu.lt _ h).1; omega)).trans (hbd.block j (by omega)))⟩
  refine AllReadyH.cons (o := { dst := some 40, op := Op.call { callee := Callee.value (Operand.func 41), args := #[Operand.tmp 37, Operand.tmp 38, Operand.tmp 39], argTypes := _ }, type := _, pos := _, after := _, guard := none }) rfl (fun K1 hK1 => ?_) ?_
  · rw [if_pos (by rfl)]
    have HK := Lib.hid hK1; clear hK1
    refine oper_call rfl rfl eg41 (R := fun W => Below wr.heap.size wr W) rfl HTC.out ?_
    intro w2 hbd
    have hs2 := hbd.size
    have cb2 := (hbd.cell (p := ⟨bo, k, none⟩) hbw2).trans cb
    have fb2 := (hbd.frozen (p := ⟨bo, k, none⟩) hbw2).trans fb
    have ho3 := row_below ho hbd
    have hu3 := row_below hu hbd
    refine HK.out _ _ trivial ?_
    clear HK K1
    intro _
    simp only [Act.put, List.setIfInBounds_toArray, List.set_cons_zero, List.set_cons_succ]
    refine wpAnyH_ready (rs := [5, 10]) (by kernel_rfl) (by simp) ?_
    refine AllReadyH.cons (o := { dst := some 36, op := _, type := _, pos := _, after := _, guard := none }) rfl (fun K1 hK1 => ?_) ?_
    · rw [if_pos (by rfl)]
      have HK := Lib.hid hK1; clear hK1
      go_simp
      refine HK.out _ _ trivial ?_
      clear HK K1
      intro _
      refine wpAnyH_one (i := 10) (o := { dst := some 41, op := _, type := _, pos := _, after := _, guard := none }) (by kernel_rfl) rfl (by rfl) (fun K1 hK1 => ?_)
      have HK := Lib.hid hK1; clear hK1
      go_simp
      refine HK.out _ _ trivial ?_
      clear HK K1
      refine wpAnyH_one (i := 11) (o := { dst := some 42, op := Op.call { callee := Callee.builtin Builtin.append, args := #[Operand.tmp 36, Operand.tmp 41], argTypes := _ }, type := _, pos := _, after := _, guard := none }) (by kernel_rfl) rfl (by rfl) (fun K1 hK1 => ?_)
      have HK := Lib.hid hK1; clear hK1
      refine oper_append_own (.tmp 36) (.tmp 41) 28 rfl base 3 i3 (.int .i64 0) 1 8 Try.underlying28 hi3 hz1 hz2 hz3 rfl (by decide) (.slice au s cu) s _ rfl (hu3.alloc _) ⟨w2.heap.size, 0, none⟩ 1 1 [.int .i64 T] rfl rfl (cell_new1 rfl) (by simp [Value.oneCell']) (Nat.le_trans (by omega : s + 1 ≤ 2000) (by decide)) (by omega) (by rw [World.size_alloc]; omega) ?_
      intro v' w6 r1 r2
      obtain ⟨av, cv, rfl⟩ := form_of r1
      have hsm := append_same1 hu3 r2
      have cb6 := (World.cell?_of_block (a := ⟨bo, k, none⟩) (hsm.1 bo (by omega) hub)).trans cb2
      have fb6 := (World.frozen?_of_block (a := ⟨bo, k, none⟩) (hsm.1 bo (by omega) hub)).trans fb2
      refine HK.out _ _ trivial ?_
      clear HK K1
      simp only [Act.put, List.setIfInBounds_toArray, List.set_cons_zero, List.set_cons_succ]
      refine wpAnyH_take (i := 12) (oi := { dst := some 43, op := _, type := _, pos := _, after := _, guard := none }) (v := ?_) rfl (by kernel_rfl) (by kernel_rfl) (by kernel_rfl) (fun _ _ _ h => h) (Or.inl ⟨by rfl, ?_⟩) trivial ?_
      rotate_left
      · intro U hU
        go_simp
        all_goals with_reducible rfl
      simp only [Act.put, List.setIfInBounds_toArray, List.set_cons_zero, List.set_cons_succ]
      refine wpAnyH_one (i := 13) (o := { dst := none, op := _, type := _, pos := _, after := _, guard := none }) (by kernel_rfl) rfl (by rfl) (fun K1 hK1 => ?_)
      have HK := Lib.hid hK1; clear hK1
      go_simp
      refine HK.out _ _ trivial ?_
      clear HK K1
      refine wpAnyH_done (by kernel_rfl) ?_ _
      refine HKK.out _ _ _ _ _ _ _ _ _ _ _ _ _ (.slice av (s + 1) cv) _ ?_ ?_ ?_
      · exact ((row_same ho3 (fun b hb => by injection hb with hb; subst hb; exact hsm.1 bo (by omega) hub)).stored k _).1
      · exact row_set_other r1 (fun h => by have := (r1.lt _ h).1; omega)
      · exact ⟨hsm.2.2.1.trans hbd.os, hsm.2.2.2.1.trans hbd.tape, hsm.2.2.2.2.trans hbd.output, by have := hsm.2.1; rw [World.size_setCell]; omega, fun j hj hne => (heap_set_other hne).trans ((hsm.1 j (by omega) (fun h => by have := (hu.lt _ h).1; omega)).trans (hbd.block j (by omega)))⟩
    refine AllReadyH.cons (o := { dst := some 41, op := _, type := _, pos := _, after := _, guard := none }) rfl (fun K1 hK1 => ?_) ?_
    · rw [if_pos (by rfl)]
      have HK := Lib.hid hK1; clear hK1
      go_simp
      refine HK.out _ _ trivial ?_
      clear HK K1
      intro _
      refine wpAnyH_one (i := 5) (o := { dst := some 36, op := _, type := _, pos := _, after := _, guard := none }) (by kernel_rfl) rfl (by rfl) (fun K1 hK1 => ?_)
      have HK := Lib.hid hK1; clear hK1
      have cb3 : ∀ ob : Obj, (w2.alloc ob).cell? ⟨bo, k, none⟩ = some (.slice au s cu) := fun ob => by rw [World.cell?_alloc_some _ _ _ (by rw [cb2]; rfl)]; exact cb2
      go_simp
      refine HK.out _ _ trivial ?_
      clear HK K1
      refine wpAnyH_one (i := 11) (o := { dst := some 42, op := Op.call { callee := Callee.builtin Builtin.append, args := #[Operand.tmp 36, Operand.tmp 41], argTypes := _ }, type := _, pos := _, after := _, guard := none }) (by kernel_rfl) rfl (by rfl) (fun K1 hK1 => ?_)
      have HK := Lib.hid hK1; clear hK1
      refine oper_append_own (.tmp 36) (.tmp 41) 28 rfl base 3 i3 (.int .i64 0) 1 8 Try.underlying28 hi3 hz1 hz2 hz3 rfl (by decide) (.slice au s cu) s _ rfl (hu3.alloc _) ⟨w2.heap.size, 0, none⟩ 1 1 [.int .i64 T] rfl rfl (cell_new1 rfl) (by simp [Value.oneCell']) (Nat.le_trans (by omega : s + 1 ≤ 2000) (by decide)) (by omega) (by rw [World.size_alloc]; omega) ?_
      intro v' w6 r1 r2
      obtain ⟨av, cv, rfl⟩ := form_of r1
      have hsm := append_same1 hu3 r2
      have cb6 := (World.cell?_of_block (a := ⟨bo, k, none⟩) (hsm.1 bo (by omega) hub)).trans cb2
      have fb6 := (World.frozen?_of_block (a := ⟨bo, k, none⟩) (hsm.1 bo (by omega) hub)).trans fb2
      refine HK.out _ _ trivial ?_
      clear HK K1
      simp only [Act.put, List.setIfInBounds_toArray, List.set_cons_zero, List.set_cons_succ]
      refine wpAnyH_take (i := 12) (oi := { dst := some 43, op := _, type := _, pos := _, after := _, guard := none }) (v := ?_) rfl (by kernel_rfl) (by kernel_rfl) (by kernel_rfl) (fun _ _ _ h => h) (Or.inl ⟨by rfl, ?_⟩) trivial ?_
      rotate_left
      · intro U hU
        go_simp
        all_goals with_reducible rfl
      simp only [Act.put, List.setIfInBounds_toArray, List.set_cons_zero, List.set_cons_succ]
      refine wpAnyH_one (i := 13) (o := { dst := none, op := _, type := _, pos := _, after := _, guard := none }) (by kernel_rfl) rfl (by rfl) (fun K1 hK1 => ?_)
      have HK := Lib.hid hK1; clear hK1
      go_simp
      refine HK.out _ _ trivial ?_
      clear HK K1
      refine wpAnyH_done (by kernel_rfl) ?_ _
      refine HKK.out _ _ _ _ _ _ _ _ _ _ _ _ _ (.slice av (s + 1) cv) _ ?_ ?_ ?_
      · exact ((row_same ho3 (fun b hb => by injection hb with hb; subst hb; exact hsm.1 bo (by omega) hub)).stored k _).1
      · exact row_set_other r1 (fun h => by have := (r1.lt _ h).1; omega)
      · exact ⟨hsm.2.2.1.trans hbd.os, hsm.2.2.2.1.trans hbd.tape, hsm.2.2.2.2.trans hbd.output, by have := hsm.2.1; rw [World.size_setCell]; omega, fun j hj hne => (heap_set_other hne).trans ((hsm.1 j (by omega) (fun h => by have := (hu.lt _ h).1; omega)).trans (hbd.block j (by omega)))⟩
    exact AllReadyH.nil
  exact AllReadyH.nil
set_option maxRecDepth 100000 in
set_option maxHeartbeats 4000000 in
theorem table_any (y : Yd) (v : Value) (w : World) (hw : SlW w v y.ws) :
    Calls Try.prog 16 #[.agg (encY y v)] w fun e w' => Below w.heap.size w w' ∧
      ((chkE y ≠ 0 ∧ e = .returned (.tuple #[.slice none 0 0, .int .i64 (chkE y)])) ∨
       (chkE y = 0 ∧ ∃ u, e = .returned (.tuple #[u, .int .i64 0]) ∧ SlII w' u (tabP y))) := by
  have hy4 : (encY y v).size = 4 := rfl
  have hw0 := hw
  obtain ⟨ad, cap, rfl, hm, hcp, hc⟩ := hw
  have hcc := fun W hW => check_any y _ W (hw0.below (w' := W) hW (Nat.le_refl _))
  have hcg := fun W hW ok => game_any y _ W ok (hw0.below (w' := W) hW (Nat.le_refl _))
  have HCG := Lib.hid hcg
  have hok := chk_ok (y := y)
  generalize chkE y = C at *
  have HOK := Lib.hid hok
  have HCC := Lib.hid hcc
  clear hcg hok hcc hc
  go_enter Try.func16, Try.ntmps16
  refine wp_seq_k (fun K hK => ?_)
  have HK := Lib.hid hK; clear hK
  go_wp2
  refine HK.out _ _ ?_; clear HK K
  generalize hw1 : World.alloc _ _ = w1
  obtain ⟨b1, hB, hs1⟩ := blk1 hw1
  clear hw1
  have hlb := lt_blk b1
  by_cases h0 : C = 0
  rotate_left
  · have h0b : (C != 0) = true := bne_iff_ne.2 h0
    have HN := Lib.hid h0
    clear h0
    go_wp2_with (first | (refine wpList_load_blk rfl 24 _ rfl _ rfl b1 Try.underlying24 rfl size24 hy4 ?_) | (go_at_call 21; refine (HCC.out _ hB).mono ?_; rintro e w2 ⟨rfl, hb2⟩))
    go_ret2
    exact ⟨hB.trans (hb2.mono (by omega)), .inl ⟨HN.out, rfl⟩⟩
  have ok := HOK.out.1 h0
  have hln := ok.n1
  have hln0 := ok.n0
  have hcc := HCC.out w1 hB
  rw [h0] at hcc
  replace HCC := Lib.hid hcc
  have HC0 := Lib.hid h0
  clear hcc h0
  obtain ⟨i28, hi28, hy1, hy2, hy3⟩ := info_parts info28
  obtain ⟨i3, hi3, hz1, hz2, hz3⟩ := info_parts info3
  have HI := Lib.hid (And.intro hi3 (And.intro hz1 (And.intro hz2 hz3)))
  have h24n : i28.bytes * y.ws.length ≤ 281474976710656 := by rw [hy3]; omega
  have HY := Lib.hid (And.intro hi28 (And.intro hy1 (And.intro hy2 h24n)))
  clear hi3 hz1 hz2 hz3 hi28 hy1 hy2 hy3 h24n
  refine wp_seq_k (fun K hK => ?_)
  have HK := Lib.hid hK; clear hK
  go_wp2_with (first | (refine wpList_load_blk rfl 24 _ rfl _ rfl b1 Try.underlying24 rfl size24 hy4 ?_) | (go_at_call 21; refine (HCC.out).mono ?_; rintro e w2 ⟨rfl, hb2⟩))
  refine HK.out _ _ ?_; clear HK K
  replace b1 := blk_keep b1 hb2
  replace hB := hB.trans (hb2.mono (by omega))
  clear hb2 hs1 hlb
  have hcg := HCG.out w2 hB ok
  refine wp_seq_k (fun K hK => ?_)
  have HK := Lib.hid hK; clear hK
  go_wp2_with (first | (refine wpList_load_blk rfl 24 _ rfl _ rfl b1 Try.underlying24 rfl size24 hy4 ?_) | (go_at_call 40; refine hcg.mono ?_; rintro e w3 ⟨g, vl, kg, rfl, hg, hst, hb3⟩))
  refine HK.out _ _ ?_; clear HK K
  replace b1 := blk_keep b1 hb3
  replace hB := hB.trans (hb3.mono hB.size)
  clear hb3 hcg HCG HCC
  have c3 := cell_blk (i := 3) b1
  simp only [encY, List.getElem?_toArray, List.getElem?_cons_zero, List.getElem?_cons_succ] at c3
  refine wp_seq_k (fun K hK => ?_)
  have HK := Lib.hid hK; clear hK
  go_wp2_with (refine wpList_make_full w3 rfl (.tmp 18) (.tmp 18) 25 rfl w3.heap.size 28 i28 (.slice none 0 0) 1 Try.underlying25 HY.out.1 HY.out.2.1 HY.out.2.2.1 .i64 .i64 _ _ y.ws.length rfl rfl rfl rfl HY.out.2.2.2 (Nat.le_trans hln (by decide)) (Nat.le_refl _) ?_; intro w5 q1 q2)
  refine HK.out _ _ ?_; clear HK K
  rw [made_rep _ rfl] at q1
  have hb5 : Below w3.heap.size w3 w5 := ⟨q2.os, q2.tape, q2.output, q2.size, fun k hk => q2.block k hk (by simp)⟩
  clear q2 c3
  obtain ⟨bo, hbo⟩ : ∃ bo, bo = w3.heap.size := ⟨_, rfl⟩
  have hbl : w3.heap.size ≤ bo := by omega
  rw [← hbo] at q1
  generalize hpo : Value.slice (some ⟨w3.heap.size, 0, none⟩) y.ws.length y.ws.length = po
  rw [← hbo] at hpo
  subst hpo
  have hbo5 : bo < w5.heap.size := (q1.lt bo rfl).2
  clear hbo
  refine wp_seq_k (fun K hK => ?_)
  have HK := Lib.hid hK; clear hK
  go_wp2
  go_loopw [22] (fun i wr => ∃ (k : Nat) (vs : List Value), k ≤ y.ws.length ∧ i = .int .i64 k ∧ wr.ownsRow bo 28 1 (.slice (some ⟨bo, 0, none⟩) y.ws.length y.ws.length) y.ws.length vs ∧ Below w3.heap.size w3 wr ∧ (∀ j (h : j < vs.length), (j < k → SlI wr vs[j] (rowP y j)) ∧ (k ≤ j → vs[j] = .slice none 0 0)) ∧ bo < wr.heap.size) (fun i _ => y.ws.length - (intOf i).toNat)
  case atStart => exact ⟨0, List.replicate y.ws.length (.slice none 0 0), Nat.zero_le _, rfl, q1, hb5, fun j h => ⟨fun h => by omega, fun _ => by simp⟩, hbo5⟩
  case round =>
    obtain ⟨k, vs, hk, rfl, ho, hb, hrs, hbw⟩ := hrel
    clear q1 hb5 hbo5
    have HR := Lib.hid hrs
    have hvl : vs.length = y.ws.length := by have := ho.1; omega
    have HV := Lib.hid hvl
    clear hrs hvl
    by_cases hkn : k < y.ws.length
    · obtain ⟨wo, rfl⟩ : ∃ wo, wo = wr := ⟨_, rfl⟩
      have d1 := blk_below b1 hb (lt_blk b1)
      have c0 := cell_blk (i := 0) d1
      simp only [encY, List.getElem?_toArray, List.getElem?_cons_zero] at c0
      have hr0 := ok.room0
      have hr1 := ok.room1
      go_wp2
      go_loopw [28] (fun i wr => ∃ (s : Nat) (u : Value), s ≤ y.room.toNat + 1 ∧ i = .int .i64 s ∧ wr.ownsRow bo 28 1 (.slice (some ⟨bo, 0, none⟩) y.ws.length y.ws.length) y.ws.length (vs.set k u) ∧ wr.ownsRow wo.heap.size 3 1 u s (((rowP y k).take s).map (.int .i64)) ∧ Bm bo wo.heap.size wo wr) (fun i _ => 100 - (intOf i).toNat)
      case atStart =>
        have e : vs.set k (.slice none 0 0) = vs := by
          apply List.ext_getElem (by simp)
          intro j h1 h2
          rw [List.getElem_set]
          split
          · rename_i h; subst h; exact ((HR.out k h2).2 (Nat.le_refl _)).symm
          · rfl
        exact ⟨0, _, Nat.zero_le _, rfl, by rw [e]; exact ho, World.ownsRow_nil _ _ _ _, Bm.refl _ _ _⟩
      case round =>
        obtain ⟨s, u, hs, rfl, ho2, hu, hbm⟩ := hrel
        have hws := hbm.size
        have HBM1 := Lib.hid hbm
        have hbw2 : bo < wr.heap.size := by omega
        have hB3 : Below w3.heap.size w3 wr := hb.trans (bm_below_lo hbm hbl (by omega))
        have hgr := hg.below hB3 (Nat.le_refl _)
        have cb := ho2.cellAt k (by omega)
        rw [List.getElem?_set_self (by rw [HV.out]; exact hkn)] at cb
        have fb := ho2.frozenAt k
        have hub : u.ownBlock ≠ some bo := fun h => by have := (hu.lt _ h).1; omega
        by_cases hsn : s < y.room.toNat + 1
        · have hsi : (s : Int) < y.room + 1 := by omega
          have hki : (0 : Int) ≤ (k : Int) ∧ (k : Int) < (y.ws.length : Int) := by omega
          have hT := fun U hU => term_any y _ vl g kg s k U ok (hgr.below (W' := U) hU (Nat.le_refl _)) hst (by omega) hkn
          have htk := rowP_take y k hsn
          generalize termP y s k = T at *
          obtain ⟨hk0, hk1⟩ := hki
          have HT := Lib.hid hT
          have HTK := Lib.hid htk
          have hul : u.ownBlock = some bo → False := hub
          obtain ⟨au, cu, rfl⟩ := form_of hu
          clear hT htk
          refine wp_seq_k (fun K hK => ?_)
          have HK := Lib.hid hK; clear hK
          go_wp2
          refine HK.out _ _ ?_; clear HK
          refine wp_seq_k (fun K hK => ?_)
          have HK := Lib.hid hK; clear hK
          go_wp2
          refine HK.out _ _ ?_; clear HK
          refine wp_seq_k (fun K hK => ?_)
          have HK := Lib.hid hK; clear hK
          refine wp_block ?_
          refine wp_seq_k (fun K2 hK2 => ?_)
          have HK2 := Lib.hid hK2; clear hK2
          go_wp2
          refine HK2.out _ _ ?_; clear HK2
          have hs62 : s ≤ 60 := by omega
          refine wp_mono (Q := Exit.then K (fun _ _ _ => False)) ?_ (fun e a w h => by cases e <;> first | exact h | exact h.elim)
          have hvk : (vs.set k (.slice au s cu))[k]? = some (.slice au s cu) := List.getElem?_set_self (by rw [HV.out]; exact hkn)
          refine reg12 K _ _ _ _ _ _ _ _ _ _ _ _ _ _ _ _ _ _ _ _ _ _ _ _ _ _ _ _ _ _ _ _ _ _ _ _ _ _ _ _ _ _ _ wr bo y.ws.length k s g wo.heap.size T (.slice au s cu) _ _ hln hkn hs62 ho2 hvk hu (by omega) hws (fun U hU => HT.out U hU) ?_
          intro q31 q32 q33 q34 q35 q36 q37 q38 q39 q40 q41 q42 q43 u' w' r1 r2 r3
          rw [set_set_self] at r1
          rw [HTK.out] at r2
          refine HK.out _ _ ?_; clear HK
          have hbm2 := HBM1.out.trans r3
          clear cb fb hu ho2 hub hul
          go_wp2
          go_roundw
          case rel => exact ⟨s + 1, u', by omega, by go_num, r1, r2, hbm2⟩
          case measure => simp [intOf]; omega
        · have hse : s = y.room.toNat + 1 := by omega
          have hsi : ¬ (s : Int) < y.room + 1 := by omega
          have hrows : ∀ j (h : j < (vs.set k u).length), (j < k + 1 → SlI wr (vs.set k u)[j] (rowP y j)) ∧ (k + 1 ≤ j → (vs.set k u)[j] = .slice none 0 0) := by
            intro j h
            rw [List.length_set] at h
            rw [List.getElem_set]
            by_cases hjk : k = j
            · subst hjk
              rw [if_pos rfl]
              refine ⟨fun _ => ?_, fun h => by omega⟩
              rw [hse, List.take_of_length_le (by rw [rowP_len]; exact Nat.le_refl _)] at hu
              exact slI_own hu (by rw [rowP_len]) (by rw [rowP_len]; omega)
            · rw [if_neg hjk]
              refine ⟨fun hj => ?_, fun hj => (HR.out j h).2 (by omega)⟩
              refine ((HR.out j h).1 (by omega)).bmv (row_full ho) (fun i v hv => ?_) HBM1.out
              rw [List.getElem?_toArray] at hv
              obtain ⟨hi, rfl⟩ := List.getElem?_eq_some_iff.1 hv
              by_cases hik : i < k
              · obtain ⟨a1, a2, h3⟩ := slI_form ((HR.out i hi).1 hik)
                rw [h3]; rfl
              · rw [(HR.out i hi).2 (by omega)]; rfl
          have HRW := Lib.hid hrows
          clear hrows cb fb hu hub hse
          go_wp2
          go_roundw
          case rel => exact ⟨k + 1, vs.set k u, by omega, by go_num, ho2, hB3, HRW.out, hbw2⟩
          case measure => simp [intOf]; omega
    · have hke : k = y.ws.length := by omega
      have hsl : SlII wr (.slice (some ⟨bo, 0, none⟩) y.ws.length y.ws.length) (tabP y) := by
        refine ⟨vs, slV_own ho HV.out.symm (by rw [HV.out]; omega), by rw [HV.out]; simp [tabP], fun i hi hi' => ?_⟩
        have := (HR.out i hi).1 (by rw [hke, ← HV.out]; exact hi)
        simpa [tabP] using this
      have hBr : Below w.heap.size w wr := hB.trans (hb.mono hB.size)
      have HS := Lib.hid hsl
      clear hke hsl ho
      go_wp2
      refine HK.out _ _ ?_; clear HK
      go_wp2
      go_ret2
      exact ⟨hBr, .inr ⟨HC0.out, _, rfl, HS.out⟩⟩
end Ytndmjginmomfiaa
end Go.Proofs
