/- Whether one can come from a state to numbers of at least n. -/
import Derived.Test.YtndmjginmomfiaaW16
open Go Go.RowKit Go.YtndmjginmomfiaaIt
namespace Go.Proofs
namespace Ytndmjginmomfiaa
theorem bef_lw {y : Yd} (ok : Ok y) (l : List Nat) : Lw (bef y l) := by
  have hr := ok.room1
  have hp : 2 ^ (y.room.toNat + 1) ≤ 2 ^ 61 := Nat.pow_le_pow_right (by omega) (by omega)
  refine ⟨bef_len y l, fun m => ?_⟩
  rw [bef_get y _ ok.n1]
  have := bw_lt (stB y l m) (y.room.toNat + 1)
  split <;> omega
theorem run_index110 {cs : Array Value} {m : Nat} {u : Value} (hm : m < 4) (h : cs[m]? = some u) (w : World) : (Instr.index 110 (.agg cs) (.int .i64 m)).run Try.prog w = .ok u w := by
  have hu := run_underlying Try.underlying110 w
  have hs : (sizeOf 108).run Try.prog w = .ok 1 w := by kernel_rfl
  have ha : (isAgg 108).run Try.prog w = .ok false w := by kernel_rfl
  unfold Instr.index part
  simp [Sem.run_bind, hu, hs, ha, asIntOf, Result.andThen, h]
  omega
theorem oper_index110 {o : Oper} {a : Act} {w : World} {K : Act → World → Prop} {Q : Exit → Act → World → Prop} {x i : Operand} (hop : o.op = .index 110 x i) {cs : Array Value} {m : Nat} {u : Value} (hx : a.eval x = .agg cs) (hi : a.eval i = .int .i64 m) (hm : m < 4) (h : cs[m]? = some u)
    (hK : K (a.put o.dst u) w) : Oper.wp Try.prog o a w K Q := by
  unfold Oper.wp execOp
  simp only [hop, hx, hi, Sem.run_bind, run_index110 hm h w, Result.andThen_ok, Sem.run_pure]
  exact hK
/-- From a state one can come to numbers of at least n. -/
def canP (y : Yd) (tab : List (List Int)) (n : Int) (m s : Nat) : Bool := hasN ((bef y (leastP tab n)).getD m 0) s s
/-- The cells that the closure reads. -/
def Cl (W : World) (bF bK bY bT bM bS m s : Nat) : Prop := W.heap[bF]? = some (.cells #[.func (.func 70) #[] #[.pointer (some ⟨bK, 0, none⟩), .pointer (some ⟨bY, 0, none⟩), .pointer (some ⟨bT, 0, none⟩)]] 111 (0, 0)) ∧ W.heap[bM]? = some (.cells #[.int .i64 m] 3 (0, 0)) ∧ W.heap[bS]? = some (.cells #[.int .i64 s] 3 (0, 0))
theorem Cl.bm {W W' : World} {bF bK bY bT bM bS m s bm : Nat} {G : Value → Value → Prop} (h : Cl W bF bK bY bT bM bS m s) (hB : Bm bm W.heap.size W W') (hM : Memo W bm G) : Cl W' bF bK bY bT bM bS m s :=
  ⟨(hB.block _ (lt_blk h.1) (mem_ne hM h.1)).trans h.1, (hB.block _ (lt_blk h.2.1) (mem_ne hM h.2.1)).trans h.2.1, (hB.block _ (lt_blk h.2.2) (mem_ne hM h.2.2)).trans h.2.2⟩
theorem Cl.below {W W' : World} {bF bK bY bT bM bS m s : Nat} (h : Cl W bF bK bY bT bM bS m s) (hB : Below W.heap.size W W') : Cl W' bF bK bY bT bM bS m s :=
  ⟨blk_keep h.1 hB, blk_keep h.2.1 hB, blk_keep h.2.2 hB⟩
set_option maxRecDepth 100000 in
set_option maxHeartbeats 4000000 in
theorem can_any (y : Yd) (v : Value) (tab : List (List Int)) (vt : Value) (n : Int) (bF bM bS bK bY bT bm m s : Nat) (w : World) (ok : Ok y) (hsh : Sh tab) (hn : -10 ≤ n ∧ n ≤ 1125899906842624) (hm : m < 4) (hd : Hd w y v tab vt bK bY bT bm) (hcl : Cl w bF bK bY bT bM bS m s) :
    Calls Try.prog 72 #[.int .i64 n, .pointer (some ⟨bF, 0, none⟩), .pointer (some ⟨bM, 0, none⟩), .pointer (some ⟨bS, 0, none⟩)] w fun e w' => e = .returned (.bool (canP y tab n m s)) ∧ Memo w' bm (GR y tab) ∧ Bm bm w.heap.size w w' := by
  have hlw := (bef_lw ok (leastP tab n)).lt m
  have he4 := encL4 (bef_len y (leastP tab n))
  have hcan : canP y tab n m s = hasN ((bef y (leastP tab n)).getD m 0) s s := rfl
  have hrc := reach_any y v tab vt n bK bY bT bm w.drew ok hsh hn (hd.below (Below.refl _ _).drew)
  obtain ⟨x, hx⟩ : ∃ x, x = (bef y (leastP tab n)).getD m 0 := ⟨_, rfl⟩
  have hix : (encL (bef y (leastP tab n)))[m]? = some (.int .u64 (x : Nat)) := by rw [hx]; exact encL_get (by rw [bef_len]; exact hm)
  rw [← hx] at hlw hcan
  have hsz : (encL (bef y (leastP tab n))).size = 4 := by rw [encL_size, bef_len]
  generalize bef y (leastP tab n) = l at *
  have HRC := Lib.hid hrc
  have HIX := Lib.hid (And.intro hix hsz)
  rw [hcan]
  clear hrc hcan hx he4 hix hsz hn
  go_enter Try.func72, Try.ntmps72
  refine wp_seq_k (fun K hK => ?_)
  have HK := Lib.hid hK; clear hK
  go_wp2
  refine HK.out _ _ ?_; clear HK K
  refine wp_seq_k (fun K hK => ?_)
  have HK := Lib.hid hK; clear hK
  refine wp_region_held (S := fun W => Cl W bF bK bY bT bM bS m s) (by kernel_rfl) ?_
  change wpAnyH _ _ _ _ _ _ _ _ (World.drew w)
  have hS : Cl w.drew bF bK bY bT bM bS m s := hcl
  refine wpAnyH_take (i := 0) (oi := { dst := some 6, op := _, type := _, pos := _, after := _, guard := none }) (v := ?_) rfl (by kernel_rfl) (by kernel_rfl) (by kernel_rfl) (fun _ _ _ h => h) (Or.inl ⟨by rfl, ?_⟩) hS ?_
  rotate_left
  · intro U hU
    have c := cell_blk (i := 0) hU.1
    simp only [List.getElem?_toArray, List.getElem?_cons_zero] at c
    go_simp
    all_goals with_reducible rfl
  simp only [Act.put, List.setIfInBounds_toArray, List.set_cons_zero, List.set_cons_succ]
  refine wpAnyH_take (i := 1) (oi := { dst := some 7, op := _, type := _, pos := _, after := _, guard := none }) (v := ?_) rfl (by kernel_rfl) (by kernel_rfl) (by kernel_rfl) (fun _ _ _ h => h) (Or.inl ⟨by rfl, ?_⟩) hS ?_
  rotate_left
  · intro U hU
    go_simp
    all_goals with_reducible rfl
  simp only [Act.put, List.setIfInBounds_toArray, List.set_cons_zero, List.set_cons_succ]
  refine wpAnyH_take (i := 3) (oi := { dst := some 9, op := _, type := _, pos := _, after := _, guard := none }) (v := ?_) rfl (by kernel_rfl) (by kernel_rfl) (by kernel_rfl) (fun _ _ _ h => h) (Or.inl ⟨by rfl, ?_⟩) hS ?_
  rotate_left
  · intro U hU
    have c := cell_blk (i := 0) hU.2.1
    simp only [List.getElem?_toArray, List.getElem?_cons_zero] at c
    go_simp
    all_goals with_reducible rfl
  simp only [Act.put, List.setIfInBounds_toArray, List.set_cons_zero, List.set_cons_succ]
  refine wpAnyH_take (i := 5) (oi := { dst := some 11, op := _, type := _, pos := _, after := _, guard := none }) (v := ?_) rfl (by kernel_rfl) (by kernel_rfl) (by kernel_rfl) (fun _ _ _ h => h) (Or.inl ⟨by rfl, ?_⟩) hS ?_
  rotate_left
  · intro U hU
    have c := cell_blk (i := 0) hU.2.2
    simp only [List.getElem?_toArray, List.getElem?_cons_zero] at c
    go_simp
    all_goals with_reducible rfl
  simp only [Act.put, List.setIfInBounds_toArray, List.set_cons_zero, List.set_cons_succ]
  refine wpAnyH_take (i := 6) (oi := { dst := some 12, op := _, type := _, pos := _, after := _, guard := none }) (v := ?_) rfl (by kernel_rfl) (by kernel_rfl) (by kernel_rfl) (fun _ _ _ h => h) (Or.inl ⟨by rfl, ?_⟩) hS ?_
  rotate_left
  · intro U hU
    have c := cell_blk (i := 0) hU.2.2
    simp only [List.getElem?_toArray, List.getElem?_cons_zero] at c
    go_simp
    all_goals with_reducible rfl
  simp only [Act.put, List.setIfInBounds_toArray, List.set_cons_zero, List.set_cons_succ]
  refine wpAnyH_one (i := 2) (o := { dst := some 8, op := Op.call { callee := Callee.value (Operand.tmp 6), args := #[Operand.tmp 7], argTypes := _ }, type := _, pos := _, after := _, guard := none }) (by kernel_rfl) rfl (by rfl) (fun K1 hK1 => ?_)
  have HK1 := Lib.hid hK1; clear hK1
  refine oper_callg (f := 70) (lb := #[.pointer (some ⟨bK, 0, none⟩), .pointer (some ⟨bY, 0, none⟩), .pointer (some ⟨bT, 0, none⟩)]) rfl rfl (enters_of Try.func70 (by kernel_rfl) rfl) rfl (R := fun u W => u = .agg (encL l) ∧ Memo W bm (GR y tab) ∧ Bm bm w.heap.size w W) ?_ ?_
  · refine (HRC.out).mono ?_
    rintro e W ⟨rfl, hM, hb⟩
    exact ⟨_, rfl, rfl, hM, (Bm.of (Below.refl _ w).drew).trans hb⟩
  rintro u w2 ⟨rfl, hM2, hb2⟩
  have hcl2 := hcl.bm hb2 hd.me
  refine HK1.out _ _ hcl2 ?_
  clear HK1 K1
  simp only [Act.put, List.setIfInBounds_toArray, List.set_cons_zero, List.set_cons_succ]
  refine wpAnyH_one (i := 4) (o := { dst := some 10, op := Op.index 110 (Operand.tmp 8) (Operand.tmp 9), type := _, pos := _, after := _, guard := none }) (by kernel_rfl) rfl (by rfl) (fun K1 hK1 => ?_)
  have HK1 := Lib.hid hK1; clear hK1
  refine oper_index110 (m := m) rfl rfl rfl hm HIX.out.1 ?_
  refine HK1.out _ _ hcl2 ?_
  clear HK1 K1
  simp only [Act.put, List.setIfInBounds_toArray, List.set_cons_zero, List.set_cons_succ]
  refine wpAnyH_one (i := 7) (o := { dst := some 13, op := Op.call { callee := Callee.value (Operand.func 60), args := #[Operand.tmp 10, Operand.tmp 11, Operand.tmp 12], argTypes := _ }, type := _, pos := _, after := _, guard := none }) (by kernel_rfl) rfl (by rfl) (fun K1 hK1 => ?_)
  have HK1 := Lib.hid hK1; clear hK1
  refine oper_callg (f := 60) (lb := #[]) rfl rfl (enters_of Try.func60 (by kernel_rfl) rfl) rfl (R := fun u W => u = .bool (hasN x s s) ∧ Below w2.heap.size w2 W) ?_ ?_
  · refine (has_any x s s w2 hlw (Int.le_refl _)).mono ?_
    rintro e W ⟨rfl, hb⟩
    exact ⟨_, rfl, rfl, hb⟩
  rintro u w3 ⟨rfl, hb3⟩
  have hcl3 := hcl2.below hb3
  refine HK1.out _ _ hcl3 ?_
  clear HK1 K1
  simp only [Act.put, List.setIfInBounds_toArray, List.set_cons_zero, List.set_cons_succ]
  refine wpAnyH_one (i := 8) (o := { dst := some 5, op := _, type := _, pos := _, after := _, guard := none }) (by kernel_rfl) rfl (by rfl) (fun K1 hK1 => ?_)
  have HK1 := Lib.hid hK1; clear hK1
  go_simp
  refine HK1.out _ _ hcl3 ?_
  clear HK1 K1
  refine wpAnyH_done (by kernel_rfl) ?_ _
  refine HK.out _ _ ?_; clear HK
  go_wp2
  go_ret
  exact ⟨rfl, hM2.below hb3 hM2.lt, hb2.trans (Bm.of (hb3.mono hb2.size))⟩
end Ytndmjginmomfiaa
end Go.Proofs
