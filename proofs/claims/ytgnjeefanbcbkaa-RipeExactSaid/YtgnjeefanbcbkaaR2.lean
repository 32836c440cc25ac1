/- Fields: what the reference gets: given copies a field. Conditions: at most 200 samples. -/
import Derived.Test.YtgnjeefanbcbkaaR1
import Derived.Test.YtgnjeefanbcbkaaC2
open Go Go.RowKit Go.YtgnjeefanbcbkaaIt
namespace Go.Proofs
namespace Ytgnjeefanbcbkaa
theorem oper_append_own {P : Program} {o : Oper} {a : Act} {w : World} {K : Act → World → Prop} {Q : Exit → Act → World → Prop}
    (s x : Operand) (t : TypeId) (hop : o.op = Op.call { callee := Callee.builtin Builtin.append, args := #[s, x], argTypes := #[t, t] })
    (base e : Nat) (i : TypeInfo) (z : Value) (size bytes : Nat) (h1 : P.underlying t = some (.slice e)) (h2 : P.info? e = some i) (h3 : i.zero = some z) (h4 : i.size = size) (h5 : i.bytes = bytes) (h6 : z.cells.size = size) (h7 : 0 < size)
    (v : Value) (n : Nat) (xs : List Value) (hs : a.eval s = v) (hown : w.ownsRow base e size v n xs)
    (ad : Addr) (m c : Nat) (news : List Value) (hx : a.eval x = .slice (some ad) m c) (hn : news.length = m * size) (hc : ∀ j u, news[j]? = some u → w.cell? (ad.add j) = some u) (h1c : ∀ u ∈ news, u.oneCell' = true)
    (b1 : n + m ≤ maxLen) (b2 : (n + m) * bytes ≤ 140737488355328) (hbase : base ≤ w.heap.size)
    (hK : ∀ v' w', w'.ownsRow base e size v' (n + m) (xs ++ news) → w.grownBy w' v.ownBlock → K (a.put o.dst v') w') : Oper.wp P o a w K Q := by
  obtain ⟨v', w', hrun, r1, r2, _⟩ := run_append_own (P := P) w base t o.type e i z size bytes h1 h2 h3 h4 h5 h6 h7 v n xs hown ad m c news hn hc h1c b1 b2 hbase
  unfold Oper.wp
  simp [execOp, hop, resolve, invoke, builtin, hs, hx, hrun, Result.andThen]
  exact hK v' w' r1 r2
theorem info104 : (Try.prog.info? 104).map (fun i => (i.zero, i.size, i.bytes)) = some (some (.agg #[.int .i64 0, .int .i64 0, .int .i64 0]), 3, 24) := by kernel_rfl
set_option maxRecDepth 100000 in
set_option maxHeartbeats 8000000 in
theorem givenF_any (n lo hi : Int) (v : Value) (ws : List Smp) (w : World) (hv : SlS w v ws) (hl : ws.length ≤ 200) :
    Calls Try.prog 16 #[.agg #[.int .i64 n, .int .i64 lo, .int .i64 hi, v]] w fun e w' => (∃ v', e = .returned (.agg #[.int .i64 n, .int .i64 lo, .int .i64 hi, v']) ∧ SlS w' v' ws) ∧ Below w.heap.size w w' := by
  have HV := Lib.hid hv
  obtain ⟨ad, cap, rfl, -, -, -⟩ := hv
  obtain ⟨i104, hi104, hz1, hz2, hz3⟩ := info_parts info104
  have HI := Lib.hid (And.intro hi104 (And.intro hz1 (And.intro hz2 hz3)))
  clear hi104 hz1 hz2 hz3
  go_enter Try.func16, Try.ntmps16
  refine wp_seq_k (fun K hK => ?_)
  have HK := Lib.hid hK; clear hK
  go_wp2
  refine HK.out _ _ ?_; clear HK K
  generalize hw1 : World.alloc _ _ = w1
  obtain ⟨b0, b1, hB1, hs1⟩ := blk2 hw1
  clear hw1
  have c0 := cell_blk (i := 0) b0
  simp only [List.getElem?_toArray, List.getElem?_cons_zero] at c0
  have r1 : w1.rangeAt w.heap.size 1 [.int .i64 lo, .int .i64 hi] := mid2 (by rw [cell_blk b0]; rfl) (by rw [cell_blk b0]; rfl)
  refine wp_seq_k (fun K hK => ?_)
  have HK := Lib.hid hK; clear hK
  go_wp2_with (refine wpList_load_mid rfl 23 _ rfl _ _ rfl _ _ r1 Try.underlying23 rfl size23 ?_)
  refine HK.out _ _ ?_; clear HK K
  generalize hw2 : World.alloc _ _ = w2
  obtain ⟨b2, hb2, hs2⟩ := blk1 hw2
  clear hw2 c0 r1
  replace b0 := blk_keep b0 hb2
  replace b1 := blk_keep b1 hb2
  have B := btr hB1 hb2 (Nat.le_refl _)
  have l0 := hB1.size
  have l1 : w.heap.size + 1 < w1.heap.size := by omega
  clear hb2 hB1
  refine wp_seq_k (fun K hK => ?_)
  have HK := Lib.hid hK; clear hK
  go_wp2
  generalize w1.heap.size = g2 at *
  go_loopw [4] (fun i wr => ∃ (k : Nat) (q : Value), k ≤ ws.length ∧ i = .int .i64 k ∧ wr.heap[w.heap.size]? = some (.cells #[.int .i64 n, .int .i64 lo, .int .i64 hi, .slice ad ws.length cap] 26 (0, 0)) ∧ wr.heap[w.heap.size + 1]? = some (.cells #[.int .i64 0, .int .i64 0, .int .i64 0, .slice none 0 0] 35 (0, 0)) ∧ wr.heap[g2]? = some (.cells #[.int .i64 n, .int .i64 lo, .int .i64 hi, q] 35 (0, 0)) ∧ wr.ownsRow w2.heap.size 104 3 q k ((ws.take k).flatMap encS) ∧ Below w.heap.size w wr ∧ w2.heap.size ≤ wr.heap.size) (fun i _ => ws.length - (intOf i).toNat)
  case atStart => exact ⟨0, _, Nat.zero_le _, rfl, b0, b1, b2, World.ownsRow_nil _ _ _ _, B, Nat.le_refl _⟩
  case round =>
    clear b0 b1 b2 B
    obtain ⟨k, q, hk, rfl, b0, b1, b2, ro, B, hsz⟩ := hrel
    obtain ⟨aq, cq, rfl⟩ := form_of ro
    have c01 := cell_blk (i := 3) b0
    simp only [List.getElem?_toArray, List.getElem?_cons_zero, List.getElem?_cons_succ] at c01
    by_cases hkn : k < ws.length
    · have hki : (k : Int) < (ws.length : Int) := by omega
      have hV30 := HV.out
      obtain ⟨ad0, cap0, e0, -, -, hcc⟩ := hV30
      injection e0 with e1 _ e3
      subst e1 e3
      obtain ⟨bv, ov, rfl, hlt, hcell⟩ := hcc (by omega)
      obtain ⟨q0, q1, q2⟩ := s_cells hcell (i := k) (n := k) hkn rfl
      replace q0 := (B.cell (p := ⟨bv, ov + k * 3, none⟩) hlt).trans q0
      replace q1 := (B.cell (p := ⟨bv, ov + k * 3 + 1, none⟩) hlt).trans q1
      replace q2 := (B.cell (p := ⟨bv, ov + k * 3 + 2, none⟩) hlt).trans q2
      obtain ⟨x, hx⟩ : ∃ x, x = at_ ws k := ⟨_, rfl⟩
      rw [← hx] at q0 q1 q2
      have HX := Lib.hid hx
      clear hx hcell hcc
      have c21 := cell_blk (i := 3) b2
      simp only [List.getElem?_toArray, List.getElem?_cons_zero, List.getElem?_cons_succ] at c21
      have lbv : bv < w.heap.size := hlt
      go_wp2
      rename_i K0 hK0 _
      have HK0 := Lib.hid hK0
      clear hK0
      have hS0 : (fun U : World => U.cell? ⟨g2, 3, none⟩ = some (.slice aq k cq) ∧ U.cell? ⟨w.heap.size, 3, none⟩ = some (.slice (some ⟨bv, ov, none⟩) ws.length cap) ∧ (U.cell? ⟨bv, ov + k * 3, none⟩ = some (.int .i64 x.week) ∧ U.cell? ⟨bv, ov + k * 3 + 1, none⟩ = some (.int .i64 x.val) ∧ U.cell? ⟨bv, ov + k * 3 + 2, none⟩ = some (.int .i64 x.off))) wr.drew := ⟨c21, c01, q0, q1, q2⟩
      replace b0 : wr.drew.heap[w.heap.size]? = _ := b0
      replace b1 : wr.drew.heap[w.heap.size + 1]? = _ := b1
      replace b2 : wr.drew.heap[g2]? = _ := b2
      replace ro : wr.drew.ownsRow w2.heap.size 104 3 (.slice aq k cq) k _ := ro
      replace B := B.drew
      replace hsz : w2.heap.size ≤ wr.drew.heap.size := hsz
      clear c21 c01 q0 q1 q2
      refine wp_region_z (z := 10) (S := fun U : World => U.cell? ⟨g2, 3, none⟩ = some (.slice aq k cq) ∧ U.cell? ⟨w.heap.size, 3, none⟩ = some (.slice (some ⟨bv, ov, none⟩) ws.length cap) ∧ (U.cell? ⟨bv, ov + k * 3, none⟩ = some (.int .i64 x.week) ∧ U.cell? ⟨bv, ov + k * 3 + 1, none⟩ = some (.int .i64 x.val) ∧ U.cell? ⟨bv, ov + k * 3 + 2, none⟩ = some (.int .i64 x.off))) (by kernel_rfl) ?_
      change wpAnyZ _ _ _ _ _ _ _ _ _ (World.drew wr)
      generalize World.drew wr = wq at *
      clear wr
      refine wpAnyZ_take (i := 0) (oi := { dst := some 17, op := _, type := _, pos := _, after := _, guard := _ }) (v := ?_) rfl (by kernel_rfl) (by kernel_rfl) (by kernel_rfl) (fun _ _ _ h => h) (Or.inl ⟨by rfl, ?_⟩) hS0 ?_
      rotate_left
      · intro U hU
        go_simp
        all_goals with_reducible rfl
      simp only [Act.put, List.setIfInBounds_toArray, List.set_cons_zero, List.set_cons_succ]
      refine wpAnyZ_take (i := 1) (oi := { dst := some 18, op := _, type := _, pos := _, after := _, guard := _ }) (v := ?_) rfl (by kernel_rfl) (by kernel_rfl) (by kernel_rfl) (fun _ _ _ h => h) (Or.inl ⟨by rfl, ?_⟩) hS0 ?_
      rotate_left
      · intro U hU
        have hU0 := hU.1
        go_simp
        all_goals with_reducible rfl
      simp only [Act.put, List.setIfInBounds_toArray, List.set_cons_zero, List.set_cons_succ]
      refine wpAnyZ_take (i := 2) (oi := { dst := some 19, op := _, type := _, pos := _, after := _, guard := _ }) (v := ?_) rfl (by kernel_rfl) (by kernel_rfl) (by kernel_rfl) (fun _ _ _ h => h) (Or.inl ⟨by rfl, ?_⟩) hS0 ?_
      rotate_left
      · intro U hU
        go_simp
        all_goals with_reducible rfl
      simp only [Act.put, List.setIfInBounds_toArray, List.set_cons_zero, List.set_cons_succ]
      refine wpAnyZ_take (i := 3) (oi := { dst := some 20, op := _, type := _, pos := _, after := _, guard := _ }) (v := ?_) rfl (by kernel_rfl) (by kernel_rfl) (by kernel_rfl) (fun _ _ _ h => h) (Or.inl ⟨by rfl, ?_⟩) hS0 ?_
      rotate_left
      · intro U hU
        have hU0 := hU.2.1
        go_simp
        all_goals with_reducible rfl
      simp only [Act.put, List.setIfInBounds_toArray, List.set_cons_zero, List.set_cons_succ]
      refine wpAnyZ_take (i := 4) (oi := { dst := some 21, op := _, type := _, pos := _, after := _, guard := _ }) (v := ?_) rfl (by kernel_rfl) (by kernel_rfl) (by kernel_rfl) (fun _ _ _ h => h) (Or.inl ⟨by rfl, ?_⟩) hS0 ?_
      rotate_left
      · intro U hU
        go_simp
        all_goals with_reducible rfl
      simp only [Act.put, List.setIfInBounds_toArray, List.set_cons_zero, List.set_cons_succ]
      refine wpAnyZ_take (i := 5) (oi := { dst := some 22, op := _, type := _, pos := _, after := _, guard := _ }) (v := ?_) rfl (by kernel_rfl) (by kernel_rfl) (by kernel_rfl) (fun _ _ _ h => h) (Or.inl ⟨by rfl, ?_⟩) hS0 ?_
      rotate_left
      · intro U hU
        go_simp
        all_goals with_reducible rfl
      simp only [Act.put, List.setIfInBounds_toArray, List.set_cons_zero, List.set_cons_succ]
      refine wpAnyZ_take (i := 6) (oi := { dst := some 23, op := _, type := _, pos := _, after := _, guard := _ }) (v := ?_) rfl (by kernel_rfl) (by kernel_rfl) (by kernel_rfl) (fun _ _ _ h => h) (Or.inl ⟨by rfl, ?_⟩) hS0 ?_
      rotate_left
      · intro U hU
        obtain ⟨u0, u1, u2⟩ := hU.2.2
        go_simp
        all_goals with_reducible rfl
      simp only [Act.put, List.setIfInBounds_toArray, List.set_cons_zero, List.set_cons_succ]
      refine wpAnyZ_one (i := 7) (o := { dst := some 24, op := _, type := _, pos := _, after := _, guard := _ }) (by kernel_rfl) rfl (by rfl) (fun K1 hK1 => ?_)
      have HK1 := Lib.hid hK1; clear hK1
      go_simp
      obtain ⟨bN, hBN, hsN⟩ := blk1 (rfl : wq.alloc (.cells #[.int .i64 x.week, .int .i64 x.val, .int .i64 x.off] 104) = _)
      have hcN := cell_newL (W := wq) (xs := encS x) (t := 104) rfl
      change ∀ j u, _ → (wq.alloc (.cells #[.int .i64 x.week, .int .i64 x.val, .int .i64 x.off] 104)).cell? _ = _ at hcN
      have lb2 := lt_blk b2
      have lb0 := lt_blk b0
      have hBs := B.size
      have hSM : ∀ W' : World, (∀ j, j < wq.heap.size → (Value.slice aq k cq).ownBlock ≠ some j → W'.heap[j]? = wq.heap[j]?) → (fun U : World => U.cell? ⟨g2, 3, none⟩ = some (.slice aq k cq) ∧ U.cell? ⟨w.heap.size, 3, none⟩ = some (.slice (some ⟨bv, ov, none⟩) ws.length cap) ∧ (U.cell? ⟨bv, ov + k * 3, none⟩ = some (.int .i64 x.week) ∧ U.cell? ⟨bv, ov + k * 3 + 1, none⟩ = some (.int .i64 x.val) ∧ U.cell? ⟨bv, ov + k * 3 + 2, none⟩ = some (.int .i64 x.off))) W' := fun W' hh => by
        have t1 : ∀ (p : Addr) (u : Value), p.block < wq.heap.size → (Value.slice aq k cq).ownBlock ≠ some p.block → wq.cell? p = some u → W'.cell? p = some u := fun p u h1 h2 h3 => (World.cell?_of_block (w := wq) (a := p) (hh _ h1 h2)).trans h3
        have nb : (Value.slice aq k cq).ownBlock ≠ some bv := fun e => by have := (ro.lt _ e).1; omega
        exact ⟨t1 ⟨g2, 3, none⟩ _ lb2 (own_ne ro b2 (by decide)) hS0.1, t1 ⟨w.heap.size, 3, none⟩ _ lb0 (own_ne ro b0 (by decide)) hS0.2.1, t1 ⟨bv, ov + k * 3, none⟩ _ (by simp; omega) nb hS0.2.2.1, t1 ⟨bv, ov + k * 3 + 1, none⟩ _ (by simp; omega) nb hS0.2.2.2.1, t1 ⟨bv, ov + k * 3 + 2, none⟩ _ (by simp; omega) nb hS0.2.2.2.2⟩
      have hS1 := hSM (wq.alloc (.cells #[.int .i64 x.week, .int .i64 x.val, .int .i64 x.off] 104)) (fun j hj _ => heap_oldI hj)
      refine HK1.out _ _ (fun _ => hS1) ?_
      clear HK1 K1
      try simp only [Act.put, List.setIfInBounds_toArray, List.set_cons_zero, List.set_cons_succ]
      refine wpAnyZ_one (i := 8) (o := { dst := some 25, op := _, type := _, pos := _, after := _, guard := _ }) (by kernel_rfl) rfl (by rfl) (fun K1 hK1 => ?_)
      have HK1 := Lib.hid hK1; clear hK1
      refine oper_append_own _ _ 33 rfl w2.heap.size 104 i104 (.agg #[.int .i64 0, .int .i64 0, .int .i64 0]) 3 24 Try.underlying33 HI.out.1 HI.out.2.1 HI.out.2.2.1 HI.out.2.2.2 rfl (by decide) _ _ _ rfl (ro.alloc _) ⟨wq.heap.size, 0, none⟩ 1 1 (encS x) rfl rfl hcN (by intro u hu; simp [encS] at hu; rcases hu with rfl | rfl | rfl <;> rfl) (Nat.le_trans (by omega : k + 1 ≤ 300) (by decide)) (by omega) (by rw [World.size_alloc]; omega) ?_
      intro v6 w6 r1 r2
      obtain ⟨a6, c6, rfl⟩ := form_of r1
      obtain ⟨hk6, hs6, ee1, ee2, ee3⟩ := append_same1 ro r2
      have hS6 := hSM w6 hk6
      have d0 := (hk6 w.heap.size lb0 (own_ne ro b0 (by decide))).trans b0
      have d1 := (hk6 (w.heap.size + 1) (lt_blk b1) (own_ne ro b1 (by decide))).trans b1
      have d2 := (hk6 g2 lb2 (own_ne ro b2 (by decide))).trans b2
      have hB6 : Below w.heap.size w w6 := ⟨ee1.trans B.os, ee2.trans B.tape, ee3.trans B.output, by omega, fun b hb => (hk6 b (by omega) (fun e => by have := (ro.lt _ e).1; omega)).trans (B.block b hb)⟩
      refine HK1.out _ _ (fun _ => hS6) ?_
      clear HK1 K1 hS0 hS1 hSM
      have hS0 := hS6
      clear hS6
      try simp only [Act.put, List.setIfInBounds_toArray, List.set_cons_zero, List.set_cons_succ]
      refine wpAnyZ_take (i := 9) (oi := { dst := some 26, op := _, type := _, pos := _, after := _, guard := _ }) (v := ?_) rfl (by kernel_rfl) (by kernel_rfl) (by kernel_rfl) (fun _ _ _ h => h) (Or.inl ⟨by rfl, ?_⟩) hS0 ?_
      rotate_left
      · intro U hU
        go_simp
        all_goals with_reducible rfl
      simp only [Act.put, List.setIfInBounds_toArray, List.set_cons_zero, List.set_cons_succ]
      refine wpAnyZ_last (o := { dst := none, op := _, type := _, pos := _, after := _, guard := _ }) (by kernel_rfl) (by kernel_rfl) rfl (by rfl) (fun K1 hK1 => ?_)
      have HK1 := Lib.hid hK1; clear hK1
      have e1 := hS0.1
      have ef := free_blk (i := 3) d2
      go_simp
      refine HK1.out _ _ ?_
      clear HK1 K1
      simp only [Exit.then, Exit.inBlock]
      refine HK0.out _ _ ?_
      clear HK0
      have n2 : (w6.setCell ⟨g2, 3, none⟩ (.slice a6 (k + 1) c6)).heap[g2]? = some (.cells #[.int .i64 n, .int .i64 lo, .int .i64 hi, .slice a6 (k + 1) c6] 35 (0, 0)) := (heap_set_blk d2).trans rfl
      have n0 := (heap_set_other (v := (.slice a6 (k + 1) c6)) (b' := g2) (i := 3) (show w.heap.size ≠ g2 by omega)).trans d0
      have n1 := (heap_set_other (v := (.slice a6 (k + 1) c6)) (b' := g2) (i := 3) (show w.heap.size + 1 ≠ g2 by omega)).trans d1
      have nr := row_set_other (b := g2) (i := 3) (x := (.slice a6 (k + 1) c6)) r1 (own_ne r1 d2 (by decide))
      have nB := hB6.setCell (p := ⟨g2, 3, none⟩) (show w.heap.size ≤ g2 by omega) (.slice a6 (k + 1) c6)
      have nW : w2.heap.size ≤ (w6.setCell ⟨g2, 3, none⟩ (.slice a6 (k + 1) c6)).heap.size := by rw [World.size_setCell]; omega
      have e8 : (ws.take (k + 1)).flatMap encS = (ws.take k).flatMap encS ++ encS x := by
        rw [List.take_succ_eq_append_getElem hkn, List.flatMap_append, HX.out, at_lt hkn]; simp
      rw [← e8] at nr
      clear hS0 e1 ef d0 d1 d2 r1 r2 hk6 hB6 e8
      generalize World.setCell _ _ _ = w9 at *
      go_wp2
      go_roundw
      case rel => exact ⟨k + 1, _, by omega, by go_num, n0, n1, n2, nr, nB, nW⟩
      case measure => simp [intOf]; omega
    · have hkk : k = ws.length := by omega
      have hki : ¬ ((k : Int) < (ws.length : Int)) := by omega
      go_wp2
      refine HK.out _ _ ?_; clear HK
      have l2 := lt_blk b2
      go_wp2_with (first | (refine wpList_load_blk rfl 35 _ rfl _ rfl b2 Try.underlying35 rfl size35 rfl ?_) | (refine wpList_store_blk rfl 35 _ _ rfl _ rfl rfl b1 size35 rfl rfl (by simp [Value.oneCell']) ?_))
      rw [hkk, List.take_length] at ro
      refine bodyPost_ret (results_blk rfl _ _ (w.heap.size + 1) rfl (World.putObj_heap_same (lt_blk b1)) Try.underlying35 rfl size35 rfl) rfl ⟨⟨_, rfl, ?_⟩, below_putObj B (by omega)⟩
      rw [hkk]
      exact slG_own encS_len (row_putO ro (by omega)) rfl (by omega)
end Ytgnjeefanbcbkaa
end Go.Proofs
