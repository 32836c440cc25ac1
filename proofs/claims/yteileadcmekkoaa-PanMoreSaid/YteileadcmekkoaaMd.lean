/- A work by numbers: made. -/
import Derived.Test.YteileadcmekkoaaQ24
open Go Go.RowKit Go.YteileadcmekkoaaIt
namespace Go.Proofs
namespace Yteileadcmekkoaa
/-- Four bytes. -/
structure Q4 where
  a : Int
  b : Int
  c : Int
  d : Int
def Q4.ok (q : Q4) : Prop := (0 ≤ q.a ∧ q.a < 256) ∧ (0 ≤ q.b ∧ q.b < 256) ∧ (0 ≤ q.c ∧ q.c < 256) ∧ (0 ≤ q.d ∧ q.d < 256)
def encQ (q : Q4) : List Value := [.int .u8 q.a, .int .u8 q.b, .int .u8 q.c, .int .u8 q.d]
theorem encQ_len (q : Q4) : (encQ q).length = 4 := rfl
/-- A slice of rows of four bytes. -/
def SlQ (w : World) (v : Value) (qs : List Q4) : Prop :=
  ∃ ad cap, v = .slice ad qs.length cap ∧ qs.length ≤ 9223372036854775807 ∧ qs.length ≤ cap ∧
    (0 < qs.length → ∃ b off, ad = some ⟨b, off, none⟩ ∧ b < w.heap.size ∧ ∀ i (h : i < qs.length) f u, (encQ qs[i])[f]? = some u → w.cell? ⟨b, off + i * 4 + f, none⟩ = some u)
theorem SlQ.below {w w' : World} {v : Value} {xs : List Q4} {B : Nat} (h : SlQ w v xs) (hb : Below B w w') (hB : w.heap.size ≤ B) : SlQ w' v xs := by
  obtain ⟨ad, cap, hv, hm, hp, hc⟩ := h
  refine ⟨ad, cap, hv, hm, hp, fun h0 => ?_⟩
  obtain ⟨b, off, ha, hlt, hcell⟩ := hc h0
  exact ⟨b, off, ha, Nat.lt_of_lt_of_le hlt hb.size, fun i hi f u hu => (hb.cell (p := ⟨b, _, none⟩) (by simpa using by omega)).trans (hcell i hi f u hu)⟩
def okM (n : Int) (x : Wa) : Prop := 0 ≤ x.f ∧ x.f < n ∧ 0 ≤ x.t ∧ x.t < n ∧ 0 ≤ x.lo ∧ x.lo ≤ x.hi ∧ x.hi ≤ 84 ∧ 0 ≤ x.b ∧ x.b ≤ 3
/-- A work as houses have them. -/
structure Made (n : Int) (ws : List Wa) : Prop where
  n1 : 1 ≤ n
  n5 : n ≤ 5
  len : ws.length ≤ 9
  ok : ∀ x ∈ ws, okM n x
theorem q_cells {w : World} {b off n : Nat} {ws : List Q4} (h : ∀ i (h : i < ws.length) f u, (encQ ws[i])[f]? = some u → w.cell? ⟨b, off + i * 4 + f, none⟩ = some u) {i : Nat} (hi : i < ws.length) (hn : n = i) :
    w.cell? ⟨b, off + n * 4, none⟩ = some (.int .u8 ws[i].a) ∧ w.cell? ⟨b, off + n * 4 + 1, none⟩ = some (.int .u8 ws[i].b) ∧ w.cell? ⟨b, off + n * 4 + 2, none⟩ = some (.int .u8 ws[i].c) ∧ w.cell? ⟨b, off + n * 4 + 3, none⟩ = some (.int .u8 ws[i].d) := by
  subst hn
  exact ⟨h n hi 0 _ rfl, h n hi 1 _ rfl, h n hi 2 _ rfl, h n hi 3 _ rfl⟩
theorem size87 : (Try.prog.info? 87).map (·.size) = some 4 := by kernel_rfl
theorem mdw {q : Int} (h : 0 ≤ q ∧ q < 4000) : IntKind.i64.wrap q = q := by
  rw [IntWalk.i64_left]
  exact IntWalk.wrap64_in _ (by omega)
theorem md_ok {n qa qb qc qd : Int} (hn : 1 ≤ n ∧ n ≤ 5) (ha : 0 ≤ qa ∧ qa < 256) (hb : 0 ≤ qb ∧ qb < 256) (hc : 0 ≤ qc ∧ qc < 256) (hd : 0 ≤ qd ∧ qd < 256) :
    okM n ⟨(IntKind.i64.wrap qa).tmod n, (IntKind.i64.wrap qb).tmod n, qc % 64, IntKind.i64.wrap (qc % 64 + IntKind.i64.wrap (IntKind.i64.wrap ((IntKind.i64.wrap qc).tdiv 64) * 7)), (IntKind.i64.wrap qd).tmod 4⟩ := by
  rw [mdw (q := qa) (by omega), mdw (q := qb) (by omega), mdw (q := qc) (by omega), mdw (q := qd) (by omega), Int.tmod_eq_emod_of_nonneg ha.1, Int.tmod_eq_emod_of_nonneg hb.1, Int.tmod_eq_emod_of_nonneg hd.1, Int.tdiv_eq_ediv_of_nonneg hc.1,
    mdw (q := qc / 64) (by omega), mdw (q := qc / 64 * 7) (by omega), mdw (q := qc % 64 + qc / 64 * 7) (by omega)]
  have h1 := Int.emod_nonneg qa (show n ≠ 0 by omega)
  have h2 := Int.emod_lt_of_pos qa (show 0 < n by omega)
  have h3 := Int.emod_nonneg qb (show n ≠ 0 by omega)
  have h4 := Int.emod_lt_of_pos qb (show 0 < n by omega)
  refine ⟨h1, h2, h3, h4, ?_, ?_, ?_, ?_, ?_⟩ <;> simp only <;> omega
theorem oper_append_own {P : Program} {o : Oper} {a : Act} {w : World} {K : Act → World → Prop} {Q : Exit → Act → World → Prop}
    (s x : Operand) (t : TypeId) (hop : o.op = Op.call { callee := Callee.builtin Builtin.append, args := #[s, x], argTypes := #[t, t] })
    (base e : Nat) (i : TypeInfo) (z : Value) (size bytes : Nat) (h1 : P.underlying t = some (.slice e)) (h2 : P.info? e = some i) (h3 : i.zero = some z) (h4 : i.size = size) (h5 : i.bytes = bytes) (h6 : z.cells.size = size) (h7 : 0 < size)
    (v : Value) (n : Nat) (xs : List Value) (hs : a.eval s = v) (hown : w.ownsRow base e size v n xs)
    (ad : Addr) (m c : Nat) (news : List Value) (hx : a.eval x = .slice (some ad) m c) (hn : news.length = m * size) (hc : ∀ j u, news[j]? = some u → w.cell? (ad.add j) = some u) (h1c : ∀ u ∈ news, u.oneCell' = true)
    (b1 : n + m ≤ maxLen) (b2 : (n + m) * bytes ≤ 140737488355328) (hbase : base ≤ w.heap.size)
    (hK : ∀ v' w', w'.ownsRow base e size v' (n + m) (xs ++ news) → w.grownBy w' v.ownBlock → K (a.put o.dst v') w') : Oper.wp P o a w K Q := by
  obtain ⟨v', w', hrun, r1, r2, _⟩ := run_append_own (P := P) w base t o.type e i z size bytes h1 h2 h3 h4 h5 h6 h7 v n xs hown ad m c news hn hc h1c b1 b2 hbase
  unfold Oper.wp
  simp [execOp, hop, resolve, invoke, builtin, hs, hx, hrun, Result.andThen]
  exact hK v' w' r1 r2
theorem mdN {s : Int} (h : 0 ≤ s ∧ s < 256) : IntKind.i64.wrap (1 + (IntKind.i64.wrap s).tmod 5) = 1 + s % 5 := by
  rw [mdw (q := s) ⟨h.1, by omega⟩, Int.tmod_eq_emod_of_nonneg h.1, mdw (by omega)]
set_option maxRecDepth 100000 in
set_option maxHeartbeats 8000000 in
theorem made_any (s : Int) (u : Value) (qs : List Q4) (w : World) (hs : 0 ≤ s ∧ s < 256) (hq : ∀ q ∈ qs, q.ok) (hu : SlQ w u qs) :
    Calls Try.prog 36 #[.agg #[.int .u8 s, u]] w fun e w' => ∃ n v ws, e = .returned (.agg #[.int .i64 n, v]) ∧ SlA w' v ws ∧ Made n ws ∧ Below w.heap.size w w' := by
  obtain ⟨i82, hi82, hz1, hz2, hz3⟩ := info_parts info82
  have HI := Lib.hid (And.intro hi82 (And.intro hz1 (And.intro hz2 hz3)))
  clear hi82 hz1 hz2 hz3
  obtain ⟨ad, cap, rfl, hmx, hcp, hc⟩ := hu
  have HC := Lib.hid hc
  have HQ := Lib.hid hq
  obtain ⟨N, hN⟩ : ∃ N : Nat, (N : Int) = min 9 (qs.length : Int) := ⟨(min 9 (qs.length : Int)).toNat, by omega⟩
  have HN := Lib.hid hN
  clear hc hq hN
  go_enter Try.func36, Try.ntmps36
  refine wp_seq_k (fun K hK => ?_)
  have HK := Lib.hid hK; clear hK
  go_wp2
  refine HK.out _ _ ?_; clear HK K
  generalize hw1 : World.alloc _ _ = w1
  obtain ⟨b1, b2, hB1, hs1⟩ := blk2 hw1
  clear hw1
  have c0 := cell_blk (i := 0) b1
  have c1 := cell_blk (i := 1) b1
  simp only [List.getElem?_toArray, List.getElem?_cons_zero, List.getElem?_cons_succ] at c0 c1
  refine wp_seq_k (fun K hK => ?_)
  have HK := Lib.hid hK; clear hK
  go_wp2
  refine HK.out _ _ ?_; clear HK K
  obtain ⟨n, hn⟩ : ∃ n : Int, n = 1 + s % 5 := ⟨_, rfl⟩
  have hnb : 1 ≤ n ∧ n ≤ 5 := by omega
  rw [← hn]
  clear hn
  generalize hw2 : World.alloc _ _ = w2
  obtain ⟨b3, hB2, hs2⟩ := blk1 hw2
  clear hw2 c0 c1
  replace b1 := blk_keep b1 hB2
  replace b2 := blk_keep b2 hB2
  have hB := hB1.trans (hB2.mono hB1.size)
  clear hB1 hB2
  refine wp_seq_k (fun K hK => ?_)
  have HK := Lib.hid hK; clear hK
  go_wp2
  go_loopw [4] (fun i wr => ∃ (k : Nat) (q : Value) (ws : List Wa), k ≤ N ∧ i = .int .i64 k ∧ ws.length = k ∧ (∀ x ∈ ws, okM n x) ∧ wr.heap[w.heap.size]? = some (.cells #[.int .u8 s, .slice ad qs.length cap] 65 (0, 0)) ∧ wr.heap[w.heap.size + 1]? = some (.cells #[.int .i64 0, .slice none 0 0] 24 (0, 0)) ∧ wr.heap[w1.heap.size]? = some (.cells #[.int .i64 n, q] 24 (0, 0)) ∧ wr.ownsRow w2.heap.size 82 5 q k (ws.flatMap encA) ∧ Below w.heap.size w wr ∧ w2.heap.size ≤ wr.heap.size) (fun i _ => N - (intOf i).toNat)
  case atStart => exact ⟨0, _, [], Nat.zero_le _, rfl, rfl, fun x hx => by simp at hx, b1, b2, b3, World.ownsRow_nil _ _ _ _, hB, Nat.le_refl _⟩
  case round =>
    clear b1 b2 b3 hB
    obtain ⟨k, q, ws, hk, rfl, hwl, hwk, b1, b2, b3, hrow, hB, hsz⟩ := hrel
    have HW := Lib.hid (And.intro hwl hwk)
    clear hwl hwk
    have c1 := cell_blk (i := 1) b1
    simp only [List.getElem?_toArray, List.getElem?_cons_zero, List.getElem?_cons_succ] at c1
    by_cases hkn : k < N
    · have hkq : k < qs.length := by have := HN.out; omega
      have hk9 : (k : Int) < 9 := by have := HN.out; omega
      have hkqi : (k : Int) < (qs.length : Int) := by omega
      have hbw := hB.size
      obtain ⟨aq, cq, rfl⟩ := form_of hrow
      obtain ⟨b, off, rfl, hlt, hcell⟩ := HC.out (by omega)
      obtain ⟨q0, q1, q2, q3⟩ := q_cells hcell (n := k) hkq rfl
      replace q0 := (hB.cell (p := ⟨b, off + k * 4, none⟩) hlt).trans q0
      replace q1 := (hB.cell (p := ⟨b, off + k * 4 + 1, none⟩) hlt).trans q1
      replace q2 := (hB.cell (p := ⟨b, off + k * 4 + 2, none⟩) hlt).trans q2
      replace q3 := (hB.cell (p := ⟨b, off + k * 4 + 3, none⟩) hlt).trans q3
      have hqk := HQ.out _ (List.getElem_mem hkq)
      unfold Q4.ok at hqk
      generalize qs[k].a = qa at *
      generalize qs[k].b = qb at *
      generalize qs[k].c = qc at *
      generalize qs[k].d = qd at *
      clear hcell
      go_wp2
      clear q0 q1 q2 q3 c1 hkq hk9 hkqi
      rename_i K0 hK0
      have HK0 := Lib.hid hK0
      clear hK0
      generalize hw7 : World.alloc _ _ = w7
      obtain ⟨b7, hB7, hs7⟩ := blk1 hw7
      clear hw7
      replace b1 := blk_keep b1 hB7
      replace b2 := blk_keep b2 hB7
      replace b3 := blk_keep b3 hB7
      replace hrow := row_below hrow hB7
      have hsz7 : w2.heap.size ≤ w7.heap.size := Nat.le_trans hsz hB7.size
      replace hB := hB.trans (hB7.mono hbw)
      clear hB7 hbw
      generalize wr.heap.size = n7 at *
      clear wr
      have d30 := cell_blk (i := 0) b3
      simp only [List.getElem?_toArray, List.getElem?_cons_zero] at d30
      have hS0 : w7.drew.cell? ⟨w1.heap.size, 0, none⟩ = some (.int .i64 n) ∧ w7.drew.heap[n7]? = some (.cells #[.int .u8 qa, .int .u8 qb, .int .u8 qc, .int .u8 qd] 87 (0, 0)) := ⟨d30, b7⟩
      replace b1 : w7.drew.heap[w.heap.size]? = _ := b1
      replace b2 : w7.drew.heap[w.heap.size + 1]? = _ := b2
      replace b3 : w7.drew.heap[w1.heap.size]? = _ := b3
      replace hB : Below w.heap.size w w7.drew := hB.drew
      replace hrow : w7.drew.ownsRow w2.heap.size 82 5 (.slice aq k cq) k (ws.flatMap encA) := hrow
      replace hsz7 : w2.heap.size ≤ w7.drew.heap.size := hsz7
      replace hs7 : n7 + 1 ≤ w7.drew.heap.size := hs7
      have hn0 : ¬ n = 0 := by omega
      have HN0 := Lib.hid hn0
      have HNB := Lib.hid hnb
      have hqa := hqk.1
      have hqb := hqk.2.1
      have hqc := hqk.2.2.1
      have hqd := hqk.2.2.2
      clear hn0 d30 b7 hqk
      refine wp_region_held (S := fun U => U.cell? ⟨w1.heap.size, 0, none⟩ = some (.int .i64 n) ∧ U.heap[n7]? = some (.cells #[.int .u8 qa, .int .u8 qb, .int .u8 qc, .int .u8 qd] 87 (0, 0))) (by kernel_rfl) ?_
      change wpAnyH _ _ _ _ _ _ _ _ (World.drew w7)
      generalize World.drew w7 = wq at *
      clear w7
      refine wpAnyH_take (i := 0) (oi := { dst := some 33, op := _, type := _, pos := _, after := _, guard := _ }) (v := ?_) rfl (by kernel_rfl) (by kernel_rfl) (by kernel_rfl) (fun _ _ _ h => h) (Or.inl ⟨by rfl, ?_⟩) hS0 ?_
      rotate_left
      · intro U hU
        go_simp
        all_goals with_reducible rfl
      simp only [Act.put, List.setIfInBounds_toArray, List.set_cons_zero, List.set_cons_succ]
      refine wpAnyH_take (i := 2) (oi := { dst := some 35, op := _, type := _, pos := _, after := _, guard := _ }) (v := ?_) rfl (by kernel_rfl) (by kernel_rfl) (by kernel_rfl) (fun _ _ _ h => h) (Or.inl ⟨by rfl, ?_⟩) hS0 ?_
      rotate_left
      · intro U hU
        go_simp
        all_goals with_reducible rfl
      simp only [Act.put, List.setIfInBounds_toArray, List.set_cons_zero, List.set_cons_succ]
      refine wpAnyH_take (i := 3) (oi := { dst := some 36, op := _, type := _, pos := _, after := _, guard := _ }) (v := ?_) rfl (by kernel_rfl) (by kernel_rfl) (by kernel_rfl) (fun _ _ _ h => h) (Or.inl ⟨by rfl, ?_⟩) hS0 ?_
      rotate_left
      · intro U hU
        have hU0 := cell_blk (i := 0) hU.2
        simp only [List.getElem?_toArray, List.getElem?_cons_zero] at hU0
        go_simp
        all_goals with_reducible rfl
      simp only [Act.put, List.setIfInBounds_toArray, List.set_cons_zero, List.set_cons_succ]
      refine wpAnyH_take (i := 4) (oi := { dst := some 37, op := _, type := _, pos := _, after := _, guard := _ }) (v := ?_) rfl (by kernel_rfl) (by kernel_rfl) (by kernel_rfl) (fun _ _ _ h => h) (Or.inl ⟨by rfl, ?_⟩) hS0 ?_
      rotate_left
      · intro U hU
        go_simp
        all_goals with_reducible rfl
      simp only [Act.put, List.setIfInBounds_toArray, List.set_cons_zero, List.set_cons_succ]
      refine wpAnyH_take (i := 5) (oi := { dst := some 38, op := _, type := _, pos := _, after := _, guard := _ }) (v := ?_) rfl (by kernel_rfl) (by kernel_rfl) (by kernel_rfl) (fun _ _ _ h => h) (Or.inl ⟨by rfl, ?_⟩) hS0 ?_
      rotate_left
      · intro U hU
        go_simp
        all_goals with_reducible rfl
      simp only [Act.put, List.setIfInBounds_toArray, List.set_cons_zero, List.set_cons_succ]
      refine wpAnyH_take (i := 6) (oi := { dst := some 39, op := _, type := _, pos := _, after := _, guard := _ }) (v := ?_) rfl (by kernel_rfl) (by kernel_rfl) (by kernel_rfl) (fun _ _ _ h => h) (Or.inl ⟨by rfl, ?_⟩) hS0 ?_
      rotate_left
      · intro U hU
        have hU0 := hU.1
        go_simp
        all_goals with_reducible rfl
      simp only [Act.put, List.setIfInBounds_toArray, List.set_cons_zero, List.set_cons_succ]
      refine wpAnyH_take (i := 7) (oi := { dst := some 40, op := _, type := _, pos := _, after := _, guard := _ }) (v := ?_) rfl (by kernel_rfl) (by kernel_rfl) (by kernel_rfl) (fun _ _ _ h => h) (Or.inl ⟨by rfl, ?_⟩) hS0 ?_
      rotate_left
      · intro U hU
        go_simp
        rw [if_neg HN0.out]
        all_goals with_reducible rfl
      simp only [Act.put, List.setIfInBounds_toArray, List.set_cons_zero, List.set_cons_succ]
      refine wpAnyH_take (i := 8) (oi := { dst := some 41, op := _, type := _, pos := _, after := _, guard := _ }) (v := ?_) rfl (by kernel_rfl) (by kernel_rfl) (by kernel_rfl) (fun _ _ _ h => h) (Or.inl ⟨by rfl, ?_⟩) hS0 ?_
      rotate_left
      · intro U hU
        go_simp
        all_goals with_reducible rfl
      simp only [Act.put, List.setIfInBounds_toArray, List.set_cons_zero, List.set_cons_succ]
      refine wpAnyH_take (i := 9) (oi := { dst := some 42, op := _, type := _, pos := _, after := _, guard := _ }) (v := ?_) rfl (by kernel_rfl) (by kernel_rfl) (by kernel_rfl) (fun _ _ _ h => h) (Or.inl ⟨by rfl, ?_⟩) hS0 ?_
      rotate_left
      · intro U hU
        have hU0 := cell_blk (i := 1) hU.2
        simp only [List.getElem?_toArray, List.getElem?_cons_zero, List.getElem?_cons_succ] at hU0
        go_simp
        all_goals with_reducible rfl
      simp only [Act.put, List.setIfInBounds_toArray, List.set_cons_zero, List.set_cons_succ]
      refine wpAnyH_take (i := 10) (oi := { dst := some 43, op := _, type := _, pos := _, after := _, guard := _ }) (v := ?_) rfl (by kernel_rfl) (by kernel_rfl) (by kernel_rfl) (fun _ _ _ h => h) (Or.inl ⟨by rfl, ?_⟩) hS0 ?_
      rotate_left
      · intro U hU
        go_simp
        all_goals with_reducible rfl
      simp only [Act.put, List.setIfInBounds_toArray, List.set_cons_zero, List.set_cons_succ]
      refine wpAnyH_take (i := 11) (oi := { dst := some 44, op := _, type := _, pos := _, after := _, guard := _ }) (v := ?_) rfl (by kernel_rfl) (by kernel_rfl) (by kernel_rfl) (fun _ _ _ h => h) (Or.inl ⟨by rfl, ?_⟩) hS0 ?_
      rotate_left
      · intro U hU
        go_simp
        all_goals with_reducible rfl
      simp only [Act.put, List.setIfInBounds_toArray, List.set_cons_zero, List.set_cons_succ]
      refine wpAnyH_take (i := 12) (oi := { dst := some 45, op := _, type := _, pos := _, after := _, guard := _ }) (v := ?_) rfl (by kernel_rfl) (by kernel_rfl) (by kernel_rfl) (fun _ _ _ h => h) (Or.inl ⟨by rfl, ?_⟩) hS0 ?_
      rotate_left
      · intro U hU
        have hU0 := hU.1
        go_simp
        all_goals with_reducible rfl
      simp only [Act.put, List.setIfInBounds_toArray, List.set_cons_zero, List.set_cons_succ]
      refine wpAnyH_take (i := 13) (oi := { dst := some 46, op := _, type := _, pos := _, after := _, guard := _ }) (v := ?_) rfl (by kernel_rfl) (by kernel_rfl) (by kernel_rfl) (fun _ _ _ h => h) (Or.inl ⟨by rfl, ?_⟩) hS0 ?_
      rotate_left
      · intro U hU
        go_simp
        rw [if_neg HN0.out]
        all_goals with_reducible rfl
      simp only [Act.put, List.setIfInBounds_toArray, List.set_cons_zero, List.set_cons_succ]
      refine wpAnyH_take (i := 14) (oi := { dst := some 47, op := _, type := _, pos := _, after := _, guard := _ }) (v := ?_) rfl (by kernel_rfl) (by kernel_rfl) (by kernel_rfl) (fun _ _ _ h => h) (Or.inl ⟨by rfl, ?_⟩) hS0 ?_
      rotate_left
      · intro U hU
        go_simp
        all_goals with_reducible rfl
      simp only [Act.put, List.setIfInBounds_toArray, List.set_cons_zero, List.set_cons_succ]
      refine wpAnyH_take (i := 15) (oi := { dst := some 48, op := _, type := _, pos := _, after := _, guard := _ }) (v := ?_) rfl (by kernel_rfl) (by kernel_rfl) (by kernel_rfl) (fun _ _ _ h => h) (Or.inl ⟨by rfl, ?_⟩) hS0 ?_
      rotate_left
      · intro U hU
        go_simp
        all_goals with_reducible rfl
      simp only [Act.put, List.setIfInBounds_toArray, List.set_cons_zero, List.set_cons_succ]
      refine wpAnyH_take (i := 16) (oi := { dst := some 49, op := _, type := _, pos := _, after := _, guard := _ }) (v := ?_) rfl (by kernel_rfl) (by kernel_rfl) (by kernel_rfl) (fun _ _ _ h => h) (Or.inl ⟨by rfl, ?_⟩) hS0 ?_
      rotate_left
      · intro U hU
        go_simp
        all_goals with_reducible rfl
      simp only [Act.put, List.setIfInBounds_toArray, List.set_cons_zero, List.set_cons_succ]
      refine wpAnyH_take (i := 17) (oi := { dst := some 50, op := _, type := _, pos := _, after := _, guard := _ }) (v := ?_) rfl (by kernel_rfl) (by kernel_rfl) (by kernel_rfl) (fun _ _ _ h => h) (Or.inl ⟨by rfl, ?_⟩) hS0 ?_
      rotate_left
      · intro U hU
        have hU0 := cell_blk (i := 2) hU.2
        simp only [List.getElem?_toArray, List.getElem?_cons_zero, List.getElem?_cons_succ] at hU0
        go_simp
        all_goals with_reducible rfl
      simp only [Act.put, List.setIfInBounds_toArray, List.set_cons_zero, List.set_cons_succ]
      refine wpAnyH_take (i := 18) (oi := { dst := some 51, op := _, type := _, pos := _, after := _, guard := _ }) (v := ?_) rfl (by kernel_rfl) (by kernel_rfl) (by kernel_rfl) (fun _ _ _ h => h) (Or.inl ⟨by rfl, ?_⟩) hS0 ?_
      rotate_left
      · intro U hU
        go_simp
        all_goals with_reducible rfl
      simp only [Act.put, List.setIfInBounds_toArray, List.set_cons_zero, List.set_cons_succ]
      refine wpAnyH_take (i := 19) (oi := { dst := some 52, op := _, type := _, pos := _, after := _, guard := _ }) (v := ?_) rfl (by kernel_rfl) (by kernel_rfl) (by kernel_rfl) (fun _ _ _ h => h) (Or.inl ⟨by rfl, ?_⟩) hS0 ?_
      rotate_left
      · intro U hU
        go_simp
        all_goals with_reducible rfl
      simp only [Act.put, List.setIfInBounds_toArray, List.set_cons_zero, List.set_cons_succ]
      refine wpAnyH_take (i := 20) (oi := { dst := some 53, op := _, type := _, pos := _, after := _, guard := _ }) (v := ?_) rfl (by kernel_rfl) (by kernel_rfl) (by kernel_rfl) (fun _ _ _ h => h) (Or.inl ⟨by rfl, ?_⟩) hS0 ?_
      rotate_left
      · intro U hU
        go_simp
        all_goals with_reducible rfl
      simp only [Act.put, List.setIfInBounds_toArray, List.set_cons_zero, List.set_cons_succ]
      refine wpAnyH_take (i := 21) (oi := { dst := some 54, op := _, type := _, pos := _, after := _, guard := _ }) (v := ?_) rfl (by kernel_rfl) (by kernel_rfl) (by kernel_rfl) (fun _ _ _ h => h) (Or.inl ⟨by rfl, ?_⟩) hS0 ?_
      rotate_left
      · intro U hU
        go_simp
        all_goals with_reducible rfl
      simp only [Act.put, List.setIfInBounds_toArray, List.set_cons_zero, List.set_cons_succ]
      refine wpAnyH_take (i := 23) (oi := { dst := some 56, op := _, type := _, pos := _, after := _, guard := _ }) (v := ?_) rfl (by kernel_rfl) (by kernel_rfl) (by kernel_rfl) (fun _ _ _ h => h) (Or.inl ⟨by rfl, ?_⟩) hS0 ?_
      rotate_left
      · intro U hU
        go_simp
        all_goals with_reducible rfl
      simp only [Act.put, List.setIfInBounds_toArray, List.set_cons_zero, List.set_cons_succ]
      refine wpAnyH_take (i := 24) (oi := { dst := some 57, op := _, type := _, pos := _, after := _, guard := _ }) (v := ?_) rfl (by kernel_rfl) (by kernel_rfl) (by kernel_rfl) (fun _ _ _ h => h) (Or.inl ⟨by rfl, ?_⟩) hS0 ?_
      rotate_left
      · intro U hU
        have hU0 := cell_blk (i := 3) hU.2
        simp only [List.getElem?_toArray, List.getElem?_cons_zero, List.getElem?_cons_succ] at hU0
        go_simp
        all_goals with_reducible rfl
      simp only [Act.put, List.setIfInBounds_toArray, List.set_cons_zero, List.set_cons_succ]
      refine wpAnyH_take (i := 25) (oi := { dst := some 58, op := _, type := _, pos := _, after := _, guard := _ }) (v := ?_) rfl (by kernel_rfl) (by kernel_rfl) (by kernel_rfl) (fun _ _ _ h => h) (Or.inl ⟨by rfl, ?_⟩) hS0 ?_
      rotate_left
      · intro U hU
        go_simp
        all_goals with_reducible rfl
      simp only [Act.put, List.setIfInBounds_toArray, List.set_cons_zero, List.set_cons_succ]
      refine wpAnyH_take (i := 26) (oi := { dst := some 59, op := _, type := _, pos := _, after := _, guard := _ }) (v := ?_) rfl (by kernel_rfl) (by kernel_rfl) (by kernel_rfl) (fun _ _ _ h => h) (Or.inl ⟨by rfl, ?_⟩) hS0 ?_
      rotate_left
      · intro U hU
        go_simp
        all_goals with_reducible rfl
      simp only [Act.put, List.setIfInBounds_toArray, List.set_cons_zero, List.set_cons_succ]
      have hX := md_ok HNB.out hqa hqb hqc hqd
      generalize (IntKind.i64.wrap qa).tmod n = x0 at *
      generalize (IntKind.i64.wrap qb).tmod n = x1 at *
      generalize IntKind.i64.wrap (qc % 64 + IntKind.i64.wrap (IntKind.i64.wrap ((IntKind.i64.wrap qc).tdiv 64) * 7)) = x3 at *
      generalize qc % 64 = x2 at *
      generalize (IntKind.i64.wrap qd).tmod 4 = x4 at *
      have HX := Lib.hid hX
      clear hX hqa hqb hqc hqd
      refine wpAnyH_ready (rs := [1, 22]) (by kernel_rfl) (by simp) ?_
      refine AllReadyH.cons (o := { dst := some 34, op := _, type := _, pos := _, after := _, guard := _ }) rfl (fun K1 hK1 => ?_) ?_
      · have HK1 := Lib.hid hK1; clear hK1
        rw [if_pos (by rfl)]
        have e31 := cell_blk (i := 1) b3
        simp only [List.getElem?_toArray, List.getElem?_cons_zero, List.getElem?_cons_succ] at e31
        go_simp
        clear e31
        refine HK1.out _ _ hS0 ?_
        clear HK1 K1
        intro _
        try simp only [Act.put, List.setIfInBounds_toArray, List.set_cons_zero, List.set_cons_succ]
        refine wpAnyH_one (i := 22) (o := { dst := some 55, op := _, type := _, pos := _, after := _, guard := _ }) (by kernel_rfl) rfl (by rfl) (fun K1 hK1 => ?_)
        have HK1 := Lib.hid hK1; clear hK1
        go_simp
        refine (span_any _ _ _).mono ?_
        rintro e wn ⟨rfl, hbn⟩
        replace b1 := blk_keep b1 hbn
        replace b2 := blk_keep b2 hbn
        have hlt3 := lt_blk b3
        replace b3 := blk_keep b3 hbn
        replace hrow := row_below hrow hbn
        replace hsz7 := Nat.le_trans hsz7 hbn.size
        replace hs7 := Nat.le_trans hs7 hbn.size
        replace hB := btr hB hbn (Nat.le_refl _)
        have hS1 := And.intro ((hbn.cell (p := ⟨w1.heap.size, 0, none⟩) hlt3).trans hS0.1) (blk_keep hS0.2 hbn)
        clear hS0
        have hS0 := hS1
        clear hS1
        clear hbn hlt3
        refine HK1.out _ _ hS0 ?_
        clear HK1 K1
        try simp only [Act.put, List.setIfInBounds_toArray, List.set_cons_zero, List.set_cons_succ]
        refine wpAnyH_take (i := 27) (oi := { dst := some 60, op := _, type := _, pos := _, after := _, guard := _ }) (v := ?_) rfl (by kernel_rfl) (by kernel_rfl) (by kernel_rfl) (fun _ _ _ h => h) (Or.inl ⟨by rfl, ?_⟩) hS0 ?_
        rotate_left
        · intro U hU
          go_simp
          all_goals with_reducible rfl
        simp only [Act.put, List.setIfInBounds_toArray, List.set_cons_zero, List.set_cons_succ]
        refine wpAnyH_one (i := 28) (o := { dst := some 61, op := _, type := _, pos := _, after := _, guard := _ }) (by kernel_rfl) rfl (by rfl) (fun K1 hK1 => ?_)
        have HK1 := Lib.hid hK1; clear hK1
        go_simp
        have hbn : Below wn.heap.size wn (wn.alloc (.cells #[.int .i64 x0, .int .i64 x1, .int .i64 x2, .int .i64 x3, .int .i64 x4] 82)) := (Below.refl _ _).alloc (Nat.le_refl _) _
        have hrow0 := hrow
        have b10 := b1
        have b20 := b2
        have b30 := b3
        have hS00 := hS0
        have hB0 := hB
        replace b1 := blk_keep b1 hbn
        replace b2 := blk_keep b2 hbn
        have hlt3 := lt_blk b3
        replace b3 := blk_keep b3 hbn
        replace hrow := row_below hrow hbn
        replace hsz7 := Nat.le_trans hsz7 hbn.size
        replace hs7 := Nat.le_trans hs7 hbn.size
        replace hB := btr hB hbn (Nat.le_refl _)
        have hS1 := And.intro ((hbn.cell (p := ⟨w1.heap.size, 0, none⟩) hlt3).trans hS0.1) (blk_keep hS0.2 hbn)
        clear hS0
        have hS0 := hS1
        clear hS1
        clear hbn hlt3
        refine HK1.out _ _ hS0 ?_
        clear HK1 K1
        try simp only [Act.put, List.setIfInBounds_toArray, List.set_cons_zero, List.set_cons_succ]
        have hcN := cell_newL (W := wn) (xs := [.int .i64 x0, .int .i64 x1, .int .i64 x2, .int .i64 x3, .int .i64 x4]) (t := 82) rfl
        change ∀ j u, _ → (wn.alloc (.cells #[.int .i64 x0, .int .i64 x1, .int .i64 x2, .int .i64 x3, .int .i64 x4] 82)).cell? _ = _ at hcN
        have hwl := HW.out.1
        have hk9 : k < 9 := by have := HN.out; omega
        refine wpAnyH_one (i := 29) (o := { dst := some 62, op := _, type := _, pos := _, after := _, guard := _ }) (by kernel_rfl) rfl (by rfl) (fun K1 hK1 => ?_)
        have HK1 := Lib.hid hK1; clear hK1
        refine oper_append_own _ _ 22 rfl w2.heap.size 82 i82 (.agg #[.int .i64 0, .int .i64 0, .int .i64 0, .int .i64 0, .int .i64 0]) 5 40 Try.underlying22 HI.out.1 HI.out.2.1 HI.out.2.2.1 HI.out.2.2.2 rfl (by decide) _ _ _ rfl hrow ⟨wn.heap.size, 0, none⟩ 1 1 [.int .i64 x0, .int .i64 x1, .int .i64 x2, .int .i64 x3, .int .i64 x4] rfl rfl hcN (by simp [Value.oneCell']) (Nat.le_trans (by omega : k + 1 ≤ 50) (by decide)) (by omega) hsz7 ?_
        intro v6 w6 g1 g2
        obtain ⟨a6, c6, rfl⟩ := form_of g1
        obtain ⟨hk6, hs6, ee1, ee2, ee3⟩ := append_same1 hrow0 g2
        have d1 := (hk6 w.heap.size (lt_blk b10) (own_ne hrow0 b10 (by decide))).trans b10
        have d2 := (hk6 (w.heap.size + 1) (lt_blk b20) (own_ne hrow0 b20 (by decide))).trans b20
        have d3 := (hk6 w1.heap.size (lt_blk b30) (own_ne hrow0 b30 (by decide))).trans b30
        have d7 := (hk6 n7 (lt_blk hS00.2) (own_ne hrow0 hS00.2 (by decide))).trans hS00.2
        have hbs := hB0.size
        have hB6 : Below w.heap.size w w6 := ⟨ee1.trans hB0.os, ee2.trans hB0.tape, ee3.trans hB0.output, by omega, fun b hb => (hk6 b (by omega) (fun eg => by have := (hrow0.lt b eg).1; omega)).trans (hB0.block b hb)⟩
        have e30 := cell_blk (i := 0) d3
        have e31 := cell_blk (i := 1) d3
        have e3f := free_blk (i := 1) d3
        simp only [List.getElem?_toArray, List.getElem?_cons_zero, List.getElem?_cons_succ] at e30 e31
        have hS6 : w6.cell? ⟨w1.heap.size, 0, none⟩ = some (.int .i64 n) ∧ w6.heap[n7]? = some (.cells #[.int .u8 qa, .int .u8 qb, .int .u8 qc, .int .u8 qd] 87 (0, 0)) := ⟨e30, d7⟩
        refine HK1.out _ _ hS6 ?_
        clear HK1 K1 hS0
        have hS0 := hS6
        clear b10 b20 b30 hS00 hB0 b1 b2 b3 hB hrow hcN
        try simp only [Act.put, List.setIfInBounds_toArray, List.set_cons_zero, List.set_cons_succ]
        refine wpAnyH_take (i := 30) (oi := { dst := some 63, op := _, type := _, pos := _, after := _, guard := _ }) (v := ?_) rfl (by kernel_rfl) (by kernel_rfl) (by kernel_rfl) (fun _ _ _ h => h) (Or.inl ⟨by rfl, ?_⟩) hS0 ?_
        rotate_left
        · intro U hU
          go_simp
          all_goals with_reducible rfl
        simp only [Act.put, List.setIfInBounds_toArray, List.set_cons_zero, List.set_cons_succ]
        refine wpAnyH_one (i := 31) (o := { dst := none, op := _, type := _, pos := _, after := _, guard := _ }) (by kernel_rfl) rfl (by rfl) (fun K1 hK1 => ?_)
        have HK1 := Lib.hid hK1; clear hK1
        go_simp
        have f3 : (w6.setCell ⟨w1.heap.size, 1, none⟩ (.slice a6 (k + 1) c6)).heap[w1.heap.size]? = some (.cells #[.int .i64 n, .slice a6 (k + 1) c6] 24 (0, 0)) := (heap_set_blk d3).trans rfl
        have hne7 : n7 ≠ w1.heap.size := by omega
        have f7 : (w6.setCell ⟨w1.heap.size, 1, none⟩ (.slice a6 (k + 1) c6)).heap[n7]? = _ := (heap_set_other hne7).trans d7
        have f30 := cell_blk (i := 0) f3
        simp only [List.getElem?_toArray, List.getElem?_cons_zero] at f30
        refine HK1.out _ _ ⟨f30, f7⟩ ?_
        clear HK1 K1
        have f1 := (heap_set_other (v := (.slice a6 (k + 1) c6)) (b' := w1.heap.size) (i := 1) (show w.heap.size ≠ w1.heap.size by omega)).trans d1
        have f2 := (heap_set_other (v := (.slice a6 (k + 1) c6)) (b' := w1.heap.size) (i := 1) (show w.heap.size + 1 ≠ w1.heap.size by omega)).trans d2
        have f4 := row_set_other (b := w1.heap.size) (i := 1) (x := (.slice a6 (k + 1) c6)) g1 (own_ne g1 d3 (by decide))
        have f5 := hB6.setCell (p := ⟨w1.heap.size, 1, none⟩) (show w.heap.size ≤ w1.heap.size by omega) (.slice a6 (k + 1) c6)
        have f6 : w2.heap.size ≤ (w6.setCell ⟨w1.heap.size, 1, none⟩ (.slice a6 (k + 1) c6)).heap.size := by rw [World.size_setCell]; have := hsz7; rw [World.size_alloc] at this; omega
        have f8 : (ws ++ [Wa.mk x0 x1 x2 x3 x4]).flatMap encA = ws.flatMap encA ++ [.int .i64 x0, .int .i64 x1, .int .i64 x2, .int .i64 x3, .int .i64 x4] := by rw [List.flatMap_append]; rfl
        rw [← f8] at f4
        refine wpAnyH_done (by kernel_rfl) ?_ _
        simp only [Exit.then, Exit.inBlock]
        refine HK0.out _ _ ?_
        clear HK0 d1 d2 d3 d7 g1 g2 hk6 e30 e31 e3f f30 f7 f8 hS0 hS6
        generalize World.setCell _ _ _ = w8 at *
        go_wp2
        go_roundw
        case rel =>
          refine ⟨k + 1, _, ws ++ [Wa.mk x0 x1 x2 x3 x4], by omega, by go_num, by rw [List.length_append, HW.out.1]; rfl, fun z hz => ?_, f1, f2, f3, f4, f5, f6⟩
          rcases List.mem_append.1 hz with h | h
          · exact HW.out.2 z h
          · simp at h; subst h; exact HX.out
        case measure => simp [intOf]; omega
      refine AllReadyH.cons (o := { dst := some 55, op := _, type := _, pos := _, after := _, guard := _ }) rfl (fun K1 hK1 => ?_) ?_
      · have HK1 := Lib.hid hK1; clear hK1
        rw [if_pos (by rfl)]
        go_simp
        refine (span_any _ _ _).mono ?_
        rintro e wn ⟨rfl, hbn⟩
        replace b1 := blk_keep b1 hbn
        replace b2 := blk_keep b2 hbn
        have hlt3 := lt_blk b3
        replace b3 := blk_keep b3 hbn
        replace hrow := row_below hrow hbn
        replace hsz7 := Nat.le_trans hsz7 hbn.size
        replace hs7 := Nat.le_trans hs7 hbn.size
        replace hB := btr hB hbn (Nat.le_refl _)
        have hS1 := And.intro ((hbn.cell (p := ⟨w1.heap.size, 0, none⟩) hlt3).trans hS0.1) (blk_keep hS0.2 hbn)
        clear hS0
        have hS0 := hS1
        clear hS1
        clear hbn hlt3
        refine HK1.out _ _ hS0 ?_
        clear HK1 K1
        intro _
        try simp only [Act.put, List.setIfInBounds_toArray, List.set_cons_zero, List.set_cons_succ]
        refine wpAnyH_take (i := 27) (oi := { dst := some 60, op := _, type := _, pos := _, after := _, guard := _ }) (v := ?_) rfl (by kernel_rfl) (by kernel_rfl) (by kernel_rfl) (fun _ _ _ h => h) (Or.inl ⟨by rfl, ?_⟩) hS0 ?_
        rotate_left
        · intro U hU
          go_simp
          all_goals with_reducible rfl
        simp only [Act.put, List.setIfInBounds_toArray, List.set_cons_zero, List.set_cons_succ]
        refine wpAnyH_ready (rs := [1, 28]) (by kernel_rfl) (by simp) ?_
        refine AllReadyH.cons (o := { dst := some 34, op := _, type := _, pos := _, after := _, guard := _ }) rfl (fun K1 hK1 => ?_) ?_
        · have HK1 := Lib.hid hK1; clear hK1
          rw [if_pos (by rfl)]
          have e31 := cell_blk (i := 1) b3
          simp only [List.getElem?_toArray, List.getElem?_cons_zero, List.getElem?_cons_succ] at e31
          go_simp
          clear e31
          refine HK1.out _ _ hS0 ?_
          clear HK1 K1
          intro _
          try simp only [Act.put, List.setIfInBounds_toArray, List.set_cons_zero, List.set_cons_succ]
          refine wpAnyH_one (i := 28) (o := { dst := some 61, op := _, type := _, pos := _, after := _, guard := _ }) (by kernel_rfl) rfl (by rfl) (fun K1 hK1 => ?_)
          have HK1 := Lib.hid hK1; clear hK1
          go_simp
          have hbn : Below wn.heap.size wn (wn.alloc (.cells #[.int .i64 x0, .int .i64 x1, .int .i64 x2, .int .i64 x3, .int .i64 x4] 82)) := (Below.refl _ _).alloc (Nat.le_refl _) _
          have hrow0 := hrow
          have b10 := b1
          have b20 := b2
          have b30 := b3
          have hS00 := hS0
          have hB0 := hB
          replace b1 := blk_keep b1 hbn
          replace b2 := blk_keep b2 hbn
          have hlt3 := lt_blk b3
          replace b3 := blk_keep b3 hbn
          replace hrow := row_below hrow hbn
          replace hsz7 := Nat.le_trans hsz7 hbn.size
          replace hs7 := Nat.le_trans hs7 hbn.size
          replace hB := btr hB hbn (Nat.le_refl _)
          have hS1 := And.intro ((hbn.cell (p := ⟨w1.heap.size, 0, none⟩) hlt3).trans hS0.1) (blk_keep hS0.2 hbn)
          clear hS0
          have hS0 := hS1
          clear hS1
          clear hbn hlt3
          refine HK1.out _ _ hS0 ?_
          clear HK1 K1
          try simp only [Act.put, List.setIfInBounds_toArray, List.set_cons_zero, List.set_cons_succ]
          have hcN := cell_newL (W := wn) (xs := [.int .i64 x0, .int .i64 x1, .int .i64 x2, .int .i64 x3, .int .i64 x4]) (t := 82) rfl
          change ∀ j u, _ → (wn.alloc (.cells #[.int .i64 x0, .int .i64 x1, .int .i64 x2, .int .i64 x3, .int .i64 x4] 82)).cell? _ = _ at hcN
          have hwl := HW.out.1
          have hk9 : k < 9 := by have := HN.out; omega
          refine wpAnyH_one (i := 29) (o := { dst := some 62, op := _, type := _, pos := _, after := _, guard := _ }) (by kernel_rfl) rfl (by rfl) (fun K1 hK1 => ?_)
          have HK1 := Lib.hid hK1; clear hK1
          refine oper_append_own _ _ 22 rfl w2.heap.size 82 i82 (.agg #[.int .i64 0, .int .i64 0, .int .i64 0, .int .i64 0, .int .i64 0]) 5 40 Try.underlying22 HI.out.1 HI.out.2.1 HI.out.2.2.1 HI.out.2.2.2 rfl (by decide) _ _ _ rfl hrow ⟨wn.heap.size, 0, none⟩ 1 1 [.int .i64 x0, .int .i64 x1, .int .i64 x2, .int .i64 x3, .int .i64 x4] rfl rfl hcN (by simp [Value.oneCell']) (Nat.le_trans (by omega : k + 1 ≤ 50) (by decide)) (by omega) hsz7 ?_
          intro v6 w6 g1 g2
          obtain ⟨a6, c6, rfl⟩ := form_of g1
          obtain ⟨hk6, hs6, ee1, ee2, ee3⟩ := append_same1 hrow0 g2
          have d1 := (hk6 w.heap.size (lt_blk b10) (own_ne hrow0 b10 (by decide))).trans b10
          have d2 := (hk6 (w.heap.size + 1) (lt_blk b20) (own_ne hrow0 b20 (by decide))).trans b20
          have d3 := (hk6 w1.heap.size (lt_blk b30) (own_ne hrow0 b30 (by decide))).trans b30
          have d7 := (hk6 n7 (lt_blk hS00.2) (own_ne hrow0 hS00.2 (by decide))).trans hS00.2
          have hbs := hB0.size
          have hB6 : Below w.heap.size w w6 := ⟨ee1.trans hB0.os, ee2.trans hB0.tape, ee3.trans hB0.output, by omega, fun b hb => (hk6 b (by omega) (fun eg => by have := (hrow0.lt b eg).1; omega)).trans (hB0.block b hb)⟩
          have e30 := cell_blk (i := 0) d3
          have e31 := cell_blk (i := 1) d3
          have e3f := free_blk (i := 1) d3
          simp only [List.getElem?_toArray, List.getElem?_cons_zero, List.getElem?_cons_succ] at e30 e31
          have hS6 : w6.cell? ⟨w1.heap.size, 0, none⟩ = some (.int .i64 n) ∧ w6.heap[n7]? = some (.cells #[.int .u8 qa, .int .u8 qb, .int .u8 qc, .int .u8 qd] 87 (0, 0)) := ⟨e30, d7⟩
          refine HK1.out _ _ hS6 ?_
          clear HK1 K1 hS0
          have hS0 := hS6
          clear b10 b20 b30 hS00 hB0 b1 b2 b3 hB hrow hcN
          try simp only [Act.put, List.setIfInBounds_toArray, List.set_cons_zero, List.set_cons_succ]
          refine wpAnyH_take (i := 30) (oi := { dst := some 63, op := _, type := _, pos := _, after := _, guard := _ }) (v := ?_) rfl (by kernel_rfl) (by kernel_rfl) (by kernel_rfl) (fun _ _ _ h => h) (Or.inl ⟨by rfl, ?_⟩) hS0 ?_
          rotate_left
          · intro U hU
            go_simp
            all_goals with_reducible rfl
          simp only [Act.put, List.setIfInBounds_toArray, List.set_cons_zero, List.set_cons_succ]
          refine wpAnyH_one (i := 31) (o := { dst := none, op := _, type := _, pos := _, after := _, guard := _ }) (by kernel_rfl) rfl (by rfl) (fun K1 hK1 => ?_)
          have HK1 := Lib.hid hK1; clear hK1
          go_simp
          have f3 : (w6.setCell ⟨w1.heap.size, 1, none⟩ (.slice a6 (k + 1) c6)).heap[w1.heap.size]? = some (.cells #[.int .i64 n, .slice a6 (k + 1) c6] 24 (0, 0)) := (heap_set_blk d3).trans rfl
          have hne7 : n7 ≠ w1.heap.size := by omega
          have f7 : (w6.setCell ⟨w1.heap.size, 1, none⟩ (.slice a6 (k + 1) c6)).heap[n7]? = _ := (heap_set_other hne7).trans d7
          have f30 := cell_blk (i := 0) f3
          simp only [List.getElem?_toArray, List.getElem?_cons_zero] at f30
          refine HK1.out _ _ ⟨f30, f7⟩ ?_
          clear HK1 K1
          have f1 := (heap_set_other (v := (.slice a6 (k + 1) c6)) (b' := w1.heap.size) (i := 1) (show w.heap.size ≠ w1.heap.size by omega)).trans d1
          have f2 := (heap_set_other (v := (.slice a6 (k + 1) c6)) (b' := w1.heap.size) (i := 1) (show w.heap.size + 1 ≠ w1.heap.size by omega)).trans d2
          have f4 := row_set_other (b := w1.heap.size) (i := 1) (x := (.slice a6 (k + 1) c6)) g1 (own_ne g1 d3 (by decide))
          have f5 := hB6.setCell (p := ⟨w1.heap.size, 1, none⟩) (show w.heap.size ≤ w1.heap.size by omega) (.slice a6 (k + 1) c6)
          have f6 : w2.heap.size ≤ (w6.setCell ⟨w1.heap.size, 1, none⟩ (.slice a6 (k + 1) c6)).heap.size := by rw [World.size_setCell]; have := hsz7; rw [World.size_alloc] at this; omega
          have f8 : (ws ++ [Wa.mk x0 x1 x2 x3 x4]).flatMap encA = ws.flatMap encA ++ [.int .i64 x0, .int .i64 x1, .int .i64 x2, .int .i64 x3, .int .i64 x4] := by rw [List.flatMap_append]; rfl
          rw [← f8] at f4
          refine wpAnyH_done (by kernel_rfl) ?_ _
          simp only [Exit.then, Exit.inBlock]
          refine HK0.out _ _ ?_
          clear HK0 d1 d2 d3 d7 g1 g2 hk6 e30 e31 e3f f30 f7 f8 hS0 hS6
          generalize World.setCell _ _ _ = w8 at *
          go_wp2
          go_roundw
          case rel =>
            refine ⟨k + 1, _, ws ++ [Wa.mk x0 x1 x2 x3 x4], by omega, by go_num, by rw [List.length_append, HW.out.1]; rfl, fun z hz => ?_, f1, f2, f3, f4, f5, f6⟩
            rcases List.mem_append.1 hz with h | h
            · exact HW.out.2 z h
            · simp at h; subst h; exact HX.out
          case measure => simp [intOf]; omega
        refine AllReadyH.cons (o := { dst := some 61, op := _, type := _, pos := _, after := _, guard := _ }) rfl (fun K1 hK1 => ?_) ?_
        · have HK1 := Lib.hid hK1; clear hK1
          rw [if_pos (by rfl)]
          go_simp
          have hbn : Below wn.heap.size wn (wn.alloc (.cells #[.int .i64 x0, .int .i64 x1, .int .i64 x2, .int .i64 x3, .int .i64 x4] 82)) := (Below.refl _ _).alloc (Nat.le_refl _) _
          have hrow0 := hrow
          have b10 := b1
          have b20 := b2
          have b30 := b3
          have hS00 := hS0
          have hB0 := hB
          replace b1 := blk_keep b1 hbn
          replace b2 := blk_keep b2 hbn
          have hlt3 := lt_blk b3
          replace b3 := blk_keep b3 hbn
          replace hrow := row_below hrow hbn
          replace hsz7 := Nat.le_trans hsz7 hbn.size
          replace hs7 := Nat.le_trans hs7 hbn.size
          replace hB := btr hB hbn (Nat.le_refl _)
          have hS1 := And.intro ((hbn.cell (p := ⟨w1.heap.size, 0, none⟩) hlt3).trans hS0.1) (blk_keep hS0.2 hbn)
          clear hS0
          have hS0 := hS1
          clear hS1
          clear hbn hlt3
          refine HK1.out _ _ hS0 ?_
          clear HK1 K1
          intro _
          try simp only [Act.put, List.setIfInBounds_toArray, List.set_cons_zero, List.set_cons_succ]
          refine wpAnyH_one (i := 1) (o := { dst := some 34, op := _, type := _, pos := _, after := _, guard := _ }) (by kernel_rfl) rfl (by rfl) (fun K1 hK1 => ?_)
          have HK1 := Lib.hid hK1; clear hK1
          have e31 := cell_blk (i := 1) b3
          simp only [List.getElem?_toArray, List.getElem?_cons_zero, List.getElem?_cons_succ] at e31
          go_simp
          clear e31
          refine HK1.out _ _ hS0 ?_
          clear HK1 K1
          try simp only [Act.put, List.setIfInBounds_toArray, List.set_cons_zero, List.set_cons_succ]
          have hcN := cell_newL (W := wn) (xs := [.int .i64 x0, .int .i64 x1, .int .i64 x2, .int .i64 x3, .int .i64 x4]) (t := 82) rfl
          change ∀ j u, _ → (wn.alloc (.cells #[.int .i64 x0, .int .i64 x1, .int .i64 x2, .int .i64 x3, .int .i64 x4] 82)).cell? _ = _ at hcN
          have hwl := HW.out.1
          have hk9 : k < 9 := by have := HN.out; omega
          refine wpAnyH_one (i := 29) (o := { dst := some 62, op := _, type := _, pos := _, after := _, guard := _ }) (by kernel_rfl) rfl (by rfl) (fun K1 hK1 => ?_)
          have HK1 := Lib.hid hK1; clear hK1
          refine oper_append_own _ _ 22 rfl w2.heap.size 82 i82 (.agg #[.int .i64 0, .int .i64 0, .int .i64 0, .int .i64 0, .int .i64 0]) 5 40 Try.underlying22 HI.out.1 HI.out.2.1 HI.out.2.2.1 HI.out.2.2.2 rfl (by decide) _ _ _ rfl hrow ⟨wn.heap.size, 0, none⟩ 1 1 [.int .i64 x0, .int .i64 x1, .int .i64 x2, .int .i64 x3, .int .i64 x4] rfl rfl hcN (by simp [Value.oneCell']) (Nat.le_trans (by omega : k + 1 ≤ 50) (by decide)) (by omega) hsz7 ?_
          intro v6 w6 g1 g2
          obtain ⟨a6, c6, rfl⟩ := form_of g1
          obtain ⟨hk6, hs6, ee1, ee2, ee3⟩ := append_same1 hrow0 g2
          have d1 := (hk6 w.heap.size (lt_blk b10) (own_ne hrow0 b10 (by decide))).trans b10
          have d2 := (hk6 (w.heap.size + 1) (lt_blk b20) (own_ne hrow0 b20 (by decide))).trans b20
          have d3 := (hk6 w1.heap.size (lt_blk b30) (own_ne hrow0 b30 (by decide))).trans b30
          have d7 := (hk6 n7 (lt_blk hS00.2) (own_ne hrow0 hS00.2 (by decide))).trans hS00.2
          have hbs := hB0.size
          have hB6 : Below w.heap.size w w6 := ⟨ee1.trans hB0.os, ee2.trans hB0.tape, ee3.trans hB0.output, by omega, fun b hb => (hk6 b (by omega) (fun eg => by have := (hrow0.lt b eg).1; omega)).trans (hB0.block b hb)⟩
          have e30 := cell_blk (i := 0) d3
          have e31 := cell_blk (i := 1) d3
          have e3f := free_blk (i := 1) d3
          simp only [List.getElem?_toArray, List.getElem?_cons_zero, List.getElem?_cons_succ] at e30 e31
          have hS6 : w6.cell? ⟨w1.heap.size, 0, none⟩ = some (.int .i64 n) ∧ w6.heap[n7]? = some (.cells #[.int .u8 qa, .int .u8 qb, .int .u8 qc, .int .u8 qd] 87 (0, 0)) := ⟨e30, d7⟩
          refine HK1.out _ _ hS6 ?_
          clear HK1 K1 hS0
          have hS0 := hS6
          clear b10 b20 b30 hS00 hB0 b1 b2 b3 hB hrow hcN
          try simp only [Act.put, List.setIfInBounds_toArray, List.set_cons_zero, List.set_cons_succ]
          refine wpAnyH_take (i := 30) (oi := { dst := some 63, op := _, type := _, pos := _, after := _, guard := _ }) (v := ?_) rfl (by kernel_rfl) (by kernel_rfl) (by kernel_rfl) (fun _ _ _ h => h) (Or.inl ⟨by rfl, ?_⟩) hS0 ?_
          rotate_left
          · intro U hU
            go_simp
            all_goals with_reducible rfl
          simp only [Act.put, List.setIfInBounds_toArray, List.set_cons_zero, List.set_cons_succ]
          refine wpAnyH_one (i := 31) (o := { dst := none, op := _, type := _, pos := _, after := _, guard := _ }) (by kernel_rfl) rfl (by rfl) (fun K1 hK1 => ?_)
          have HK1 := Lib.hid hK1; clear hK1
          go_simp
          have f3 : (w6.setCell ⟨w1.heap.size, 1, none⟩ (.slice a6 (k + 1) c6)).heap[w1.heap.size]? = some (.cells #[.int .i64 n, .slice a6 (k + 1) c6] 24 (0, 0)) := (heap_set_blk d3).trans rfl
          have hne7 : n7 ≠ w1.heap.size := by omega
          have f7 : (w6.setCell ⟨w1.heap.size, 1, none⟩ (.slice a6 (k + 1) c6)).heap[n7]? = _ := (heap_set_other hne7).trans d7
          have f30 := cell_blk (i := 0) f3
          simp only [List.getElem?_toArray, List.getElem?_cons_zero] at f30
          refine HK1.out _ _ ⟨f30, f7⟩ ?_
          clear HK1 K1
          have f1 := (heap_set_other (v := (.slice a6 (k + 1) c6)) (b' := w1.heap.size) (i := 1) (show w.heap.size ≠ w1.heap.size by omega)).trans d1
          have f2 := (heap_set_other (v := (.slice a6 (k + 1) c6)) (b' := w1.heap.size) (i := 1) (show w.heap.size + 1 ≠ w1.heap.size by omega)).trans d2
          have f4 := row_set_other (b := w1.heap.size) (i := 1) (x := (.slice a6 (k + 1) c6)) g1 (own_ne g1 d3 (by decide))
          have f5 := hB6.setCell (p := ⟨w1.heap.size, 1, none⟩) (show w.heap.size ≤ w1.heap.size by omega) (.slice a6 (k + 1) c6)
          have f6 : w2.heap.size ≤ (w6.setCell ⟨w1.heap.size, 1, none⟩ (.slice a6 (k + 1) c6)).heap.size := by rw [World.size_setCell]; have := hsz7; rw [World.size_alloc] at this; omega
          have f8 : (ws ++ [Wa.mk x0 x1 x2 x3 x4]).flatMap encA = ws.flatMap encA ++ [.int .i64 x0, .int .i64 x1, .int .i64 x2, .int .i64 x3, .int .i64 x4] := by rw [List.flatMap_append]; rfl
          rw [← f8] at f4
          refine wpAnyH_done (by kernel_rfl) ?_ _
          simp only [Exit.then, Exit.inBlock]
          refine HK0.out _ _ ?_
          clear HK0 d1 d2 d3 d7 g1 g2 hk6 e30 e31 e3f f30 f7 f8 hS0 hS6
          generalize World.setCell _ _ _ = w8 at *
          go_wp2
          go_roundw
          case rel =>
            refine ⟨k + 1, _, ws ++ [Wa.mk x0 x1 x2 x3 x4], by omega, by go_num, by rw [List.length_append, HW.out.1]; rfl, fun z hz => ?_, f1, f2, f3, f4, f5, f6⟩
            rcases List.mem_append.1 hz with h | h
            · exact HW.out.2 z h
            · simp at h; subst h; exact HX.out
          case measure => simp [intOf]; omega
        exact AllReadyH.nil
      exact AllReadyH.nil
    · have hN9 : (N : Int) ≤ 9 := by have := HN.out; omega
      have hke : k = N := by omega
      by_cases h9 : (k : Int) < (qs.length : Int)
      · have hk9 : ¬ ((k : Int) < 9) := by have := HN.out; omega
        obtain ⟨aq, cq, rfl⟩ := form_of hrow
        go_wp2
        refine HK.out _ _ ?_; clear HK
        have hlt3 := lt_blk b3
        go_wp2_with (first | (refine wpList_load_blk rfl 24 _ rfl _ rfl b3 Try.underlying24 rfl size24 rfl ?_) | (refine wpList_store_blk rfl 24 _ _ rfl _ rfl rfl b2 size24 rfl rfl (by simp [Value.oneCell']) ?_))
        have hlt2 := lt_blk b2
        have hbs := hB.size
        obtain ⟨hwl, hwk⟩ := HW.out
        refine bodyPost_ret (results_blk rfl _ _ (w.heap.size + 1) rfl (World.putObj_heap_same hlt2) Try.underlying24 rfl size24 rfl) rfl ⟨n, _, ws, rfl, ?_, ⟨hnb.1, hnb.2, by omega, hwk⟩, below_putObj hB (by omega)⟩
        subst hwl
        exact slG_own encA_len (row_putO hrow (by omega)) rfl (by omega)
      · obtain ⟨aq, cq, rfl⟩ := form_of hrow
        go_wp2
        refine HK.out _ _ ?_; clear HK
        have hlt3 := lt_blk b3
        go_wp2_with (first | (refine wpList_load_blk rfl 24 _ rfl _ rfl b3 Try.underlying24 rfl size24 rfl ?_) | (refine wpList_store_blk rfl 24 _ _ rfl _ rfl rfl b2 size24 rfl rfl (by simp [Value.oneCell']) ?_))
        have hlt2 := lt_blk b2
        have hbs := hB.size
        obtain ⟨hwl, hwk⟩ := HW.out
        refine bodyPost_ret (results_blk rfl _ _ (w.heap.size + 1) rfl (World.putObj_heap_same hlt2) Try.underlying24 rfl size24 rfl) rfl ⟨n, _, ws, rfl, ?_, ⟨hnb.1, hnb.2, by omega, hwk⟩, below_putObj hB (by omega)⟩
        subst hwl
        exact slG_own encA_len (row_putO hrow (by omega)) rfl (by omega)
end Yteileadcmekkoaa
end Go.Proofs
