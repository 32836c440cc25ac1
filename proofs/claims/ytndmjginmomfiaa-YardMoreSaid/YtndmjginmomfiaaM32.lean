/- A yard by numbers: made. -/
import Derived.Test.YtndmjginmomfiaaWorks
import Derived.Test.YtndmjginmomfiaaGenE
open Go Go.RowKit Go.YtndmjginmomfiaaIt
namespace Go.Proofs
namespace Ytndmjginmomfiaa
/-- Four bytes. -/
structure Q4 where
  a : Int
  b : Int
  c : Int
  d : Int
def Q4.ok (q : Q4) : Prop := (0 ≤ q.a ∧ q.a < 256) ∧ (0 ≤ q.b ∧ q.b < 256) ∧ (0 ≤ q.c ∧ q.c < 256) ∧ (0 ≤ q.d ∧ q.d < 256)
def encQ (q : Q4) : List Value := [.int .u8 q.a, .int .u8 q.b, .int .u8 q.c, .int .u8 q.d]
theorem encQ_len (q : Q4) : (encQ q).length = 4 := rfl
def SlQ (w : World) (v : Value) (qs : List Q4) : Prop :=
  ∃ ad cap, v = .slice ad qs.length cap ∧ qs.length ≤ 9223372036854775807 ∧ qs.length ≤ cap ∧
    (0 < qs.length → ∃ b off, ad = some ⟨b, off, none⟩ ∧ b < w.heap.size ∧ ∀ i (h : i < qs.length) f u, (encQ qs[i])[f]? = some u → w.cell? ⟨b, off + i * 4 + f, none⟩ = some u)
theorem SlQ.below {w w' : World} {v : Value} {xs : List Q4} {B : Nat} (h : SlQ w v xs) (hb : Below B w w') (hB : w.heap.size ≤ B) : SlQ w' v xs := by
  obtain ⟨ad, cap, hv, hm, hp, hc⟩ := h
  refine ⟨ad, cap, hv, hm, hp, fun h0 => ?_⟩
  obtain ⟨b, off, ha, hlt, hcell⟩ := hc h0
  exact ⟨b, off, ha, Nat.lt_of_lt_of_le hlt hb.size, fun i hi f u hu => (hb.cell (p := ⟨b, _, none⟩) (by simpa using by omega)).trans (hcell i hi f u hu)⟩
def encP (r m l : Int) (u : Value) : Value := .agg #[.int .u8 r, .int .u8 m, .int .u8 l, u]
/-- A yard as places have them. -/
structure Pl (y : Yd) : Prop where
  ok : Ok y
  room : y.room ≤ 7
  most : y.most ≤ 6
  lots : y.lots ≤ 3
  n : y.ws.length ≤ 2
  hi : ∀ m, m < y.ws.length → (y.at_ m).hi ≤ 6
def okW (n : Nat) (x : Wt) : Prop := 0 ≤ x.comes ∧ x.comes ≤ 1000 ∧ 0 ≤ x.lo ∧ x.lo ≤ x.hi ∧ x.hi ≤ 6 ∧ 1 ≤ x.next ∧ x.next ≤ 2 ^ n - 1
theorem pl_of {R M L : Int} {ws : List Wt} (hR : 0 ≤ R ∧ R ≤ 7) (hM : 0 ≤ M ∧ M ≤ 6) (hL : 1 ≤ L ∧ L ≤ 3) (hn : 1 ≤ ws.length ∧ ws.length ≤ 2) (hw : ∀ x ∈ ws, okW ws.length x) : Pl ⟨R, M, L, ws⟩ := by
  have he : ∀ m, m < ws.length → okW ws.length ((⟨R, M, L, ws⟩ : Yd).at_ m) := fun m hm => by rw [at_lt (y := ⟨R, M, L, ws⟩) hm]; exact hw _ (List.getElem_mem hm)
  refine ⟨⟨hR.1, by show R ≤ 60; omega, hM.1, by show M ≤ 40; omega, hL.1, by show L ≤ 40; omega, hn.1, by show ws.length ≤ 4; omega, fun m hm => ?_⟩, hR.2, hM.2, hL.2, hn.2, fun m hm => (he m hm).2.2.2.2.1⟩
  obtain ⟨h1, h2, h3, h4, h5, h6, h7⟩ := he m hm
  exact ⟨h1, h2, h3, h4, by omega, h6, h7⟩
theorem q_cells {w : World} {b off n : Nat} {ws : List Q4} (h : ∀ i (h : i < ws.length) f u, (encQ ws[i])[f]? = some u → w.cell? ⟨b, off + i * 4 + f, none⟩ = some u) {i : Nat} (hi : i < ws.length) (hn : n = i) :
    w.cell? ⟨b, off + n * 4, none⟩ = some (.int .u8 ws[i].a) ∧ w.cell? ⟨b, off + n * 4 + 1, none⟩ = some (.int .u8 ws[i].b) ∧ w.cell? ⟨b, off + n * 4 + 2, none⟩ = some (.int .u8 ws[i].c) ∧ w.cell? ⟨b, off + n * 4 + 3, none⟩ = some (.int .u8 ws[i].d) := by
  subst hn
  exact ⟨h n hi 0 _ rfl, h n hi 1 _ rfl, h n hi 2 _ rfl, h n hi 3 _ rfl⟩
theorem shl_wrap {N : Nat} {E : Int} (h : wrap64 (wrap64 (2 ^ N) - 1) = E) : IntKind.i64.wrap (IntKind.i64.wrap (2 ^ N) - 1) = E := by rw [IntWalk.i64_left, IntWalk.i64_left]; exact h
theorem bwrap {q : Int} (h : 0 ≤ q ∧ q < 4000) : IntKind.i64.wrap q = q := by
  rw [IntWalk.i64_left]
  exact IntWalk.wrap64_in _ (by omega)
theorem bwq {q : Int} (h : 0 ≤ q ∧ q < 256) : IntKind.i64.wrap q = q := bwrap ⟨h.1, by omega⟩
theorem bt {q : Int} (n : Int) (h : 0 ≤ q ∧ q < 256) : q.tmod n = q % n := Int.tmod_eq_emod_of_nonneg h.1
theorem bf1 (q : Int) : IntKind.i64.wrap (100 * (q % 11)) = 100 * (q % 11) := bwrap (by omega)
theorem bf3 (p q : Int) : IntKind.i64.wrap (p % 4 + q % 4) = p % 4 + q % 4 := bwrap (by omega)
theorem bmod (q : Int) {E : Int} (h : 1 ≤ E ∧ E ≤ 3) : 0 ≤ q % E ∧ q % E < E := ⟨Int.emod_nonneg _ (by omega), Int.emod_lt_of_pos _ (by omega)⟩
theorem bf4 (q : Int) {E : Int} (h : 1 ≤ E ∧ E ≤ 3) : IntKind.i64.wrap (1 + q % E) = 1 + q % E := bwrap (by have := bmod q h; omega)
theorem okw_q {N : Nat} {E : Int} (hE : E = 2 ^ N - 1) (h : 1 ≤ E ∧ E ≤ 3) (qa qb qc qd : Int) : okW N ⟨100 * (qa % 11), qb % 4, qb % 4 + qc % 4, 1 + qd % E⟩ := by
  have := bmod qd h
  refine ⟨?_, ?_, ?_, ?_, ?_, ?_, ?_⟩
  · show 0 ≤ 100 * (qa % 11); omega
  · show 100 * (qa % 11) ≤ 1000; omega
  · show 0 ≤ qb % 4; omega
  · show qb % 4 ≤ qb % 4 + qc % 4; omega
  · show qb % 4 + qc % 4 ≤ 6; omega
  · show 1 ≤ 1 + qd % E; omega
  · show 1 + qd % E ≤ 2 ^ N - 1; rw [← hE]; omega
theorem size58 : (Try.prog.info? 58).map (·.size) = some 4 := by kernel_rfl
theorem info58 : (Try.prog.info? 58).map (fun i => (i.zero, i.size, i.bytes)) = some (some (.agg #[.int .i64 0, .int .i64 0, .int .i64 0, .int .i64 0]), 4, 32) := by kernel_rfl
set_option maxRecDepth 100000 in
set_option maxHeartbeats 8000000 in
theorem made_any (r m l : Int) (u : Value) (qs : List Q4) (w : World) (hr : 0 ≤ r ∧ r < 256) (hm : 0 ≤ m ∧ m < 256) (hl : 0 ≤ l ∧ l < 256) (hq : ∀ q ∈ qs, q.ok) (hu : SlQ w u qs) :
    Calls Try.prog 32 #[encP r m l u] w fun e w' => ∃ y v, e = .returned (.agg (encY y v)) ∧ SlW w' v y.ws ∧ Pl y ∧ Below w.heap.size w w' := by
  obtain ⟨i58, hi58, hz1, hz2, hz3⟩ := info_parts info58
  have HI := Lib.hid (And.intro hi58 (And.intro hz1 (And.intro hz2 hz3)))
  clear hi58 hz1 hz2 hz3
  obtain ⟨ad, cap, rfl, hmx, hcp, hc⟩ := hu
  have HC := Lib.hid hc
  have HQ := Lib.hid hq
  obtain ⟨N, hN⟩ : ∃ N : Nat, (N : Int) = min 2 (max 1 (qs.length : Int)) := ⟨(min 2 (max 1 (qs.length : Int))).toNat, by omega⟩
  have hN2 : N = 1 ∨ N = 2 := by omega
  have HN := Lib.hid hN
  clear hc hq hN
  unfold encP
  go_enter Try.func32, Try.ntmps32
  refine wp_seq_k (fun K hK => ?_)
  have HK := Lib.hid hK; clear hK
  go_wp2
  refine HK.out _ _ ?_; clear HK K
  generalize hw1 : World.alloc _ _ = w1
  obtain ⟨b1, b2, hB1, hs1⟩ := blk2 hw1
  clear hw1
  have c0 := cell_blk (i := 0) b1
  have c1 := cell_blk (i := 1) b1
  have c2 := cell_blk (i := 2) b1
  simp only [List.getElem?_toArray, List.getElem?_cons_zero, List.getElem?_cons_succ] at c0 c1 c2
  refine wp_seq_k (fun K hK => ?_)
  have HK := Lib.hid hK; clear hK
  go_wp2
  refine HK.out _ _ ?_; clear HK K
  obtain ⟨r1, hr1⟩ : ∃ r1 : Int, r1 = r % 8 := ⟨_, rfl⟩
  obtain ⟨m1, hm1⟩ : ∃ m1 : Int, m1 = m % 7 := ⟨_, rfl⟩
  obtain ⟨l1, hl1⟩ : ∃ l1 : Int, l1 = 1 + l % 3 := ⟨_, rfl⟩
  have hrb : 0 ≤ r1 ∧ r1 ≤ 7 := by omega
  have hmb : 0 ≤ m1 ∧ m1 ≤ 6 := by omega
  have hlb : 1 ≤ l1 ∧ l1 ≤ 3 := by omega
  rw [← hr1, ← hm1, ← hl1]
  clear hr1 hm1 hl1
  generalize hw2 : World.alloc _ _ = w2
  obtain ⟨b3, hB2, hs2⟩ := blk1 hw2
  clear hw2 c0 c1 c2
  replace b1 := blk_keep b1 hB2
  replace b2 := blk_keep b2 hB2
  have hB := hB1.trans (hB2.mono hB1.size)
  clear hB1 hB2
  have c3 := cell_blk (i := 3) b1
  simp only [List.getElem?_toArray, List.getElem?_cons_zero, List.getElem?_cons_succ] at c3
  refine wp_seq_k (fun K hK => ?_)
  have HK := Lib.hid hK; clear hK
  go_wp2_with (first | (refine wpList_max rfl _ _ _ rfl rfl rfl ?_) | (refine wpList_min rfl _ _ _ rfl rfl rfl ?_))
  refine HK.out _ _ ?_; clear HK K
  rw [← HN.out]
  obtain ⟨E, hE⟩ : ∃ E : Int, E = 2 ^ N - 1 := ⟨_, rfl⟩
  have hE1 : 1 ≤ E ∧ E ≤ 3 := by rcases hN2 with rfl | rfl <;> (rw [hE]; decide)
  have hsv := shl_val (n := N) (by omega)
  rw [← hE] at hsv
  have HE := Lib.hid hE
  clear hE c3
  refine wp_seq_k (fun K hK => ?_)
  have HK := Lib.hid hK; clear hK
  go_wp2
  go_loopw [5] (fun i wr => ∃ (k : Nat) (q : Value) (ws : List Wt), k ≤ N ∧ i = .int .i64 k ∧ ws.length = k ∧ (∀ x ∈ ws, okW N x) ∧ wr.heap[w.heap.size]? = some (.cells #[.int .u8 r, .int .u8 m, .int .u8 l, .slice ad qs.length cap] 62 (0, 0)) ∧ wr.heap[w.heap.size + 1]? = some (.cells #[.int .i64 0, .int .i64 0, .int .i64 0, .slice none 0 0] 24 (0, 0)) ∧ wr.heap[w1.heap.size]? = some (.cells #[.int .i64 r1, .int .i64 m1, .int .i64 l1, q] 24 (0, 0)) ∧ wr.ownsRow w2.heap.size 58 4 q k (ws.flatMap encW) ∧ Below w.heap.size w wr ∧ w2.heap.size ≤ wr.heap.size) (fun i _ => N - (intOf i).toNat)
  case atStart => exact ⟨0, _, [], Nat.zero_le _, rfl, rfl, fun x hx => by simp at hx, b1, b2, b3, World.ownsRow_nil _ _ _ _, hB, Nat.le_refl _⟩
  case round =>
    clear b1 b2 b3 hB
    obtain ⟨k, q, ws, hk, rfl, hwl, hwk, b1, b2, b3, hrow, hB, hsz⟩ := hrel
    have HW := Lib.hid (And.intro hwl hwk)
    clear hwl hwk
    by_cases hkn : k < N
    · have hbw := hB.size
      obtain ⟨aq, cq, rfl⟩ := form_of hrow
      go_wp2
      have hS : True := trivial
      rename_i K hK
      have HK := Lib.hid hK; clear hK
      refine wp_region_held (S := fun _ => True) (by kernel_rfl) ?_
      change wpAnyH _ _ _ _ _ _ _ _ (World.drew wr)
      refine wpAnyH_take (i := 1) (oi := { dst := some 34, op := _, type := _, pos := _, after := _, guard := none }) (v := ?_) rfl (by kernel_rfl) (by kernel_rfl) (by kernel_rfl) (fun _ _ _ h => h) (Or.inl ⟨by rfl, ?_⟩) trivial ?_
      rotate_left
      · intro U hU
        go_simp
        all_goals with_reducible rfl
      simp only [Act.put, List.setIfInBounds_toArray, List.set_cons_zero, List.set_cons_succ]
      refine wpAnyH_take (i := 2) (oi := { dst := some 35, op := _, type := _, pos := _, after := _, guard := none }) (v := ?_) rfl (by kernel_rfl) (by kernel_rfl) (by kernel_rfl) (fun _ _ _ h => h) (Or.inl ⟨by rfl, ?_⟩) trivial ?_
      rotate_left
      · intro U hU
        go_simp
        all_goals with_reducible rfl
      simp only [Act.put, List.setIfInBounds_toArray, List.set_cons_zero, List.set_cons_succ]
      refine wpAnyH_take (i := 3) (oi := { dst := some 36, op := _, type := _, pos := _, after := _, guard := none }) (v := ?_) rfl (by kernel_rfl) (by kernel_rfl) (by kernel_rfl) (fun _ _ _ h => h) (Or.inl ⟨by rfl, ?_⟩) trivial ?_
      rotate_left
      · intro U hU
        go_simp
        all_goals with_reducible rfl
      simp only [Act.put, List.setIfInBounds_toArray, List.set_cons_zero, List.set_cons_succ]
      refine wpAnyH_ready (rs := [0, 5]) (by kernel_rfl) (by simp) ?_
      refine AllReadyH.cons (o := { dst := some 33, op := Op.call { callee := Callee.value (Operand.func 63), args := #[Operand.const (.int .i64 1), Operand.const (.int .i64 2)], argTypes := _ }, type := _, pos := _, after := _, guard := none }) rfl (fun K1 hK1 => ?_) ?_
      · rw [if_pos (by rfl)]
        have HK1 := Lib.hid hK1; clear hK1
        refine oper_callg (f := 63) (lb := #[]) rfl rfl (enters_of Try.func63 (by kernel_rfl) rfl) rfl (R := fun u W => u = .agg #[.int .i64 1, .int .i64 2] ∧ Below wr.heap.size wr W) ?_ ?_
        · refine (span_any 1 2 wr.drew).mono ?_
          rintro e W ⟨rfl, hb⟩
          exact ⟨_, rfl, rfl, (Below.refl _ wr).drew.trans hb⟩
        rintro u wa ⟨rfl, hba⟩
        refine HK1.out _ _ trivial ?_
        clear HK1 K1
        intro _
        simp only [Act.put, List.setIfInBounds_toArray, List.set_cons_zero, List.set_cons_succ]
        refine wpAnyH_take (i := 4) (oi := { dst := some 37, op := _, type := _, pos := _, after := _, guard := none }) (v := ?_) rfl (by kernel_rfl) (by kernel_rfl) (by kernel_rfl) (fun _ _ _ h => h) (Or.inl ⟨by rfl, ?_⟩) trivial ?_
        rotate_left
        · intro U hU
          go_simp
          all_goals with_reducible rfl
        simp only [Act.put, List.setIfInBounds_toArray, List.set_cons_zero, List.set_cons_succ]
        refine wpAnyH_one (i := 5) (o := { dst := some 6, op := _, type := _, pos := _, after := _, guard := none }) (by kernel_rfl) rfl (by rfl) (fun K1 hK1 => ?_)
        have HK1 := Lib.hid hK1; clear hK1
        go_simp
        refine HK1.out _ _ trivial ?_
        clear HK1 K1
        refine wpAnyH_one (i := 6) (o := { dst := none, op := Op.store 58 (Operand.tmp 6) (Operand.tmp 37), type := _, pos := _, after := _, guard := none }) (by kernel_rfl) rfl (by rfl) (fun K1 hK1 => ?_)
        have HK1 := Lib.hid hK1; clear hK1
        refine oper_store_blk 58 _ _ rfl _ rfl rfl (heap_newI rfl) size58 rfl rfl (by simp [Value.oneCell']) ?_
        refine HK1.out _ _ trivial ?_
        clear HK1 K1
        refine wpAnyH_done (by kernel_rfl) ?_ _
        have HXW0 : okW N ⟨1000, 1, 2, E⟩ := ⟨(by decide : (0 : Int) ≤ 1000), (by decide : (1000 : Int) ≤ 1000), (by decide : (0 : Int) ≤ 1), (by decide : (1 : Int) ≤ 2), (by decide : (2 : Int) ≤ 6), hE1.1, by rw [← HE.out]; exact Int.le_refl _⟩
        have hX : ((wa.alloc (.cells #[.int .i64 0, .int .i64 0, .int .i64 0, .int .i64 0] 58)).putObj wa.heap.size (.cells #[.int .i64 1000, .int .i64 1, .int .i64 2, .int .i64 E] 58 (0, 0))).heap[wa.heap.size]? = some (.cells #[.int .i64 1000, .int .i64 1, .int .i64 2, .int .i64 E] 58 (0, 0)) := World.putObj_heap_same (by rw [World.size_alloc]; omega)
        obtain ⟨bX, hbX⟩ : ∃ bX, bX = wa.heap.size := ⟨_, rfl⟩
        have hbXw : wr.heap.size ≤ bX := by rw [hbX]; exact hba.size
        have hbA : Below wr.heap.size wr ((wa.alloc (.cells #[.int .i64 0, .int .i64 0, .int .i64 0, .int .i64 0] 58)).putObj bX (.cells #[.int .i64 1000, .int .i64 1, .int .i64 2, .int .i64 E] 58 (0, 0))) := by rw [hbX]; exact below_putObj (hba.alloc hba.size _) hba.size
        rw [← hbX] at hX ⊢
        have hsv2 : IntKind.i64.wrap (IntKind.i64.wrap (2 ^ N) - 1) = E := shl_wrap hsv
        rw [hsv2]
        clear hsv2
        clear hbX
        generalize World.putObj _ bX _ = wX at *
        obtain ⟨x0, hx0⟩ : ∃ x0 : Int, x0 = 1000 := ⟨_, rfl⟩
        obtain ⟨x1, hx1⟩ : ∃ x1 : Int, x1 = 1 := ⟨_, rfl⟩
        obtain ⟨x2, hx2⟩ : ∃ x2 : Int, x2 = 2 := ⟨_, rfl⟩
        obtain ⟨x3, hx3⟩ : ∃ x3 : Int, x3 = E := ⟨_, rfl⟩
        rw [← hx0, ← hx1, ← hx2, ← hx3] at hX HXW0
        have HXW := Lib.hid HXW0
        clear hx0 hx1 hx2 hx3 HXW0 hS
        have b10 := b1
        have b20 := b2
        have b30 := b3
        have hrow0 := hrow
        have hsz0 := hsz
        have hB0 := hB
        have hbw0 := hbw
        have hbA0 := hbA
        replace b1 := blk_keep b1 hbA
        replace b2 := blk_keep b2 hbA
        replace b3 := blk_keep b3 hbA
        replace hrow := row_below hrow hbA
        replace hsz := Nat.le_trans hsz hbA.size
        replace hB := hB.trans (hbA.mono hbw)
        replace hbw := hB.size
        clear hbA
        refine HK.out _ _ ?_; clear HK
        have c3 := cell_blk (i := 3) b1
        simp only [List.getElem?_toArray, List.getElem?_cons_zero, List.getElem?_cons_succ] at c3
        have hlX := lt_blk hX
        refine wp_seq_k (fun K hK => ?_)
        have HK := Lib.hid hK; clear hK
        by_cases hkq : k < qs.length
        · obtain ⟨b, off, rfl, hlt, hcell⟩ := HC.out (by omega)
          obtain ⟨q0, q1, q2, q3⟩ := q_cells hcell (n := k) hkq rfl
          replace q0 := (hB.cell (p := ⟨b, off + k * 4, none⟩) hlt).trans q0
          replace q1 := (hB.cell (p := ⟨b, off + k * 4 + 1, none⟩) hlt).trans q1
          replace q2 := (hB.cell (p := ⟨b, off + k * 4 + 2, none⟩) hlt).trans q2
          replace q3 := (hB.cell (p := ⟨b, off + k * 4 + 3, none⟩) hlt).trans q3
          have hqk := HQ.out _ (List.getElem_mem hkq)
          unfold Q4.ok at hqk
          generalize qs[k].a = qa at *
          generalize qs[k].b = qb at *
          generalize qs[k].c = qc at *
          generalize qs[k].d = qd at *
          have hkqi : (k : Int) < (qs.length : Int) := by omega
          clear hcell
          refine wp_seq_k (fun K hK => ?_)
          have HK2 := Lib.hid hK; clear hK
          go_wp2
          refine HK2.out _ _ ?_; clear HK2
          go_wp2
          have hq0 := And.intro hqk.1 (And.intro hqk.2.1 (And.intro hqk.2.2.1 hqk.2.2.2))
          clear hqk q0 q1 q2 q3
          generalize hw7 : World.alloc _ _ = w7
          obtain ⟨b7, hB7, hs7⟩ := blk1 hw7
          clear hw7
          replace b1 := blk_keep b1 hB7
          replace b2 := blk_keep b2 hB7
          replace b3 := blk_keep b3 hB7
          replace hrow := row_below hrow hB7
          replace hsz := Nat.le_trans hsz hB7.size
          replace hB := hB.trans (hB7.mono hbw)
          replace hbw := hB.size
          replace hX := blk_keep hX hB7
          have hlX7 := lt_blk hX
          have hbc0 : ∀ {W : World}, Below w7.heap.size w7 W → Below wr.heap.size wX W := fun h => (hB7.mono hbA0.size).trans (h.mono (Nat.le_trans hbA0.size hB7.size))
          clear hB7
          generalize wX.heap.size = n7 at *
          have hE00 : ¬ E = 0 := fun h => absurd (h ▸ hE1.1 : (1 : Int) ≤ 0) (by decide)
          have hE0 := Lib.hid hE00
          clear hE00
          have hS10 : w7.cell? ⟨n7, 0, none⟩ = some (.int .u8 qa) ∧ w7.cell? ⟨n7, 1, none⟩ = some (.int .u8 qb) ∧ w7.cell? ⟨n7, 2, none⟩ = some (.int .u8 qc) ∧ w7.cell? ⟨n7, 3, none⟩ = some (.int .u8 qd) := ⟨cell_blk (i := 0) b7, cell_blk (i := 1) b7, cell_blk (i := 2) b7, cell_blk (i := 3) b7⟩
          refine wp_region_held (S := fun U => U.cell? ⟨n7, 0, none⟩ = some (.int .u8 qa) ∧ U.cell? ⟨n7, 1, none⟩ = some (.int .u8 qb) ∧ U.cell? ⟨n7, 2, none⟩ = some (.int .u8 qc) ∧ U.cell? ⟨n7, 3, none⟩ = some (.int .u8 qd)) (by kernel_rfl) ?_
          change wpAnyH _ _ _ _ _ _ _ _ (World.drew w7)
          refine wpAnyH_take (i := 0) (oi := { dst := some 52, op := _, type := _, pos := _, after := _, guard := none }) (v := ?_) rfl (by kernel_rfl) (by kernel_rfl) (by kernel_rfl) (fun _ _ _ h => h) (Or.inl ⟨by rfl, ?_⟩) hS10 ?_
          rotate_left
          · intro U hU
            go_simp
            all_goals with_reducible rfl
          simp only [Act.put, List.setIfInBounds_toArray, List.set_cons_zero, List.set_cons_succ]
          refine wpAnyH_take (i := 1) (oi := { dst := some 53, op := _, type := _, pos := _, after := _, guard := none }) (v := ?_) rfl (by kernel_rfl) (by kernel_rfl) (by kernel_rfl) (fun _ _ _ h => h) (Or.inl ⟨by rfl, ?_⟩) hS10 ?_
          rotate_left
          · intro U hU
            obtain ⟨u0, u1, u2, u3⟩ := hU
            go_simp
            all_goals with_reducible rfl
          simp only [Act.put, List.setIfInBounds_toArray, List.set_cons_zero, List.set_cons_succ]
          refine wpAnyH_take (i := 2) (oi := { dst := some 54, op := _, type := _, pos := _, after := _, guard := none }) (v := ?_) rfl (by kernel_rfl) (by kernel_rfl) (by kernel_rfl) (fun _ _ _ h => h) (Or.inl ⟨by rfl, ?_⟩) hS10 ?_
          rotate_left
          · intro U hU
            go_simp
            all_goals with_reducible rfl
          simp only [Act.put, List.setIfInBounds_toArray, List.set_cons_zero, List.set_cons_succ]
          refine wpAnyH_take (i := 3) (oi := { dst := some 55, op := _, type := _, pos := _, after := _, guard := none }) (v := ?_) rfl (by kernel_rfl) (by kernel_rfl) (by kernel_rfl) (fun _ _ _ h => h) (Or.inl ⟨by rfl, ?_⟩) hS10 ?_
          rotate_left
          · intro U hU
            go_simp
            all_goals with_reducible rfl
          simp only [Act.put, List.setIfInBounds_toArray, List.set_cons_zero, List.set_cons_succ]
          refine wpAnyH_take (i := 4) (oi := { dst := some 56, op := _, type := _, pos := _, after := _, guard := none }) (v := ?_) rfl (by kernel_rfl) (by kernel_rfl) (by kernel_rfl) (fun _ _ _ h => h) (Or.inl ⟨by rfl, ?_⟩) hS10 ?_
          rotate_left
          · intro U hU
            go_simp
            all_goals with_reducible rfl
          simp only [Act.put, List.setIfInBounds_toArray, List.set_cons_zero, List.set_cons_succ]
          refine wpAnyH_take (i := 5) (oi := { dst := some 57, op := _, type := _, pos := _, after := _, guard := none }) (v := ?_) rfl (by kernel_rfl) (by kernel_rfl) (by kernel_rfl) (fun _ _ _ h => h) (Or.inl ⟨by rfl, ?_⟩) hS10 ?_
          rotate_left
          · intro U hU
            go_simp
            all_goals with_reducible rfl
          simp only [Act.put, List.setIfInBounds_toArray, List.set_cons_zero, List.set_cons_succ]
          refine wpAnyH_take (i := 6) (oi := { dst := some 58, op := _, type := _, pos := _, after := _, guard := none }) (v := ?_) rfl (by kernel_rfl) (by kernel_rfl) (by kernel_rfl) (fun _ _ _ h => h) (Or.inl ⟨by rfl, ?_⟩) hS10 ?_
          rotate_left
          · intro U hU
            go_simp
            all_goals with_reducible rfl
          simp only [Act.put, List.setIfInBounds_toArray, List.set_cons_zero, List.set_cons_succ]
          refine wpAnyH_take (i := 7) (oi := { dst := some 59, op := _, type := _, pos := _, after := _, guard := none }) (v := ?_) rfl (by kernel_rfl) (by kernel_rfl) (by kernel_rfl) (fun _ _ _ h => h) (Or.inl ⟨by rfl, ?_⟩) hS10 ?_
          rotate_left
          · intro U hU
            go_simp
            all_goals with_reducible rfl
          simp only [Act.put, List.setIfInBounds_toArray, List.set_cons_zero, List.set_cons_succ]
          refine wpAnyH_take (i := 8) (oi := { dst := some 60, op := _, type := _, pos := _, after := _, guard := none }) (v := ?_) rfl (by kernel_rfl) (by kernel_rfl) (by kernel_rfl) (fun _ _ _ h => h) (Or.inl ⟨by rfl, ?_⟩) hS10 ?_
          rotate_left
          · intro U hU
            obtain ⟨u0, u1, u2, u3⟩ := hU
            go_simp
            all_goals with_reducible rfl
          simp only [Act.put, List.setIfInBounds_toArray, List.set_cons_zero, List.set_cons_succ]
          refine wpAnyH_take (i := 9) (oi := { dst := some 61, op := _, type := _, pos := _, after := _, guard := none }) (v := ?_) rfl (by kernel_rfl) (by kernel_rfl) (by kernel_rfl) (fun _ _ _ h => h) (Or.inl ⟨by rfl, ?_⟩) hS10 ?_
          rotate_left
          · intro U hU
            go_simp
            all_goals with_reducible rfl
          simp only [Act.put, List.setIfInBounds_toArray, List.set_cons_zero, List.set_cons_succ]
          refine wpAnyH_take (i := 10) (oi := { dst := some 62, op := _, type := _, pos := _, after := _, guard := none }) (v := ?_) rfl (by kernel_rfl) (by kernel_rfl) (by kernel_rfl) (fun _ _ _ h => h) (Or.inl ⟨by rfl, ?_⟩) hS10 ?_
          rotate_left
          · intro U hU
            go_simp
            all_goals with_reducible rfl
          simp only [Act.put, List.setIfInBounds_toArray, List.set_cons_zero, List.set_cons_succ]
          refine wpAnyH_take (i := 11) (oi := { dst := some 63, op := _, type := _, pos := _, after := _, guard := none }) (v := ?_) rfl (by kernel_rfl) (by kernel_rfl) (by kernel_rfl) (fun _ _ _ h => h) (Or.inl ⟨by rfl, ?_⟩) hS10 ?_
          rotate_left
          · intro U hU
            go_simp
            all_goals with_reducible rfl
          simp only [Act.put, List.setIfInBounds_toArray, List.set_cons_zero, List.set_cons_succ]
          refine wpAnyH_take (i := 13) (oi := { dst := some 65, op := _, type := _, pos := _, after := _, guard := none }) (v := ?_) rfl (by kernel_rfl) (by kernel_rfl) (by kernel_rfl) (fun _ _ _ h => h) (Or.inl ⟨by rfl, ?_⟩) hS10 ?_
          rotate_left
          · intro U hU
            go_simp
            all_goals with_reducible rfl
          simp only [Act.put, List.setIfInBounds_toArray, List.set_cons_zero, List.set_cons_succ]
          refine wpAnyH_take (i := 14) (oi := { dst := some 66, op := _, type := _, pos := _, after := _, guard := none }) (v := ?_) rfl (by kernel_rfl) (by kernel_rfl) (by kernel_rfl) (fun _ _ _ h => h) (Or.inl ⟨by rfl, ?_⟩) hS10 ?_
          rotate_left
          · intro U hU
            obtain ⟨u0, u1, u2, u3⟩ := hU
            go_simp
            all_goals with_reducible rfl
          simp only [Act.put, List.setIfInBounds_toArray, List.set_cons_zero, List.set_cons_succ]
          refine wpAnyH_take (i := 15) (oi := { dst := some 67, op := _, type := _, pos := _, after := _, guard := none }) (v := ?_) rfl (by kernel_rfl) (by kernel_rfl) (by kernel_rfl) (fun _ _ _ h => h) (Or.inl ⟨by rfl, ?_⟩) hS10 ?_
          rotate_left
          · intro U hU
            go_simp
            all_goals with_reducible rfl
          simp only [Act.put, List.setIfInBounds_toArray, List.set_cons_zero, List.set_cons_succ]
          refine wpAnyH_take (i := 16) (oi := { dst := some 68, op := _, type := _, pos := _, after := _, guard := none }) (v := ?_) rfl (by kernel_rfl) (by kernel_rfl) (by kernel_rfl) (fun _ _ _ h => h) (Or.inl ⟨by rfl, ?_⟩) hS10 ?_
          rotate_left
          · intro U hU
            go_simp
            all_goals with_reducible rfl
          simp only [Act.put, List.setIfInBounds_toArray, List.set_cons_zero, List.set_cons_succ]
          refine wpAnyH_take (i := 17) (oi := { dst := some 69, op := _, type := _, pos := _, after := _, guard := none }) (v := ?_) rfl (by kernel_rfl) (by kernel_rfl) (by kernel_rfl) (fun _ _ _ h => h) (Or.inl ⟨by rfl, ?_⟩) hS10 ?_
          rotate_left
          · intro U hU
            go_simp
            all_goals with_reducible rfl
          simp only [Act.put, List.setIfInBounds_toArray, List.set_cons_zero, List.set_cons_succ]
          refine wpAnyH_take (i := 18) (oi := { dst := some 70, op := _, type := _, pos := _, after := _, guard := none }) (v := ?_) rfl (by kernel_rfl) (by kernel_rfl) (by kernel_rfl) (fun _ _ _ h => h) (Or.inl ⟨by rfl, ?_⟩) hS10 ?_
          rotate_left
          · intro U hU
            go_simp
            all_goals with_reducible rfl
          simp only [Act.put, List.setIfInBounds_toArray, List.set_cons_zero, List.set_cons_succ]
          rw [shl_wrap hsv]
          refine wpAnyH_take (i := 19) (oi := { dst := some 71, op := _, type := _, pos := _, after := _, guard := none }) (v := ?_) rfl (by kernel_rfl) (by kernel_rfl) (by kernel_rfl) (fun _ _ _ h => h) (Or.inl ⟨by rfl, ?_⟩) hS10 ?_
          rotate_left
          · intro U hU
            go_simp
            rw [if_neg hE0.out]
            all_goals with_reducible rfl
          simp only [Act.put, List.setIfInBounds_toArray, List.set_cons_zero, List.set_cons_succ]
          refine wpAnyH_take (i := 20) (oi := { dst := some 72, op := _, type := _, pos := _, after := _, guard := none }) (v := ?_) rfl (by kernel_rfl) (by kernel_rfl) (by kernel_rfl) (fun _ _ _ h => h) (Or.inl ⟨by rfl, ?_⟩) hS10 ?_
          rotate_left
          · intro U hU
            go_simp
            all_goals with_reducible rfl
          simp only [Act.put, List.setIfInBounds_toArray, List.set_cons_zero, List.set_cons_succ]
          simp only [bwq hq0.1, bwq hq0.2.2.1, bwq hq0.2.2.2, bt _ hq0.1, bt _ hq0.2.2.1, bt _ hq0.2.2.2, bf1, bf3, bf4 _ hE1]
          clear hsv
          refine wpAnyH_one (i := 12) (o := { dst := some 64, op := Op.call { callee := Callee.value (Operand.func 63), args := #[Operand.tmp 57, Operand.tmp 63], argTypes := _ }, type := _, pos := _, after := _, guard := none }) (by kernel_rfl) rfl (by rfl) (fun K1 hK1 => ?_)
          have HK1 := Lib.hid hK1; clear hK1
          refine oper_callg (f := 63) (lb := #[]) rfl rfl (enters_of Try.func63 (by kernel_rfl) rfl) rfl (R := fun u W => u = .agg #[.int .i64 (qb % 4), .int .i64 (qb % 4 + qc % 4)] ∧ Below w7.heap.size w7 W) ?_ ?_
          · refine (span_any (qb % 4) (qb % 4 + qc % 4) _).mono ?_
            rintro e W ⟨rfl, hb⟩
            exact ⟨_, rfl, rfl, (Below.refl _ w7).drew.trans hb⟩
          rintro u wc ⟨rfl, hbc⟩
          have hXc := blk_keep hX hbc
          have b7c := blk_keep b7 hbc
          have hSc : wc.cell? ⟨n7, 0, none⟩ = some (.int .u8 qa) ∧ wc.cell? ⟨n7, 1, none⟩ = some (.int .u8 qb) ∧ wc.cell? ⟨n7, 2, none⟩ = some (.int .u8 qc) ∧ wc.cell? ⟨n7, 3, none⟩ = some (.int .u8 qd) := ⟨cell_blk (i := 0) b7c, cell_blk (i := 1) b7c, cell_blk (i := 2) b7c, cell_blk (i := 3) b7c⟩
          refine HK1.out _ _ hSc ?_
          clear HK1 K1
          simp only [Act.put, List.setIfInBounds_toArray, List.set_cons_zero, List.set_cons_succ]
          refine wpAnyH_take (i := 21) (oi := { dst := some 73, op := _, type := _, pos := _, after := _, guard := none }) (v := ?_) rfl (by kernel_rfl) (by kernel_rfl) (by kernel_rfl) (fun _ _ _ h => h) (Or.inl ⟨by rfl, ?_⟩) hSc ?_
          rotate_left
          · intro U hU
            go_simp
            all_goals with_reducible rfl
          simp only [Act.put, List.setIfInBounds_toArray, List.set_cons_zero, List.set_cons_succ]
          have b7d : (wc.putObj bX (.cells #[.int .i64 (100 * (qa % 11)), .int .i64 (qb % 4), .int .i64 (qb % 4 + qc % 4), .int .i64 (1 + qd % E)] 58 (0, 0))).heap[n7]? = some (.cells #[.int .u8 qa, .int .u8 qb, .int .u8 qc, .int .u8 qd] 79 (0, 0)) := (World.putObj_heap_other (Nat.ne_of_gt hlX)).trans b7c
          have hSd : (wc.putObj bX (.cells #[.int .i64 (100 * (qa % 11)), .int .i64 (qb % 4), .int .i64 (qb % 4 + qc % 4), .int .i64 (1 + qd % E)] 58 (0, 0))).cell? ⟨n7, 0, none⟩ = some (.int .u8 qa) ∧ (wc.putObj bX (.cells #[.int .i64 (100 * (qa % 11)), .int .i64 (qb % 4), .int .i64 (qb % 4 + qc % 4), .int .i64 (1 + qd % E)] 58 (0, 0))).cell? ⟨n7, 1, none⟩ = some (.int .u8 qb) ∧ (wc.putObj bX (.cells #[.int .i64 (100 * (qa % 11)), .int .i64 (qb % 4), .int .i64 (qb % 4 + qc % 4), .int .i64 (1 + qd % E)] 58 (0, 0))).cell? ⟨n7, 2, none⟩ = some (.int .u8 qc) ∧ (wc.putObj bX (.cells #[.int .i64 (100 * (qa % 11)), .int .i64 (qb % 4), .int .i64 (qb % 4 + qc % 4), .int .i64 (1 + qd % E)] 58 (0, 0))).cell? ⟨n7, 3, none⟩ = some (.int .u8 qd) := ⟨cell_blk (i := 0) b7d, cell_blk (i := 1) b7d, cell_blk (i := 2) b7d, cell_blk (i := 3) b7d⟩
          refine wpAnyH_one (i := 22) (o := { dst := none, op := Op.store 58 (Operand.tmp 6) (Operand.tmp 73), type := _, pos := _, after := _, guard := none }) (by kernel_rfl) rfl (by rfl) (fun K1 hK1 => ?_)
          have HK1 := Lib.hid hK1; clear hK1
          refine oper_store_blk 58 _ _ rfl _ rfl rfl hXc size58 rfl rfl (by simp [Value.oneCell']) ?_
          refine HK1.out _ _ hSd ?_
          clear HK1 K1
          refine wpAnyH_done (by kernel_rfl) ?_ _
          have hbF : Below wr.heap.size wr (wc.putObj bX (.cells #[.int .i64 (100 * (qa % 11)), .int .i64 (qb % 4), .int .i64 (qb % 4 + qc % 4), .int .i64 (1 + qd % E)] 58 (0, 0))) := below_putObj (hbA0.trans (hbc0 hbc)) hbXw
          have hXF : (wc.putObj bX (.cells #[.int .i64 (100 * (qa % 11)), .int .i64 (qb % 4), .int .i64 (qb % 4 + qc % 4), .int .i64 (1 + qd % E)] 58 (0, 0))).heap[bX]? = some (.cells #[.int .i64 (100 * (qa % 11)), .int .i64 (qb % 4), .int .i64 (qb % 4 + qc % 4), .int .i64 (1 + qd % E)] 58 (0, 0)) := World.putObj_heap_same (lt_blk hXc)
          have HXF := Lib.hid (okw_q HE.out hE1 qa qb qc qd)
          clear b7d hSd hSc b7c hXc hS10 b7 hX HXW b1 b2 b3 hrow hsz hB hbw hbc0 hlX7 hlX hlt hE0
          generalize World.putObj _ bX _ = wF at *
          generalize 100 * (qa % 11) = x0 at *
          generalize qb % 4 + qc % 4 = x2 at *
          generalize qb % 4 = x1 at *
          generalize 1 + qd % E = x3 at *
          have b1 := blk_keep b10 hbF
          have b2 := blk_keep b20 hbF
          have b3 := blk_keep b30 hbF
          have hrow := row_below hrow0 hbF
          have hsz := Nat.le_trans hsz0 hbF.size
          have hB := hB0.trans (hbF.mono hbw0)
          have hbw := hB.size
          have hX := hXF
          have HXW := HXF
          refine HK.out _ _ ?_; clear HK
          have d3 := cell_blk (i := 3) b3
          have f3 := free_blk (i := 3) b3
          simp only [List.getElem?_toArray, List.getElem?_cons_zero, List.getElem?_cons_succ] at d3
          have hlt3 := lt_blk b3
          have hbw2 := hB.size
          go_wp2_with (first
            | (refine wpList_load_blk rfl 58 _ rfl _ rfl hX Try.underlying58 rfl size58 rfl ?_)
            | (at_builtin; (refine wpList_append_own _ rfl _ _ 22 rfl w2.heap.size 58 i58 (.agg #[.int .i64 0, .int .i64 0, .int .i64 0, .int .i64 0]) 4 32 Try.underlying22 HI.out.1 HI.out.2.1 HI.out.2.2.1 HI.out.2.2.2 rfl (by decide) _ _ _ rfl (hrow.alloc _) ⟨wF.heap.size, 0, none⟩ 1 1 [.int .i64 x0, .int .i64 x1, .int .i64 x2, .int .i64 x3] rfl rfl (cell_newL (xs := [.int .i64 x0, .int .i64 x1, .int .i64 x2, .int .i64 x3]) rfl) (by simp [Value.oneCell']) (Nat.le_trans (by omega : k + 1 ≤ 50) (by decide)) (by omega) (by rw [World.size_alloc]; omega) ?_; intro v' w6 g1 g2 _; obtain ⟨a6, c6, rfl⟩ := form_of g1; have hbn : Below w2.heap.size wF w6 := grown_below1 g2 hrow (Nat.le_refl _) (by omega) (Below.refl _ _); have b36 := blk_below b3 hbn (by omega); have e3 := cell_blk (i := 3) b36; have f6 := free_blk (i := 3) b36; simp only [List.getElem?_toArray, List.getElem?_cons_zero, List.getElem?_cons_succ] at e3)))
          have hf1 := (heap_set_other (v := (.slice a6 (k + 1) c6)) (b' := w1.heap.size) (i := 3) (show w.heap.size ≠ w1.heap.size by omega)).trans (blk_below b1 hbn (by omega))
          have hf2 := (heap_set_other (v := (.slice a6 (k + 1) c6)) (b' := w1.heap.size) (i := 3) (show w.heap.size + 1 ≠ w1.heap.size by omega)).trans (blk_below b2 hbn (by omega))
          have hf3 : (w6.setCell ⟨w1.heap.size, 3, none⟩ (.slice a6 (k + 1) c6)).heap[w1.heap.size]? = some (.cells #[.int .i64 r1, .int .i64 m1, .int .i64 l1, .slice a6 (k + 1) c6] 24 (0, 0)) := by rw [heap_set_blk b36]; rfl
          have hf4 := row_set_other (b := w1.heap.size) (i := 3) (x := (.slice a6 (k + 1) c6)) g1 (fun h => by have := (g1.lt _ h).1; omega)
          have hf5 := (hB.trans (hbn.mono (by omega))).setCell (p := ⟨w1.heap.size, 3, none⟩) (show w.heap.size ≤ w1.heap.size by omega) (.slice a6 (k + 1) c6)
          have hf6 : w2.heap.size ≤ (w6.setCell ⟨w1.heap.size, 3, none⟩ (.slice a6 (k + 1) c6)).heap.size := by have := hbn.size; rw [World.size_setCell]; omega
          have hf7 : (ws ++ [Wt.mk x0 x1 x2 x3]).flatMap encW = ws.flatMap encW ++ [.int .i64 x0, .int .i64 x1, .int .i64 x2, .int .i64 x3] := by rw [List.flatMap_append]; rfl
          go_roundw
          case rel =>
            refine ⟨k + 1, _, ws ++ [Wt.mk x0 x1 x2 x3], by omega, by go_num, by rw [List.length_append, HW.out.1]; rfl, fun z hz => ?_, hf1, hf2, hf3, by rw [hf7]; exact hf4, hf5, hf6⟩
            rcases List.mem_append.1 hz with h | h
            · exact HW.out.2 z h
            · simp at h; subst h; exact HXW.out
          case measure => simp [intOf]; omega

        · have hkqi : ¬ (k : Int) < (qs.length : Int) := by omega
          go_wp2
          refine HK.out _ _ ?_; clear HK
          have d3 := cell_blk (i := 3) b3
          have f3 := free_blk (i := 3) b3
          simp only [List.getElem?_toArray, List.getElem?_cons_zero, List.getElem?_cons_succ] at d3
          have hlt3 := lt_blk b3
          have hbw2 := hB.size
          go_wp2_with (first
            | (refine wpList_load_blk rfl 58 _ rfl _ rfl hX Try.underlying58 rfl size58 rfl ?_)
            | (at_builtin; (refine wpList_append_own _ rfl _ _ 22 rfl w2.heap.size 58 i58 (.agg #[.int .i64 0, .int .i64 0, .int .i64 0, .int .i64 0]) 4 32 Try.underlying22 HI.out.1 HI.out.2.1 HI.out.2.2.1 HI.out.2.2.2 rfl (by decide) _ _ _ rfl (hrow.alloc _) ⟨wX.heap.size, 0, none⟩ 1 1 [.int .i64 x0, .int .i64 x1, .int .i64 x2, .int .i64 x3] rfl rfl (cell_newL (xs := [.int .i64 x0, .int .i64 x1, .int .i64 x2, .int .i64 x3]) rfl) (by simp [Value.oneCell']) (Nat.le_trans (by omega : k + 1 ≤ 50) (by decide)) (by omega) (by rw [World.size_alloc]; omega) ?_; intro v' w6 g1 g2 _; obtain ⟨a6, c6, rfl⟩ := form_of g1; have hbn : Below w2.heap.size wX w6 := grown_below1 g2 hrow (Nat.le_refl _) (by omega) (Below.refl _ _); have b36 := blk_below b3 hbn (by omega); have e3 := cell_blk (i := 3) b36; have f6 := free_blk (i := 3) b36; simp only [List.getElem?_toArray, List.getElem?_cons_zero, List.getElem?_cons_succ] at e3)))
          have hf1 := (heap_set_other (v := (.slice a6 (k + 1) c6)) (b' := w1.heap.size) (i := 3) (show w.heap.size ≠ w1.heap.size by omega)).trans (blk_below b1 hbn (by omega))
          have hf2 := (heap_set_other (v := (.slice a6 (k + 1) c6)) (b' := w1.heap.size) (i := 3) (show w.heap.size + 1 ≠ w1.heap.size by omega)).trans (blk_below b2 hbn (by omega))
          have hf3 : (w6.setCell ⟨w1.heap.size, 3, none⟩ (.slice a6 (k + 1) c6)).heap[w1.heap.size]? = some (.cells #[.int .i64 r1, .int .i64 m1, .int .i64 l1, .slice a6 (k + 1) c6] 24 (0, 0)) := by rw [heap_set_blk b36]; rfl
          have hf4 := row_set_other (b := w1.heap.size) (i := 3) (x := (.slice a6 (k + 1) c6)) g1 (fun h => by have := (g1.lt _ h).1; omega)
          have hf5 := (hB.trans (hbn.mono (by omega))).setCell (p := ⟨w1.heap.size, 3, none⟩) (show w.heap.size ≤ w1.heap.size by omega) (.slice a6 (k + 1) c6)
          have hf6 : w2.heap.size ≤ (w6.setCell ⟨w1.heap.size, 3, none⟩ (.slice a6 (k + 1) c6)).heap.size := by have := hbn.size; rw [World.size_setCell]; omega
          have hf7 : (ws ++ [Wt.mk x0 x1 x2 x3]).flatMap encW = ws.flatMap encW ++ [.int .i64 x0, .int .i64 x1, .int .i64 x2, .int .i64 x3] := by rw [List.flatMap_append]; rfl
          go_roundw
          case rel =>
            refine ⟨k + 1, _, ws ++ [Wt.mk x0 x1 x2 x3], by omega, by go_num, by rw [List.length_append, HW.out.1]; rfl, fun z hz => ?_, hf1, hf2, hf3, by rw [hf7]; exact hf4, hf5, hf6⟩
            rcases List.mem_append.1 hz with h | h
            · exact HW.out.2 z h
            · simp at h; subst h; exact HXW.out
          case measure => simp [intOf]; omega
      refine AllReadyH.cons (o := { dst := some 6, op := _, type := _, pos := _, after := _, guard := none }) rfl (fun K1 hK1 => ?_) ?_
      · rw [if_pos (by rfl)]
        have HK1 := Lib.hid hK1; clear hK1
        go_simp
        refine HK1.out _ _ trivial ?_
        clear HK1 K1
        intro _
        have hbx : Below wr.heap.size wr (wr.alloc (.cells #[.int .i64 0, .int .i64 0, .int .i64 0, .int .i64 0] 58)).drew := ((Below.refl _ _).alloc (Nat.le_refl _) _).drew
        refine wpAnyH_one (i := 0) (o := { dst := some 33, op := Op.call { callee := Callee.value (Operand.func 63), args := #[Operand.const (.int .i64 1), Operand.const (.int .i64 2)], argTypes := _ }, type := _, pos := _, after := _, guard := none }) (by kernel_rfl) rfl (by rfl) (fun K1 hK1 => ?_)
        have HK1 := Lib.hid hK1; clear hK1
        refine oper_callg (f := 63) (lb := #[]) rfl rfl (enters_of Try.func63 (by kernel_rfl) rfl) rfl (R := fun u W => u = .agg #[.int .i64 1, .int .i64 2] ∧ Below (wr.alloc (.cells #[.int .i64 0, .int .i64 0, .int .i64 0, .int .i64 0] 58)).drew.heap.size (wr.alloc (.cells #[.int .i64 0, .int .i64 0, .int .i64 0, .int .i64 0] 58)).drew W) ?_ ?_
        · refine (span_any 1 2 _).mono ?_
          rintro e W ⟨rfl, hb⟩
          exact ⟨_, rfl, rfl, hb⟩
        rintro u wa ⟨rfl, hba⟩
        have hnb : (wr.alloc (.cells #[.int .i64 0, .int .i64 0, .int .i64 0, .int .i64 0] 58)).drew.heap[wr.heap.size]? = some (.cells #[.int .i64 0, .int .i64 0, .int .i64 0, .int .i64 0] 58 (0, 0)) := heap_newI rfl
        have hnw := blk_keep hnb hba
        have hba2 : Below wr.heap.size wr wa := hbx.trans (hba.mono hbx.size)
        refine HK1.out _ _ trivial ?_
        clear HK1 K1
        simp only [Act.put, List.setIfInBounds_toArray, List.set_cons_zero, List.set_cons_succ]
        refine wpAnyH_take (i := 4) (oi := { dst := some 37, op := _, type := _, pos := _, after := _, guard := none }) (v := ?_) rfl (by kernel_rfl) (by kernel_rfl) (by kernel_rfl) (fun _ _ _ h => h) (Or.inl ⟨by rfl, ?_⟩) trivial ?_
        rotate_left
        · intro U hU
          go_simp
          all_goals with_reducible rfl
        simp only [Act.put, List.setIfInBounds_toArray, List.set_cons_zero, List.set_cons_succ]
        refine wpAnyH_one (i := 6) (o := { dst := none, op := Op.store 58 (Operand.tmp 6) (Operand.tmp 37), type := _, pos := _, after := _, guard := none }) (by kernel_rfl) rfl (by rfl) (fun K1 hK1 => ?_)
        have HK1 := Lib.hid hK1; clear hK1
        refine oper_store_blk 58 _ _ rfl _ rfl rfl (hnw) size58 rfl rfl (by simp [Value.oneCell']) ?_
        refine HK1.out _ _ trivial ?_
        clear HK1 K1
        refine wpAnyH_done (by kernel_rfl) ?_ _
        have HXW0 : okW N ⟨1000, 1, 2, E⟩ := ⟨(by decide : (0 : Int) ≤ 1000), (by decide : (1000 : Int) ≤ 1000), (by decide : (0 : Int) ≤ 1), (by decide : (1 : Int) ≤ 2), (by decide : (2 : Int) ≤ 6), hE1.1, by rw [← HE.out]; exact Int.le_refl _⟩
        have hX : (wa.putObj wr.heap.size (.cells #[.int .i64 1000, .int .i64 1, .int .i64 2, .int .i64 E] 58 (0, 0))).heap[wr.heap.size]? = some (.cells #[.int .i64 1000, .int .i64 1, .int .i64 2, .int .i64 E] 58 (0, 0)) := World.putObj_heap_same (lt_blk hnw)
        obtain ⟨bX, hbX⟩ : ∃ bX, bX = wr.heap.size := ⟨_, rfl⟩
        have hbXw : wr.heap.size ≤ bX := by rw [hbX]; exact Nat.le_refl _
        have hbA : Below wr.heap.size wr (wa.putObj bX (.cells #[.int .i64 1000, .int .i64 1, .int .i64 2, .int .i64 E] 58 (0, 0))) := by rw [hbX]; exact below_putObj hba2 (Nat.le_refl _)
        rw [← hbX] at hX ⊢
        have hsv2 : IntKind.i64.wrap (IntKind.i64.wrap (2 ^ N) - 1) = E := shl_wrap hsv
        rw [hsv2]
        clear hsv2
        clear hbX
        generalize World.putObj _ bX _ = wX at *
        obtain ⟨x0, hx0⟩ : ∃ x0 : Int, x0 = 1000 := ⟨_, rfl⟩
        obtain ⟨x1, hx1⟩ : ∃ x1 : Int, x1 = 1 := ⟨_, rfl⟩
        obtain ⟨x2, hx2⟩ : ∃ x2 : Int, x2 = 2 := ⟨_, rfl⟩
        obtain ⟨x3, hx3⟩ : ∃ x3 : Int, x3 = E := ⟨_, rfl⟩
        rw [← hx0, ← hx1, ← hx2, ← hx3] at hX HXW0
        have HXW := Lib.hid HXW0
        clear hx0 hx1 hx2 hx3 HXW0 hS
        have b10 := b1
        have b20 := b2
        have b30 := b3
        have hrow0 := hrow
        have hsz0 := hsz
        have hB0 := hB
        have hbw0 := hbw
        have hbA0 := hbA
        replace b1 := blk_keep b1 hbA
        replace b2 := blk_keep b2 hbA
        replace b3 := blk_keep b3 hbA
        replace hrow := row_below hrow hbA
        replace hsz := Nat.le_trans hsz hbA.size
        replace hB := hB.trans (hbA.mono hbw)
        replace hbw := hB.size
        clear hbA
        refine HK.out _ _ ?_; clear HK
        have c3 := cell_blk (i := 3) b1
        simp only [List.getElem?_toArray, List.getElem?_cons_zero, List.getElem?_cons_succ] at c3
        have hlX := lt_blk hX
        refine wp_seq_k (fun K hK => ?_)
        have HK := Lib.hid hK; clear hK
        by_cases hkq : k < qs.length
        · obtain ⟨b, off, rfl, hlt, hcell⟩ := HC.out (by omega)
          obtain ⟨q0, q1, q2, q3⟩ := q_cells hcell (n := k) hkq rfl
          replace q0 := (hB.cell (p := ⟨b, off + k * 4, none⟩) hlt).trans q0
          replace q1 := (hB.cell (p := ⟨b, off + k * 4 + 1, none⟩) hlt).trans q1
          replace q2 := (hB.cell (p := ⟨b, off + k * 4 + 2, none⟩) hlt).trans q2
          replace q3 := (hB.cell (p := ⟨b, off + k * 4 + 3, none⟩) hlt).trans q3
          have hqk := HQ.out _ (List.getElem_mem hkq)
          unfold Q4.ok at hqk
          generalize qs[k].a = qa at *
          generalize qs[k].b = qb at *
          generalize qs[k].c = qc at *
          generalize qs[k].d = qd at *
          have hkqi : (k : Int) < (qs.length : Int) := by omega
          clear hcell
          refine wp_seq_k (fun K hK => ?_)
          have HK2 := Lib.hid hK; clear hK
          go_wp2
          refine HK2.out _ _ ?_; clear HK2
          go_wp2
          have hq0 := And.intro hqk.1 (And.intro hqk.2.1 (And.intro hqk.2.2.1 hqk.2.2.2))
          clear hqk q0 q1 q2 q3
          generalize hw7 : World.alloc _ _ = w7
          obtain ⟨b7, hB7, hs7⟩ := blk1 hw7
          clear hw7
          replace b1 := blk_keep b1 hB7
          replace b2 := blk_keep b2 hB7
          replace b3 := blk_keep b3 hB7
          replace hrow := row_below hrow hB7
          replace hsz := Nat.le_trans hsz hB7.size
          replace hB := hB.trans (hB7.mono hbw)
          replace hbw := hB.size
          replace hX := blk_keep hX hB7
          have hlX7 := lt_blk hX
          have hbc0 : ∀ {W : World}, Below w7.heap.size w7 W → Below wr.heap.size wX W := fun h => (hB7.mono hbA0.size).trans (h.mono (Nat.le_trans hbA0.size hB7.size))
          clear hB7
          generalize wX.heap.size = n7 at *
          have hE00 : ¬ E = 0 := fun h => absurd (h ▸ hE1.1 : (1 : Int) ≤ 0) (by decide)
          have hE0 := Lib.hid hE00
          clear hE00
          have hS10 : w7.cell? ⟨n7, 0, none⟩ = some (.int .u8 qa) ∧ w7.cell? ⟨n7, 1, none⟩ = some (.int .u8 qb) ∧ w7.cell? ⟨n7, 2, none⟩ = some (.int .u8 qc) ∧ w7.cell? ⟨n7, 3, none⟩ = some (.int .u8 qd) := ⟨cell_blk (i := 0) b7, cell_blk (i := 1) b7, cell_blk (i := 2) b7, cell_blk (i := 3) b7⟩
          refine wp_region_held (S := fun U => U.cell? ⟨n7, 0, none⟩ = some (.int .u8 qa) ∧ U.cell? ⟨n7, 1, none⟩ = some (.int .u8 qb) ∧ U.cell? ⟨n7, 2, none⟩ = some (.int .u8 qc) ∧ U.cell? ⟨n7, 3, none⟩ = some (.int .u8 qd)) (by kernel_rfl) ?_
          change wpAnyH _ _ _ _ _ _ _ _ (World.drew w7)
          refine wpAnyH_take (i := 0) (oi := { dst := some 52, op := _, type := _, pos := _, after := _, guard := none }) (v := ?_) rfl (by kernel_rfl) (by kernel_rfl) (by kernel_rfl) (fun _ _ _ h => h) (Or.inl ⟨by rfl, ?_⟩) hS10 ?_
          rotate_left
          · intro U hU
            go_simp
            all_goals with_reducible rfl
          simp only [Act.put, List.setIfInBounds_toArray, List.set_cons_zero, List.set_cons_succ]
          refine wpAnyH_take (i := 1) (oi := { dst := some 53, op := _, type := _, pos := _, after := _, guard := none }) (v := ?_) rfl (by kernel_rfl) (by kernel_rfl) (by kernel_rfl) (fun _ _ _ h => h) (Or.inl ⟨by rfl, ?_⟩) hS10 ?_
          rotate_left
          · intro U hU
            obtain ⟨u0, u1, u2, u3⟩ := hU
            go_simp
            all_goals with_reducible rfl
          simp only [Act.put, List.setIfInBounds_toArray, List.set_cons_zero, List.set_cons_succ]
          refine wpAnyH_take (i := 2) (oi := { dst := some 54, op := _, type := _, pos := _, after := _, guard := none }) (v := ?_) rfl (by kernel_rfl) (by kernel_rfl) (by kernel_rfl) (fun _ _ _ h => h) (Or.inl ⟨by rfl, ?_⟩) hS10 ?_
          rotate_left
          · intro U hU
            go_simp
            all_goals with_reducible rfl
          simp only [Act.put, List.setIfInBounds_toArray, List.set_cons_zero, List.set_cons_succ]
          refine wpAnyH_take (i := 3) (oi := { dst := some 55, op := _, type := _, pos := _, after := _, guard := none }) (v := ?_) rfl (by kernel_rfl) (by kernel_rfl) (by kernel_rfl) (fun _ _ _ h => h) (Or.inl ⟨by rfl, ?_⟩) hS10 ?_
          rotate_left
          · intro U hU
            go_simp
            all_goals with_reducible rfl
          simp only [Act.put, List.setIfInBounds_toArray, List.set_cons_zero, List.set_cons_succ]
          refine wpAnyH_take (i := 4) (oi := { dst := some 56, op := _, type := _, pos := _, after := _, guard := none }) (v := ?_) rfl (by kernel_rfl) (by kernel_rfl) (by kernel_rfl) (fun _ _ _ h => h) (Or.inl ⟨by rfl, ?_⟩) hS10 ?_
          rotate_left
          · intro U hU
            go_simp
            all_goals with_reducible rfl
          simp only [Act.put, List.setIfInBounds_toArray, List.set_cons_zero, List.set_cons_succ]
          refine wpAnyH_take (i := 5) (oi := { dst := some 57, op := _, type := _, pos := _, after := _, guard := none }) (v := ?_) rfl (by kernel_rfl) (by kernel_rfl) (by kernel_rfl) (fun _ _ _ h => h) (Or.inl ⟨by rfl, ?_⟩) hS10 ?_
          rotate_left
          · intro U hU
            go_simp
            all_goals with_reducible rfl
          simp only [Act.put, List.setIfInBounds_toArray, List.set_cons_zero, List.set_cons_succ]
          refine wpAnyH_take (i := 6) (oi := { dst := some 58, op := _, type := _, pos := _, after := _, guard := none }) (v := ?_) rfl (by kernel_rfl) (by kernel_rfl) (by kernel_rfl) (fun _ _ _ h => h) (Or.inl ⟨by rfl, ?_⟩) hS10 ?_
          rotate_left
          · intro U hU
            go_simp
            all_goals with_reducible rfl
          simp only [Act.put, List.setIfInBounds_toArray, List.set_cons_zero, List.set_cons_succ]
          refine wpAnyH_take (i := 7) (oi := { dst := some 59, op := _, type := _, pos := _, after := _, guard := none }) (v := ?_) rfl (by kernel_rfl) (by kernel_rfl) (by kernel_rfl) (fun _ _ _ h => h) (Or.inl ⟨by rfl, ?_⟩) hS10 ?_
          rotate_left
          · intro U hU
            go_simp
            all_goals with_reducible rfl
          simp only [Act.put, List.setIfInBounds_toArray, List.set_cons_zero, List.set_cons_succ]
          refine wpAnyH_take (i := 8) (oi := { dst := some 60, op := _, type := _, pos := _, after := _, guard := none }) (v := ?_) rfl (by kernel_rfl) (by kernel_rfl) (by kernel_rfl) (fun _ _ _ h => h) (Or.inl ⟨by rfl, ?_⟩) hS10 ?_
          rotate_left
          · intro U hU
            obtain ⟨u0, u1, u2, u3⟩ := hU
            go_simp
            all_goals with_reducible rfl
          simp only [Act.put, List.setIfInBounds_toArray, List.set_cons_zero, List.set_cons_succ]
          refine wpAnyH_take (i := 9) (oi := { dst := some 61, op := _, type := _, pos := _, after := _, guard := none }) (v := ?_) rfl (by kernel_rfl) (by kernel_rfl) (by kernel_rfl) (fun _ _ _ h => h) (Or.inl ⟨by rfl, ?_⟩) hS10 ?_
          rotate_left
          · intro U hU
            go_simp
            all_goals with_reducible rfl
          simp only [Act.put, List.setIfInBounds_toArray, List.set_cons_zero, List.set_cons_succ]
          refine wpAnyH_take (i := 10) (oi := { dst := some 62, op := _, type := _, pos := _, after := _, guard := none }) (v := ?_) rfl (by kernel_rfl) (by kernel_rfl) (by kernel_rfl) (fun _ _ _ h => h) (Or.inl ⟨by rfl, ?_⟩) hS10 ?_
          rotate_left
          · intro U hU
            go_simp
            all_goals with_reducible rfl
          simp only [Act.put, List.setIfInBounds_toArray, List.set_cons_zero, List.set_cons_succ]
          refine wpAnyH_take (i := 11) (oi := { dst := some 63, op := _, type := _, pos := _, after := _, guard := none }) (v := ?_) rfl (by kernel_rfl) (by kernel_rfl) (by kernel_rfl) (fun _ _ _ h => h) (Or.inl ⟨by rfl, ?_⟩) hS10 ?_
          rotate_left
          · intro U hU
            go_simp
            all_goals with_reducible rfl
          simp only [Act.put, List.setIfInBounds_toArray, List.set_cons_zero, List.set_cons_succ]
          refine wpAnyH_take (i := 13) (oi := { dst := some 65, op := _, type := _, pos := _, after := _, guard := none }) (v := ?_) rfl (by kernel_rfl) (by kernel_rfl) (by kernel_rfl) (fun _ _ _ h => h) (Or.inl ⟨by rfl, ?_⟩) hS10 ?_
          rotate_left
          · intro U hU
            go_simp
            all_goals with_reducible rfl
          simp only [Act.put, List.setIfInBounds_toArray, List.set_cons_zero, List.set_cons_succ]
          refine wpAnyH_take (i := 14) (oi := { dst := some 66, op := _, type := _, pos := _, after := _, guard := none }) (v := ?_) rfl (by kernel_rfl) (by kernel_rfl) (by kernel_rfl) (fun _ _ _ h => h) (Or.inl ⟨by rfl, ?_⟩) hS10 ?_
          rotate_left
          · intro U hU
            obtain ⟨u0, u1, u2, u3⟩ := hU
            go_simp
            all_goals with_reducible rfl
          simp only [Act.put, List.setIfInBounds_toArray, List.set_cons_zero, List.set_cons_succ]
          refine wpAnyH_take (i := 15) (oi := { dst := some 67, op := _, type := _, pos := _, after := _, guard := none }) (v := ?_) rfl (by kernel_rfl) (by kernel_rfl) (by kernel_rfl) (fun _ _ _ h => h) (Or.inl ⟨by rfl, ?_⟩) hS10 ?_
          rotate_left
          · intro U hU
            go_simp
            all_goals with_reducible rfl
          simp only [Act.put, List.setIfInBounds_toArray, List.set_cons_zero, List.set_cons_succ]
          refine wpAnyH_take (i := 16) (oi := { dst := some 68, op := _, type := _, pos := _, after := _, guard := none }) (v := ?_) rfl (by kernel_rfl) (by kernel_rfl) (by kernel_rfl) (fun _ _ _ h => h) (Or.inl ⟨by rfl, ?_⟩) hS10 ?_
          rotate_left
          · intro U hU
            go_simp
            all_goals with_reducible rfl
          simp only [Act.put, List.setIfInBounds_toArray, List.set_cons_zero, List.set_cons_succ]
          refine wpAnyH_take (i := 17) (oi := { dst := some 69, op := _, type := _, pos := _, after := _, guard := none }) (v := ?_) rfl (by kernel_rfl) (by kernel_rfl) (by kernel_rfl) (fun _ _ _ h => h) (Or.inl ⟨by rfl, ?_⟩) hS10 ?_
          rotate_left
          · intro U hU
            go_simp
            all_goals with_reducible rfl
          simp only [Act.put, List.setIfInBounds_toArray, List.set_cons_zero, List.set_cons_succ]
          refine wpAnyH_take (i := 18) (oi := { dst := some 70, op := _, type := _, pos := _, after := _, guard := none }) (v := ?_) rfl (by kernel_rfl) (by kernel_rfl) (by kernel_rfl) (fun _ _ _ h => h) (Or.inl ⟨by rfl, ?_⟩) hS10 ?_
          rotate_left
          · intro U hU
            go_simp
            all_goals with_reducible rfl
          simp only [Act.put, List.setIfInBounds_toArray, List.set_cons_zero, List.set_cons_succ]
          rw [shl_wrap hsv]
          refine wpAnyH_take (i := 19) (oi := { dst := some 71, op := _, type := _, pos := _, after := _, guard := none }) (v := ?_) rfl (by kernel_rfl) (by kernel_rfl) (by kernel_rfl) (fun _ _ _ h => h) (Or.inl ⟨by rfl, ?_⟩) hS10 ?_
          rotate_left
          · intro U hU
            go_simp
            rw [if_neg hE0.out]
            all_goals with_reducible rfl
          simp only [Act.put, List.setIfInBounds_toArray, List.set_cons_zero, List.set_cons_succ]
          refine wpAnyH_take (i := 20) (oi := { dst := some 72, op := _, type := _, pos := _, after := _, guard := none }) (v := ?_) rfl (by kernel_rfl) (by kernel_rfl) (by kernel_rfl) (fun _ _ _ h => h) (Or.inl ⟨by rfl, ?_⟩) hS10 ?_
          rotate_left
          · intro U hU
            go_simp
            all_goals with_reducible rfl
          simp only [Act.put, List.setIfInBounds_toArray, List.set_cons_zero, List.set_cons_succ]
          simp only [bwq hq0.1, bwq hq0.2.2.1, bwq hq0.2.2.2, bt _ hq0.1, bt _ hq0.2.2.1, bt _ hq0.2.2.2, bf1, bf3, bf4 _ hE1]
          clear hsv
          refine wpAnyH_one (i := 12) (o := { dst := some 64, op := Op.call { callee := Callee.value (Operand.func 63), args := #[Operand.tmp 57, Operand.tmp 63], argTypes := _ }, type := _, pos := _, after := _, guard := none }) (by kernel_rfl) rfl (by rfl) (fun K1 hK1 => ?_)
          have HK1 := Lib.hid hK1; clear hK1
          refine oper_callg (f := 63) (lb := #[]) rfl rfl (enters_of Try.func63 (by kernel_rfl) rfl) rfl (R := fun u W => u = .agg #[.int .i64 (qb % 4), .int .i64 (qb % 4 + qc % 4)] ∧ Below w7.heap.size w7 W) ?_ ?_
          · refine (span_any (qb % 4) (qb % 4 + qc % 4) _).mono ?_
            rintro e W ⟨rfl, hb⟩
            exact ⟨_, rfl, rfl, (Below.refl _ w7).drew.trans hb⟩
          rintro u wc ⟨rfl, hbc⟩
          have hXc := blk_keep hX hbc
          have b7c := blk_keep b7 hbc
          have hSc : wc.cell? ⟨n7, 0, none⟩ = some (.int .u8 qa) ∧ wc.cell? ⟨n7, 1, none⟩ = some (.int .u8 qb) ∧ wc.cell? ⟨n7, 2, none⟩ = some (.int .u8 qc) ∧ wc.cell? ⟨n7, 3, none⟩ = some (.int .u8 qd) := ⟨cell_blk (i := 0) b7c, cell_blk (i := 1) b7c, cell_blk (i := 2) b7c, cell_blk (i := 3) b7c⟩
          refine HK1.out _ _ hSc ?_
          clear HK1 K1
          simp only [Act.put, List.setIfInBounds_toArray, List.set_cons_zero, List.set_cons_succ]
          refine wpAnyH_take (i := 21) (oi := { dst := some 73, op := _, type := _, pos := _, after := _, guard := none }) (v := ?_) rfl (by kernel_rfl) (by kernel_rfl) (by kernel_rfl) (fun _ _ _ h => h) (Or.inl ⟨by rfl, ?_⟩) hSc ?_
          rotate_left
          · intro U hU
            go_simp
            all_goals with_reducible rfl
          simp only [Act.put, List.setIfInBounds_toArray, List.set_cons_zero, List.set_cons_succ]
          have b7d : (wc.putObj bX (.cells #[.int .i64 (100 * (qa % 11)), .int .i64 (qb % 4), .int .i64 (qb % 4 + qc % 4), .int .i64 (1 + qd % E)] 58 (0, 0))).heap[n7]? = some (.cells #[.int .u8 qa, .int .u8 qb, .int .u8 qc, .int .u8 qd] 79 (0, 0)) := (World.putObj_heap_other (Nat.ne_of_gt hlX)).trans b7c
          have hSd : (wc.putObj bX (.cells #[.int .i64 (100 * (qa % 11)), .int .i64 (qb % 4), .int .i64 (qb % 4 + qc % 4), .int .i64 (1 + qd % E)] 58 (0, 0))).cell? ⟨n7, 0, none⟩ = some (.int .u8 qa) ∧ (wc.putObj bX (.cells #[.int .i64 (100 * (qa % 11)), .int .i64 (qb % 4), .int .i64 (qb % 4 + qc % 4), .int .i64 (1 + qd % E)] 58 (0, 0))).cell? ⟨n7, 1, none⟩ = some (.int .u8 qb) ∧ (wc.putObj bX (.cells #[.int .i64 (100 * (qa % 11)), .int .i64 (qb % 4), .int .i64 (qb % 4 + qc % 4), .int .i64 (1 + qd % E)] 58 (0, 0))).cell? ⟨n7, 2, none⟩ = some (.int .u8 qc) ∧ (wc.putObj bX (.cells #[.int .i64 (100 * (qa % 11)), .int .i64 (qb % 4), .int .i64 (qb % 4 + qc % 4), .int .i64 (1 + qd % E)] 58 (0, 0))).cell? ⟨n7, 3, none⟩ = some (.int .u8 qd) := ⟨cell_blk (i := 0) b7d, cell_blk (i := 1) b7d, cell_blk (i := 2) b7d, cell_blk (i := 3) b7d⟩
          refine wpAnyH_one (i := 22) (o := { dst := none, op := Op.store 58 (Operand.tmp 6) (Operand.tmp 73), type := _, pos := _, after := _, guard := none }) (by kernel_rfl) rfl (by rfl) (fun K1 hK1 => ?_)
          have HK1 := Lib.hid hK1; clear hK1
          refine oper_store_blk 58 _ _ rfl _ rfl rfl hXc size58 rfl rfl (by simp [Value.oneCell']) ?_
          refine HK1.out _ _ hSd ?_
          clear HK1 K1
          refine wpAnyH_done (by kernel_rfl) ?_ _
          have hbF : Below wr.heap.size wr (wc.putObj bX (.cells #[.int .i64 (100 * (qa % 11)), .int .i64 (qb % 4), .int .i64 (qb % 4 + qc % 4), .int .i64 (1 + qd % E)] 58 (0, 0))) := below_putObj (hbA0.trans (hbc0 hbc)) hbXw
          have hXF : (wc.putObj bX (.cells #[.int .i64 (100 * (qa % 11)), .int .i64 (qb % 4), .int .i64 (qb % 4 + qc % 4), .int .i64 (1 + qd % E)] 58 (0, 0))).heap[bX]? = some (.cells #[.int .i64 (100 * (qa % 11)), .int .i64 (qb % 4), .int .i64 (qb % 4 + qc % 4), .int .i64 (1 + qd % E)] 58 (0, 0)) := World.putObj_heap_same (lt_blk hXc)
          have HXF := Lib.hid (okw_q HE.out hE1 qa qb qc qd)
          clear b7d hSd hSc b7c hXc hS10 b7 hX HXW b1 b2 b3 hrow hsz hB hbw hbc0 hlX7 hlX hlt hE0
          generalize World.putObj _ bX _ = wF at *
          generalize 100 * (qa % 11) = x0 at *
          generalize qb % 4 + qc % 4 = x2 at *
          generalize qb % 4 = x1 at *
          generalize 1 + qd % E = x3 at *
          have b1 := blk_keep b10 hbF
          have b2 := blk_keep b20 hbF
          have b3 := blk_keep b30 hbF
          have hrow := row_below hrow0 hbF
          have hsz := Nat.le_trans hsz0 hbF.size
          have hB := hB0.trans (hbF.mono hbw0)
          have hbw := hB.size
          have hX := hXF
          have HXW := HXF
          refine HK.out _ _ ?_; clear HK
          have d3 := cell_blk (i := 3) b3
          have f3 := free_blk (i := 3) b3
          simp only [List.getElem?_toArray, List.getElem?_cons_zero, List.getElem?_cons_succ] at d3
          have hlt3 := lt_blk b3
          have hbw2 := hB.size
          go_wp2_with (first
            | (refine wpList_load_blk rfl 58 _ rfl _ rfl hX Try.underlying58 rfl size58 rfl ?_)
            | (at_builtin; (refine wpList_append_own _ rfl _ _ 22 rfl w2.heap.size 58 i58 (.agg #[.int .i64 0, .int .i64 0, .int .i64 0, .int .i64 0]) 4 32 Try.underlying22 HI.out.1 HI.out.2.1 HI.out.2.2.1 HI.out.2.2.2 rfl (by decide) _ _ _ rfl (hrow.alloc _) ⟨wF.heap.size, 0, none⟩ 1 1 [.int .i64 x0, .int .i64 x1, .int .i64 x2, .int .i64 x3] rfl rfl (cell_newL (xs := [.int .i64 x0, .int .i64 x1, .int .i64 x2, .int .i64 x3]) rfl) (by simp [Value.oneCell']) (Nat.le_trans (by omega : k + 1 ≤ 50) (by decide)) (by omega) (by rw [World.size_alloc]; omega) ?_; intro v' w6 g1 g2 _; obtain ⟨a6, c6, rfl⟩ := form_of g1; have hbn : Below w2.heap.size wF w6 := grown_below1 g2 hrow (Nat.le_refl _) (by omega) (Below.refl _ _); have b36 := blk_below b3 hbn (by omega); have e3 := cell_blk (i := 3) b36; have f6 := free_blk (i := 3) b36; simp only [List.getElem?_toArray, List.getElem?_cons_zero, List.getElem?_cons_succ] at e3)))
          have hf1 := (heap_set_other (v := (.slice a6 (k + 1) c6)) (b' := w1.heap.size) (i := 3) (show w.heap.size ≠ w1.heap.size by omega)).trans (blk_below b1 hbn (by omega))
          have hf2 := (heap_set_other (v := (.slice a6 (k + 1) c6)) (b' := w1.heap.size) (i := 3) (show w.heap.size + 1 ≠ w1.heap.size by omega)).trans (blk_below b2 hbn (by omega))
          have hf3 : (w6.setCell ⟨w1.heap.size, 3, none⟩ (.slice a6 (k + 1) c6)).heap[w1.heap.size]? = some (.cells #[.int .i64 r1, .int .i64 m1, .int .i64 l1, .slice a6 (k + 1) c6] 24 (0, 0)) := by rw [heap_set_blk b36]; rfl
          have hf4 := row_set_other (b := w1.heap.size) (i := 3) (x := (.slice a6 (k + 1) c6)) g1 (fun h => by have := (g1.lt _ h).1; omega)
          have hf5 := (hB.trans (hbn.mono (by omega))).setCell (p := ⟨w1.heap.size, 3, none⟩) (show w.heap.size ≤ w1.heap.size by omega) (.slice a6 (k + 1) c6)
          have hf6 : w2.heap.size ≤ (w6.setCell ⟨w1.heap.size, 3, none⟩ (.slice a6 (k + 1) c6)).heap.size := by have := hbn.size; rw [World.size_setCell]; omega
          have hf7 : (ws ++ [Wt.mk x0 x1 x2 x3]).flatMap encW = ws.flatMap encW ++ [.int .i64 x0, .int .i64 x1, .int .i64 x2, .int .i64 x3] := by rw [List.flatMap_append]; rfl
          go_roundw
          case rel =>
            refine ⟨k + 1, _, ws ++ [Wt.mk x0 x1 x2 x3], by omega, by go_num, by rw [List.length_append, HW.out.1]; rfl, fun z hz => ?_, hf1, hf2, hf3, by rw [hf7]; exact hf4, hf5, hf6⟩
            rcases List.mem_append.1 hz with h | h
            · exact HW.out.2 z h
            · simp at h; subst h; exact HXW.out
          case measure => simp [intOf]; omega

        · have hkqi : ¬ (k : Int) < (qs.length : Int) := by omega
          go_wp2
          refine HK.out _ _ ?_; clear HK
          have d3 := cell_blk (i := 3) b3
          have f3 := free_blk (i := 3) b3
          simp only [List.getElem?_toArray, List.getElem?_cons_zero, List.getElem?_cons_succ] at d3
          have hlt3 := lt_blk b3
          have hbw2 := hB.size
          go_wp2_with (first
            | (refine wpList_load_blk rfl 58 _ rfl _ rfl hX Try.underlying58 rfl size58 rfl ?_)
            | (at_builtin; (refine wpList_append_own _ rfl _ _ 22 rfl w2.heap.size 58 i58 (.agg #[.int .i64 0, .int .i64 0, .int .i64 0, .int .i64 0]) 4 32 Try.underlying22 HI.out.1 HI.out.2.1 HI.out.2.2.1 HI.out.2.2.2 rfl (by decide) _ _ _ rfl (hrow.alloc _) ⟨wX.heap.size, 0, none⟩ 1 1 [.int .i64 x0, .int .i64 x1, .int .i64 x2, .int .i64 x3] rfl rfl (cell_newL (xs := [.int .i64 x0, .int .i64 x1, .int .i64 x2, .int .i64 x3]) rfl) (by simp [Value.oneCell']) (Nat.le_trans (by omega : k + 1 ≤ 50) (by decide)) (by omega) (by rw [World.size_alloc]; omega) ?_; intro v' w6 g1 g2 _; obtain ⟨a6, c6, rfl⟩ := form_of g1; have hbn : Below w2.heap.size wX w6 := grown_below1 g2 hrow (Nat.le_refl _) (by omega) (Below.refl _ _); have b36 := blk_below b3 hbn (by omega); have e3 := cell_blk (i := 3) b36; have f6 := free_blk (i := 3) b36; simp only [List.getElem?_toArray, List.getElem?_cons_zero, List.getElem?_cons_succ] at e3)))
          have hf1 := (heap_set_other (v := (.slice a6 (k + 1) c6)) (b' := w1.heap.size) (i := 3) (show w.heap.size ≠ w1.heap.size by omega)).trans (blk_below b1 hbn (by omega))
          have hf2 := (heap_set_other (v := (.slice a6 (k + 1) c6)) (b' := w1.heap.size) (i := 3) (show w.heap.size + 1 ≠ w1.heap.size by omega)).trans (blk_below b2 hbn (by omega))
          have hf3 : (w6.setCell ⟨w1.heap.size, 3, none⟩ (.slice a6 (k + 1) c6)).heap[w1.heap.size]? = some (.cells #[.int .i64 r1, .int .i64 m1, .int .i64 l1, .slice a6 (k + 1) c6] 24 (0, 0)) := by rw [heap_set_blk b36]; rfl
          have hf4 := row_set_other (b := w1.heap.size) (i := 3) (x := (.slice a6 (k + 1) c6)) g1 (fun h => by have := (g1.lt _ h).1; omega)
          have hf5 := (hB.trans (hbn.mono (by omega))).setCell (p := ⟨w1.heap.size, 3, none⟩) (show w.heap.size ≤ w1.heap.size by omega) (.slice a6 (k + 1) c6)
          have hf6 : w2.heap.size ≤ (w6.setCell ⟨w1.heap.size, 3, none⟩ (.slice a6 (k + 1) c6)).heap.size := by have := hbn.size; rw [World.size_setCell]; omega
          have hf7 : (ws ++ [Wt.mk x0 x1 x2 x3]).flatMap encW = ws.flatMap encW ++ [.int .i64 x0, .int .i64 x1, .int .i64 x2, .int .i64 x3] := by rw [List.flatMap_append]; rfl
          go_roundw
          case rel =>
            refine ⟨k + 1, _, ws ++ [Wt.mk x0 x1 x2 x3], by omega, by go_num, by rw [List.length_append, HW.out.1]; rfl, fun z hz => ?_, hf1, hf2, hf3, by rw [hf7]; exact hf4, hf5, hf6⟩
            rcases List.mem_append.1 hz with h | h
            · exact HW.out.2 z h
            · simp at h; subst h; exact HXW.out
          case measure => simp [intOf]; omega
      exact AllReadyH.nil
    · have hke : k = N := by omega
      clear HN
      subst hke
      obtain ⟨aq, cq, rfl⟩ := form_of hrow
      go_wp2
      refine HK.out _ _ ?_; clear HK
      have hlt3 := lt_blk b3
      go_wp2_with (first | (refine wpList_load_blk rfl 24 _ rfl _ rfl b3 Try.underlying24 rfl size24 rfl ?_) | (refine wpList_store_blk rfl 24 _ _ rfl _ rfl rfl b2 size24 rfl rfl (by simp [Value.oneCell']) ?_))
      obtain ⟨hwl, hwk⟩ := HW.out
      have hlt2 := lt_blk b2
      refine bodyPost_ret (results_blk rfl _ _ (w.heap.size + 1) rfl (World.putObj_heap_same hlt2) Try.underlying24 rfl size24 rfl) rfl ⟨⟨r1, m1, l1, ws⟩, _, rfl, slG_own (enc := encW) (sz := 4) (fun _ => rfl) (row_putO hrow (by omega)) hwl.symm (by rw [hwl]; omega), pl_of hrb hmb hlb ⟨by rw [hwl]; omega, by rw [hwl]; omega⟩ (by rw [hwl]; exact hwk), below_putObj hB (by omega)⟩
end Ytndmjginmomfiaa
end Go.Proofs
