/- For every crop, sample and number the law RipeBetter returns true. -/
import Derived.Test.YtgnjeefanbcbkaaL7
import Derived.Test.YtgnjeefanbcbkaaE6
open Go Go.RowKit Go.YtgnjeefanbcbkaaIt
namespace Go.Proofs
namespace Ytgnjeefanbcbkaa
theorem own_some {W : World} {B : Nat} {e : TypeId} {sz n : Nat} {v : Value} {xs : List Value} (h : W.ownsRow B e sz v n xs) (h0 : 0 < n) : ∃ g c, v = .slice (some ⟨g, 0, none⟩) n c ∧ B ≤ g ∧ g < W.heap.size := by
  rcases h.2 with ⟨_, h1⟩ | ⟨g, c, cur, e, h1, h2, -⟩
  · omega
  · exact ⟨g, c, e, h1, lt_blk h2⟩
theorem grown_made {W w7 : World} {o : Obj} (g2 : (W.alloc o).grownBy w7 (some W.heap.size)) : Below W.heap.size W w7 := by
  have hs : W.heap.size + 1 ≤ w7.heap.size := by have := g2.size; simpa using this
  refine ⟨g2.os, g2.tape, g2.output, by omega, fun k hk => ?_⟩
  rw [g2.block k (by simp; omega) (fun h2 => by injection h2; omega)]
  exact heap_oldI hk
def mapTo (h : Smp → Smp) (k : Nat) (ws : List Smp) : List Smp := (ws.take k).map h ++ ws.drop k
theorem mapTo_zero (h : Smp → Smp) (ws : List Smp) : mapTo h 0 ws = ws := by simp [mapTo]
theorem mapTo_all (h : Smp → Smp) (ws : List Smp) : mapTo h ws.length ws = ws.map h := by simp [mapTo]
theorem mapTo_len (h : Smp → Smp) (k : Nat) (ws : List Smp) : (mapTo h k ws).length = ws.length := by
  simp only [mapTo, List.length_append, List.length_map, List.length_take, List.length_drop]; omega
theorem mapTo_at (h : Smp → Smp) {k : Nat} {ws : List Smp} (hk : k < ws.length) : at_ (mapTo h k ws) k = at_ ws k := by
  have hl : ((ws.take k).map h).length = k := by simp; omega
  simp only [at_, mapTo, List.getD_eq_getElem?_getD]
  rw [List.getElem?_append_right (by rw [hl]; exact Nat.le_refl _), hl, Nat.sub_self, List.getElem?_drop, Nat.add_zero]
theorem mapTo_set (h : Smp → Smp) {k : Nat} {ws : List Smp} (hk : k < ws.length) : (mapTo h k ws).set k (h (at_ ws k)) = mapTo h (k + 1) ws := by
  have hl : ((ws.take k).map h).length = k := by simp; omega
  unfold mapTo
  rw [List.set_append_right _ _ (by rw [hl]; exact Nat.le_refl _), hl, Nat.sub_self, List.drop_eq_getElem_cons hk, List.set_cons_zero, List.take_succ_eq_append_getElem hk, at_lt hk, List.map_append, List.append_assoc]
  rfl
theorem wpQuiet_val2 {P : Program} {ops : Array Oper} {C : World → Prop} {Q : Act → Prop} {a : Act} {o : Oper} {rest : List Oper} (v : Value) (hw : Region.wanted o (yielded ops a.tmps) = true)
    (hr : ∀ W, (execOp a.eval o).run P W = .ok (.value v) W) (h : wpQuiet P ops C Q rest (a.put o.dst v)) : wpQuiet P ops C Q (o :: rest) a := by
  refine wpQuiet_step fun K hK => ?_
  rw [if_pos hw]
  refine ⟨_, fun W hW => ?_, hK _ h⟩
  unfold Oper.quietAt
  rw [hr]
  exact ⟨rfl, rfl⟩
theorem wpQuiet_max2 {P : Program} {ops : Array Oper} {C : World → Prop} {Q : Act → Prop} {a : Act} {o : Oper} {rest : List Oper} (hw : Region.wanted o (yielded ops a.tmps) = true) (x y : Operand) (ats : Array TypeId)
    (ho : o.op = .call { callee := .builtin .max, args := #[x, y], argTypes := ats }) {k : IntKind} {m n : Int} (hx : a.eval x = .int k m) (hy : a.eval y = .int k n)
    (h : wpQuiet P ops C Q rest (a.put o.dst (.int k (max m n)))) : wpQuiet P ops C Q (o :: rest) a := by
  refine wpQuiet_val2 _ hw (fun w => ?_) h
  unfold execOp
  simp only [ho, resolve, invoke, builtin, Sem.run_bind, Sem.run_pure, Result.andThen_ok, List.map_toArray, List.map_cons, List.map_nil, hx, hy]
  have e : (if m < n then n else m) = max m n := by rw [Int.max_def]; split <;> split <;> omega
  simp [Builtin.max_, Builtin.max2, go_sem, e]
theorem flat_set {α β : Type} {enc : α → List β} {sz : Nat} (he : ∀ x, (enc x).length = sz) : ∀ {xs : List α} {k : Nat} (hk : k < xs.length) {f : Nat} (_ : f < sz) {v : β} {x : α} (_ : enc x = (enc xs[k]).set f v), (xs.flatMap enc).set (k * sz + f) v = (xs.set k x).flatMap enc
  | [], _, hk, _, _, _, _, _ => by simp at hk
  | y :: ys, 0, _, f, hf, v, x, h => by
    simp only [List.getElem_cons_zero] at h
    rw [List.set_cons_zero, List.flatMap_cons, List.flatMap_cons, Nat.zero_mul, Nat.zero_add, List.set_append_left _ _ (by rw [he]; exact hf), h]
  | y :: ys, k + 1, hk, f, hf, v, x, h => by
    simp only [List.getElem_cons_succ] at h
    rw [List.set_cons_succ, List.flatMap_cons, List.flatMap_cons, List.set_append_right _ _ (by rw [he, Nat.add_mul]; omega), he, show (k + 1) * sz + f - sz = k * sz + f by rw [Nat.add_mul]; omega,
      flat_set he (by simpa using hk) hf h]
/-- An own row of samples, one of which has another error. -/
theorem row_off {W : World} {B g c k m : Nat} {less : Int} {T : Nat → Int} {ss : List Smp} {v : Int} (h : W.ownsRow B 82 3 (.slice (some ⟨g, 0, none⟩) m c) m ((mapTo (cutO T less) k ss).flatMap encS)) (hk : k < ss.length) (hv : v = (cutO T less (at_ ss k)).off) :
    (W.setCell ⟨g, k * 3 + 2, none⟩ (.int .i64 v)).ownsRow B 82 3 (.slice (some ⟨g, 0, none⟩) m c) m ((mapTo (cutO T less) (k + 1) ss).flatMap encS) := by
  have hk2 : k < (mapTo (cutO T less) k ss).length := by rw [mapTo_len]; exact hk
  have h1 := (h.stored (k * 3 + 2) (.int .i64 v)).1
  have he : (mapTo (cutO T less) k ss)[k] = at_ ss k := by rw [← at_lt hk2, mapTo_at _ hk]
  rw [flat_set (sz := 3) encS_len hk2 (f := 2) (by omega) (x := cutO T less (at_ ss k)) (by rw [he, hv]; rfl), mapTo_set _ hk] at h1
  exact h1
theorem row_cells {W : World} {B g c k m : Nat} {h : Smp → Smp} {ss : List Smp} (ho : W.ownsRow B 82 3 (.slice (some ⟨g, 0, none⟩) m c) m ((mapTo h k ss).flatMap encS)) (hk : k < ss.length) :
    W.cell? ⟨g, k * 3, none⟩ = some (.int .i64 (at_ ss k).week) ∧ W.cell? ⟨g, k * 3 + 1, none⟩ = some (.int .i64 (at_ ss k).val) ∧ W.cell? ⟨g, k * 3 + 2, none⟩ = some (.int .i64 (at_ ss k).off) := by
  have hk2 : k < (mapTo h k ss).length := by rw [mapTo_len]; exact hk
  have hm : m * 3 = (mapTo h k ss).length * 3 := by have := ho.1; rw [flat_length encS_len] at this; exact this.symm
  have he : (mapTo h k ss)[k] = at_ ss k := by rw [← at_lt hk2, mapTo_at _ hk]
  have hg : ∀ f, f < 3 → W.cell? ⟨g, k * 3 + f, none⟩ = (encS (at_ ss k))[f]? := fun f hf => by
    rw [ho.cellAt (k * 3 + f) (by omega), flat_get (enc := encS) (sz := 3) encS_len hk2 hf, he]
  exact ⟨hg 0 (by omega), hg 1 (by omega), hg 2 (by omega)⟩
set_option maxRecDepth 100000 in
set_option maxHeartbeats 8000000 in
theorem ripebetter_any (wk fs st ra rb : Int) (vf vs : Value) (falls : List Int) (sm : List B3) (ya yb yc less : Int) (w : World) (hwk : 0 ≤ wk ∧ wk < 256) (hfs : 0 ≤ fs ∧ fs < 256) (hst : 0 ≤ st ∧ st < 256) (hr0 : 0 ≤ ra ∧ ra < 256) (hr1 : 0 ≤ rb ∧ rb < 256) (hf : SlB w vf falls) (hs : SlT w vs sm) (hya : 0 ≤ ya ∧ ya < 256) (hyb : 0 ≤ yb ∧ yb < 256) (hyc : 0 ≤ yc ∧ yc < 256) (hle : 0 ≤ less ∧ less < 256) :
    Calls Try.prog 10 #[.agg #[.int .u8 wk, .int .u8 fs, .int .u8 st, vf, .int .u8 ra, .int .u8 rb, vs], .agg #[.int .u8 ya, .int .u8 yb, .int .u8 yc], .int .u8 less] w fun e w' => e = .returned (.bool true) ∧ Below w.heap.size w w' := by
  have hm33 := fun (W : World) (h : Below w.heap.size w W) => made_any wk fs st ra rb vf vs falls sm W hwk hfs hst hr0 hr1 (hf.below h (Nat.le_refl _)) (hs.below h (Nat.le_refl _))
  obtain ⟨⟨af, cf, rfl, -, -⟩, -⟩ := hf
  obtain ⟨⟨sx, cx, rfl, -, -⟩, -⟩ := hs
  have HM33 := Lib.hid hm33
  clear hm33
  go_enter Try.func10, Try.ntmps10
  refine wp_seq_k (fun K hK => ?_)
  have HK := Lib.hid hK; clear hK
  go_wp2
  refine HK.out _ _ ?_; clear HK K
  generalize hw1 : World.alloc _ _ = w1
  obtain ⟨b2, b80, B, hs1⟩ := blk2 hw1
  clear hw1
  refine wp_seq_k (fun K hK => ?_)
  have HK := Lib.hid hK; clear hK
  go_wp2_with (first | (refine wpList_load_blk rfl 63 _ rfl _ rfl b2 Try.underlying63 rfl size63 rfl ?_) | (go_at_call 33; refine (HM33.out _ B).mono ?_; rintro e w3 ⟨n, lo, hi, v, ss, p, T, rfl, hv, ht, hR, h15, hb⟩; obtain ⟨av, cv, rfl, -, -, -⟩ := id hv; obtain ⟨ap, cp, rfl, -, -, -⟩ := id ht; simp only [List.length_map, List.length_range] at ht))
  refine HK.out _ _ ?_; clear HK K
  clear HM33 b2
  have lw3 := hb.size
  have B3 := btr B hb (Nat.le_refl _)
  replace b80 := blk_keep b80 hb
  clear hb B
  obtain ⟨g7, hg7⟩ : ∃ g, g = w3.heap.size := ⟨_, rfl⟩
  have HG7 := Lib.hid hg7
  have HV := Lib.hid hv
  have hl80 : w.heap.size + 1 < g7 := by omega
  have hB3 : Below g7 w3 w3 := Below.refl _ _
  have b7 : (w3.alloc (.cells #[.int .i64 n, .int .i64 lo, .int .i64 hi, .slice av ss.length cv] 26)).heap[g7]? = some (.cells #[.int .i64 n, .int .i64 lo, .int .i64 hi, .slice av ss.length cv] 26 (0, 0)) := by rw [hg7]; exact heap_newI rfl
  replace hB3 := hB3.alloc (Nat.le_of_eq hg7) (.cells #[.int .i64 n, .int .i64 lo, .int .i64 hi, .slice av ss.length cv] 26)
  have hn1 : 1 ≤ n ∧ n ≤ 12 := ⟨hR.n1, hR.n12⟩
  have hn0 : 0 < n := by omega
  have hn00 : (0 : Int) < (n : Int) := by omega
  obtain ⟨bp, op, rfl, hltp, hcp⟩ := sl_cell ht hn0
  rw [← hg7] at hltp ⊢
  clear hg7 hs1 lw3 hv ht
  generalize hwn : World.alloc _ _ = wn at *
  clear hwn
  have q0 := (hB3.cell (p := ⟨bp, op, none⟩) hltp).trans (hcp 0 (by omega))
  have HCP := Lib.hid hcp
  have HR := Lib.hid hR
  have h0 := hR.inn 0 (by omega)
  have hl0 : decide (T 0 < lo) = false := decide_eq_false (by omega)
  have hl1 : decide (30000 < hi) = false := decide_eq_false (by have := hR.hi0; omega)
  have c1 := cell_blk (i := 1) b7
  have c2 := cell_blk (i := 2) b7
  simp only [List.getElem?_toArray, List.getElem?_cons_zero, List.getElem?_cons_succ] at c1 c2
  clear hR h0 hcp
  refine wp_seq_k (fun K hK => ?_)
  have HK := Lib.hid hK; clear hK
  go_wp2
  go_quiet (fail)
  go_wp2
  refine HK.out _ _ ?_; clear HK K
  clear q0 c1 c2 hl0 hl1
  replace b7 : (wn.drewN nq).heap[g7]? = _ := b7
  replace hB3 : Below g7 w3 (wn.drewN nq) := below_drewN hB3 nq
  generalize wn.drewN nq = wq at *
  clear wn
  refine wp_seq_k (fun K hK => ?_)
  have HK := Lib.hid hK; clear hK
  go_wp2_with (refine wpList_load_blk rfl 26 _ rfl _ rfl b7 Try.underlying26 rfl size26 rfl ?_)
  refine HK.out _ _ ?_; clear HK K
  have b9 : (wq.alloc (.cells #[.int .i64 n, .int .i64 lo, .int .i64 hi, .slice av ss.length cv] 26)).heap[wq.heap.size]? = some (.cells #[.int .i64 n, .int .i64 lo, .int .i64 hi, .slice av ss.length cv] 26 (0, 0)) := heap_newI rfl
  have hb := (Below.refl wq.heap.size wq).alloc (Nat.le_refl _) (.cells #[.int .i64 n, .int .i64 lo, .int .i64 hi, .slice av ss.length cv] 26)
  have hs9 : wq.heap.size + 1 ≤ (wq.alloc (.cells #[.int .i64 n, .int .i64 lo, .int .i64 hi, .slice av ss.length cv] 26)).heap.size := Nat.le_of_eq (World.size_alloc ..).symm
  generalize World.alloc _ _ = w5 at *
  have lg7 := lt_blk b7
  replace b7 := blk_keep b7 hb
  replace hB3 := hB3.trans (hb.mono (by omega))
  clear hb
  generalize wq.heap.size = g9 at *
  clear wq
  obtain ⟨i82, hi82, hz1, hz2, hz3⟩ := info_parts info82
  have HI2 := Lib.hid (And.intro hi82 (And.intro hz1 (And.intro hz2 hz3)))
  clear hi82 hz1 hz2 hz3
  have hrd := reads_of_slG (enc := encS) (sz := 3) encS_len (by decide) (HV.out.below hB3 (Nat.le_of_eq HG7.out.symm))
  have c3 := cell_blk (i := 3) b7
  simp only [List.getElem?_toArray, List.getElem?_cons_zero, List.getElem?_cons_succ] at c3
  have hl15 : ss.length ≤ 15 := h15
  have c3a : (w5.alloc (.cells #[] 82)).cell? ⟨g7, 3, none⟩ = some (.slice av ss.length cv) := (World.cell?_alloc_lt w5 _ ⟨g7, 3, none⟩ (by simp; omega)).trans c3
  refine wp_seq_k (fun K hK => ?_)
  have HK := Lib.hid hK; clear hK
  go_wp2_with (at_builtin; refine cutme ?_)
  refine ⟨?_⟩
  refine wpList_append_any _ rfl _ _ 24 rfl w5.heap.size 82 i82 (.agg #[.int .i64 0, .int .i64 0, .int .i64 0]) 3 24 Try.underlying24 HI2.out.1 HI2.out.2.1 HI2.out.2.2.1 HI2.out.2.2.2 rfl (by decide) _ 0 [] rfl (World.ownsRow_made w5 #[] 0 (Nat.le_refl _) (by decide) rfl) _ _ _ _ _ rfl (hrd.alloc (Nat.le_refl _) _) (by intro u hu; obtain ⟨x, -, hx⟩ := List.mem_flatMap.1 hu; simp [encS] at hx; rcases hx with rfl | rfl | rfl <;> rfl) (Nat.le_trans (by omega : 0 + ss.length ≤ 50) (by decide)) (by omega) (by rw [World.size_alloc]; omega) ?_
  intro v7 w7 r1 r2 _
  obtain ⟨a7, c7, rfl⟩ := form_of r1
  have hbn := grown_made r2
  have u9 := blk_keep b9 hbn
  have c9 := cell_blk (i := 3) u9
  have f9 := free_blk (i := 3) u9
  simp only [List.getElem?_toArray, List.getElem?_cons_zero, List.getElem?_cons_succ] at c9
  go_wp2
  refine HK.out _ _ ?_; clear HK K
  simp only [Nat.zero_add, List.nil_append] at r1 ⊢
  have lg9 := lt_blk b9
  have lg75 := lt_blk b7
  replace b7 := (heap_set_other (W := w7) (v := (.slice a7 ss.length c7)) (b' := g9) (i := 3) (show g7 ≠ g9 by omega)).trans (blk_keep b7 hbn)
  replace hB3 := (hB3.trans (hbn.mono (by omega))).setCell (p := ⟨g9, 3, none⟩) (show g7 ≤ g9 by omega) (.slice a7 ss.length c7)
  have ro := row_set_other (b := g9) (i := 3) (x := (.slice a7 ss.length c7)) r1 (own_ne r1 u9 (by decide))
  replace b9 : (w7.setCell ⟨g9, 3, none⟩ (.slice a7 ss.length c7)).heap[g9]? = some (.cells #[.int .i64 n, .int .i64 lo, .int .i64 hi, .slice a7 ss.length c7] 26 (0, 0)) := (heap_set_blk u9).trans rfl
  have hs8 : w5.heap.size ≤ (w7.setCell ⟨g9, 3, none⟩ (.slice a7 ss.length c7)).heap.size := by rw [World.size_setCell]; exact hbn.size
  generalize World.setCell _ _ _ = w8 at *
  generalize w5.heap.size = B5 at *
  rw [← mapTo_zero (cutO T less) ss] at ro
  clear c9 f9 u9 hbn r1 r2 hrd c3 c3a hs9
  simp only [mapTo_len] at ro
  have c9 := cell_blk (i := 3) b9
  simp only [List.getElem?_toArray, List.getElem?_cons_zero, List.getElem?_cons_succ] at c9
  refine wp_seq_k (fun K hK => ?_)
  have HK := Lib.hid hK; clear hK
  go_wp2
  clear c9
  go_loopw [57] (fun i wr => ∃ k : Nat, k ≤ ss.length ∧ i = .int .i64 k ∧ wr.heap[g7]? = some (.cells #[.int .i64 n, .int .i64 lo, .int .i64 hi, .slice av ss.length cv] 26 (0, 0)) ∧ wr.heap[g9]? = some (.cells #[.int .i64 n, .int .i64 lo, .int .i64 hi, .slice a7 ss.length c7] 26 (0, 0)) ∧ wr.ownsRow B5 82 3 (.slice a7 ss.length c7) ss.length ((mapTo (cutO T less) k ss).flatMap encS) ∧ Below g7 w3 wr ∧ B5 ≤ wr.heap.size) (fun i _ => ss.length - (intOf i).toNat)
  case atStart => exact ⟨0, Nat.zero_le _, rfl, b7, b9, ro, hB3, hs8⟩
  case round =>
    clear b7 b9 ro hB3 hs8
    obtain ⟨k, hk, rfl, b7, b9, ro, hB3, hs8⟩ := hrel
    by_cases hks : k < ss.length
    · have hksi : (k : Int) < (ss.length : Int) := by omega
      obtain ⟨gq, cq', e', hgq, hgqs⟩ := own_some ro (by omega)
      injection e' with e1 _ e3
      subst e1 e3
      obtain ⟨q0, q1, q2⟩ := row_cells ro hks
      have hok := HR.out.ok (at_ ss k) (by rw [at_lt hks]; exact List.getElem_mem hks)
      obtain ⟨wn, hwn⟩ : ∃ wn : Nat, (wn : Int) = (at_ ss k).week := ⟨(at_ ss k).week.toNat, by omega⟩
      have hT1 : T (at_ ss k).week.toNat = T wn := by rw [← hwn]; rfl
      rw [← hwn] at q0
      have hwl : (wn : Int) < (n : Int) := by omega
      have t1 := (hB3.cell (p := ⟨bp, op + wn, none⟩) hltp).trans (HCP.out wn (by omega))
      have hin := HR.out.inn wn (by omega)
      have hhi := HR.out.hi0
      have hvv : max ((at_ ss k).val - T wn) (max (T wn - (at_ ss k).val) ((at_ ss k).off - less)) = (cutO T less (at_ ss k)).off := by simp only [cutO]; rw [hT1]; omega
      rw [hT1] at hok
      have HVV := Lib.hid hvv
      clear hvv hT1 hwn
      generalize T wn = y at *
      generalize (at_ ss k).val = xv at *
      generalize (at_ ss k).off = xo at *
      have k1 := c33 (q := xv - y) (by omega)
      have k2 := c33 (q := y - xv) (by omega)
      have k3 := c33 (q := less) (by omega)
      have k4 := c33 (q := xo - less) (by omega)
      clear hin hhi hok
      have f2 : wr.frozen? ⟨gq, k * 3 + 2, none⟩ = false := ro.frozenAt (k * 3 + 2)
      have c9 := cell_blk (i := 3) b9
      simp only [List.getElem?_toArray, List.getElem?_cons_zero, List.getElem?_cons_succ] at c9
      go_wp2
      refine wp_region_quiet_lit (by kernel_rfl) (by kernel_rfl) ?_
      repeat (first | (refine wpQuiet_max2 rfl _ _ _ rfl rfl rfl ?_; simp only [Act.put, List.setIfInBounds_toArray, List.set_cons_succ, List.set_cons_zero]) | go_big_quiet_step (fail))
      refine wpQuiet_nil ?_
      intro _ hw'
      obtain ⟨nq, hw''⟩ := hw'
      subst hw''
      replace q2 : (wr.drewN nq).cell? _ = _ := q2
      replace f2 : (wr.drewN nq).frozen? _ = _ := f2
      go_wp2_with (refine wpList_max rfl _ _ _ rfl rfl rfl ?_)
      rw [HVV.out]
      have nr : ((wr.drewN nq).setCell ⟨gq, k * 3 + 2, none⟩ (.int .i64 (cutO T less (at_ ss k)).off)).ownsRow B5 82 3 (.slice (some ⟨gq, 0, none⟩) ss.length c7) ss.length _ := row_off (W := wr.drewN nq) ro hks rfl
      have n7 := (heap_set_other (W := wr.drewN nq) (v := (.int .i64 (cutO T less (at_ ss k)).off)) (b' := gq) (i := k * 3 + 2) (show g7 ≠ gq by omega)).trans b7
      have n9 := (heap_set_other (W := wr.drewN nq) (v := (.int .i64 (cutO T less (at_ ss k)).off)) (b' := gq) (i := k * 3 + 2) (show g9 ≠ gq by omega)).trans b9
      have nB := (below_drewN hB3 nq).setCell (p := ⟨gq, k * 3 + 2, none⟩) (show g7 ≤ gq by omega) (.int .i64 (cutO T less (at_ ss k)).off)
      have nW : B5 ≤ ((wr.drewN nq).setCell ⟨gq, k * 3 + 2, none⟩ (.int .i64 (cutO T less (at_ ss k)).off)).heap.size := by rw [World.size_setCell]; exact hs8
      generalize World.setCell _ _ _ = w9 at *
      go_roundw
      case rel => exact ⟨k + 1, by omega, by go_num, n7, n9, nr, nB, nW⟩
      case measure => simp [intOf]; omega
    · have hkk : k = ss.length := by omega
      have hksi : ¬ (k : Int) < (ss.length : Int) := by omega
      rw [hkk, mapTo_all] at ro
      clear hkk
      go_wp2
      refine HK.out _ _ ?_; clear HK
      obtain ⟨w6, hw6⟩ : ∃ w6, w6 = wr := ⟨_, rfl⟩
      subst hw6
      have v80 := (hB3.block _ hl80).trans b80
      have y0 := cell_blk (i := 0) v80
      have y1 := cell_blk (i := 1) v80
      have d0 := cell_blk (i := 0) b7
      simp only [List.getElem?_toArray, List.getElem?_cons_zero, List.getElem?_cons_succ] at y0 y1 d0
      have lg7 := lt_blk b7
      have lg9 := lt_blk b9
      have l80 := lt_blk v80
      have hm0 : ¬ (n : Int) = 0 := by omega
      have hm0' : ¬ n = 0 := by omega
      have k1 := c33 (q := ya) (by omega)
      have k2 := d33 hya.1 (n : Int)
      have k3 := c33 (q := yb) (by omega)
      have HB7 := Lib.hid (And.intro hB3 (And.intro ro (And.intro b7 (And.intro b9 (And.intro hs8 hm0)))))
      clear hB3 ro b7 b9 hs8 hm0
      refine wp_seq_k (fun K hK => ?_)
      have HK := Lib.hid hK; clear hK
      refine wp_region_alloc (obj := .cells #[.int .i64 0, .int .i64 0, .int .i64 0] 82 (0, 0)) (p := .pointer (some ⟨w6.heap.size, 0, none⟩)) 10 11 (on := _) (ot := _) (by kernel_rfl) (by kernel_rfl) rfl rfl rfl rfl (by kernel_rfl) ?hal ?_
      case hal => kernel_rfl
      simp only [struckS, List.set_cons_succ, List.set_cons_zero]
      have f0 : ∀ x : Tw w6.drew (w6.alloc (.cells #[.int .i64 0, .int .i64 0, .int .i64 0] 82 (0, 0))).drew, x.val.cell? ⟨w.heap.size + 1, 0, none⟩ = _ := fun x => (tw_cell x (by simp; omega)).trans y0
      have f1 : ∀ x : Tw w6.drew (w6.alloc (.cells #[.int .i64 0, .int .i64 0, .int .i64 0] 82 (0, 0))).drew, x.val.cell? ⟨w.heap.size + 1, 1, none⟩ = _ := fun x => (tw_cell x (by simp; omega)).trans y1
      have f7 : ∀ x : Tw w6.drew (w6.alloc (.cells #[.int .i64 0, .int .i64 0, .int .i64 0] 82 (0, 0))).drew, x.val.cell? ⟨g7, 0, none⟩ = _ := fun x => (tw_cell x (by simp; omega)).trans d0
      repeat go_big_quiet_step (fail)
      refine wpQuiet_nil ?_
      go_wp2
      refine HK.out _ _ ?_; clear HK K
      obtain ⟨wn, hwn⟩ : ∃ wn : Nat, (wn : Int) = ya % (n : Int) := ⟨(ya % (n : Int)).toNat, by have := Int.emod_nonneg ya (b := (n : Int)) (by omega); omega⟩
      have hwl : (wn : Int) < (n : Int) := by rw [hwn]; exact Int.emod_lt_of_pos _ (by omega)
      rw [← hwn]
      obtain ⟨hB3, ro7, b7, b9, hs8, -⟩ := HB7.out
      clear HB7 f0 f1 f7 y0 y1 d0 k1 k2 k3 hwn
      have hb8 : Below w6.heap.size w6 (w6.alloc (.cells #[.int .i64 wn, .int .i64 0, .int .i64 yb] 82)).drew := ((Below.refl _ _).alloc (Nat.le_refl _) _).drew
      have b15 : (w6.alloc (.cells #[.int .i64 wn, .int .i64 0, .int .i64 yb] 82)).drew.heap[w6.heap.size]? = some (.cells #[.int .i64 wn, .int .i64 0, .int .i64 yb] 82 (0, 0)) := heap_newI rfl
      have hs9 : w6.heap.size + 1 ≤ (w6.alloc (.cells #[.int .i64 wn, .int .i64 0, .int .i64 yb] 82)).drew.heap.size := Nat.le_of_eq (World.size_alloc ..).symm
      generalize World.drew _ = w8 at *
      replace b7 := blk_keep b7 hb8
      replace b9 := blk_keep b9 hb8
      have ro8 := row_below ro7 hb8
      have hne15 : ∀ e, ((Value.slice a7 ss.length c7).ownBlock = some e → e < w6.heap.size) := fun e he => by have := (ro7.lt _ he).2; omega
      have v82 := blk_keep v80 hb8
      replace hB3 := hB3.trans (hb8.mono (by omega))
      have hs10 : B5 ≤ w8.heap.size := by omega
      have hg15 : g9 < w6.heap.size ∧ g7 < w6.heap.size ∧ w.heap.size + 1 < w6.heap.size := by omega
      clear hb8 ro7 v80 hs8
      generalize w6.heap.size = g15 at *
      have hqw := (hB3.cell (p := ⟨bp, op + wn, none⟩) hltp).trans (HCP.out wn (by omega))
      have e0 := cell_blk (i := 0) b15
      have e1 := cell_blk (i := 2) b15
      have e2 := cell_blk (i := 2) v82
      have ef := free_blk (i := 1) b15
      simp only [List.getElem?_toArray, List.getElem?_cons_zero, List.getElem?_cons_succ] at e0 e1 e2
      have hTw := HR.out.inn wn (by omega)
      have hhi := HR.out.hi0
      have hz0 : ¬ 2 * yb + 1 = 0 := by omega
      have hmod : 0 ≤ yc % (2 * yb + 1) ∧ yc % (2 * yb + 1) < 2 * yb + 1 := ⟨Int.emod_nonneg _ hz0, Int.emod_lt_of_pos _ (by omega)⟩
      have k1 := c33 (q := T wn - yb) (by omega)
      have k2 := c33 (q := yc) (by omega)
      have k3 := c33 (q := 2 * yb) (by omega)
      have k4 := c33 (q := 2 * yb + 1) (by omega)
      have k5 := d33 hyc.1 (2 * yb + 1)
      have k6 := c33 (q := T wn - yb + yc % (2 * yb + 1)) (by omega)
      refine wp_seq_k (fun K hK => ?_)
      have HK := Lib.hid hK; clear hK
      refine wp_region_still_tail 19 (by kernel_rfl) (by kernel_rfl) ?_
      simp only [List.take_succ_cons, List.take_zero, List.drop_succ_cons, List.drop_zero]
      change wpStill _ _ (World.drew w8) _ _ _
      repeat (first | (refine wpStill_max rfl (.const (.int .i64 0)) (.tmp 128) _ rfl rfl rfl ?_) | still_step)
      refine wpStill_nil ?_
      change wpList _ _ _ _ _ (World.drew w8)
      replace ef : (World.drew w8).frozen? _ = _ := ef
      have e15 : (World.drew w8).cell? ⟨g15, 1, none⟩ = some (.int .i64 0) := (cell_blk (i := 1) b15).trans rfl
      clear e0 e1 e2 hqw k1 k2 k3 k4 k5 k6
      go_wp2
      refine HK.out _ _ ?_; clear HK K
      clear e15 ef
      obtain ⟨val, hval⟩ : ∃ val, val = max 0 (T wn - yb + yc % (2 * yb + 1)) := ⟨_, rfl⟩
      rw [← hval]
      have HVL := Lib.hid (show T wn - yb ≤ val ∧ val ≤ T wn + yb by omega)
      clear hval hmod hz0 hTw hhi
      have b15' : (w8.setCell ⟨g15, 1, none⟩ (.int .i64 val)).drew.heap[g15]? = some (.cells #[.int .i64 wn, .int .i64 val, .int .i64 yb] 82 (0, 0)) := (heap_set_blk (W := w8) b15).trans rfl
      have b7' : (w8.setCell ⟨g15, 1, none⟩ (.int .i64 val)).drew.heap[g7]? = _ := (heap_set_other (W := w8) (v := .int .i64 val) (b' := g15) (i := 1) (show g7 ≠ g15 by omega)).trans b7
      have b9' : (w8.setCell ⟨g15, 1, none⟩ (.int .i64 val)).drew.heap[g9]? = _ := (heap_set_other (W := w8) (v := .int .i64 val) (b' := g15) (i := 1) (show g9 ≠ g15 by omega)).trans b9
      have ro9 : (w8.setCell ⟨g15, 1, none⟩ (.int .i64 val)).drew.ownsRow _ _ _ _ _ _ := row_set_other (W := w8) (b := g15) (i := 1) (x := .int .i64 val) ro8 (fun e => by have := hne15 _ e; omega)
      have hb9 : Below g7 w3 (w8.setCell ⟨g15, 1, none⟩ (.int .i64 val)).drew := (hB3.setCell (p := ⟨g15, 1, none⟩) (by simp; omega) _).drew
      have hsz9 : w8.heap.size ≤ (w8.setCell ⟨g15, 1, none⟩ (.int .i64 val)).drew.heap.size := Nat.le_of_eq (World.size_setCell ..).symm
      generalize World.drew _ = w9 at *
      clear ro8 b15 b9 b7 hB3 v82 hne15
      have hsz10 : B5 ≤ w9.heap.size := by omega
      have e12 := cell_blk (i := 3) b9'
      simp only [List.getElem?_toArray, List.getElem?_cons_zero, List.getElem?_cons_succ] at e12
      refine wp_seq_k (fun K hK => ?_)
      have HK := Lib.hid hK; clear hK
      go_wp2_with (first | (refine wpList_load_blk rfl 82 _ rfl _ rfl b15' Try.underlying82 rfl size82 rfl ?_) | (at_builtin; refine cutme ?_))
      refine ⟨?_⟩
      refine wpList_append_own _ rfl _ _ 24 rfl B5 82 i82 (.agg #[.int .i64 0, .int .i64 0, .int .i64 0]) 3 24 Try.underlying24 HI2.out.1 HI2.out.2.1 HI2.out.2.2.1 HI2.out.2.2.2 rfl (by decide) _ _ _ rfl (ro9.alloc _) ⟨w9.heap.size, 0, none⟩ 1 1 (encS ⟨wn, val, yb⟩) rfl rfl (cell_newL (xs := encS ⟨wn, val, yb⟩) rfl) (by intro u hu; simp [encS] at hu; rcases hu with rfl | rfl | rfl <;> rfl) (Nat.le_trans (by omega : ss.length + 1 ≤ 200) (by decide)) (by omega) (by rw [World.size_alloc]; omega) ?_
      intro v' w10 r1 r2 _
      obtain ⟨a10, c10, rfl⟩ := form_of r1
      obtain ⟨hk10, hs11, ee1, ee2, ee3⟩ := append_same1 ro9 r2
      have d9 := (hk10 g9 (lt_blk b9') (own_ne ro9 b9' (by decide))).trans b9'
      have d7 := (hk10 g7 (lt_blk b7') (own_ne ro9 b7' (by decide))).trans b7'
      have d13 := cell_blk (i := 3) d9
      have d14 := free_blk (i := 3) d9
      simp only [List.getElem?_toArray, List.getElem?_cons_zero, List.getElem?_cons_succ] at d13
      go_wp2
      refine HK.out _ _ ?_; clear HK K
      have n9 : (w10.setCell ⟨g9, 3, none⟩ (.slice a10 (ss.length + 1) c10)).heap[g9]? = some (.cells #[.int .i64 n, .int .i64 lo, .int .i64 hi, .slice a10 (ss.length + 1) c10] 26 (0, 0)) := (heap_set_blk d9).trans rfl
      have n7 := (heap_set_other (W := w10) (v := (.slice a10 (ss.length + 1) c10)) (b' := g9) (i := 3) (show g7 ≠ g9 by omega)).trans d7
      have nr := row_set_other (b := g9) (i := 3) (x := (.slice a10 (ss.length + 1) c10)) r1 (own_ne r1 d9 (by decide))
      have nB : Below g7 w3 (w10.setCell ⟨g9, 3, none⟩ (.slice a10 (ss.length + 1) c10)) := (show Below g7 w3 w10 from ⟨ee1.trans hb9.os, ee2.trans hb9.tape, ee3.trans hb9.output, by have := hb9.size; omega, fun b hb => (hk10 b (by omega) (fun e => by have := (ro9.lt _ e).1; omega)).trans (hb9.block b hb)⟩).setCell (p := ⟨g9, 3, none⟩) (by simp; omega) _
      have e8 : (ss.map (cutO T less) ++ [(⟨wn, val, yb⟩ : Smp)]).flatMap encS = (ss.map (cutO T less)).flatMap encS ++ encS ⟨wn, val, yb⟩ := by simp
      rw [← e8] at nr
      have hA := better_all (less := less) (x := ⟨wn, val, yb⟩) HR.out hle.1 (by have := HVL.out; simp only [Int.toNat_natCast]; omega)
      have hl2 : (ss.map (cutO T less) ++ [(⟨wn, val, yb⟩ : Smp)]).length = ss.length + 1 := by simp
      obtain ⟨S2, hS2⟩ : ∃ S2, S2 = ss.map (cutO T less) ++ [(⟨wn, val, yb⟩ : Smp)] := ⟨_, rfl⟩
      rw [← hS2] at nr hA hl2
      clear hS2
      generalize World.setCell _ _ _ = w11 at *
      have HO := Lib.hid (show SlS w11 (.slice a10 (ss.length + 1) c10) S2 from slG_own encS_len nr hl2.symm (by omega))
      have HF := Lib.hid (HV.out.below nB (Nat.le_of_eq HG7.out.symm))
      have hPT := (show Hid (∀ i, i < n → w11.cell? ⟨bp, op + i, none⟩ = some (.int .i64 (T i))) from Lib.hid (fun i hi => (nB.cell (p := ⟨bp, op + i, none⟩) hltp).trans (HCP.out i hi)))
      have B := B3.trans (nB.mono (by omega))
      have lbp : bp < w11.heap.size := by have := lt_blk n7; omega
      obtain ⟨m2, hm2⟩ : ∃ m2, m2 = ss.length + 1 := ⟨_, rfl⟩
      rw [← hm2] at n9 HO
      have b7 := n7
      have b9 := n9
      clear n7 n9 nr nB r1 r2 hk10 d9 d7 d13 d14 e8 b9' b7' e12 ro9 hb9 b15' hl2 hm2 HCP hltp B3
      obtain ⟨F, hF⟩ : ∃ F, F = spanAt (lowAt lo ss) (highAt hi ss) n := ⟨_, rfl⟩
      obtain ⟨G, hG⟩ : ∃ G, G = spanAt (lowAt lo S2) (highAt hi S2) n := ⟨_, rfl⟩
      obtain ⟨RC, hRC⟩ : ∃ f : Nat → Int, f = fun w => (regF (lowAt lo ss) (highAt hi ss) n w).ceil := ⟨_, rfl⟩
      obtain ⟨RD, hRD⟩ : ∃ f : Nat → Int, f = fun w => (regF (lowAt lo S2) (highAt hi S2) n w).ceil := ⟨_, rfl⟩
      obtain ⟨PL, hPL⟩ : ∃ l, l = peaksL n lo hi ss := ⟨_, rfl⟩
      obtain ⟨PM, hPM⟩ : ∃ l, l = peaksL n lo hi S2 := ⟨_, rfl⟩
      have hE1 := hA.pos1
      have hE2 := hA.pos2
      have ALO : Hid (∀ w, w < n → (F w).1 ≤ (G w).1) := Lib.hid (by rw [hF, hG]; exact hA.lows)
      have AHI : Hid (∀ w, w < n → (G w).2 ≤ (F w).2) := Lib.hid (by rw [hF, hG]; exact hA.highs)
      have ARD : Hid (∀ w, w < n → RD w ≤ RC w) := Lib.hid (by rw [hRC, hRD]; exact hA.reg)
      have APK : Hid (∀ x ∈ PM, x ∈ PL) := Lib.hid (by rw [hPL, hPM]; exact hA.peak)
      have AKN : Hid (knownL n lo hi ss = (List.range n).map F) := Lib.hid (by rw [hF]; unfold knownL; rw [if_pos hE1]; rfl)
      have AKM : Hid (knownL n lo hi S2 = (List.range n).map G) := Lib.hid (by rw [hG]; unfold knownL; rw [if_pos hE2]; rfl)
      have ARG : Hid (∀ w : Nat, w < n → regretE n lo hi ss w = 0 ∧ regretV n lo hi ss w = RC w) := Lib.hid (by rw [hRC]; exact fun w hw => regret_at hE1 hw)
      have ARH : Hid (∀ w : Nat, w < n → regretE n lo hi S2 w = 0 ∧ regretV n lo hi S2 w = RD w) := Lib.hid (by rw [hRD]; exact fun w hw => regret_at hE2 hw)
      have APL : Hid (PM.length ≤ 12) := Lib.hid (by rw [hPM]; unfold peaksL; rw [if_pos hE2]; exact Nat.le_trans (chosen_len _ _) (show n ≤ 12 by omega))
      have HE1 := Lib.hid hE1
      have HE2 := Lib.hid hE2
      have HPL := Lib.hid hPL.symm
      have HPM := Lib.hid hPM.symm
      clear hA hF hG hRC hRD hPL hPM hE1 hE2
      have hc := known_any n lo hi _ ss _ HF.out
      rw [HE1.out, AKN.out] at hc
      refine wp_seq_k (fun K hK => ?_)
      have HK := Lib.hid hK; clear hK
      go_wp2_with (first | (refine wpList_load_blk rfl 26 _ rfl _ rfl b7 Try.underlying26 rfl size26 rfl ?_) | (go_at_call 14; refine hc.mono ?_; rintro e wc ⟨q1, rfl, k1, hb⟩; obtain ⟨a1, c1, rfl, -, -, -⟩ := id k1; simp only [List.length_map, List.length_range] at k1))
      refine HK.out _ _ ?_; clear HK K
      replace b7 := blk_keep b7 hb
      replace b9 := blk_keep b9 hb
      replace HF := Lib.hid (HF.out.below hb (Nat.le_refl _))
      replace HO := Lib.hid (HO.out.below hb (Nat.le_refl _))
      replace B := btr B hb (Nat.le_refl _)
      clear hb
      clear hc
      have HK1 := Lib.hid k1
      clear k1
      have hc := known_any n lo hi _ S2 _ HO.out
      rw [HE2.out, AKM.out] at hc
      refine wp_seq_k (fun K hK => ?_)
      have HK := Lib.hid hK; clear hK
      go_wp2_with (first | (refine wpList_load_blk rfl 26 _ rfl _ rfl b9 Try.underlying26 rfl size26 rfl ?_) | (go_at_call 14; refine hc.mono ?_; rintro e wc ⟨q2, rfl, k2, hb⟩; obtain ⟨a2, c2, rfl, -, -, -⟩ := id k2; simp only [List.length_map, List.length_range] at k2))
      refine HK.out _ _ ?_; clear HK K
      replace b7 := blk_keep b7 hb
      replace b9 := blk_keep b9 hb
      replace HF := Lib.hid (HF.out.below hb (Nat.le_refl _))
      replace HO := Lib.hid (HO.out.below hb (Nat.le_refl _))
      replace HK1 := Lib.hid (HK1.out.below hb (Nat.le_refl _))
      replace B := btr B hb (Nat.le_refl _)
      clear hb
      clear hc
      have HK2 := Lib.hid k2
      clear k2
      have hc := peaks_any n lo hi _ ss _ HF.out
      rw [HE1.out, HPL.out] at hc
      refine wp_seq_k (fun K hK => ?_)
      have HK := Lib.hid hK; clear hK
      go_wp2_with (first | (refine wpList_load_blk rfl 26 _ rfl _ rfl b7 Try.underlying26 rfl size26 rfl ?_) | (go_at_call 24; refine hc.mono ?_; rintro e wc ⟨q3, rfl, k3, hb⟩; obtain ⟨a3, c3, rfl, -, -, -⟩ := id k3))
      refine HK.out _ _ ?_; clear HK K
      replace b7 := blk_keep b7 hb
      replace b9 := blk_keep b9 hb
      replace HF := Lib.hid (HF.out.below hb (Nat.le_refl _))
      replace HO := Lib.hid (HO.out.below hb (Nat.le_refl _))
      replace HK1 := Lib.hid (HK1.out.below hb (Nat.le_refl _))
      replace HK2 := Lib.hid (HK2.out.below hb (Nat.le_refl _))
      replace B := btr B hb (Nat.le_refl _)
      clear hb
      clear hc
      have HK3 := Lib.hid k3
      clear k3
      have hc := peaks_any n lo hi _ S2 _ HO.out
      rw [HE2.out, HPM.out] at hc
      refine wp_seq_k (fun K hK => ?_)
      have HK := Lib.hid hK; clear hK
      go_wp2_with (first | (refine wpList_load_blk rfl 26 _ rfl _ rfl b9 Try.underlying26 rfl size26 rfl ?_) | (go_at_call 24; refine hc.mono ?_; rintro e wc ⟨q4, rfl, k4, hb⟩; obtain ⟨a4, c4, rfl, -, -, -⟩ := id k4))
      refine HK.out _ _ ?_; clear HK K
      replace b7 := blk_keep b7 hb
      replace b9 := blk_keep b9 hb
      replace HF := Lib.hid (HF.out.below hb (Nat.le_refl _))
      replace HO := Lib.hid (HO.out.below hb (Nat.le_refl _))
      replace HK1 := Lib.hid (HK1.out.below hb (Nat.le_refl _))
      replace HK2 := Lib.hid (HK2.out.below hb (Nat.le_refl _))
      replace HK3 := Lib.hid (HK3.out.below hb (Nat.le_refl _))
      replace B := btr B hb (Nat.le_refl _)
      clear hb
      clear hc
      have HK4 := Lib.hid k4
      clear k4
      obtain ⟨lm, hlm⟩ : ∃ l, l = PM.length := ⟨_, rfl⟩
      rw [← hlm] at HK4 ⊢
      have hlm12 : lm ≤ 12 := by rw [hlm]; exact APL.out
      have HLM := Lib.hid hlm
      clear hlm
      refine wp_seq_k (fun K hK => ?_)
      have HK := Lib.hid hK; clear hK
      go_wp2
      refine HK.out _ _ ?_; clear HK K
      refine wp_seq_k (fun K hK => ?_)
      have HK := Lib.hid hK; clear hK
      go_wp2
      go_loopw [187] (fun i wr => ∃ k : Nat, k ≤ lm ∧ i = .int .i64 k ∧ Below wc.heap.size wc wr) (fun i _ => lm - (intOf i).toNat)
      case atStart => exact ⟨0, Nat.zero_le _, rfl, Below.refl _ _⟩
      case round =>
        obtain ⟨k, hk, rfl, hB⟩ := hrel
        by_cases hkl : k < lm
        · have hki : (k : Int) < (lm : Int) := by omega
          have hkl2 : k < PM.length := by rw [← HLM.out]; exact hkl
          obtain ⟨ad, cap, e', -, -, hcc⟩ := HK4.out
          injection e' with e1 e2 e3
          subst e1 e3
          obtain ⟨bm, om, rfl, hltm, hcell⟩ := hcc (by omega)
          have q1 := (hB.cell (p := ⟨bm, om + k, none⟩) hltm).trans (hcell k hkl2)
          have hmem : at0 PM k ∈ PM := by rw [at0_lt hkl2]; exact List.getElem_mem hkl2
          have hcl := has_any _ PL (at0 PM k) _ (HK3.out.below hB (Nat.le_refl _))
          rw [decide_eq_true (APK.out _ hmem)] at hcl
          clear hcell hcc e2 hmem hkl2
          generalize at0 PM k = y at *
          go_wp2_with (go_at_call 34; refine hcl.mono ?_; rintro e wd ⟨rfl, hbd⟩)
          go_roundw
          case rel => exact ⟨k + 1, by omega, by go_num, btr hB hbd (Nat.le_refl _)⟩
          case measure => simp [intOf]; omega
        · have hki : ¬ (k : Int) < (lm : Int) := by omega
          go_wp2
          refine HK.out _ _ ?_; clear HK
          replace b7 := blk_keep b7 hB
          replace b9 := blk_keep b9 hB
          replace HF := Lib.hid (HF.out.below hB (Nat.le_refl _))
          replace HO := Lib.hid (HO.out.below hB (Nat.le_refl _))
          replace HK1 := Lib.hid (HK1.out.below hB (Nat.le_refl _))
          replace HK2 := Lib.hid (HK2.out.below hB (Nat.le_refl _))
          replace HK3 := Lib.hid (HK3.out.below hB (Nat.le_refl _))
          replace HK4 := Lib.hid (HK4.out.below hB (Nat.le_refl _))
          replace B := btr B hB (Nat.le_refl _)
          clear hB
          obtain ⟨w7, hw7⟩ : ∃ w7, w7 = wr := ⟨_, rfl⟩
          subst hw7
          clear hki hk
          refine wp_seq_k (fun K hK => ?_)
          have HK := Lib.hid hK; clear hK
          go_wp2
          go_loopw [198] (fun i wr => ∃ j : Nat, j ≤ n ∧ i = .int .i64 j ∧ Below w7.heap.size w7 wr) (fun i _ => n - (intOf i).toNat)
          case atStart => exact ⟨0, Nat.zero_le _, rfl, Below.refl _ _⟩
          case round =>
            obtain ⟨j, hj, rfl, hB⟩ := hrel
            by_cases hjn : j < n
            · have hji : (j : Int) < (n : Int) := by omega
              have e7 := blk_keep b7 hB
              have e9 := blk_keep b9 hB
              have hF := HF.out.below hB (Nat.le_refl _)
              have hO := HO.out.below hB (Nat.le_refl _)
              have hr1 := regretF_any n lo hi _ ss j _ hF
              rw [(ARG.out j hjn).1, (ARG.out j hjn).2] at hr1
              have hr2 := fun W (hW : Below wr.heap.size wr W) => regretF_any n lo hi _ S2 j W (hO.below hW (Nat.le_refl _))
              rw [(ARH.out j hjn).1, (ARH.out j hjn).2] at hr2
              have HR2 := Lib.hid hr2
              obtain ⟨bk, ok, rfl, hltk, hck⟩ := sr_cell HK1.out hn0
              obtain ⟨bl, ol, rfl, hltl, hcl⟩ := sr_cell HK2.out hn0
              have f1 := (hB.cell (p := ⟨bk, ok + j * 2, none⟩) hltk).trans (hck j hjn).1
              have f2 := (hB.cell (p := ⟨bk, ok + j * 2 + 1, none⟩) hltk).trans (hck j hjn).2
              have f3 := (hB.cell (p := ⟨bl, ol + j * 2, none⟩) hltl).trans (hcl j hjn).1
              have f4 := (hB.cell (p := ⟨bl, ol + j * 2 + 1, none⟩) hltl).trans (hcl j hjn).2
              have t1 : decide ((G j).1 < (F j).1) = false := decide_eq_false (by have := ALO.out j hjn; omega)
              have t2 : decide ((F j).2 < (G j).2) = false := decide_eq_false (by have := AHI.out j hjn; omega)
              have t3 : decide (RC j < RD j) = false := decide_eq_false (by have := ARD.out j hjn; omega)
              have zk := Nat.lt_of_lt_of_le hltk hB.size
              have zl := Nat.lt_of_lt_of_le hltl hB.size
              clear hck hcl hF hO hr2
              generalize (F j).1 = y1 at *
              generalize (F j).2 = y2 at *
              generalize (G j).1 = y3 at *
              generalize (G j).2 = y4 at *
              generalize RC j = y5 at *
              generalize RD j = y6 at *
              go_wp2_with (first | (have _m := hb1; go_at_call 29; refine (HR2.out _ hb1).mono ?_; rintro e wv ⟨rfl, hb2⟩; refine cutme ?_) | (have _m := hb1; refine wpList_load_blk rfl 26 _ rfl _ rfl e9u Try.underlying26 rfl size26 rfl ?_) | (refine wpList_load_blk rfl 26 _ rfl _ rfl e7 Try.underlying26 rfl size26 rfl ?_) | (go_at_call 29; refine hr1.mono ?_; rintro e wu ⟨rfl, hb1⟩; have e9u := blk_keep e9 hb1))
              refine ⟨?_⟩
              have hB2 := btr hB (btr hb1 hb2 (Nat.le_refl _)) (Nat.le_refl _)
              have hb12 := btr hb1 hb2 (Nat.le_refl _)
              replace f1 := (hb12.cell (p := ⟨bk, ok + j * 2, none⟩) zk).trans f1
              replace f2 := (hb12.cell (p := ⟨bk, ok + j * 2 + 1, none⟩) zk).trans f2
              replace f3 := (hb12.cell (p := ⟨bl, ol + j * 2, none⟩) zl).trans f3
              replace f4 := (hb12.cell (p := ⟨bl, ol + j * 2 + 1, none⟩) zl).trans f4
              clear hb12 hb1 hb2 e7 e9 e9u hr1 HR2
              go_wp2
              go_quiet (fail)
              go_wp2
              go_roundw
              case rel => exact ⟨j + 1, by omega, by go_num, below_drewN hB2 _⟩
              case measure => simp [intOf]; omega
            · have hji : ¬ (j : Int) < (n : Int) := by omega
              have B2 := btr B hB (Nat.le_refl _)
              go_wp2
              refine HK.out _ _ ?_; clear HK
              go_wp2_with (go_at_call 13; refine (works_any _).mono ?_; rintro e w9 ⟨rfl, hb9⟩)
              go_ret
              exact ⟨rfl, btr B2 hb9 (Nat.le_refl _)⟩
end Ytgnjeefanbcbkaa
end Go.Proofs
