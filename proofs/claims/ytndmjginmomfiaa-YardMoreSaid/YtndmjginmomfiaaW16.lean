/- Whether a table holds: what is known of each number is kept. -/
import Derived.Test.YtndmjginmomfiaaW15
open Go Go.RowKit Go.YtndmjginmomfiaaIt
namespace Go.Proofs
namespace Ytndmjginmomfiaa
theorem SlII.memo {w w' : World} {v : Value} {rows : List (List Int)} {m : Nat} {G : Value → Value → Prop} (h : SlII w v rows) (hm : Memo w m G) (hb : Bm m w.heap.size w w') : SlII w' v rows := by
  obtain ⟨vs, h1, h2, h3⟩ := h
  exact ⟨vs, h1.memo hm hb, h2, fun i hi hi' => (h3 i hi hi').memo hm hb⟩
theorem zero110 (w : World) : (zeroValue 110).run Try.prog w = .ok (.agg (encL [0, 0, 0, 0])) w := by kernel_rfl
theorem keyed3 : Maps.Keyed Try.prog 3 := Maps.int_keyed Try.underlying3
/-- An entry of what is known. -/
def GR (y : Yd) (tab : List (List Int)) (k v : Value) : Prop := ∃ n : Int, (-10 ≤ n ∧ n ≤ 1125899906842624) ∧ k = .int .i64 n ∧ v = .agg (encL (bef y (leastP tab n)))
theorem kint {n : Int} (h : -10 ≤ n ∧ n ≤ 1125899906842624) : keyOf Try.prog 3 (.int .i64 n) = some (.int .i64 n) :=
  Maps.keyOf_int_mk Try.underlying3 (by
    have h1 : IntKind.i64.min = -9223372036854775808 := rfl
    have h2 : IntKind.i64.max = 9223372036854775807 := rfl
    simp [Lit.wf, h1, h2]; omega)
theorem rkey {y : Yd} {tab : List (List Int)} {k v : Value} (h : GR y tab k v) : ∃ l, keyOf Try.prog 3 k = some l := by
  obtain ⟨n, hn, rfl, _⟩ := h
  exact ⟨_, kint hn⟩
theorem eval_r {y : Yd} {tab : List (List Int)} {n : Int} {v : Value} (h : GR y tab (.int .i64 n) v) : v = .agg (encL (bef y (leastP tab n))) := by
  obtain ⟨n', _, h1, h2⟩ := h
  injection h1 with _ h1
  rw [h1]; exact h2
/-- What the closures hold on to. -/
structure Hd (W : World) (y : Yd) (v : Value) (tab : List (List Int)) (vt : Value) (bK bY bT bm : Nat) : Prop where
  kn : W.heap[bK]? = some (.cells #[.map (some bm)] 132 (0, 0))
  yd : W.heap[bY]? = some (.cells (encY y v) 24 (0, 0))
  tb : W.heap[bT]? = some (.cells #[vt] 25 (0, 0))
  ws : SlW W v y.ws
  ta : SlII W vt tab
  me : Memo W bm (GR y tab)
theorem mem_ne {W : World} {bm b : Nat} {G : Value → Value → Prop} {cs : Array Value} {t : TypeId} {fr : Nat × Nat} (h : Memo W bm G) (hb : W.heap[b]? = some (.cells cs t fr)) : b ≠ bm := by
  obtain ⟨es, clock, hm, _⟩ := h
  rintro rfl
  rw [hm] at hb; cases hb
theorem Hd.bm {W W' : World} {y : Yd} {v : Value} {tab : List (List Int)} {vt : Value} {bK bY bT bm : Nat} (h : Hd W y v tab vt bK bY bT bm) (hB : Bm bm W.heap.size W W') (hM : Memo W' bm (GR y tab)) : Hd W' y v tab vt bK bY bT bm :=
  ⟨(hB.block _ (lt_blk h.kn) (mem_ne h.me h.kn)).trans h.kn, (hB.block _ (lt_blk h.yd) (mem_ne h.me h.yd)).trans h.yd, (hB.block _ (lt_blk h.tb) (mem_ne h.me h.tb)).trans h.tb, SlG.memo encW_len (by decide) h.ws h.me hB, h.ta.memo h.me hB, hM⟩
theorem Hd.below {W W' : World} {y : Yd} {v : Value} {tab : List (List Int)} {vt : Value} {bK bY bT bm : Nat} (h : Hd W y v tab vt bK bY bT bm) (hB : Below W.heap.size W W') : Hd W' y v tab vt bK bY bT bm :=
  ⟨blk_keep h.kn hB, blk_keep h.yd hB, blk_keep h.tb hB, h.ws.below hB (Nat.le_refl _), h.ta.below hB (Nat.le_refl _), h.me.below hB h.me.lt⟩
set_option maxRecDepth 100000 in
set_option maxHeartbeats 4000000 in
theorem reach_any (y : Yd) (v : Value) (tab : List (List Int)) (vt : Value) (n : Int) (bK bY bT bm : Nat) (w : World) (ok : Ok y) (hsh : Sh tab) (hn : -10 ≤ n ∧ n ≤ 1125899906842624) (hd : Hd w y v tab vt bK bY bT bm) :
    Calls Try.prog 70 #[.int .i64 n, .pointer (some ⟨bK, 0, none⟩), .pointer (some ⟨bY, 0, none⟩), .pointer (some ⟨bT, 0, none⟩)] w fun e w' => e = .returned (.agg (encL (bef y (leastP tab n)))) ∧ Memo w' bm (GR y tab) ∧ Bm bm w.heap.size w w' := by
  have hM := hd.me
  have hkl := kint hn
  have hev := fun v (h : GR y tab (.int .i64 n) v) => eval_r h
  have HEV := Lib.hid hev
  have c1 := cell_blk (i := 0) hd.kn
  simp only [List.getElem?_toArray, List.getElem?_cons_zero] at c1
  have hl1 := lt_blk hd.kn
  have hb4 : (encL (bef y (leastP tab n))).size = 4 := by rw [encL_size, bef_len]
  have h04 : (encL [0, 0, 0, 0]).size = 4 := rfl
  clear hev
  have HN := Lib.hid hn
  clear hn
  go_enter Try.func70, Try.ntmps70
  refine wp_seq_k (fun K hK => ?_)
  have HK := Lib.hid hK; clear hK
  go_wp2
  refine HK.out _ _ ?_; clear HK K
  generalize hw1 : World.alloc _ _ = w1
  obtain ⟨b5, hB1, hs1⟩ := blk1 hw1
  clear hw1
  have hd1 := hd.below hB1
  have hM1 := hd1.me
  have c1 := cell_blk (i := 0) hd1.kn
  simp only [List.getElem?_toArray, List.getElem?_cons_zero] at c1
  refine wp_seq_k (fun K hK => ?_)
  have HK := Lib.hid hK; clear hK
  rcases hM1.look keyed3 Try.underlying132 zero110 (fun _ _ => rkey) hkl with hlk | hlk
  · have hlk1 := hlk w1 rfl
    have HLK := Lib.hid hlk1
    clear hlk hlk1
    go_wp2_with (first | (refine wpList_lookup_run rfl 132 _ _ true rfl rfl rfl HLK.out ?_) | (refine wpList_store_blk rfl 110 _ _ rfl _ rfl rfl (heap_newI rfl) size110 h04 rfl (encL_one _) ?_))
    refine HK.out _ _ ?_; clear HK K
    have hbA : Below w1.heap.size w1 (w1.alloc (.cells #[.int .u64 0, .int .u64 0, .int .u64 0, .int .u64 0] 110)) := (Below.refl _ _).alloc (Nat.le_refl _) _
    generalize hw2 : World.putObj _ _ _ = w2
    have b6 : w2.heap[w1.heap.size]? = some (.cells (encL [0, 0, 0, 0]) 110 (0, 0)) := by rw [← hw2]; exact World.putObj_heap_same (by rw [World.size_alloc]; omega)
    have hB2 : Below w1.heap.size w1 w2 := by rw [← hw2]; exact below_putObj hbA (Nat.le_refl _)
    clear hw2 hbA HLK
    have hd2 := hd1.below hB2
    have b5' := blk_keep b5 hB2
    have hs2 := lt_blk b6
    go_wp2
    refine wp_region_held (S := fun W => W.heap[bY]? = some (.cells (encY y v) 24 (0, 0)) ∧ W.heap[bT]? = some (.cells #[vt] 25 (0, 0))) (by kernel_rfl) ?_
    change wpAnyH _ _ _ _ _ _ _ _ (World.drew w2)
    have hS : (World.drew w2).heap[bY]? = some (.cells (encY y v) 24 (0, 0)) ∧ (World.drew w2).heap[bT]? = some (.cells #[vt] 25 (0, 0)) := ⟨hd2.yd, hd2.tb⟩
    refine wpAnyH_take (i := 0) (oi := { dst := some 16, op := _, type := _, pos := _, after := _, guard := none }) (v := .agg (encY y v)) rfl (by kernel_rfl) (by kernel_rfl) (by kernel_rfl) (fun _ _ _ h => h) (Or.inl ⟨by rfl, ?_⟩) hS ?_
    · exact yields_load_blk 24 (.tmp 2) rfl bY rfl (fun W hW => hW.1) Try.underlying24 rfl size24 rfl
    simp only [Act.put, List.setIfInBounds_toArray, List.set_cons_zero, List.set_cons_succ]
    refine wpAnyH_take (i := 1) (oi := { dst := some 17, op := _, type := _, pos := _, after := _, guard := none }) (v := ?_) rfl (by kernel_rfl) (by kernel_rfl) (by kernel_rfl) (fun _ _ _ h => h) (Or.inl ⟨by rfl, ?_⟩) hS ?_
    rotate_left
    · intro U hU
      have c := cell_blk (i := 0) hU.2
      simp only [List.getElem?_toArray, List.getElem?_cons_zero] at c
      go_simp
      all_goals with_reducible rfl
    simp only [Act.put, List.setIfInBounds_toArray, List.set_cons_zero, List.set_cons_succ]
    refine wpAnyH_take (i := 2) (oi := { dst := some 18, op := _, type := _, pos := _, after := _, guard := none }) (v := ?_) rfl (by kernel_rfl) (by kernel_rfl) (by kernel_rfl) (fun _ _ _ h => h) (Or.inl ⟨by rfl, ?_⟩) hS ?_
    rotate_left
    · intro U hU
      go_simp
      all_goals with_reducible rfl
    simp only [Act.put, List.setIfInBounds_toArray, List.set_cons_zero, List.set_cons_succ]
    refine wpAnyH_one (i := 3) (o := { dst := some 19, op := Op.call { callee := Callee.value (Operand.func 71), args := #[Operand.tmp 17, Operand.tmp 18], argTypes := _ }, type := _, pos := _, after := _, guard := none }) (by kernel_rfl) rfl (by rfl) (fun K1 hK1 => ?_)
    have HK1 := Lib.hid hK1; clear hK1
    refine oper_callg (f := 71) (lb := #[]) rfl rfl (enters_of Try.func71 (by kernel_rfl) rfl) rfl (R := fun u W => u = .agg (encL (leastP tab n)) ∧ Below w2.heap.size w2 W) ?_ ?_
    · refine (least_any vt tab n w2.drew hsh hd2.ta).mono ?_
      rintro e W ⟨rfl, hb⟩
      exact ⟨_, rfl, rfl, (Below.refl _ w2).drew.trans hb⟩
    rintro u w3 ⟨rfl, hb3⟩
    have hd3 := hd2.below hb3
    refine HK1.out _ _ ⟨hd3.yd, hd3.tb⟩ ?_
    clear HK1 K1
    simp only [Act.put, List.setIfInBounds_toArray, List.set_cons_zero, List.set_cons_succ]
    refine wpAnyH_one (i := 4) (o := { dst := some 20, op := Op.call { callee := Callee.value (Operand.func 65), args := #[Operand.tmp 16, Operand.tmp 19], argTypes := _ }, type := _, pos := _, after := _, guard := none }) (by kernel_rfl) rfl (by rfl) (fun K1 hK1 => ?_)
    have HK1 := Lib.hid hK1; clear hK1
    refine oper_callg (f := 65) (lb := #[]) rfl rfl (enters_of Try.func65 (by kernel_rfl) rfl) rfl (R := fun u W => u = .agg (encL (bef y (leastP tab n))) ∧ Below w2.heap.size w2 W) ?_ ?_
    · refine (before_any y v (leastP tab n) w3 ok (least_lw hsh n) hd3.ws).mono ?_
      rintro e W ⟨rfl, hb⟩
      exact ⟨_, rfl, rfl, hb3.trans (hb.mono hb3.size)⟩
    rintro u w4 ⟨rfl, hb4'⟩
    have hd4 := hd2.below hb4'
    refine HK1.out _ _ ⟨hd4.yd, hd4.tb⟩ ?_
    clear HK1 K1
    simp only [Act.put, List.setIfInBounds_toArray, List.set_cons_zero, List.set_cons_succ]
    have b64 := blk_keep b6 hb4'
    have b54 := blk_keep b5' hb4'
    refine wpAnyH_one (i := 5) (o := { dst := none, op := Op.store 110 (Operand.tmp 6) (Operand.tmp 20), type := _, pos := _, after := _, guard := none }) (by kernel_rfl) rfl (by rfl) (fun K1 hK1 => ?_)
    have HK1 := Lib.hid hK1; clear hK1
    refine oper_store_blk 110 _ _ rfl _ rfl rfl b64 size110 hb4 rfl (encL_one _) ?_
    have hd5 : Hd (w4.putObj w1.heap.size (.cells (encL (bef y (leastP tab n))) 110 (0, 0))) y v tab vt bK bY bT bm := hd.below (below_putObj ((hB1.trans (hB2.mono hB1.size)).trans (hb4'.mono (by have := hB2.size; omega))) hB1.size)
    have hBw : Below w.heap.size w (w4.putObj w1.heap.size (.cells (encL (bef y (leastP tab n))) 110 (0, 0))) := below_putObj ((hB1.trans (hB2.mono hB1.size)).trans (hb4'.mono (by have := hB2.size; omega))) hB1.size
    have b65 : (w4.putObj w1.heap.size (.cells (encL (bef y (leastP tab n))) 110 (0, 0))).heap[w1.heap.size]? = some (.cells (encL (bef y (leastP tab n))) 110 (0, 0)) := World.putObj_heap_same (lt_blk b64)
    have b55 : (w4.putObj w1.heap.size (.cells (encL (bef y (leastP tab n))) 110 (0, 0))).heap[w.heap.size]? = some (.cells #[.int .u64 0, .int .u64 0, .int .u64 0, .int .u64 0] 110 (0, 0)) := (World.putObj_heap_other (by omega)).trans b54
    refine HK1.out _ _ ⟨hd5.yd, hd5.tb⟩ ?_
    clear HK1 K1
    refine wpAnyH_done (by kernel_rfl) ?_ _
    generalize World.putObj w4 _ _ = w5 at *
    clear hd4 b64 b54 hd3 hb3 hb4' hd2 hS b6 b5' hB2 hs2
    obtain ⟨es', clock', hrun, hes'⟩ := Memo.update (P := Try.prog) hd5.me keyed3 Try.underlying132 (fun _ _ => rkey) hkl (v := .agg (encL (bef y (leastP tab n)))) ⟨n, HN.out, rfl, rfl⟩
    have HRUN := Lib.hid hrun
    clear hrun
    have hbmlt := hd.me.lt
    have hB1s := hB1.size
    have c1 := cell_blk (i := 0) hd5.kn
    simp only [List.getElem?_toArray, List.getElem?_cons_zero] at c1
    have b66 : (w5.putObj bm (.map es' clock')).heap[w1.heap.size]? = some (.cells (encL (bef y (leastP tab n))) 110 (0, 0)) := (World.putObj_heap_other (by omega)).trans b65
    have b56 : (w5.putObj bm (.map es' clock')).heap[w.heap.size]? = some (.cells #[.int .u64 0, .int .u64 0, .int .u64 0, .int .u64 0] 110 (0, 0)) := (World.putObj_heap_other (by omega)).trans b55
    have hM6 : Memo (w5.putObj bm (.map es' clock')) bm (GR y tab) := ⟨es', clock', World.putObj_heap_same hd5.me.lt, hes'⟩
    have hB6 : Bm bm w.heap.size w (w5.putObj bm (.map es' clock')) := (Bm.of hBw).trans (Bm.put _ _)
    go_wp2_with (first | (refine wpList_load_blk rfl 110 _ rfl _ rfl b65 Try.underlying110 rfl size110 hb4 ?_) | (refine wpList_mapUpdate_run rfl 132 _ _ _ rfl rfl rfl rfl HRUN.out ?_) | (refine wpList_load_blk rfl 110 _ rfl _ rfl b66 Try.underlying110 rfl size110 hb4 ?_) | (refine wpList_store_blk rfl 110 _ _ rfl _ rfl rfl b56 size110 hb4 rfl (encL_one _) ?_))
    exact bodyPost_ret (results_blk rfl _ _ w.heap.size rfl (World.putObj_heap_same (lt_blk b56)) Try.underlying110 rfl size110 hb4) rfl ⟨rfl, hM6.below (below_putObj (Below.refl _ _) (Nat.le_refl _)) hbmlt, hB6.trans (Bm.of (below_putObj (Below.refl _ _) (Nat.le_refl _)))⟩
  · obtain ⟨u, hu, hlk1⟩ := hlk w1 rfl
    rw [HEV.out u hu] at hlk1
    have HLK := Lib.hid hlk1
    clear hlk hlk1 hu
    go_wp2_with (first | (refine wpList_lookup_run rfl 132 _ _ true rfl rfl rfl HLK.out ?_) | (refine wpList_store_blk rfl 110 _ _ rfl _ rfl rfl (heap_newI rfl) size110 hb4 rfl (encL_one _) ?_))
    refine HK.out _ _ ?_; clear HK K
    have hbA : Below w1.heap.size w1 (w1.alloc (.cells #[.int .u64 0, .int .u64 0, .int .u64 0, .int .u64 0] 110)) := (Below.refl _ _).alloc (Nat.le_refl _) _
    generalize hw2 : World.putObj _ _ _ = w2
    have b6 : w2.heap[w1.heap.size]? = some (.cells (encL (bef y (leastP tab n))) 110 (0, 0)) := by rw [← hw2]; exact World.putObj_heap_same (by rw [World.size_alloc]; omega)
    have hB2 : Below w1.heap.size w1 w2 := by rw [← hw2]; exact below_putObj hbA (Nat.le_refl _)
    clear hw2 hbA HLK
    have b5' := blk_keep b5 hB2
    have hM2 := hM1.below hB2 hM1.lt
    have hBw := hB1.trans (hB2.mono hB1.size)
    have hbmlt := hd.me.lt
    go_wp2_with (first | (refine wpList_load_blk rfl 110 _ rfl _ rfl b6 Try.underlying110 rfl size110 hb4 ?_) | (refine wpList_store_blk rfl 110 _ _ rfl _ rfl rfl b5' size110 hb4 rfl (encL_one _) ?_))
    exact bodyPost_ret (results_blk rfl _ _ w.heap.size rfl (World.putObj_heap_same (lt_blk b5')) Try.underlying110 rfl size110 hb4) rfl ⟨rfl, hM2.below (below_putObj (Below.refl _ _) (Nat.le_refl _)) hbmlt, Bm.of (below_putObj hBw (Nat.le_refl _))⟩
end Ytndmjginmomfiaa
end Go.Proofs
