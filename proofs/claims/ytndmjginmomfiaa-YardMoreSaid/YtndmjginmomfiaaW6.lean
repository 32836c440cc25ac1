/- The game: layers until they remain the same. -/
import Derived.Test.YtndmjginmomfiaaW5
import Derived.Laws.StructEq
open Go Go.RowKit Go.YtndmjginmomfiaaIt
namespace Go.Proofs
namespace Ytndmjginmomfiaa
def encLy (l : List Nat) : List Value := (List.range 4).map fun m => Value.int .u64 (l.getD m 0 : Nat)
theorem encLy_len (l : List Nat) : (encLy l).length = 4 := by simp [encLy]
theorem encLy_eq {l : List Nat} (h : l.length = 4) : (encLy l).toArray = encL l := by
  obtain ⟨a, b, c, d, rfl⟩ : ∃ a b c d, l = [a, b, c, d] := by
    match l, h with
    | [a, b, c, d], _ => exact ⟨a, b, c, d, rfl⟩
  rfl
def layL (y : Yd) (k : Nat) : List (List Nat) := (List.range (k + 1)).map (lay y)
theorem lay_lw {y : Yd} (ok : Ok y) (d : Nat) : Lw (lay y d) := by
  have hr := ok.room1
  have hp : 2 ^ (y.room.toNat + 1) ≤ 2 ^ 61 := Nat.pow_le_pow_right (by omega) (by omega)
  refine ⟨lay_len y d, fun m => ?_⟩
  cases d with
  | zero =>
    rw [lay0_get y ok.n1]
    have := upN_lt y.room.toNat
    split <;> omega
  | succ d =>
    show (bef y (lay y d)).getD m 0 < _
    rw [bef_get y _ ok.n1]
    have := bw_lt (stB y (lay y d) m) (y.room.toNat + 1)
    split <;> omega
theorem row_put {W : World} {base : Nat} {e : TypeId} {sz : Nat} {v : Value} {n b : Nat} {xs : List Value} {o : Obj} (h : W.ownsRow base e sz v n xs) (hb : b < base) : (W.putObj b o).ownsRow base e sz v n xs := by
  refine ⟨h.1, ?_⟩
  rcases h.2 with h | ⟨g, cap, cur, rfl, hg, hh, r1, r2, r3, r4⟩
  · exact .inl h
  · exact .inr ⟨g, cap, cur, rfl, hg, (World.putObj_heap_other (by omega)).trans hh, r1, r2, r3, r4⟩
/-- A game in memory. -/
structure Gm (W : World) (g : Nat) (y : Yd) (v vl : Value) (ls : List (List Nat)) : Prop where
  blk : W.heap[g]? = some (.cells #[.int .i64 y.room, .int .i64 y.most, .int .i64 y.lots, v, vl] 105 (0, 0))
  ly : SlG encLy 4 W vl ls
def now0 (y : Yd) (k : Nat) : List Nat := (List.range 4).map fun m => if m < k ∧ m < y.ws.length then upN y.room.toNat else 0
theorem now0_len (y : Yd) (k : Nat) : (now0 y k).length = 4 := by simp [now0]
theorem now0_zero (y : Yd) : now0 y 0 = [0, 0, 0, 0] := by simp [now0]; decide
theorem now0_end (y : Yd) : now0 y y.ws.length = lay y 0 := by simp [now0, lay]
theorem now0_set (y : Yd) {k : Nat} (hk : k < y.ws.length) : (now0 y k).set k (upN y.room.toNat) = now0 y (k + 1) := by
  apply List.ext_getElem?
  intro m
  rw [List.getElem?_set, now0_len]
  by_cases h4 : m < 4
  · have e1 : ∀ j, (now0 y j)[m]? = some (if m < j ∧ m < y.ws.length then upN y.room.toNat else 0) := fun j => by simp [now0, h4]
    rw [e1, e1]
    by_cases h : k = m
    · subst h; rw [if_pos rfl, if_pos h4, if_pos ⟨by omega, hk⟩]
    · rw [if_neg h]
      congr 1
      by_cases h5 : m < k ∧ m < y.ws.length
      · rw [if_pos h5, if_pos ⟨by omega, h5.2⟩]
      · rw [if_neg h5, if_neg (fun hc => h5 ⟨by omega, hc.2⟩)]
  · have e1 : ∀ j, (now0 y j)[m]? = none := fun j => List.getElem?_eq_none (by rw [now0_len]; omega)
    rw [e1, e1]
    by_cases h : k = m
    · rw [if_pos h, if_neg (by omega)]
    · rw [if_neg h]
theorem info110 : (Try.prog.info? 110).map (fun i => (i.zero, i.size, i.bytes)) = some (some (.agg #[.int .u64 0, .int .u64 0, .int .u64 0, .int .u64 0]), 4, 32) := by kernel_rfl
theorem part108 (a0 a1 a2 a3 : Int) (i : Nat) (hi : i < 4) (w : World) : (part 108 #[.int .u64 a0, .int .u64 a1, .int .u64 a2, .int .u64 a3] i).run Try.prog w = .ok (#[Value.int .u64 a0, .int .u64 a1, .int .u64 a2, .int .u64 a3].getD i undef) w := by
  have hagg : (isAgg 108).run Try.prog w = .ok false w := by kernel_rfl
  match i, hi with
  | 0, _ => simp [part, Sem.run_bind, hagg, Result.andThen]
  | 1, _ => simp [part, Sem.run_bind, hagg, Result.andThen]
  | 2, _ => simp [part, Sem.run_bind, hagg, Result.andThen]
  | 3, _ => simp [part, Sem.run_bind, hagg, Result.andThen]
theorem eqIn110 (a0 a1 a2 a3 b0 b1 b2 b3 : Int) (w : World) : (Op.equalIn 10000 110 (.agg #[.int .u64 a0, .int .u64 a1, .int .u64 a2, .int .u64 a3]) (.agg #[.int .u64 b0, .int .u64 b1, .int .u64 b2, .int .u64 b3])).run Try.prog w = .ok (a0 == b0 && (a1 == b1 && (a2 == b2 && a3 == b3))) w := by
  rw [show (10000 : Nat) = 9998 + 1 + 1 from rfl]
  have hu := run_underlying Try.underlying110 w
  have hi := fun d (a b : Int) => run_equalIn_int (P := Try.prog) w d 108 .u64 .u64 a b Try.underlying108
  unfold Op.equalIn
  have hs : (sizeOf 108).run Try.prog w = .ok 1 w := by kernel_rfl
  have p0 := fun a0 a1 a2 a3 => part108 a0 a1 a2 a3 0 (by omega) w
  have p1 := fun a0 a1 a2 a3 => part108 a0 a1 a2 a3 1 (by omega) w
  have p2 := fun a0 a1 a2 a3 => part108 a0 a1 a2 a3 2 (by omega) w
  have p3 := fun a0 a1 a2 a3 => part108 a0 a1 a2 a3 3 (by omega) w
  simp [Sem.run_bind, hu, hs, Result.andThen, Std.Legacy.Range.forIn_eq_forIn_range', Std.Legacy.Range.size, List.range'_succ, p0, hi]
  by_cases h0 : a0 = b0 <;> by_cases h1 : a1 = b1 <;> by_cases h2 : a2 = b2 <;> by_cases h3 : a3 = b3 <;> simp [h0, h1, h2, h3, Sem.run_bind, Result.andThen, p1, p2, p3, hi]
theorem list4 {l : List Nat} (h : l.length = 4) : ∃ a b c d, l = [a, b, c, d] := by
  match l, h with
  | [a, b, c, d], _ => exact ⟨a, b, c, d, rfl⟩
theorem eqLay {a b : List Nat} (ha : a.length = 4) (hb : b.length = 4) (w : World) : (Op.equalIn 10000 110 (.agg (encL a)) (.agg (encL b))).run Try.prog w = .ok (decide (a = b)) w := by
  obtain ⟨a0, a1, a2, a3, rfl⟩ := list4 ha
  obtain ⟨b0, b1, b2, b3, rfl⟩ := list4 hb
  refine (eqIn110 a0 a1 a2 a3 b0 b1 b2 b3 w).trans ?_
  congr 1
  rw [Bool.eq_iff_iff]
  simp
  omega
theorem layL_succ (y : Yd) (k : Nat) : ((List.range (k + 1)).map (lay y)).flatMap encLy = ((List.range k).map (lay y)).flatMap encLy ++ encLy (lay y k) := by
  rw [List.range_succ, List.map_append, List.flatMap_append]; simp
theorem encL_le4 (l : List Nat) : ∀ u ∈ encLy l, u.oneCell' = true := by intro u hu; simp [encLy] at hu; obtain ⟨_, _, rfl⟩ := hu; rfl
theorem new4 {W V : World} {a b c d : Value} {t : TypeId} (h : Below (W.alloc (.cells #[a, b, c, d] t)).drew.heap.size (W.alloc (.cells #[a, b, c, d] t)).drew V) :
    V.cell? ⟨W.heap.size, 0, none⟩ = some a ∧ V.cell? ⟨W.heap.size, 1, none⟩ = some b ∧ V.cell? ⟨W.heap.size, 2, none⟩ = some c ∧ V.cell? ⟨W.heap.size, 3, none⟩ = some d ∧
    V.frozen? ⟨W.heap.size, 0, none⟩ = false ∧ V.frozen? ⟨W.heap.size, 1, none⟩ = false ∧ V.frozen? ⟨W.heap.size, 2, none⟩ = false ∧ V.frozen? ⟨W.heap.size, 3, none⟩ = false := by
  have q : V.heap[W.heap.size]? = some (.cells #[a, b, c, d] t (0, 0)) := blk_keep (W := (W.alloc (.cells #[a, b, c, d] t)).drew) (heap_newI (w := W) rfl) h
  exact ⟨cell_blk q, cell_blk q, cell_blk q, cell_blk q, free_blk q, free_blk q, free_blk q, free_blk q⟩
set_option maxRecDepth 100000 in
set_option maxHeartbeats 4000000 in
theorem game_any (y : Yd) (v : Value) (w : World) (ok : Ok y) (hw : SlW w v y.ws) :
    Calls Try.prog 40 #[.agg (encY y v)] w fun e w' => ∃ g vl k, e = .returned (.pointer (some ⟨g, 0, none⟩)) ∧ Gm w' g y v vl (layL y k) ∧ Stab y k ∧ Below w.heap.size w w' := by
  have hy4 : (encY y v).size = 4 := rfl
  have hw0 := hw
  obtain ⟨ad, cap, rfl, hmx, hcp, -⟩ := hw
  go_enter Try.func40, Try.ntmps40
  obtain ⟨i110, hi, hz1, hz2, hz3⟩ := info_parts info110
  have HI := Lib.hid (And.intro hi (And.intro hz1 (And.intro hz2 hz3)))
  clear hi hz1 hz2 hz3
  have b0 := heap_newI (w := w) (o := .cells (encY y (.slice ad y.ws.length cap)) 24) rfl
  have hr0 := ok.room0
  have hr1 := ok.room1
  have hn1 := ok.n1
  iterate 3
    refine wp_seq_k (fun K hK => ?_)
    have HK := Lib.hid hK; clear hK
    go_wp2_with (refine wpList_load_blk rfl 24 _ rfl _ rfl b0 Try.underlying24 rfl size24 hy4 ?_)
    refine HK.out _ _ ?_; clear HK K
  clear b0
  generalize hw1 : World.alloc _ _ = w1
  obtain ⟨b1, b2, b3, hb1, hs1⟩ := blk3 hw1
  generalize Value.agg (Array.foldl _ _ _ _ _) = q8
  replace b2 : w1.heap[w.heap.size + 1]? = some (.cells #[.int .i64 y.room, .int .i64 y.most, .int .i64 y.lots, .slice ad y.ws.length cap, .slice none 0 0] 105 (0, 0)) := b2
  replace b3 : w1.heap[w.heap.size + 1 + 1]? = some (.cells (encL (now0 y 0)) 110 (0, 0)) := by rw [now0_zero]; exact b3
  clear hw1
  have c3 := cell_blk (i := 3) b1
  simp only [encY, List.getElem?_toArray, List.getElem?_cons_zero, List.getElem?_cons_succ] at c3
  refine wp_seq_k (fun K hK => ?_)
  have HK := Lib.hid hK; clear hK
  go_wp2
  clear c3
  go_loopw [13] (fun i wr => ∃ kk : Nat, kk ≤ y.ws.length ∧ i = .int .i64 kk ∧ Below w.heap.size w wr ∧ wr.heap[w.heap.size]? = some (.cells (encY y (.slice ad y.ws.length cap)) 24 (0, 0)) ∧ wr.heap[w.heap.size + 1]? = some (.cells #[.int .i64 y.room, .int .i64 y.most, .int .i64 y.lots, .slice ad y.ws.length cap, .slice none 0 0] 105 (0, 0)) ∧ wr.heap[w.heap.size + 1 + 1]? = some (.cells (encL (now0 y kk)) 110 (0, 0))) (fun i _ => y.ws.length - (intOf i).toNat)
  case atStart => exact ⟨0, Nat.zero_le _, rfl, hb1, b1, b2, b3⟩
  case round =>
    obtain ⟨kk, hk, rfl, hb, b1, b2, b3⟩ := hrel
    by_cases hkn : kk < y.ws.length
    · have c0 := cell_blk (i := 0) b1
      simp only [encY, List.getElem?_toArray, List.getElem?_cons_zero] at c0
      have hk4 : kk < 4 := by omega
      have d3 := (cell_blk (i := kk) b3).trans (encL_get (by rw [now0_len]; exact hk4))
      have f3 := free_blk (i := kk) b3
      have hi0 : (0 : Int) ≤ (kk : Int) := by omega
      have hi4 : (kk : Int) < 4 := by omega
      have hb3 := heap_set_blk (i := kk) (v := .int .u64 (upN y.room.toNat : Nat)) b3
      rw [← encL_set, now0_set y hkn] at hb3
      have HB3 := Lib.hid hb3
      have hB1 : (wr.setCell ⟨w.heap.size + 1 + 1, kk, none⟩ (.int .u64 (upN y.room.toNat : Nat))).heap[w.heap.size]? = some (.cells (encY y (.slice ad y.ws.length cap)) 24 (0, 0)) := (heap_set_other (by omega)).trans b1
      have hB2 : (wr.setCell ⟨w.heap.size + 1 + 1, kk, none⟩ (.int .u64 (upN y.room.toNat : Nat))).heap[w.heap.size + 1]? = some (.cells #[.int .i64 y.room, .int .i64 y.most, .int .i64 y.lots, .slice ad y.ws.length cap, .slice none 0 0] 105 (0, 0)) := (heap_set_other (by omega)).trans b2
      have HX := Lib.hid (And.intro hB1 hB2)
      clear hb3 hB1 hB2
      go_wp2_with (go_at_call 64; refine (upTo_int _ hr0 hr1).mono ?_; rintro e w' ⟨rfl, rfl⟩)
      go_roundw
      case rel => exact ⟨kk + 1, by omega, by go_num, hb.setCell (by simp; omega) _, HX.out.1, HX.out.2, HB3.out⟩
      case measure => simp [intOf]; omega
    · have hke : kk = y.ws.length := by omega
      rw [hke, now0_end] at b3
      clear hke
      go_wp2
      refine HK.out _ _ ?_; clear HK
      refine wp_block ?_
      go_loopg [] (cd y 0) (fun n wr => ∃ k vl, n = cd y k ∧ (∀ j, j < k → lay y (j + 1) ≠ lay y j) ∧ Below w.heap.size w wr ∧ wr.heap[w.heap.size]? = some (.cells (encY y (.slice ad y.ws.length cap)) 24 (0, 0)) ∧
        wr.heap[w.heap.size + 1]? = some (.cells #[.int .i64 y.room, .int .i64 y.most, .int .i64 y.lots, .slice ad y.ws.length cap, vl] 105 (0, 0)) ∧ wr.heap[w.heap.size + 1 + 1]? = some (.cells (encL (lay y k)) 110 (0, 0)) ∧ wr.ownsRow (w.heap.size + 3) 110 4 vl k (((List.range k).map (lay y)).flatMap encLy) ∧ w.heap.size + 3 ≤ wr.heap.size)
      case atStart => exact ⟨0, _, rfl, fun _ h => by omega, hb, b1, b2, b3, World.ownsRow_nil _ _ _ _, by have := lt_blk b3; omega⟩
      case round =>
        obtain ⟨k, vl, hgk, hdf, hb, b1, b2, b3, ho, hs3⟩ := hrel
        have hk244 : k ≤ 244 := by have := cd_bound ok hdf; have := term_lt ok; omega
        have HG := Lib.hid (And.intro hgk hdf)
        clear hgk hdf
        have hll : (lay y k).length = 4 := lay_len y k
        obtain ⟨x0, x1, x2, x3, hx⟩ := list4 hll
        have HX := Lib.hid hx
        rw [hx] at b3
        clear hx hll
        have c4 := cell_blk (i := 4) b2
        have d0 := cell_blk (i := 0) b3
        have d1 := cell_blk (i := 1) b3
        have d2 := cell_blk (i := 2) b3
        have d3 := cell_blk (i := 3) b3
        simp only [encL, List.map_cons, List.map_nil, List.getElem?_toArray, List.getElem?_cons_zero, List.getElem?_cons_succ] at c4 d0 d1 d2 d3
        have hl1 := lt_blk b1
        have hl2 := lt_blk b2
        have hl3 := lt_blk b3
        refine wp_block ?_
        refine wp_seq_k (fun K hK => ?_)
        have HK := Lib.hid hK; clear hK
        have REST : ∀ (q26 q27 q28 q29 : Value) (av : Option Addr) (cv : Nat) (w9 : World), w9.heap[w.heap.size]? = some (.cells (encY y (.slice ad y.ws.length cap)) 24 (0, 0)) → w9.heap[w.heap.size + 1]? = some (.cells #[.int .i64 y.room, .int .i64 y.most, .int .i64 y.lots, .slice ad y.ws.length cap, .slice av (k + 1) cv] 105 (0, 0)) → w9.heap[w.heap.size + 1 + 1]? = some (.cells (encL [x0, x1, x2, x3]) 110 (0, 0)) → Below w.heap.size w w9 → w9.ownsRow (w.heap.size + 3) 110 4 (.slice av (k + 1) cv) (k + 1) (((List.range k).map (lay y)).flatMap encLy ++ [.int .u64 x0, .int .u64 x1, .int .u64 x2, .int .u64 x3]) → w.heap.size + 3 ≤ w9.heap.size → K ⟨(.agg (encY y (.slice ad y.ws.length cap)) :: .pointer (some ⟨w.heap.size, 0, none⟩) :: u2 :: .pointer (some ⟨w.heap.size + 1, 0, none⟩) :: .pointer (some ⟨w.heap.size + 1 + 1, 0, none⟩) :: u5 :: u6 :: .agg (encY y (.slice ad y.ws.length cap)) :: q8 :: .pointer (some ⟨w.heap.size + 1, 0, none⟩) :: .pointer (some ⟨w.heap.size, 3, none⟩) :: .slice ad y.ws.length cap :: .int .i64 y.ws.length :: .int .i64 kk :: .bool false :: u15 :: u16 :: u17 :: u18 :: u19 :: u20 :: u21 :: .pointer (some ⟨w.heap.size + 1, 0, none⟩) :: .pointer (some ⟨w.heap.size + 1, 0, none⟩) :: .pointer (some ⟨w.heap.size + 1, 0, none⟩) :: .pointer (some ⟨w.heap.size + 1, 4, none⟩) :: q26 :: q27 :: q28 :: q29 :: .pointer (some ⟨w.heap.size + 1, 0, none⟩) :: .pointer (some ⟨w.heap.size + 1, 4, none⟩) :: u32 :: u33 :: u34 :: u35 :: u36 :: u37 :: u38 :: u39 :: u40 :: u41 :: u42 :: []).toArray, []⟩ w9 := by
          intro q26 q27 q28 q29 av cv w9 n1 n2 n3 hB6 ho6 hs9
          refine HK.out _ _ ?_
          clear HK b1 b2 b3 c4 d0 d1 d2 d3 hl1 hl2 hl3 ho hb hs3
          have hw9 : ∀ U, Below w9.heap.size w9 U → SlW U (.slice ad y.ws.length cap) y.ws := fun U hU => hw0.below (hB6.trans (hU.mono hB6.size)) (Nat.le_refl _)
          obtain ⟨z0, z1, z2, z3, hz⟩ := list4 (lay_len y (k + 1))
          have hbf := fun U hU => before_any y _ (lay y k) U ok (lay_lw ok k) (hw9 U hU)
          rw [HX.out] at hbf
          rw [show bef y [x0, x1, x2, x3] = [z0, z1, z2, z3] by rw [← hz, ← HX.out]; rfl] at hbf
          simp only [encL, encY, List.map_cons, List.map_nil] at hbf
          have HBF := Lib.hid hbf
          have HZ := Lib.hid hz
          have c0 := cell_blk (i := 0) n2
          have c1 := cell_blk (i := 1) n2
          have c2 := cell_blk (i := 2) n2
          have c3 := cell_blk (i := 3) n2
          have d0 := cell_blk (i := 0) n3
          have d1 := cell_blk (i := 1) n3
          have d2 := cell_blk (i := 2) n3
          have d3 := cell_blk (i := 3) n3
          simp only [encL, List.map_cons, List.map_nil, List.getElem?_toArray, List.getElem?_cons_zero, List.getElem?_cons_succ] at c0 c1 c2 c3 d0 d1 d2 d3
          have hl2 := lt_blk n2
          have hl3 := lt_blk n3
          clear hw9 hbf hz
          refine wp_seq_k (fun K hK => ?_)
          have HK := Lib.hid hK; clear hK
          clear HI hmx hr0 hr1 hn1 hw0 hs1 hb1 hy4
          have hx1 : ¬ w.heap.size + 1 = w9.heap.size := by omega
          have hx2 : ¬ w.heap.size + 1 + 1 = w9.heap.size := by omega
          have hx3 : ¬ w9.heap.size = w.heap.size + 1 := by omega
          have hx4 : ¬ w9.heap.size = w.heap.size + 1 + 1 := by omega
          go_region_held3 (fun U => U.cell? ⟨w.heap.size + 1, 0, none⟩ = some (.int .i64 y.room) ∧ U.cell? ⟨w.heap.size + 1, 1, none⟩ = some (.int .i64 y.most) ∧ U.cell? ⟨w.heap.size + 1, 2, none⟩ = some (.int .i64 y.lots) ∧ U.cell? ⟨w.heap.size + 1, 3, none⟩ = some (.slice ad y.ws.length cap) ∧ U.cell? ⟨w.heap.size + 1 + 1, 0, none⟩ = some (.int .u64 x0) ∧ U.cell? ⟨w.heap.size + 1 + 1, 1, none⟩ = some (.int .u64 x1) ∧ U.cell? ⟨w.heap.size + 1 + 1, 2, none⟩ = some (.int .u64 x2) ∧ U.cell? ⟨w.heap.size + 1 + 1, 3, none⟩ = some (.int .u64 x3)) (go_keep)
            ((first
            | (go_at_call 65; refine (HBF.out w9.drew (Below.refl _ _).drew).mono ?_; rintro e w7 ⟨rfl, hb7⟩; have hs7 := hb7.size; have hbw : Below w9.heap.size w9 w7 := (Below.refl w9.heap.size w9).drew.trans hb7; have k0 := (hbw.cell (p := ⟨w.heap.size + 1, 0, none⟩) hl2).trans c0; have k1 := (hbw.cell (p := ⟨w.heap.size + 1, 1, none⟩) hl2).trans c1; have k2 := (hbw.cell (p := ⟨w.heap.size + 1, 2, none⟩) hl2).trans c2; have k3 := (hbw.cell (p := ⟨w.heap.size + 1, 3, none⟩) hl2).trans c3; have k4 := (hbw.cell (p := ⟨w.heap.size + 1 + 1, 0, none⟩) hl3).trans d0; have k5 := (hbw.cell (p := ⟨w.heap.size + 1 + 1, 1, none⟩) hl3).trans d1; have k6 := (hbw.cell (p := ⟨w.heap.size + 1 + 1, 2, none⟩) hl3).trans d2; have k7 := (hbw.cell (p := ⟨w.heap.size + 1 + 1, 3, none⟩) hl3).trans d3)
            | (go_at_call 65; refine (HBF.out (World.alloc w9 (.cells #[.int .u64 0, .int .u64 0, .int .u64 0, .int .u64 0] 110)).drew ((Below.refl _ _).alloc (Nat.le_refl _) _).drew).mono ?_; rintro e w7 ⟨rfl, hb7⟩; have hs7 := hb7.size; have hbw : Below w9.heap.size w9 w7 := ((Below.refl w9.heap.size w9).alloc (Nat.le_refl _) (.cells #[.int .u64 0, .int .u64 0, .int .u64 0, .int .u64 0] 110)).drew.trans (hb7.mono (by show w9.heap.size ≤ (World.alloc w9 _).heap.size; rw [World.size_alloc]; omega)); obtain ⟨q0, q1, q2, q3, p0, p1, p2, p3⟩ := new4 hb7; have qb : w7.heap[w9.heap.size]? = some (.cells #[.int .u64 0, .int .u64 0, .int .u64 0, .int .u64 0] 110 (0, 0)) := blk_keep (W := (World.alloc w9 (.cells #[.int .u64 0, .int .u64 0, .int .u64 0, .int .u64 0] 110)).drew) (heap_newI (w := w9) rfl) hb7; have k0 := (hbw.cell (p := ⟨w.heap.size + 1, 0, none⟩) hl2).trans c0; have k1 := (hbw.cell (p := ⟨w.heap.size + 1, 1, none⟩) hl2).trans c1; have k2 := (hbw.cell (p := ⟨w.heap.size + 1, 2, none⟩) hl2).trans c2; have k3 := (hbw.cell (p := ⟨w.heap.size + 1, 3, none⟩) hl2).trans c3; have k4 := (hbw.cell (p := ⟨w.heap.size + 1 + 1, 0, none⟩) hl3).trans d0; have k5 := (hbw.cell (p := ⟨w.heap.size + 1 + 1, 1, none⟩) hl3).trans d1; have k6 := (hbw.cell (p := ⟨w.heap.size + 1 + 1, 2, none⟩) hl3).trans d2; have k7 := (hbw.cell (p := ⟨w.heap.size + 1 + 1, 3, none⟩) hl3).trans d3)))
          all_goals refine HK.out _ _ ?_
          rotate_left
          · obtain ⟨p6, hp6⟩ : ∃ p6, p6 = w9.heap.size := ⟨_, rfl⟩
            have hb9 : Below w9.heap.size w9 ((((w7.setCell ⟨w9.heap.size, 0, none⟩ (.int .u64 z0)).setCell ⟨w9.heap.size, 1, none⟩ (.int .u64 z1)).setCell ⟨w9.heap.size, 2, none⟩ (.int .u64 z2)).setCell ⟨w9.heap.size, 3, none⟩ (.int .u64 z3)) := (((hbw.setCell (by simp) _).setCell (by simp) _).setCell (by simp) _).setCell (by simp) _
            have b6 : ((((w7.setCell ⟨w9.heap.size, 0, none⟩ (.int .u64 z0)).setCell ⟨w9.heap.size, 1, none⟩ (.int .u64 z1)).setCell ⟨w9.heap.size, 2, none⟩ (.int .u64 z2)).setCell ⟨w9.heap.size, 3, none⟩ (.int .u64 z3)).heap[p6]? = some (.cells (encL [z0, z1, z2, z3]) 110 (0, 0)) := by
              rw [hp6, heap_set_blk (heap_set_blk (heap_set_blk (heap_set_blk qb)))]; rfl
            have hp9 : w9.heap.size ≤ p6 := by omega
            clear q0 q1 q2 q3 p0 p1 p2 p3 qb
            generalize World.setCell _ _ _ = w10 at *
            generalize hpp : Value.pointer (some ⟨w9.heap.size, 0, none⟩) = pp
            rw [← hp6] at hpp
            subst hpp
            clear HK hbw hb7 hs7 hp6 k0 k1 k2 k3 k4 k5 k6 k7
            have m1 := blk_keep n1 hb9
            have m2 := blk_keep n2 hb9
            have m3 := blk_keep n3 hb9
            have mo := row_below ho6 hb9
            have mB := hB6.trans (hb9.mono hB6.size)
            have ms : w.heap.size + 3 ≤ w10.heap.size := Nat.le_trans hs9 hb9.size
            have mp : w.heap.size + 3 ≤ p6 := Nat.le_trans hs9 hp9
            have hz4 : (encL [z0, z1, z2, z3]).size = 4 := rfl
            have hx4 : (encL [x0, x1, x2, x3]).size = 4 := rfl
            have heq := fun W => eqLay (a := [z0, z1, z2, z3]) (b := [x0, x1, x2, x3]) rfl rfl W
            have hgd : Try.prog.eqGuardType Try.prog.depth 110 = false := by kernel_rfl
            clear n1 n2 n3 ho6 hB6 hs9 hb9 hp9 c0 c1 c2 c3 d0 d1 d2 d3 hl2 hl3 hx1 hx2 hx3 HBF
            obtain ⟨hgk, hdf⟩ := HG.out
            by_cases hsame : [z0, z1, z2, z3] = [x0, x1, x2, x3]
            · have hst : Stab y k := ⟨by rw [HZ.out, HX.out]; exact hsame, hdf⟩
              have hd : decide ([z0, z1, z2, z3] = [x0, x1, x2, x3]) = true := by simp [hsame]
              simp only [hd] at heq
              have HS := Lib.hid hst
              have HE := Lib.hid hgk
              clear hsame hd hst hgk hdf HG
              go_wp2_with (first | (refine wpList_load_blk rfl 110 _ rfl _ rfl b6 Try.underlying110 rfl size110 hz4 ?_) | (refine wpList_load_blk rfl 110 _ rfl _ rfl m3 Try.underlying110 rfl size110 hx4 ?_))
              go_ret
              refine ⟨_, _, k, rfl, ⟨m2, slG_own (base := w.heap.size + 3) (e := 110) encLy_len (n := k + 1) ?_ (by simp [layL]) (by simp [layL]; omega)⟩, HS.out, mB⟩
              have := layL_succ y k
              rw [HX.out] at this
              unfold layL
              rw [this]; exact mo
            · have hdf2 : ∀ j, j < k + 1 → lay y (j + 1) ≠ lay y j := fun j hj => by
                by_cases e : j = k
                · subst e; rw [HZ.out, HX.out]; exact hsame
                · exact hdf j (by omega)
              have hcd := cd_lt ok (hdf2 k (by omega))
              have hd : decide ([z0, z1, z2, z3] = [x0, x1, x2, x3]) = false := by simp only [decide_eq_false_iff_not]; exact hsame
              simp only [hd] at heq
              have HE := Lib.hid (And.intro hgk (And.intro hdf2 hcd))
              clear hsame hd hgk hdf hdf2 HG hcd
              go_wp2_with (first | (refine wpList_load_blk rfl 110 _ rfl _ rfl b6 Try.underlying110 rfl size110 hz4 ?_) | (refine wpList_load_blk rfl 110 _ rfl _ rfl m3 Try.underlying110 rfl size110 hx4 ?_) | (refine wpList_store_blk rfl 110 _ _ rfl _ rfl rfl m3 size110 hz4 hx4 (encL_one _) ?_))
              have l2 := lt_blk m3
              simp only [Act.put, List.setIfInBounds_toArray, List.set_cons_succ, List.set_cons_zero]
              go_roundg (cd y (k + 1))
              case measure => rw [HE.out.1]; exact HE.out.2.2
              case rel =>
                refine ⟨k + 1, _, rfl, HE.out.2.1, below_putObj mB (by omega), (World.putObj_heap_other (by omega)).trans m1, (World.putObj_heap_other (by omega)).trans m2, by rw [HZ.out]; exact World.putObj_heap_same l2, ?_, by simp; omega⟩
                have := layL_succ y k
                rw [HX.out] at this
                rw [this]
                exact row_put mo (by omega)
          · obtain ⟨p6, hp6⟩ : ∃ p6, p6 = w7.heap.size := ⟨_, rfl⟩
            have hb9 : Below w9.heap.size w9 (w7.alloc (.cells #[.int .u64 z0, .int .u64 z1, .int .u64 z2, .int .u64 z3] 110)) := hbw.alloc hbw.size _
            have b6 : (w7.alloc (.cells #[.int .u64 z0, .int .u64 z1, .int .u64 z2, .int .u64 z3] 110)).heap[p6]? = some (.cells (encL [z0, z1, z2, z3]) 110 (0, 0)) := heap_newI hp6
            have hp9 : w9.heap.size ≤ p6 := by rw [hp6]; exact hbw.size
            rw [← hp6]
            generalize World.alloc w7 _ = w10 at *
            clear HK hbw hb7 hs7 hp6 k0 k1 k2 k3 k4 k5 k6 k7
            have m1 := blk_keep n1 hb9
            have m2 := blk_keep n2 hb9
            have m3 := blk_keep n3 hb9
            have mo := row_below ho6 hb9
            have mB := hB6.trans (hb9.mono hB6.size)
            have ms : w.heap.size + 3 ≤ w10.heap.size := Nat.le_trans hs9 hb9.size
            have mp : w.heap.size + 3 ≤ p6 := Nat.le_trans hs9 hp9
            have hz4 : (encL [z0, z1, z2, z3]).size = 4 := rfl
            have hx4 : (encL [x0, x1, x2, x3]).size = 4 := rfl
            have heq := fun W => eqLay (a := [z0, z1, z2, z3]) (b := [x0, x1, x2, x3]) rfl rfl W
            have hgd : Try.prog.eqGuardType Try.prog.depth 110 = false := by kernel_rfl
            clear n1 n2 n3 ho6 hB6 hs9 hb9 hp9 c0 c1 c2 c3 d0 d1 d2 d3 hl2 hl3 hx1 hx2 hx3 HBF
            obtain ⟨hgk, hdf⟩ := HG.out
            by_cases hsame : [z0, z1, z2, z3] = [x0, x1, x2, x3]
            · have hst : Stab y k := ⟨by rw [HZ.out, HX.out]; exact hsame, hdf⟩
              have hd : decide ([z0, z1, z2, z3] = [x0, x1, x2, x3]) = true := by simp [hsame]
              simp only [hd] at heq
              have HS := Lib.hid hst
              have HE := Lib.hid hgk
              clear hsame hd hst hgk hdf HG
              go_wp2_with (first | (refine wpList_load_blk rfl 110 _ rfl _ rfl b6 Try.underlying110 rfl size110 hz4 ?_) | (refine wpList_load_blk rfl 110 _ rfl _ rfl m3 Try.underlying110 rfl size110 hx4 ?_))
              go_ret
              refine ⟨_, _, k, rfl, ⟨m2, slG_own (base := w.heap.size + 3) (e := 110) encLy_len (n := k + 1) ?_ (by simp [layL]) (by simp [layL]; omega)⟩, HS.out, mB⟩
              have := layL_succ y k
              rw [HX.out] at this
              unfold layL
              rw [this]; exact mo
            · have hdf2 : ∀ j, j < k + 1 → lay y (j + 1) ≠ lay y j := fun j hj => by
                by_cases e : j = k
                · subst e; rw [HZ.out, HX.out]; exact hsame
                · exact hdf j (by omega)
              have hcd := cd_lt ok (hdf2 k (by omega))
              have hd : decide ([z0, z1, z2, z3] = [x0, x1, x2, x3]) = false := by simp only [decide_eq_false_iff_not]; exact hsame
              simp only [hd] at heq
              have HE := Lib.hid (And.intro hgk (And.intro hdf2 hcd))
              clear hsame hd hgk hdf hdf2 HG hcd
              go_wp2_with (first | (refine wpList_load_blk rfl 110 _ rfl _ rfl b6 Try.underlying110 rfl size110 hz4 ?_) | (refine wpList_load_blk rfl 110 _ rfl _ rfl m3 Try.underlying110 rfl size110 hx4 ?_) | (refine wpList_store_blk rfl 110 _ _ rfl _ rfl rfl m3 size110 hz4 hx4 (encL_one _) ?_))
              have l2 := lt_blk m3
              simp only [Act.put, List.setIfInBounds_toArray, List.set_cons_succ, List.set_cons_zero]
              go_roundg (cd y (k + 1))
              case measure => rw [HE.out.1]; exact HE.out.2.2
              case rel =>
                refine ⟨k + 1, _, rfl, HE.out.2.1, below_putObj mB (by omega), (World.putObj_heap_other (by omega)).trans m1, (World.putObj_heap_other (by omega)).trans m2, by rw [HZ.out]; exact World.putObj_heap_same l2, ?_, by simp; omega⟩
                have := layL_succ y k
                rw [HX.out] at this
                rw [this]
                exact row_put mo (by omega)
        go_region_law
          ((refine step_append_own rfl (.tmp 26) (.tmp 28) 103 rfl (w.heap.size + 3) 110 i110 (.agg #[.int .u64 0, .int .u64 0, .int .u64 0, .int .u64 0]) 4 32 Try.underlying103 HI.out.1 HI.out.2.1 HI.out.2.2.1 HI.out.2.2.2 rfl (by decide) vl k _ rfl (World.ownsRow.drew (ho.alloc _)) ⟨wr.heap.size, 0, none⟩ 1 1 [.int .u64 x0, .int .u64 x1, .int .u64 x2, .int .u64 x3] rfl rfl (cell_newL rfl) (by simp [Value.oneCell']) (Nat.le_trans (by omega : k + 1 ≤ 2000) (by decide)) (by omega) (by show w.heap.size + 3 ≤ (World.alloc wr _).heap.size; rw [World.size_alloc]; omega) ?_
            intro v' w6 r1 r2
            obtain ⟨av, cv, rfl⟩ := form_of r1
            have hs6 := append_same ho r2
            have k2 := (hs6.1 _ (lt_blk b2) (fun h => by have := (ho.lt _ h).1; omega)).trans b2
            have e4 := cell_blk (i := 4) k2
            have ef := free_blk (i := 4) k2
            simp only [List.getElem?_toArray, List.getElem?_cons_zero, List.getElem?_cons_succ] at e4))
        all_goals
          refine REST _ _ _ _ av cv _ ?_ ?_ ?_ ?_ ?_ ?_
          · exact (heap_set_other (b' := w.heap.size + 1) (i := 4) (v := .slice av (k + 1) cv) (by omega)).trans ((hs6.1 _ hl1 (fun h => by have := (ho.lt _ h).1; omega)).trans b1)
          · exact heap_set_blk (i := 4) (v := .slice av (k + 1) cv) k2
          · exact (heap_set_other (b' := w.heap.size + 1) (i := 4) (v := .slice av (k + 1) cv) (by omega)).trans ((hs6.1 _ hl3 (fun h => by have := (ho.lt _ h).1; omega)).trans b3)
          · exact (hb.trans ((hs6.2.2 hs3).mono (by omega))).setCell (by simp) _
          · exact ownsRow_setCell_below (a := ⟨w.heap.size + 1, 4, none⟩) r1 (by show w.heap.size + 1 < w.heap.size + 3; omega) (.slice av (k + 1) cv)
          · have := hs6.2.1; simp; omega
end Ytndmjginmomfiaa
end Go.Proofs
