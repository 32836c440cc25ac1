/- The law YardMore returns true. -/
import Derived.Test.YtndmjginmomfiaaPlMore
import Derived.Test.YtndmjginmomfiaaPlPr
import Derived.Test.YtndmjginmomfiaaMr
import Derived.Test.YtndmjginmomfiaaGenE
import Derived.Test.YtndmjginmomfiaaW20
import Derived.Test.YtndmjginmomfiaaOp6
import Derived.Test.YtndmjginmomfiaaLawRm
open Go Go.RowKit Go.YtndmjginmomfiaaIt
namespace Go.Proofs
namespace Ytndmjginmomfiaa
theorem at_rowP {y : Yd} {n s : Nat} (h : s < y.room.toNat + 1) : at0 (rowP y n) s = termP y s n := by
  simp [at0, rowP, List.getD_eq_getElem?_getD, h]
theorem grown_made {W w7 : World} {o : Obj} (g2 : (W.alloc o).grownBy w7 (some W.heap.size)) : Below W.heap.size W w7 := by
  have hs : W.heap.size + 1 ≤ w7.heap.size := by have := g2.size; simpa using this
  refine ⟨g2.os, g2.tape, g2.output, by omega, fun k hk => ?_⟩
  rw [g2.block k (by simp; omega) (fun h2 => by injection h2; omega)]
  exact heap_oldI hk
theorem pk {w : World} {a b : Nat} {o p : Obj} (h : b ≠ a) (hb : w.heap[b]? = some o) : (w.putObj a p).heap[b]? = some o := (World.putObj_heap_other h).trans hb
theorem ps {w : World} {a : Nat} {o p : Obj} (hb : w.heap[a]? = some o) : (w.putObj a p).heap[a]? = some p := World.putObj_heap_same (lt_blk hb)
theorem four {w W : World} {z : Obj} (h : ((((w.alloc z).alloc z).alloc z).alloc z).drew = W) : W.heap[w.heap.size]? = some z ∧ W.heap[w.heap.size + 1]? = some z ∧ W.heap[w.heap.size + 1 + 1]? = some z ∧ W.heap[w.heap.size + 1 + 1 + 1]? = some z ∧ Below w.heap.size w W ∧ w.heap.size + 4 ≤ W.heap.size := by
  obtain ⟨V, hV⟩ : ∃ V, ((w.alloc z).alloc z).alloc z = V := ⟨_, rfl⟩
  obtain ⟨h0, h1, h2, hb, hs⟩ := blk3 hV
  have hsz : V.heap.size = w.heap.size + 1 + 1 + 1 := by rw [← hV]; simp
  rw [hV] at h
  obtain ⟨g3, gb, gs⟩ := blk1 (show V.alloc z = V.alloc z from rfl)
  rw [← h]
  refine ⟨(blk_keep h0 gb.drew), (blk_keep h1 gb.drew), (blk_keep h2 gb.drew), by rw [← hsz]; exact g3, (btr hb gb (Nat.le_refl _)).drew, ?_⟩
  show _ ≤ (V.alloc z).heap.size
  omega
set_option maxRecDepth 100000 in
set_option maxHeartbeats 40000000 in
theorem yardMore_any (r m l : Int) (u : Value) (qs : List Q4) (q : Q4) (w : World) (hr : (0 ≤ r ∧ r < 256) ∧ (0 ≤ m ∧ m < 256) ∧ (0 ≤ l ∧ l < 256)) (hq : ∀ q ∈ qs, q.ok) (hu : SlQ w u qs) (hq4 : q.ok) :
    Calls Try.prog 11 #[encP r m l u, .agg #[.int .u8 q.a, .int .u8 q.b, .int .u8 q.c, .int .u8 q.d]] w fun e w' => e = .returned (.bool true) ∧ Below w.heap.size w w' := by
  have hp4 : #[Value.int .u8 r, .int .u8 m, .int .u8 l, u].size = 4 := rfl
  have HM := Lib.hid (fun W (hW : Below w.heap.size w W) => made_any r m l u qs W hr.1 hr.2.1 hr.2.2 hq (hu.below (w' := W) hW (Nat.le_refl _)))
  obtain ⟨ad, cap, rfl, -, -, -⟩ := hu
  clear hr hq
  unfold encP at *
  go_enter Try.func11, Try.ntmps11
  refine wp_seq_k (fun K hK => ?_)
  have HK := Lib.hid hK; clear hK
  go_wp2
  refine HK.out _ _ ?_; clear HK K
  generalize hw1 : World.alloc _ _ = w1
  obtain ⟨b1, b2, hB, hs1⟩ := blk2 hw1
  clear hw1
  have h32 := HM.out w1 hB
  refine wp_seq_k (fun K hK => ?_)
  have HK := Lib.hid hK; clear hK
  go_wp2_with (first | (refine wpList_load_blk rfl 62 _ rfl _ rfl b1 Try.underlying62 rfl info62 hp4 ?_) | (go_at_call 32; refine h32.mono ?_; rintro e w2 ⟨y, v, rfl, hw, hy, hb2⟩; have hy4 : (encY y v).size = 4 := rfl; have ho1 : (encY y v).all (·.oneCell') = true := (by obtain ⟨ad, cap, rfl, -⟩ := hw; simp [encY, Value.oneCell']) ) | (refine wpList_store_blk rfl 24 _ _ rfl _ rfl rfl (heap_newI rfl) size24 hy4 rfl ho1 ?_))
  refine HK.out _ _ ?_; clear HK K
  have hB2 := btr hB hb2 (Nat.le_refl _)
  replace b2 := blk_keep b2 hb2
  clear h32 b1
  generalize hwA : World.putObj _ _ _ = wA
  have b7 : wA.heap[w2.heap.size]? = some (.cells (encY y v) 24 (0, 0)) := by rw [← hwA]; exact World.putObj_heap_same (by rw [World.size_alloc]; omega)
  have hBA : Below w2.heap.size w2 wA := by rw [← hwA]; exact below_putObj ((Below.refl _ _).alloc (Nat.le_refl _) _) (Nat.le_refl _)
  clear hwA
  have hw' := hw.below hBA (Nat.le_refl _)
  replace b2 := blk_keep b2 hBA
  have hB3 := btr hB2 hBA (Nat.le_refl _)
  clear hw hB hb2 hB2 hBA hp4 hs1 HM
  have hY0 := hB3.size
  generalize w2.heap.size = n7 at *
  obtain ⟨av, cv, rfl, -, -, -⟩ := id hw'
  have hn1 := hy.ok.n0
  have hn2 := hy.n
  have hro := hy.ok.room0
  have hr7 := hy.room
  have hmo := hy.ok.most0
  have hmo6 := hy.most
  have hlo := hy.ok.lots0
  have hlo3 := hy.lots
  have HY := Lib.hid hy
  obtain ⟨nw, hnw⟩ : ∃ nw, nw = y.ws.length := ⟨_, rfl⟩
  have HN := Lib.hid hnw
  have HW := Lib.hid (And.intro hw' b7)
  simp only [encY] at b7 ho1 hy4 ⊢
  rw [← hnw] at b7 hn1 hn2 ⊢
  clear hnw hy hw'
  have HQ4 := Lib.hid hq4
  clear hq4
  have htab := table_any y (.slice av y.ws.length cv) wA HW.out.1
  have hchk : chkE y = 0 := chk_ok.2 HY.out.ok
  have h16 : Calls Try.prog 16 #[.agg (encY y (.slice av y.ws.length cv))] wA fun e w' => ∃ u, e = .returned (.tuple #[u, .int .i64 0]) ∧ SlII w' u (tabP y) ∧ Below wA.heap.size wA w' := htab.mono (by
    rintro e w' ⟨hb', ⟨h, -⟩ | ⟨-, u, rfl, hu⟩⟩
    · exact absurd hchk h
    · exact ⟨u, rfl, hu, hb'⟩)
  have htl : (tabP y).length = y.ws.length := by simp [tabP]
  simp only [encY] at h16
  rw [← HN.out] at h16 htl
  have HTL := Lib.hid htl
  clear htab hchk htl
  refine wp_seq_k (fun K hK => ?_)
  have HK := Lib.hid hK; clear hK
  go_wp2_with (first | (refine wpList_load_blk rfl 24 _ rfl _ rfl b7 Try.underlying24 rfl size24 rfl ?_) | (go_at_call 16; refine h16.mono ?_; rintro e w3 ⟨u3, rfl, hu3, hb3⟩; have b73 := blk_keep b7 hb3; obtain ⟨ad3, cap3, rfl, hm3, hcp3, hrow3⟩ := hu3.opened; have HR3 := Lib.hid (And.intro hu3 hrow3); rw [HTL.out] at hm3 hcp3 ⊢))
  refine HK.out _ _ ?_; clear HK h16
  have b23 := blk_keep b2 hb3
  refine wp_seq_k (fun K hK => ?_)
  have HK := Lib.hid hK; clear hK
  have TAIL : ∀ (b8 b9 b10 b11 : Nat) (W : World), (b8 ≠ b9 ∧ b8 ≠ b10 ∧ b8 ≠ b11 ∧ b9 ≠ b10 ∧ b9 ≠ b11 ∧ b10 ≠ b11) → (w3.heap.size ≤ b8 ∧ w3.heap.size ≤ b9 ∧ w3.heap.size ≤ b10 ∧ w3.heap.size ≤ b11) →
      W.heap[b8]? = some (.cells #[.int .i64 y.room, .int .i64 y.most, .int .i64 y.lots, .slice av nw cv] 24 (0, 0)) → W.heap[b9]? = some (.cells #[.int .i64 y.room, .int .i64 y.most, .int .i64 y.lots, .slice av nw cv] 24 (0, 0)) → W.heap[b10]? = some (.cells #[.int .i64 y.room, .int .i64 y.most, .int .i64 y.lots, .slice av nw cv] 24 (0, 0)) → W.heap[b11]? = some (.cells #[.int .i64 y.room, .int .i64 y.most, .int .i64 y.lots, .slice av nw cv] 24 (0, 0)) → Below w3.heap.size w3 W →
      K ⟨#[.agg #[.int .u8 r, .int .u8 m, .int .u8 l, .slice ad qs.length cap], .agg #[.int .u8 q.a, .int .u8 q.b, .int .u8 q.c, .int .u8 q.d], .pointer (some ⟨w.heap.size, 0, none⟩), .pointer (some ⟨w.heap.size + 1, 0, none⟩), .bool false, .pointer (some ⟨n7, 0, none⟩), .slice ad3 nw cap3, .int .i64 0, .pointer (some ⟨b8, 0, none⟩), .pointer (some ⟨b9, 0, none⟩), .pointer (some ⟨b10, 0, none⟩), .pointer (some ⟨b11, 0, none⟩), undef, undef, undef, undef, undef, undef, undef, undef, undef, .agg #[.int .u8 r, .int .u8 m, .int .u8 l, .slice ad qs.length cap], .agg #[.int .i64 y.room, .int .i64 y.most, .int .i64 y.lots, .slice av nw cv], .tuple #[.slice ad3 nw cap3, .int .i64 0], .agg #[.int .i64 y.room, .int .i64 y.most, .int .i64 y.lots, .slice av nw cv], .tuple #[.slice ad3 nw cap3, .int .i64 0], .slice ad3 nw cap3, .int .i64 0, .agg #[.int .i64 y.room, .int .i64 y.most, .int .i64 y.lots, .slice av nw cv], .agg #[.int .i64 y.room, .int .i64 y.most, .int .i64 y.lots, .slice av nw cv], .agg #[.int .i64 y.room, .int .i64 y.most, .int .i64 y.lots, .slice av nw cv], .agg #[.int .i64 y.room, .int .i64 y.most, .int .i64 y.lots, .slice av nw cv], undef, undef, undef, undef, undef, undef, undef, undef, undef, undef, undef, undef, undef, undef, undef, undef, undef, undef, undef, undef, undef, undef, undef, undef, undef, undef, undef, undef, undef, undef, undef, undef, undef, undef, undef, undef, undef, undef, undef, undef, undef, undef, undef, undef, undef, undef, undef, undef, undef, undef, undef, undef, undef, undef, undef, undef, undef, undef, undef, undef, undef, undef, undef, undef, undef, undef, undef, undef, undef, undef, undef, undef, undef, undef, undef, undef, undef, undef, undef, undef, undef, undef, undef, undef, undef, undef, undef, undef, undef, undef, undef, undef, undef, undef, undef, undef, undef, undef, undef, undef, undef, undef, undef, undef, undef, undef, undef, undef, undef, undef, undef, undef, undef, undef, undef, undef, undef, undef, undef, undef, undef, undef, undef, undef, undef, undef, undef, undef, undef, undef, undef, undef, undef, undef, undef, undef, undef, undef, undef, undef, undef, undef, undef, undef, undef, undef, undef, undef, undef, undef, undef, undef, undef, undef, undef, undef, undef, undef, undef, undef, undef, undef, undef, undef, undef, undef, undef, undef, undef, undef, undef, undef, undef, undef, undef, undef, undef, undef, undef, undef, undef, undef, undef, undef, undef, undef, undef, undef, undef, undef], []⟩ W := by
    rintro b8 b9 b10 b11 W hne hge z8 z9 z10 z11 hBW
    refine HK.out _ _ ?_
    have b2W := blk_keep b23 hBW
    have qa := cell_blk (i := 0) b2W
    have qb := cell_blk (i := 1) b2W
    have r8 := cell_blk (i := 0) z8
    have f8 := free_blk (i := 0) z8
    simp only [List.getElem?_toArray, List.getElem?_cons_zero, List.getElem?_cons_succ] at qa qb r8
    have hqa := HQ4.out.1
    have hqb := HQ4.out.2.1
    have ta := bt 4 hqa
    have tb := bt 5 hqb
    have hlq := lt_blk b23
    have hln := lt_blk b73
    refine wp_seq_k (fun K hK => ?_)
    have HK := Lib.hid hK; clear hK
    go_wp2
    refine HK.out _ _ ?_; clear HK
    generalize hW1 : World.setCell _ _ _ = W1
    have y8 : W1.heap[b8]? = some (.cells #[.int .i64 (y.room + q.a % 4), .int .i64 y.most, .int .i64 y.lots, .slice av nw cv] 24 (0, 0)) := by rw [← hW1, heap_set_blk z8]; rfl
    have b21 : W1.heap[w.heap.size + 1]? = W.heap[w.heap.size + 1]? := by rw [← hW1]; exact heap_set_other (by omega)
    rw [b2W] at b21
    have y9 : W1.heap[b9]? = W.heap[b9]? := by rw [← hW1]; exact heap_set_other (by omega)
    rw [z9] at y9
    have y10 : W1.heap[b10]? = W.heap[b10]? := by rw [← hW1]; exact heap_set_other (by omega)
    rw [z10] at y10
    have y11 : W1.heap[b11]? = W.heap[b11]? := by rw [← hW1]; exact heap_set_other (by omega)
    rw [z11] at y11
    have hB1 : Below w3.heap.size w3 W1 := by rw [← hW1]; exact hBW.setCell (p := ⟨b8, 0, none⟩) (show w3.heap.size ≤ b8 by omega) _
    clear hW1 z8 z9 z10 z11 b2W qa qb r8 f8 hBW
    have qb := cell_blk (i := 1) b21
    have r9 := cell_blk (i := 1) y9
    have f9 := free_blk (i := 1) y9
    simp only [List.getElem?_toArray, List.getElem?_cons_zero, List.getElem?_cons_succ] at qb r9
    refine wp_seq_k (fun K hK => ?_)
    have HK := Lib.hid hK; clear hK
    go_wp2
    refine HK.out _ _ ?_; clear HK
    generalize hW2 : World.setCell _ _ _ = W2
    have x9 : W2.heap[b9]? = some (.cells #[.int .i64 y.room, .int .i64 (y.most + q.b % 5), .int .i64 y.lots, .slice av nw cv] 24 (0, 0)) := by rw [← hW2, heap_set_blk y9]; rfl
    have b22 : W2.heap[w.heap.size + 1]? = W1.heap[w.heap.size + 1]? := by rw [← hW2]; exact heap_set_other (by omega)
    rw [b21] at b22
    have x8 : W2.heap[b8]? = W1.heap[b8]? := by rw [← hW2]; exact heap_set_other (by omega)
    rw [y8] at x8
    have x10 : W2.heap[b10]? = W1.heap[b10]? := by rw [← hW2]; exact heap_set_other (by omega)
    rw [y10] at x10
    have x11 : W2.heap[b11]? = W1.heap[b11]? := by rw [← hW2]; exact heap_set_other (by omega)
    rw [y11] at x11
    have hB2 : Below w3.heap.size w3 W2 := by rw [← hW2]; exact hB1.setCell (p := ⟨b9, 1, none⟩) (show w3.heap.size ≤ b9 by omega) _
    clear hW2 y8 y9 y10 y11 b21 qb r9 f9 hB1
    have r10 := cell_blk (i := 2) x10
    have f10 := free_blk (i := 2) x10
    simp only [List.getElem?_toArray, List.getElem?_cons_zero, List.getElem?_cons_succ] at r10
    refine wp_seq_k (fun K hK => ?_)
    have HK := Lib.hid hK; clear hK
    go_wp2
    refine HK.out _ _ ?_; clear HK
    generalize hW3 : World.setCell _ _ _ = W3
    have v10 : W3.heap[b10]? = some (.cells #[.int .i64 y.room, .int .i64 y.most, .int .i64 1, .slice av nw cv] 24 (0, 0)) := by rw [← hW3, heap_set_blk x10]; rfl
    have b23W : W3.heap[w.heap.size + 1]? = W2.heap[w.heap.size + 1]? := by rw [← hW3]; exact heap_set_other (by omega)
    rw [b22] at b23W
    have v8 : W3.heap[b8]? = W2.heap[b8]? := by rw [← hW3]; exact heap_set_other (by omega)
    rw [x8] at v8
    have v9 : W3.heap[b9]? = W2.heap[b9]? := by rw [← hW3]; exact heap_set_other (by omega)
    rw [x9] at v9
    have v11 : W3.heap[b11]? = W2.heap[b11]? := by rw [← hW3]; exact heap_set_other (by omega)
    rw [x11] at v11
    have hB3W : Below w3.heap.size w3 W3 := by rw [← hW3]; exact hB2.setCell (p := ⟨b10, 2, none⟩) (show w3.heap.size ≤ b10 by omega) _
    clear hW3 x8 x9 x10 x11 b22 r10 f10 hB2
    have b7W := blk_keep b73 hB3W
    have hlnW := lt_blk b7W
    have hl11 := lt_blk v11
    have e3 := cell_blk (i := 3) b7W
    have g3 := cell_blk (i := 3) v11
    have h3 := free_blk (i := 3) v11
    simp only [List.getElem?_toArray, List.getElem?_cons_zero, List.getElem?_cons_succ] at e3 g3
    obtain ⟨i58, hi58, hz1, hz2, hz3⟩ := info_parts info58
    have hws := (HW.out.1.below hb3 (Nat.le_refl _)).below (hB3W.trans ((Below.refl _ _).alloc hB3W.size (.cells #[] 58))) (Nat.le_refl _)
    have hrd := reads_of_slG (enc := encW) (sz := 4) (fun _ => rfl) (by decide) hws
    rw [← HN.out] at hrd
    refine wp_seq_k (fun K hK => ?_)
    have HK := Lib.hid hK; clear hK
    go_wp2_with (at_builtin; refine wpList_append_any _ rfl _ _ 22 rfl W3.heap.size 58 i58 (.agg #[.int .i64 0, .int .i64 0, .int .i64 0, .int .i64 0]) 4 32 Try.underlying22 hi58 hz1 hz2 hz3 rfl (by decide) _ 0 [] rfl (World.ownsRow_made W3 #[] 0 (Nat.le_refl _) (by decide) rfl) _ _ _ _ _ rfl hrd (by intro u hu; obtain ⟨x, -, hx⟩ := List.mem_flatMap.1 hu; simp [encW] at hx; rcases hx with rfl | rfl | rfl | rfl <;> rfl) (Nat.le_trans (by omega : 0 + nw ≤ 50) (by decide)) (by omega) (by rw [World.size_alloc]; omega) ?_; intro v7 w7 g1 g2 _; obtain ⟨a7, c7, rfl⟩ := form_of g1; have hbn := grown_made g2; have u11 := blk_keep v11 hbn; have s3 := cell_blk (i := 3) u11; have t3 := free_blk (i := 3) u11; simp only [List.getElem?_toArray, List.getElem?_cons_zero, List.getElem?_cons_succ] at s3)
    refine HK.out _ _ ?_; clear HK
    simp only [Nat.zero_add, List.nil_append] at g1 s3 ⊢
    generalize hW8 : World.setCell _ _ _ = w8
    have g1' := ownsRow_setCell_below g1 (a := ⟨b11, 3, none⟩) hl11 (.slice a7 nw c7)
    rw [hW8] at g1'
    obtain ⟨g, rfl, hgB, hRw⟩ := Rw.of_own g1' HN.out.symm (by omega)
    have hc7 := cap_of g1 _ _ _ rfl
    clear g1 g1'
    have y11 : w8.heap[b11]? = some (.cells #[.int .i64 y.room, .int .i64 y.most, .int .i64 y.lots, .slice (some ⟨g, 0, none⟩) nw c7] 24 (0, 0)) := by rw [← hW8, heap_set_blk u11]; rfl
    have y8 : w8.heap[b8]? = w7.heap[b8]? := by rw [← hW8]; exact heap_set_other (by omega)
    rw [blk_keep v8 hbn] at y8
    have y9 : w8.heap[b9]? = w7.heap[b9]? := by rw [← hW8]; exact heap_set_other (by omega)
    rw [blk_keep v9 hbn] at y9
    have y10 : w8.heap[b10]? = w7.heap[b10]? := by rw [← hW8]; exact heap_set_other (by omega)
    rw [blk_keep v10 hbn] at y10
    have hB8 : Below w3.heap.size w3 w8 := by rw [← hW8]; exact (btr hB3W hbn (Nat.le_refl _)).setCell (p := ⟨b11, 3, none⟩) (show w3.heap.size ≤ b11 by omega) _
    have hg8 := lt_blk v8
    have hW3s := hB3W.size
    have hg9 := lt_blk v9
    have hg10 := lt_blk v10
    clear hW8 u11 s3 t3 v8 v9 v10 v11 hbn hB3W b7W hlnW e3 g3 h3 hws hrd b23W
    have hn73W := lt_blk b73
    have s11 := cell_blk (i := 3) y11
    simp only [List.getElem?_toArray, List.getElem?_cons_zero, List.getElem?_cons_succ] at s11
    go_wp2
    go_loopw [57] (fun i wr => ∃ k : Nat, i = .int .i64 k ∧ k ≤ nw ∧ Rw wr g nw (fun i => if i < k then chW q.c (1 + q.d / 4 % 2) (bits .and .u8 (q.d / 2 ^ i) 1 == 1) (y.at_ i) else y.at_ i) ∧ (∀ b, b ≠ g → wr.heap[b]? = w8.heap[b]?) ∧ Below w3.heap.size w3 wr) (fun i _ => nw - (intOf i).toNat)
    case atStart => exact ⟨0, rfl, Nat.zero_le _, hRw.congr (fun i _ => by simp [Yd.at_]), fun _ _ => rfl, hB8⟩
    case round =>
      obtain ⟨k, rfl, hk, hR, hoth, hB⟩ := hrel
      have b11r := (hoth b11 (by omega)).trans y11
      have e11 := cell_blk (i := 3) b11r
      simp only [List.getElem?_toArray, List.getElem?_cons_zero, List.getElem?_cons_succ] at e11
      by_cases hkn : k < nw
      · obtain ⟨c0, c1, c2, c3⟩ := hR.cells hkn
        simp only [Nat.lt_irrefl, if_false] at c0 c1 c2 c3
        have b2r := blk_below b23 hB hlq
        have m2 := cell_blk (i := 2) b2r
        have m3 := cell_blk (i := 3) b2r
        simp only [List.getElem?_toArray, List.getElem?_cons_zero, List.getElem?_cons_succ] at m2 m3
        have hek := HY.out.ok.each k (by rw [← HN.out]; exact hkn)
        have hqc := HQ4.out.2.2.1
        have hqd := HQ4.out.2.2.2
        obtain ⟨x0, hx0⟩ : ∃ x, x = (y.at_ k).comes := ⟨_, rfl⟩
        obtain ⟨x1, hx1⟩ : ∃ x, x = (y.at_ k).lo := ⟨_, rfl⟩
        obtain ⟨x2, hx2⟩ : ∃ x, x = (y.at_ k).hi := ⟨_, rfl⟩
        obtain ⟨x3, hx3⟩ : ∃ x, x = (y.at_ k).next := ⟨_, rfl⟩
        rw [← hx0, ← hx1, ← hx2, ← hx3] at hek
        rw [← hx0] at c0
        rw [← hx1] at c1
        rw [← hx2] at c2
        rw [← hx3] at c3
        have HX := Lib.hid (And.intro hx0 (And.intro hx1 (And.intro hx2 hx3)))
        clear hx0 hx1 hx2 hx3
        have f1 := hR.free (k * 4 + 1)
        have tc := bt (x2 - x1 + 1) hqc
        have hnz : ¬ (x2 - x1 + 1 = 0) := by omega
        have hcm := Int.emod_nonneg q.c hnz
        have hcl := Int.emod_lt_of_pos q.c (show 0 < x2 - x1 + 1 by omega)
        go_wp2
        rename_i K hK
        have HK := Lib.hid hK; clear hK
        refine wp_region_still_tail 25 (by kernel_rfl) (by kernel_rfl) ?_
        simp only [List.take_succ_cons, List.take_zero, List.drop_succ_cons, List.drop_zero]
        change wpStill _ _ (World.drew wr) _ _ _
        repeat still_step
        refine wpStill_step (fun K hK => ?_)
        go_simp
        simp only [bwrap (show 0 ≤ x2 - x1 ∧ x2 - x1 < 4000 by omega), bwrap (show 0 ≤ x2 - x1 + 1 ∧ x2 - x1 + 1 < 4000 by omega), bwq hqc, if_neg hnz, tc]
        refine ⟨trivial, hK _ ?_⟩
        clear hK K
        repeat still_step
        refine wpStill_nil ?_
        change wpList _ _ _ _ _ (World.drew wr)
        simp only [bwrap (show 0 ≤ x1 + q.c % (x2 - x1 + 1) ∧ x1 + q.c % (x2 - x1 + 1) < 4000 by omega)]
        go_wp2
        refine HK.out _ _ ?_; clear HK
        generalize hwA2 : World.setCell _ _ _ = wC
        have hRC := hR.set (k := k) (f := 1) hkn (by decide) (.int .i64 (x1 + q.c % (x2 - x1 + 1))) ⟨x0, x1 + q.c % (x2 - x1 + 1), x2, x3⟩ (by simp only [Nat.lt_irrefl, if_false]; rw [HX.out.1, HX.out.2.2.1, HX.out.2.2.2]; rfl)
        have hBC : Below w3.heap.size w3 wC := by rw [← hwA2]; exact hB.setCell (p := ⟨g, k * 4 + 1, none⟩) (show w3.heap.size ≤ g by omega) _
        have hothC : ∀ b, b ≠ g → wC.heap[b]? = w8.heap[b]? := fun b hb => by rw [← hwA2]; exact (heap_set_other hb).trans (hoth b hb)
        rw [hwA2] at hRC
        clear hwA2 hR hoth hB c0 c1 c2 c3 f1 m2 m3 b2r
        obtain ⟨c0, c1, c2, c3⟩ := hRC.cells hkn
        simp only [if_true] at c0 c1 c2 c3
        have f3 := hRC.free (k * 4 + 3)
        have b2r := blk_below b23 hBC hlq
        have m3 := cell_blk (i := 3) b2r
        simp only [List.getElem?_toArray, List.getElem?_cons_zero, List.getElem?_cons_succ] at m3
        have td : q.d.tdiv 4 = q.d / 4 := Int.tdiv_eq_ediv_of_nonneg hqd.1
        have te : (q.d / 4).tmod 2 = q.d / 4 % 2 := Int.tmod_eq_emod_of_nonneg (by omega)
        have b11C := (hothC b11 (by omega)).trans y11
        have e11C := cell_blk (i := 3) b11C
        simp only [List.getElem?_toArray, List.getElem?_cons_zero, List.getElem?_cons_succ] at e11C
        by_cases ht : (bits .and .u8 (q.d / 2 ^ k) 1 == 1) = true
        · by_cases h3 : (x3 == 3) = true
          · as_aux_lemma =>
            go_wp2
            go_roundw
            case rel =>
              have hRD := hRC.set (k := k) (f := 3) hkn (by decide) (.int .i64 (1 + q.d / 4 % 2)) ⟨x0, x1 + q.c % (x2 - x1 + 1), x2, 1 + q.d / 4 % 2⟩ (by simp only [if_true]; rfl)
              refine ⟨k + 1, by go_num, by omega, hRD.congr (fun i _ => ?_), fun b hb => (heap_set_other hb).trans (hothC b hb), hBC.drew.setCell (p := ⟨g, k * 4 + 3, none⟩) (show w3.heap.size ≤ g by omega) _⟩
              by_cases hik : i = k
              · subst hik
                simp only [if_true, if_pos (Nat.lt_succ_self _)]
                unfold chW
                rw [HX.out.1, HX.out.2.1, HX.out.2.2.1, if_pos ⟨ht, by rw [← HX.out.2.2.2]; simpa using h3⟩]
              · simp only [if_neg hik]
                by_cases hlt : i < k
                · rw [if_pos hlt, if_pos (by omega)]
                · rw [if_neg hlt, if_neg (by omega)]
            case measure => simp [intOf]; omega
          · as_aux_lemma =>
            have h3' : (x3 == 3) = false := by simpa using h3
            go_wp2
            go_roundw
            case rel =>
              refine ⟨k + 1, by go_num, by omega, hRC.congr (fun i _ => ?_), hothC, hBC.drew⟩
              by_cases hik : i = k
              · subst hik
                simp only [if_true, if_pos (Nat.lt_succ_self _)]
                unfold chW
                rw [HX.out.1, HX.out.2.1, HX.out.2.2.1, if_neg (by rintro ⟨-, h⟩; rw [← HX.out.2.2.2] at h; exact h3 (by simpa using h)), HX.out.2.2.2]
              · simp only [if_neg hik]
                by_cases hlt : i < k
                · rw [if_pos hlt, if_pos (by omega)]
                · rw [if_neg hlt, if_neg (by omega)]
            case measure => simp [intOf]; omega
        · as_aux_lemma =>
          have ht' : (bits .and .u8 (q.d / 2 ^ k) 1 == 1) = false := by simpa using ht
          go_wp2
          go_roundw
          case rel =>
            refine ⟨k + 1, by go_num, by omega, hRC.congr (fun i _ => ?_), hothC, hBC.drew⟩
            by_cases hik : i = k
            · subst hik
              simp only [if_true, if_pos (Nat.lt_succ_self _)]
              unfold chW
              rw [HX.out.1, HX.out.2.1, HX.out.2.2.1, if_neg (by rintro ⟨h, -⟩; exact ht h), HX.out.2.2.2]
            · simp only [if_neg hik]
              by_cases hlt : i < k
              · rw [if_pos hlt, if_pos (by omega)]
              · rw [if_neg hlt, if_neg (by omega)]
          case measure => simp [intOf]; omega
      · have hkn2 : k = nw := by omega
        subst hkn2
        have b8r := (hoth b8 (by omega)).trans y8
        have b9r := (hoth b9 (by omega)).trans y9
        have b10r := (hoth b10 (by omega)).trans y10
        have b73r := blk_below b73 hB hln
        have hvs := hR.sl (cap := c7) (by omega) (by omega)
        have hvs2 : SlW wr (.slice (some ⟨g, 0, none⟩) k c7) (chL y q.c (1 + q.d / 4 % 2) (fun i => bits .and .u8 (q.d / 2 ^ i) 1 == 1) k) := by unfold chL; rw [← HN.out]; exact hvs
        clear hvs hR hoth y8 y9 y10 y11 hg8 hg9 hg10 hgB hRw hB8 s11 hi58 hz1 hz2 hz3 e11
        have e73 := cell_blk (i := 3) b73r
        simp only [List.getElem?_toArray, List.getElem?_cons_zero, List.getElem?_cons_succ] at e73
        go_wp2_with (first | (refine wpList_load_blk rfl 24 _ rfl _ rfl b8r Try.underlying24 rfl size24 rfl ?_) | (refine wpList_load_blk rfl 24 _ rfl _ rfl b9r Try.underlying24 rfl size24 rfl ?_) | (refine wpList_load_blk rfl 24 _ rfl _ rfl b10r Try.underlying24 rfl size24 rfl ?_) | (refine wpList_load_blk rfl 24 _ rfl _ rfl b11r Try.underlying24 rfl size24 rfl ?_))
        generalize hwS : World.alloc _ _ = wS
        obtain ⟨bS, hBS, hsS⟩ := blk1 hwS
        have hltS := lt_blk bS
        clear hwS b8r b9r b10r b11r b73r e73
        have hBW := btr hB hBS (Nat.le_refl _)
        have hws3 := HW.out.1.below (btr hb3 hBW (Nat.le_refl _)) (Nat.le_refl _)
        rw [← HN.out] at hws3
        have hvs3 := hvs2.below hBS (Nat.le_refl _)
        have hsB0 := hB.size
        generalize wr.heap.size = sB at *
        obtain ⟨zR, zM, zL, zA, zC, zW, hcell, hmore, hsl⟩ : ∃ (zR zM zL : Nat → Int) (zA : Nat → Option Addr) (zC : Nat → Nat) (zW : Nat → List Wt), (∀ j, j < 4 → wS.cell? ⟨sB, j * 4, none⟩ = some (.int .i64 (zR j)) ∧ wS.cell? ⟨sB, j * 4 + 1, none⟩ = some (.int .i64 (zM j)) ∧ wS.cell? ⟨sB, j * 4 + 2, none⟩ = some (.int .i64 (zL j)) ∧ wS.cell? ⟨sB, j * 4 + 3, none⟩ = some (.slice (zA j) k (zC j))) ∧ (∀ j, j < 4 → More y ⟨zR j, zM j, zL j, zW j⟩) ∧ (∀ j, j < 4 → SlW wS (.slice (zA j) k (zC j)) (zW j)) := by
          refine ⟨fun j => [y.room + q.a % 4, y.room, y.room, y.room].getD j 0, fun j => [y.most, y.most + q.b % 5, y.most, y.most].getD j 0, fun j => [y.lots, y.lots, 1, y.lots].getD j 0, fun j => [av, av, av, some ⟨g, 0, none⟩].getD j none, fun j => [cv, cv, cv, c7].getD j 0, fun j => [y.ws, y.ws, y.ws, chL y q.c (1 + q.d / 4 % 2) (fun i => bits .and .u8 (q.d / 2 ^ i) 1 == 1) k].getD j [], ?_, ?_, ?_⟩
          · intro j hj
            simp only [cell_blk bS]
            match j, hj with
            | 0, _ => exact ⟨rfl, rfl, rfl, rfl⟩
            | 1, _ => exact ⟨rfl, rfl, rfl, rfl⟩
            | 2, _ => exact ⟨rfl, rfl, rfl, rfl⟩
            | 3, _ => exact ⟨rfl, rfl, rfl, rfl⟩
          · intro j hj
            match j, hj with
            | 0, _ => exact more_room HY.out.ok (by omega) (by omega)
            | 1, _ => exact more_most HY.out.ok (by omega) (by omega)
            | 2, _ => exact more_lots HY.out.ok
            | 3, _ =>
              have := chL_more HY.out.ok (a := q.c) (N := 1 + q.d / 4 % 2) (by omega) (fun i => bits .and .u8 (q.d / 2 ^ i) 1 == 1)
              rw [← HN.out] at this
              exact this
          · intro j hj
            match j, hj with
            | 0, _ => exact hws3
            | 1, _ => exact hws3
            | 2, _ => exact hws3
            | 3, _ => exact hvs3
        have HZ := Lib.hid (And.intro hmore (And.intro hsl hcell))
        clear hmore hsl hcell hws3 hvs3 hvs2 bS hBS hB ta tb
        go_loopw [128] (fun i wr => ∃ j : Nat, i = .int .i64 j ∧ j ≤ 4 ∧ Below wS.heap.size wS wr) (fun i _ => 4 - (intOf i).toNat)
        case atStart => exact ⟨0, rfl, by omega, Below.refl _ _⟩
        case round =>
          obtain ⟨j, rfl, hj, hQ⟩ := hrel
          by_cases hj4 : j < 4
          · obtain ⟨c0, c1, c2, c3⟩ := HZ.out.2.2 j hj4
            replace c0 := (hQ.cell (p := ⟨sB, j * 4, none⟩) hltS).trans c0
            replace c1 := (hQ.cell (p := ⟨sB, j * 4 + 1, none⟩) hltS).trans c1
            replace c2 := (hQ.cell (p := ⟨sB, j * 4 + 2, none⟩) hltS).trans c2
            replace c3 := (hQ.cell (p := ⟨sB, j * 4 + 3, none⟩) hltS).trans c3
            have hMo := HZ.out.1 j hj4
            have hSl := (HZ.out.2.1 j hj4).below hQ (Nat.le_refl _)
            generalize zR j = x0 at *
            generalize zM j = x1 at *
            generalize zL j = x2 at *
            generalize zA j = x3 at *
            generalize zC j = x4 at *
            generalize zW j = x5 at *
            have hzl : x5.length = k := by have := hMo.n; rw [← HN.out] at this; exact this
            go_wp2_with fail
            generalize hwA : World.alloc _ _ = wB
            obtain ⟨bO, hBB, hsB⟩ := blk1 hwA
            clear hwA c0 c1 c2 c3
            have hchz : chkE ⟨x0, x1, x2, x5⟩ = 0 := chk_ok.2 hMo.oz
            have htl5 : (tabP ⟨x0, x1, x2, x5⟩).length = k := by simpa [tabP] using hzl
            refine (table_any ⟨x0, x1, x2, x5⟩ (.slice x3 k x4) wB (hSl.below hBB (Nat.le_refl _))).mono ?_
            rintro e w5 ⟨hb5, ⟨h, -⟩ | ⟨-, u5, rfl, hu5⟩⟩
            · exact absurd hchz h
            obtain ⟨ad5, cap5, rfl, hm5, hcp5, hrow5⟩ := hu5.opened
            have HR5 := Lib.hid (And.intro hu5 hrow5)
            rw [htl5] at hm5 hcp5 ⊢
            have HTL5 := Lib.hid htl5
            have HMo := Lib.hid (And.intro hMo hzl)
            clear htl5 hchz hu5 hrow5
            replace bO := blk_keep bO hb5
            have hB5 := btr hQ (btr hBB hb5 (Nat.le_refl _)) (Nat.le_refl _)
            have hB5W := btr hBW hB5 (Nat.le_refl _)
            have hroom := hMo.room
            have hx00 := hMo.oz.room0
            have hx01 := hMo.oz.room1
            simp only at hroom hx00 hx01
            generalize wr.heap.size = oB at *
            clear hMo hSl hBB hb5 hQ hsB hzl
            have b75 := blk_below b73 hB5W hln
            have e75 := cell_blk (i := 3) b75
            simp only [List.getElem?_toArray, List.getElem?_cons_zero, List.getElem?_cons_succ] at e75
            go_wp2
            go_loopw [149] (fun i wr => ∃ n : Nat, i = .int .i64 n ∧ n ≤ k ∧ Below w5.heap.size w5 wr) (fun i _ => k - (intOf i).toNat)
            case atStart => exact ⟨0, rfl, Nat.zero_le _, Below.refl _ _⟩
            case round =>
              obtain ⟨n, rfl, hn, hN⟩ := hrel
              by_cases hnk : n < k
              · have hW3 := btr hB5W hN (Nat.le_refl _)
                have hkl : n < y.ws.length := by rw [← HN.out]; exact hnk
                obtain ⟨bt, offt, ad2, cap2, rfl, hlt3, hc3, hI3⟩ := HR3.out.2 n (by rw [HTL.out]; exact hnk)
                have htr : tabR (tabP y) n = rowP y n := tabP_row hkl
                rw [htr] at hc3 hI3
                have hLn := rowP_len y n
                obtain ⟨L, hL0⟩ : ∃ L, L = (rowP y n).length := ⟨_, rfl⟩
                rw [← hL0] at hc3 hI3 hLn
                obtain ⟨bu, offu, ad6, cap6, rfl, hlt5, hc5, hI5⟩ := HR5.out.2 n (by rw [HTL5.out]; exact hnk)
                have hku : n < x5.length := by rw [HMo.out.2]; exact hnk
                have htr5 : tabR (tabP ⟨x0, x1, x2, x5⟩) n = rowP ⟨x0, x1, x2, x5⟩ n := tabP_row hku
                rw [htr5] at hc5 hI5
                have hLn5 := rowP_len ⟨x0, x1, x2, x5⟩ n
                obtain ⟨L5, hL05⟩ : ∃ L, L = (rowP ⟨x0, x1, x2, x5⟩ n).length := ⟨_, rfl⟩
                rw [← hL05] at hc5 hI5 hLn5
                simp only at hLn5
                have hLr2 : ((L : Int) != y.room + 1) = false := by simp; omega
                have hLr5 : ((L5 : Int) != x0 + 1) = false := by simp; omega
                have hLL : L ≤ L5 := by omega
                have hL8 : 1 ≤ L := by omega
                have hL9 : L ≤ 8 := by omega
                have hL59 : L5 ≤ 61 := by omega
                have HI3 := Lib.hid (And.intro hI3 hL0)
                have HI5 := Lib.hid (And.intro hI5 hL05)
                have HLN := Lib.hid (And.intro hLn hLn5)
                clear htr hI3 hL0 hLn htr5 hI5 hL05 hLn5
                have d3 := (hW3.cell (p := ⟨bt, offt + n, none⟩) hlt3).trans hc3
                have d5 := (hN.cell (p := ⟨bu, offu + n, none⟩) hlt5).trans hc5
                have b7r := blk_below b73 hW3 hln
                have bOr := blk_keep bO hN
                have e0 := cell_blk (i := 0) b7r
                have eO := cell_blk (i := 0) bOr
                simp only [List.getElem?_toArray, List.getElem?_cons_zero] at e0 eO
                go_wp2
                rename_i K hK
                have HK := Lib.hid hK; clear hK
                go_quiet (fail)
                refine HK.out _ _ ?_; clear HK
                generalize hw6 : World.drewN _ _ = w6
                have hN6 : Below w5.heap.size w5 w6 := by rw [← hw6]; exact below_drewN hN _
                clear hw6 hN hW3 d3 d5 b7r bOr e0 eO
                have hW6 := btr hB5W hN6 (Nat.le_refl _)
                have d3 := (hW6.cell (p := ⟨bt, offt + n, none⟩) hlt3).trans hc3
                obtain ⟨adr, capr, her, -, -, hcr⟩ := HI3.out.1
                obtain ⟨br, offr, rfl, hltr, hcellr⟩ := hcr (by rw [← HI3.out.2]; omega)
                injection her with her1 her2 her3
                subst her1 her3
                clear her2 hcr
                obtain ⟨ads, caps, hes, -, -, hcs⟩ := HI5.out.1
                obtain ⟨bs, offs, rfl, hlts, hcells⟩ := hcs (by rw [← HI5.out.2]; omega)
                injection hes with hes1 hes2 hes3
                subst hes1 hes3
                clear hes2 hcs
                have HC3 := Lib.hid hcellr
                have HC5 := Lib.hid hcells
                clear hcellr hcells
                go_wp2
                go_loopw [177] (fun i wr => ∃ s : Nat, i = .int .i64 s ∧ s ≤ L ∧ Below w5.heap.size w5 wr) (fun i _ => L - (intOf i).toNat)
                case atStart => exact ⟨0, rfl, Nat.zero_le _, hN6⟩
                case round =>
                  clear hN6 hW6 d3
                  obtain ⟨s, rfl, hs, hN7⟩ := hrel
                  have hW7 := btr hB5W hN7 (Nat.le_refl _)
                  by_cases hsL : s < L
                  · have d5 := (hN7.cell (p := ⟨bu, offu + n, none⟩) hlt5).trans hc5
                    have r3 := (hW7.cell (p := ⟨br, offr + s, none⟩) hltr).trans (HC3.out s (by rw [← HI3.out.2]; exact hsL))
                    have r5 := (hN7.cell (p := ⟨bs, offs + s, none⟩) hlts).trans (HC5.out s (by rw [← HI5.out.2]; omega))
                    rw [at_rowP (by have := HLN.out.1; omega)] at r3
                    rw [at_rowP (by have := HLN.out.2; show s < x0.toNat + 1; omega)] at r5
                    have hlt : ¬ termP ⟨x0, x1, x2, x5⟩ s n < termP y s n := by
                      have := HMo.out.1.term (s := s) (m := n) (by have := HLN.out.1; omega) hkl
                      omega
                    generalize termP ⟨x0, x1, x2, x5⟩ s n = T5 at *
                    generalize termP y s n = T3 at *
                    go_wp2
                    go_roundw
                    case rel => exact ⟨s + 1, by go_num, by omega, hN7⟩
                    case measure => simp [intOf]; omega
                  · have hsL2 : s = L := by omega
                    subst hsL2
                    have hwsW := HW.out.1.below (btr hb3 hW7 (Nat.le_refl _)) (Nat.le_refl _)
                    obtain ⟨adw, capw, hew, -, -, hcw⟩ := hwsW
                    obtain ⟨bw, offw, rfl, hltw, hcellw⟩ := hcw (by rw [← HN.out]; omega)
                    injection hew with hew1 hew2 hew3
                    subst hew1 hew3
                    clear hew2 hcw
                    have w3n := (wt_cells hcellw (n := n) hkl rfl).2.2.2
                    have w30 := (wt_cells hcellw (n := 0) (by rw [← HN.out]; omega) rfl).2.2.2
                    rw [← at_lt hkl] at w3n
                    rw [← at_lt (show 0 < y.ws.length by rw [← HN.out]; omega)] at w30
                    simp only [Nat.zero_mul, Nat.add_zero] at w30
                    clear hcellw
                    have b7s := blk_below b73 hW7 hln
                    have e7s := cell_blk (i := 3) b7s
                    simp only [List.getElem?_toArray, List.getElem?_cons_zero, List.getElem?_cons_succ] at e7s
                    have hwsz := hN7.size
                    have l7 := lt_blk b7s
                    have hbw := hW7.size
                    have a75 := fun (x : Ab wr.heap.size wr) => (x.ok.cell (p := ⟨n7, 3, none⟩) l7).trans e7s
                    have a3n := fun (x : Ab wr.heap.size wr) => (x.ok.cell (p := ⟨bw, offw + n * 4 + 3, none⟩) hltw).trans w3n
                    have a30 := fun (x : Ab wr.heap.size wr) => (x.ok.cell (p := ⟨bw, offw + 3, none⟩) hltw).trans w30
                    clear e7s w3n w30 b7s
                    obtain ⟨xn, hxn⟩ : ∃ x, x = (y.at_ n).next := ⟨_, rfl⟩
                    obtain ⟨xm, hxm⟩ : ∃ x, x = (y.at_ 0).next := ⟨_, rfl⟩
                    rw [← hxn] at a3n
                    rw [← hxm] at a30
                    have HXN := Lib.hid (And.intro hxn hxm)
                    clear hxn hxm
                    by_cases hj3 : j = 3
                    · have hj3b : ((j : Int) == 3) = true := by subst hj3; rfl
                      clear hj3
                      by_cases hxe : (xn == xm) = true
                      · have hx2 : (y.at_ n).next = (y.at_ 0).next := by rw [← HXN.out.1, ← HXN.out.2]; simpa using hxe
                        have hsame := same_row HY.out.ok hkl (show 0 < y.ws.length by rw [← HN.out]; omega) hx2
                        change rowP y n = rowP y 0 at hsame
                        obtain ⟨bt', offt', adz, capz, hez, -, hcz, hIz⟩ := HR3.out.2 0 (by rw [HTL.out]; omega)
                        injection hez with hez2
                        injection hez2 with hez3 hez4
                        subst hez3 hez4
                        have htr0 : tabR (tabP y) 0 = rowP y 0 := tabP_row (by rw [← HN.out]; omega)
                        rw [htr0, ← hsame, ← HI3.out.2] at hcz hIz
                        simp only [Nat.add_zero] at hcz
                        have hltr3 : bt < wr.heap.size := Nat.lt_of_lt_of_le hlt3 hbw
                        have d3r := (hW7.cell (p := ⟨bt, offt + n, none⟩) hlt3).trans hc3
                        have dzr := (hW7.cell (p := ⟨bt, offt, none⟩) hlt3).trans hcz
                        have a3r := fun (x : Ab wr.heap.size wr) => (x.ok.cell (p := ⟨bt, offt + n, none⟩) hltr3).trans d3r
                        have azr := fun (x : Ab wr.heap.size wr) => (x.ok.cell (p := ⟨bt, offt, none⟩) hltr3).trans dzr
                        have e27 : ∀ (x : Ab wr.heap.size wr), Calls Try.prog 27 #[.slice (some ⟨br, offr, none⟩) s cap2, .slice adz s capz] x.val fun e w' => e = .returned (.bool true) ∧ Below x.val.heap.size x.val w' := fun x => by
                          have h1 := numbers_any _ _ _ _ x.val (HI3.out.1.below (btr hW7 x.ok (Nat.le_refl _)) (Nat.le_refl _)) (hIz.below (btr hW7 x.ok (Nat.le_refl _)) (Nat.le_refl _))
                          rw [decide_eq_true rfl] at h1
                          exact h1
                        clear d3r dzr hcz hIz hsame htr0 hx2
                        go_wp2
                        first | (rename_i hkk _ _; have : _ → _ := @hkk ⟨#[], []⟩ w; clear this) | (rename_i hkk _; have : _ → _ := @hkk ⟨#[], []⟩ w; clear this) | (rename_i hkk; have : _ → _ := @hkk ⟨#[], []⟩ w; clear this)
                        have HK := Lib.hid hkk; clear hkk
                        refine wp_region_ab wr.heap.size wr (by kernel_rfl) (by kernel_rfl) (Below.refl _ _) ?_
                        unfold AbC
                        repeat (go_big_quiet_step (first | (go_at_call 27; exact Calls.ab _ (Nat.le_refl _) (e27 _))))
                        refine wpQuiet_nil ?_
                        rintro W' ⟨z, rfl⟩
                        have hz := hN7.trans (z.ok.mono hwsz)
                        refine HK.out _ _ ?_
                        clear HK
                        go_wp2
                        go_roundw
                        case rel => exact ⟨n + 1, by go_num, by omega, hz⟩
                        case measure => simp [intOf]; omega
                      · have hxe' : (xn == xm) = false := by simpa using hxe
                        go_wp2
                        rename_i K hK
                        have HK := Lib.hid hK; clear hK
                        refine wp_region_ab wr.heap.size wr (by kernel_rfl) (by kernel_rfl) (Below.refl _ _) ?_
                        unfold AbC
                        repeat (go_big_quiet_step (fail))
                        refine wpQuiet_nil ?_
                        rintro W' ⟨z, rfl⟩
                        have hz := hN7.trans (z.ok.mono hwsz)
                        refine HK.out _ _ ?_
                        clear HK
                        go_wp2
                        go_roundw
                        case rel => exact ⟨n + 1, by go_num, by omega, hz⟩
                        case measure => simp [intOf]; omega
                    · have hj3' : ((j : Int) == 3) = false := by simp; omega
                      go_wp2
                      rename_i K hK
                      have HK := Lib.hid hK; clear hK
                      refine wp_region_ab wr.heap.size wr (by kernel_rfl) (by kernel_rfl) (Below.refl _ _) ?_
                      unfold AbC
                      repeat (go_big_quiet_step (fail))
                      refine wpQuiet_nil ?_
                      rintro W' ⟨z, rfl⟩
                      have hz := hN7.trans (z.ok.mono hwsz)
                      refine HK.out _ _ ?_
                      clear HK
                      go_wp2
                      go_roundw
                      case rel => exact ⟨n + 1, by go_num, by omega, hz⟩
                      case measure => simp [intOf]; omega
              · have hnk2 : n = k := by omega
                subst hnk2
                have hQ2 := btr hB5 hN (Nat.le_refl _)
                go_wp2
                go_roundw
                case rel => exact ⟨j + 1, by go_num, by omega, hQ2⟩
                case measure => simp [intOf]; omega
          · have hj2 : j = 4 := by omega
            subst hj2
            have hQ2 := btr (btr hB3 hb3 (Nat.le_refl _)) (btr hBW hQ (Nat.le_refl _)) (Nat.le_refl _)
            go_wp2_with (go_at_call 14; refine (works_any _).mono ?_; rintro e w9 ⟨rfl, hb9⟩)
            go_ret
            exact ⟨rfl, btr hQ2 hb9 (Nat.le_refl _)⟩
  have HTAIL := Lib.hid TAIL
  clear TAIL HK
  have hS : w3.heap[n7]? = some (.cells #[.int .i64 y.room, .int .i64 y.most, .int .i64 y.lots, .slice av nw cv] 24 (0, 0)) := b73
  refine wp_region_held (S := fun U => U.heap[n7]? = some (.cells #[.int .i64 y.room, .int .i64 y.most, .int .i64 y.lots, .slice av nw cv] 24 (0, 0))) (by kernel_rfl) ?_
  change wpAnyH _ _ _ _ _ _ _ _ (World.drew w3)
  refine wpAnyH_take (i := 0) (oi := { dst := some 28, op := _, type := _, pos := _, after := _, guard := none }) (v := .agg #[.int .i64 y.room, .int .i64 y.most, .int .i64 y.lots, .slice av nw cv]) rfl (by kernel_rfl) (by kernel_rfl) (by kernel_rfl) (fun _ _ _ h => h) (Or.inl ⟨by rfl, ?_⟩) hS ?_
  · exact yields_load_blk 24 (.tmp 5) rfl n7 rfl (fun W hW => hW) Try.underlying24 rfl size24 rfl
  simp only [Act.put, List.setIfInBounds_toArray, List.set_cons_zero, List.set_cons_succ]
  refine wpAnyH_take (i := 1) (oi := { dst := some 29, op := _, type := _, pos := _, after := _, guard := none }) (v := .agg #[.int .i64 y.room, .int .i64 y.most, .int .i64 y.lots, .slice av nw cv]) rfl (by kernel_rfl) (by kernel_rfl) (by kernel_rfl) (fun _ _ _ h => h) (Or.inl ⟨by rfl, ?_⟩) hS ?_
  · exact yields_load_blk 24 (.tmp 5) rfl n7 rfl (fun W hW => hW) Try.underlying24 rfl size24 rfl
  simp only [Act.put, List.setIfInBounds_toArray, List.set_cons_zero, List.set_cons_succ]
  refine wpAnyH_take (i := 2) (oi := { dst := some 30, op := _, type := _, pos := _, after := _, guard := none }) (v := .agg #[.int .i64 y.room, .int .i64 y.most, .int .i64 y.lots, .slice av nw cv]) rfl (by kernel_rfl) (by kernel_rfl) (by kernel_rfl) (fun _ _ _ h => h) (Or.inl ⟨by rfl, ?_⟩) hS ?_
  · exact yields_load_blk 24 (.tmp 5) rfl n7 rfl (fun W hW => hW) Try.underlying24 rfl size24 rfl
  simp only [Act.put, List.setIfInBounds_toArray, List.set_cons_zero, List.set_cons_succ]
  refine wpAnyH_take (i := 3) (oi := { dst := some 31, op := _, type := _, pos := _, after := _, guard := none }) (v := .agg #[.int .i64 y.room, .int .i64 y.most, .int .i64 y.lots, .slice av nw cv]) rfl (by kernel_rfl) (by kernel_rfl) (by kernel_rfl) (fun _ _ _ h => h) (Or.inl ⟨by rfl, ?_⟩) hS ?_
  · exact yields_load_blk 24 (.tmp 5) rfl n7 rfl (fun W hW => hW) Try.underlying24 rfl size24 rfl
  simp only [Act.put, List.setIfInBounds_toArray, List.set_cons_zero, List.set_cons_succ]
  refine wpAnyH_ready (rs := [4, 5, 6, 7]) (by kernel_rfl) (by simp) ?_
  refine AllReadyH.cons (o := { dst := some 8, op := _, type := _, pos := _, after := _, guard := none }) rfl (fun K1 hK1 => ?_) ?_
  · rw [if_pos (by rfl)]
    have HK1 := Lib.hid hK1; clear hK1
    go_simp
    refine HK1.out _ _ (blk_keep b73 ?_) ?_
    · exact ((Below.refl _ _).alloc (by first | exact Nat.le_refl _ | (simp only [World.size_alloc]; omega)) _).drew
    clear HK1 K1
    intro _
    try simp only [Act.put, List.setIfInBounds_toArray, List.set_cons_zero, List.set_cons_succ]
    refine wpAnyH_ready (rs := [5, 6, 7]) (by kernel_rfl) (by simp) ?_
    refine AllReadyH.cons (o := { dst := some 9, op := _, type := _, pos := _, after := _, guard := none }) rfl (fun K1 hK1 => ?_) ?_
    · rw [if_pos (by rfl)]
      have HK1 := Lib.hid hK1; clear hK1
      go_simp
      refine HK1.out _ _ (blk_keep b73 ?_) ?_
      · exact (((Below.refl _ _).alloc (by first | exact Nat.le_refl _ | (simp only [World.size_alloc]; omega)) _).alloc (by first | exact Nat.le_refl _ | (simp only [World.size_alloc]; omega)) _).drew
      clear HK1 K1
      intro _
      try simp only [Act.put, List.setIfInBounds_toArray, List.set_cons_zero, List.set_cons_succ]
      refine wpAnyH_ready (rs := [6, 7]) (by kernel_rfl) (by simp) ?_
      refine AllReadyH.cons (o := { dst := some 10, op := _, type := _, pos := _, after := _, guard := none }) rfl (fun K1 hK1 => ?_) ?_
      · rw [if_pos (by rfl)]
        have HK1 := Lib.hid hK1; clear hK1
        go_simp
        refine HK1.out _ _ (blk_keep b73 ?_) ?_
        · exact ((((Below.refl _ _).alloc (by first | exact Nat.le_refl _ | (simp only [World.size_alloc]; omega)) _).alloc (by first | exact Nat.le_refl _ | (simp only [World.size_alloc]; omega)) _).alloc (by first | exact Nat.le_refl _ | (simp only [World.size_alloc]; omega)) _).drew
        clear HK1 K1
        intro _
        try simp only [Act.put, List.setIfInBounds_toArray, List.set_cons_zero, List.set_cons_succ]
        refine wpAnyH_one (i := 7) (o := { dst := some 11, op := _, type := _, pos := _, after := _, guard := none }) (by kernel_rfl) rfl (by rfl) (fun K1 hK1 => ?_)
        have HK1 := Lib.hid hK1; clear hK1
        go_simp
        refine HK1.out _ _ (blk_keep b73 ?_) ?_
        · exact (((((Below.refl _ _).alloc (by first | exact Nat.le_refl _ | (simp only [World.size_alloc]; omega)) _).alloc (by first | exact Nat.le_refl _ | (simp only [World.size_alloc]; omega)) _).alloc (by first | exact Nat.le_refl _ | (simp only [World.size_alloc]; omega)) _).alloc (by first | exact Nat.le_refl _ | (simp only [World.size_alloc]; omega)) _).drew
        clear HK1 K1
        try simp only [Act.put, List.setIfInBounds_toArray, List.set_cons_zero, List.set_cons_succ]
        generalize hW4 : World.drew (World.alloc _ _) = W4
        obtain ⟨q0, q1, q2, q3, hB4, hs4⟩ := four hW4
        clear hW4
        have b74 := blk_keep b73 hB4
        have hn73 := lt_blk b73
        refine wpAnyH_one (i := 8) (o := { dst := none, op := _, type := _, pos := _, after := _, guard := none }) (by kernel_rfl) rfl (by rfl) (fun K1 hK1 => ?_)
        refine oper_store_blk 24 (.tmp 8) (.tmp 28) rfl (w3.heap.size) rfl rfl q0 size24 rfl rfl (by simp [Value.oneCell']) ?_
        refine hK1 _ _ (pk (by omega) b74) ?_
        clear hK1 K1
        refine wpAnyH_one (i := 9) (o := { dst := none, op := _, type := _, pos := _, after := _, guard := none }) (by kernel_rfl) rfl (by rfl) (fun K1 hK1 => ?_)
        refine oper_store_blk 24 (.tmp 9) (.tmp 29) rfl (w3.heap.size + 1) rfl rfl (pk (by omega) q1) size24 rfl rfl (by simp [Value.oneCell']) ?_
        refine hK1 _ _ (pk (by omega) (pk (by omega) b74)) ?_
        clear hK1 K1
        refine wpAnyH_one (i := 10) (o := { dst := none, op := _, type := _, pos := _, after := _, guard := none }) (by kernel_rfl) rfl (by rfl) (fun K1 hK1 => ?_)
        refine oper_store_blk 24 (.tmp 10) (.tmp 30) rfl (w3.heap.size + 1 + 1) rfl rfl (pk (by omega) (pk (by omega) q2)) size24 rfl rfl (by simp [Value.oneCell']) ?_
        refine hK1 _ _ (pk (by omega) (pk (by omega) (pk (by omega) b74))) ?_
        clear hK1 K1
        refine wpAnyH_one (i := 11) (o := { dst := none, op := _, type := _, pos := _, after := _, guard := none }) (by kernel_rfl) rfl (by rfl) (fun K1 hK1 => ?_)
        refine oper_store_blk 24 (.tmp 11) (.tmp 31) rfl (w3.heap.size + 1 + 1 + 1) rfl rfl (pk (by omega) (pk (by omega) (pk (by omega) q3))) size24 rfl rfl (by simp [Value.oneCell']) ?_
        refine hK1 _ _ (pk (by omega) (pk (by omega) (pk (by omega) (pk (by omega) b74)))) ?_
        clear hK1 K1
        refine wpAnyH_done (by kernel_rfl) ?_ _
        exact HTAIL.out _ _ _ _ _ (by omega) (by omega) (pk (by omega) (pk (by omega) (pk (by omega) (ps q0)))) (pk (by omega) (pk (by omega) (ps (pk (by omega) q1)))) (pk (by omega) (ps (pk (by omega) (pk (by omega) q2)))) (ps (pk (by omega) (pk (by omega) (pk (by omega) q3)))) (below_putObj (below_putObj (below_putObj (below_putObj hB4 (by omega)) (by omega)) (by omega)) (by omega))
      refine AllReadyH.cons (o := { dst := some 11, op := _, type := _, pos := _, after := _, guard := none }) rfl (fun K1 hK1 => ?_) ?_
      · rw [if_pos (by rfl)]
        have HK1 := Lib.hid hK1; clear hK1
        go_simp
        refine HK1.out _ _ (blk_keep b73 ?_) ?_
        · exact ((((Below.refl _ _).alloc (by first | exact Nat.le_refl _ | (simp only [World.size_alloc]; omega)) _).alloc (by first | exact Nat.le_refl _ | (simp only [World.size_alloc]; omega)) _).alloc (by first | exact Nat.le_refl _ | (simp only [World.size_alloc]; omega)) _).drew
        clear HK1 K1
        intro _
        try simp only [Act.put, List.setIfInBounds_toArray, List.set_cons_zero, List.set_cons_succ]
        refine wpAnyH_one (i := 6) (o := { dst := some 10, op := _, type := _, pos := _, after := _, guard := none }) (by kernel_rfl) rfl (by rfl) (fun K1 hK1 => ?_)
        have HK1 := Lib.hid hK1; clear hK1
        go_simp
        refine HK1.out _ _ (blk_keep b73 ?_) ?_
        · exact (((((Below.refl _ _).alloc (by first | exact Nat.le_refl _ | (simp only [World.size_alloc]; omega)) _).alloc (by first | exact Nat.le_refl _ | (simp only [World.size_alloc]; omega)) _).alloc (by first | exact Nat.le_refl _ | (simp only [World.size_alloc]; omega)) _).alloc (by first | exact Nat.le_refl _ | (simp only [World.size_alloc]; omega)) _).drew
        clear HK1 K1
        try simp only [Act.put, List.setIfInBounds_toArray, List.set_cons_zero, List.set_cons_succ]
        generalize hW4 : World.drew (World.alloc _ _) = W4
        obtain ⟨q0, q1, q2, q3, hB4, hs4⟩ := four hW4
        clear hW4
        have b74 := blk_keep b73 hB4
        have hn73 := lt_blk b73
        refine wpAnyH_one (i := 8) (o := { dst := none, op := _, type := _, pos := _, after := _, guard := none }) (by kernel_rfl) rfl (by rfl) (fun K1 hK1 => ?_)
        refine oper_store_blk 24 (.tmp 8) (.tmp 28) rfl (w3.heap.size) rfl rfl q0 size24 rfl rfl (by simp [Value.oneCell']) ?_
        refine hK1 _ _ (pk (by omega) b74) ?_
        clear hK1 K1
        refine wpAnyH_one (i := 9) (o := { dst := none, op := _, type := _, pos := _, after := _, guard := none }) (by kernel_rfl) rfl (by rfl) (fun K1 hK1 => ?_)
        refine oper_store_blk 24 (.tmp 9) (.tmp 29) rfl (w3.heap.size + 1) rfl rfl (pk (by omega) q1) size24 rfl rfl (by simp [Value.oneCell']) ?_
        refine hK1 _ _ (pk (by omega) (pk (by omega) b74)) ?_
        clear hK1 K1
        refine wpAnyH_one (i := 10) (o := { dst := none, op := _, type := _, pos := _, after := _, guard := none }) (by kernel_rfl) rfl (by rfl) (fun K1 hK1 => ?_)
        refine oper_store_blk 24 (.tmp 10) (.tmp 30) rfl (w3.heap.size + 1 + 1 + 1) rfl rfl (pk (by omega) (pk (by omega) q3)) size24 rfl rfl (by simp [Value.oneCell']) ?_
        refine hK1 _ _ (pk (by omega) (pk (by omega) (pk (by omega) b74))) ?_
        clear hK1 K1
        refine wpAnyH_one (i := 11) (o := { dst := none, op := _, type := _, pos := _, after := _, guard := none }) (by kernel_rfl) rfl (by rfl) (fun K1 hK1 => ?_)
        refine oper_store_blk 24 (.tmp 11) (.tmp 31) rfl (w3.heap.size + 1 + 1) rfl rfl (pk (by omega) (pk (by omega) (pk (by omega) q2))) size24 rfl rfl (by simp [Value.oneCell']) ?_
        refine hK1 _ _ (pk (by omega) (pk (by omega) (pk (by omega) (pk (by omega) b74)))) ?_
        clear hK1 K1
        refine wpAnyH_done (by kernel_rfl) ?_ _
        exact HTAIL.out _ _ _ _ _ (by omega) (by omega) (pk (by omega) (pk (by omega) (pk (by omega) (ps q0)))) (pk (by omega) (pk (by omega) (ps (pk (by omega) q1)))) (pk (by omega) (ps (pk (by omega) (pk (by omega) q3)))) (ps (pk (by omega) (pk (by omega) (pk (by omega) q2)))) (below_putObj (below_putObj (below_putObj (below_putObj hB4 (by omega)) (by omega)) (by omega)) (by omega))
      exact AllReadyH.nil
    refine AllReadyH.cons (o := { dst := some 10, op := _, type := _, pos := _, after := _, guard := none }) rfl (fun K1 hK1 => ?_) ?_
    · rw [if_pos (by rfl)]
      have HK1 := Lib.hid hK1; clear hK1
      go_simp
      refine HK1.out _ _ (blk_keep b73 ?_) ?_
      · exact (((Below.refl _ _).alloc (by first | exact Nat.le_refl _ | (simp only [World.size_alloc]; omega)) _).alloc (by first | exact Nat.le_refl _ | (simp only [World.size_alloc]; omega)) _).drew
      clear HK1 K1
      intro _
      try simp only [Act.put, List.setIfInBounds_toArray, List.set_cons_zero, List.set_cons_succ]
      refine wpAnyH_ready (rs := [5, 7]) (by kernel_rfl) (by simp) ?_
      refine AllReadyH.cons (o := { dst := some 9, op := _, type := _, pos := _, after := _, guard := none }) rfl (fun K1 hK1 => ?_) ?_
      · rw [if_pos (by rfl)]
        have HK1 := Lib.hid hK1; clear hK1
        go_simp
        refine HK1.out _ _ (blk_keep b73 ?_) ?_
        · exact ((((Below.refl _ _).alloc (by first | exact Nat.le_refl _ | (simp only [World.size_alloc]; omega)) _).alloc (by first | exact Nat.le_refl _ | (simp only [World.size_alloc]; omega)) _).alloc (by first | exact Nat.le_refl _ | (simp only [World.size_alloc]; omega)) _).drew
        clear HK1 K1
        intro _
        try simp only [Act.put, List.setIfInBounds_toArray, List.set_cons_zero, List.set_cons_succ]
        refine wpAnyH_one (i := 7) (o := { dst := some 11, op := _, type := _, pos := _, after := _, guard := none }) (by kernel_rfl) rfl (by rfl) (fun K1 hK1 => ?_)
        have HK1 := Lib.hid hK1; clear hK1
        go_simp
        refine HK1.out _ _ (blk_keep b73 ?_) ?_
        · exact (((((Below.refl _ _).alloc (by first | exact Nat.le_refl _ | (simp only [World.size_alloc]; omega)) _).alloc (by first | exact Nat.le_refl _ | (simp only [World.size_alloc]; omega)) _).alloc (by first | exact Nat.le_refl _ | (simp only [World.size_alloc]; omega)) _).alloc (by first | exact Nat.le_refl _ | (simp only [World.size_alloc]; omega)) _).drew
        clear HK1 K1
        try simp only [Act.put, List.setIfInBounds_toArray, List.set_cons_zero, List.set_cons_succ]
        generalize hW4 : World.drew (World.alloc _ _) = W4
        obtain ⟨q0, q1, q2, q3, hB4, hs4⟩ := four hW4
        clear hW4
        have b74 := blk_keep b73 hB4
        have hn73 := lt_blk b73
        refine wpAnyH_one (i := 8) (o := { dst := none, op := _, type := _, pos := _, after := _, guard := none }) (by kernel_rfl) rfl (by rfl) (fun K1 hK1 => ?_)
        refine oper_store_blk 24 (.tmp 8) (.tmp 28) rfl (w3.heap.size) rfl rfl q0 size24 rfl rfl (by simp [Value.oneCell']) ?_
        refine hK1 _ _ (pk (by omega) b74) ?_
        clear hK1 K1
        refine wpAnyH_one (i := 9) (o := { dst := none, op := _, type := _, pos := _, after := _, guard := none }) (by kernel_rfl) rfl (by rfl) (fun K1 hK1 => ?_)
        refine oper_store_blk 24 (.tmp 9) (.tmp 29) rfl (w3.heap.size + 1 + 1) rfl rfl (pk (by omega) q2) size24 rfl rfl (by simp [Value.oneCell']) ?_
        refine hK1 _ _ (pk (by omega) (pk (by omega) b74)) ?_
        clear hK1 K1
        refine wpAnyH_one (i := 10) (o := { dst := none, op := _, type := _, pos := _, after := _, guard := none }) (by kernel_rfl) rfl (by rfl) (fun K1 hK1 => ?_)
        refine oper_store_blk 24 (.tmp 10) (.tmp 30) rfl (w3.heap.size + 1) rfl rfl (pk (by omega) (pk (by omega) q1)) size24 rfl rfl (by simp [Value.oneCell']) ?_
        refine hK1 _ _ (pk (by omega) (pk (by omega) (pk (by omega) b74))) ?_
        clear hK1 K1
        refine wpAnyH_one (i := 11) (o := { dst := none, op := _, type := _, pos := _, after := _, guard := none }) (by kernel_rfl) rfl (by rfl) (fun K1 hK1 => ?_)
        refine oper_store_blk 24 (.tmp 11) (.tmp 31) rfl (w3.heap.size + 1 + 1 + 1) rfl rfl (pk (by omega) (pk (by omega) (pk (by omega) q3))) size24 rfl rfl (by simp [Value.oneCell']) ?_
        refine hK1 _ _ (pk (by omega) (pk (by omega) (pk (by omega) (pk (by omega) b74)))) ?_
        clear hK1 K1
        refine wpAnyH_done (by kernel_rfl) ?_ _
        exact HTAIL.out _ _ _ _ _ (by omega) (by omega) (pk (by omega) (pk (by omega) (pk (by omega) (ps q0)))) (pk (by omega) (pk (by omega) (ps (pk (by omega) q2)))) (pk (by omega) (ps (pk (by omega) (pk (by omega) q1)))) (ps (pk (by omega) (pk (by omega) (pk (by omega) q3)))) (below_putObj (below_putObj (below_putObj (below_putObj hB4 (by omega)) (by omega)) (by omega)) (by omega))
      refine AllReadyH.cons (o := { dst := some 11, op := _, type := _, pos := _, after := _, guard := none }) rfl (fun K1 hK1 => ?_) ?_
      · rw [if_pos (by rfl)]
        have HK1 := Lib.hid hK1; clear hK1
        go_simp
        refine HK1.out _ _ (blk_keep b73 ?_) ?_
        · exact ((((Below.refl _ _).alloc (by first | exact Nat.le_refl _ | (simp only [World.size_alloc]; omega)) _).alloc (by first | exact Nat.le_refl _ | (simp only [World.size_alloc]; omega)) _).alloc (by first | exact Nat.le_refl _ | (simp only [World.size_alloc]; omega)) _).drew
        clear HK1 K1
        intro _
        try simp only [Act.put, List.setIfInBounds_toArray, List.set_cons_zero, List.set_cons_succ]
        refine wpAnyH_one (i := 5) (o := { dst := some 9, op := _, type := _, pos := _, after := _, guard := none }) (by kernel_rfl) rfl (by rfl) (fun K1 hK1 => ?_)
        have HK1 := Lib.hid hK1; clear hK1
        go_simp
        refine HK1.out _ _ (blk_keep b73 ?_) ?_
        · exact (((((Below.refl _ _).alloc (by first | exact Nat.le_refl _ | (simp only [World.size_alloc]; omega)) _).alloc (by first | exact Nat.le_refl _ | (simp only [World.size_alloc]; omega)) _).alloc (by first | exact Nat.le_refl _ | (simp only [World.size_alloc]; omega)) _).alloc (by first | exact Nat.le_refl _ | (simp only [World.size_alloc]; omega)) _).drew
        clear HK1 K1
        try simp only [Act.put, List.setIfInBounds_toArray, List.set_cons_zero, List.set_cons_succ]
        generalize hW4 : World.drew (World.alloc _ _) = W4
        obtain ⟨q0, q1, q2, q3, hB4, hs4⟩ := four hW4
        clear hW4
        have b74 := blk_keep b73 hB4
        have hn73 := lt_blk b73
        refine wpAnyH_one (i := 8) (o := { dst := none, op := _, type := _, pos := _, after := _, guard := none }) (by kernel_rfl) rfl (by rfl) (fun K1 hK1 => ?_)
        refine oper_store_blk 24 (.tmp 8) (.tmp 28) rfl (w3.heap.size) rfl rfl q0 size24 rfl rfl (by simp [Value.oneCell']) ?_
        refine hK1 _ _ (pk (by omega) b74) ?_
        clear hK1 K1
        refine wpAnyH_one (i := 9) (o := { dst := none, op := _, type := _, pos := _, after := _, guard := none }) (by kernel_rfl) rfl (by rfl) (fun K1 hK1 => ?_)
        refine oper_store_blk 24 (.tmp 9) (.tmp 29) rfl (w3.heap.size + 1 + 1 + 1) rfl rfl (pk (by omega) q3) size24 rfl rfl (by simp [Value.oneCell']) ?_
        refine hK1 _ _ (pk (by omega) (pk (by omega) b74)) ?_
        clear hK1 K1
        refine wpAnyH_one (i := 10) (o := { dst := none, op := _, type := _, pos := _, after := _, guard := none }) (by kernel_rfl) rfl (by rfl) (fun K1 hK1 => ?_)
        refine oper_store_blk 24 (.tmp 10) (.tmp 30) rfl (w3.heap.size + 1) rfl rfl (pk (by omega) (pk (by omega) q1)) size24 rfl rfl (by simp [Value.oneCell']) ?_
        refine hK1 _ _ (pk (by omega) (pk (by omega) (pk (by omega) b74))) ?_
        clear hK1 K1
        refine wpAnyH_one (i := 11) (o := { dst := none, op := _, type := _, pos := _, after := _, guard := none }) (by kernel_rfl) rfl (by rfl) (fun K1 hK1 => ?_)
        refine oper_store_blk 24 (.tmp 11) (.tmp 31) rfl (w3.heap.size + 1 + 1) rfl rfl (pk (by omega) (pk (by omega) (pk (by omega) q2))) size24 rfl rfl (by simp [Value.oneCell']) ?_
        refine hK1 _ _ (pk (by omega) (pk (by omega) (pk (by omega) (pk (by omega) b74)))) ?_
        clear hK1 K1
        refine wpAnyH_done (by kernel_rfl) ?_ _
        exact HTAIL.out _ _ _ _ _ (by omega) (by omega) (pk (by omega) (pk (by omega) (pk (by omega) (ps q0)))) (pk (by omega) (pk (by omega) (ps (pk (by omega) q3)))) (pk (by omega) (ps (pk (by omega) (pk (by omega) q1)))) (ps (pk (by omega) (pk (by omega) (pk (by omega) q2)))) (below_putObj (below_putObj (below_putObj (below_putObj hB4 (by omega)) (by omega)) (by omega)) (by omega))
      exact AllReadyH.nil
    refine AllReadyH.cons (o := { dst := some 11, op := _, type := _, pos := _, after := _, guard := none }) rfl (fun K1 hK1 => ?_) ?_
    · rw [if_pos (by rfl)]
      have HK1 := Lib.hid hK1; clear hK1
      go_simp
      refine HK1.out _ _ (blk_keep b73 ?_) ?_
      · exact (((Below.refl _ _).alloc (by first | exact Nat.le_refl _ | (simp only [World.size_alloc]; omega)) _).alloc (by first | exact Nat.le_refl _ | (simp only [World.size_alloc]; omega)) _).drew
      clear HK1 K1
      intro _
      try simp only [Act.put, List.setIfInBounds_toArray, List.set_cons_zero, List.set_cons_succ]
      refine wpAnyH_ready (rs := [5, 6]) (by kernel_rfl) (by simp) ?_
      refine AllReadyH.cons (o := { dst := some 9, op := _, type := _, pos := _, after := _, guard := none }) rfl (fun K1 hK1 => ?_) ?_
      · rw [if_pos (by rfl)]
        have HK1 := Lib.hid hK1; clear hK1
        go_simp
        refine HK1.out _ _ (blk_keep b73 ?_) ?_
        · exact ((((Below.refl _ _).alloc (by first | exact Nat.le_refl _ | (simp only [World.size_alloc]; omega)) _).alloc (by first | exact Nat.le_refl _ | (simp only [World.size_alloc]; omega)) _).alloc (by first | exact Nat.le_refl _ | (simp only [World.size_alloc]; omega)) _).drew
        clear HK1 K1
        intro _
        try simp only [Act.put, List.setIfInBounds_toArray, List.set_cons_zero, List.set_cons_succ]
        refine wpAnyH_one (i := 6) (o := { dst := some 10, op := _, type := _, pos := _, after := _, guard := none }) (by kernel_rfl) rfl (by rfl) (fun K1 hK1 => ?_)
        have HK1 := Lib.hid hK1; clear hK1
        go_simp
        refine HK1.out _ _ (blk_keep b73 ?_) ?_
        · exact (((((Below.refl _ _).alloc (by first | exact Nat.le_refl _ | (simp only [World.size_alloc]; omega)) _).alloc (by first | exact Nat.le_refl _ | (simp only [World.size_alloc]; omega)) _).alloc (by first | exact Nat.le_refl _ | (simp only [World.size_alloc]; omega)) _).alloc (by first | exact Nat.le_refl _ | (simp only [World.size_alloc]; omega)) _).drew
        clear HK1 K1
        try simp only [Act.put, List.setIfInBounds_toArray, List.set_cons_zero, List.set_cons_succ]
        generalize hW4 : World.drew (World.alloc _ _) = W4
        obtain ⟨q0, q1, q2, q3, hB4, hs4⟩ := four hW4
        clear hW4
        have b74 := blk_keep b73 hB4
        have hn73 := lt_blk b73
        refine wpAnyH_one (i := 8) (o := { dst := none, op := _, type := _, pos := _, after := _, guard := none }) (by kernel_rfl) rfl (by rfl) (fun K1 hK1 => ?_)
        refine oper_store_blk 24 (.tmp 8) (.tmp 28) rfl (w3.heap.size) rfl rfl q0 size24 rfl rfl (by simp [Value.oneCell']) ?_
        refine hK1 _ _ (pk (by omega) b74) ?_
        clear hK1 K1
        refine wpAnyH_one (i := 9) (o := { dst := none, op := _, type := _, pos := _, after := _, guard := none }) (by kernel_rfl) rfl (by rfl) (fun K1 hK1 => ?_)
        refine oper_store_blk 24 (.tmp 9) (.tmp 29) rfl (w3.heap.size + 1 + 1) rfl rfl (pk (by omega) q2) size24 rfl rfl (by simp [Value.oneCell']) ?_
        refine hK1 _ _ (pk (by omega) (pk (by omega) b74)) ?_
        clear hK1 K1
        refine wpAnyH_one (i := 10) (o := { dst := none, op := _, type := _, pos := _, after := _, guard := none }) (by kernel_rfl) rfl (by rfl) (fun K1 hK1 => ?_)
        refine oper_store_blk 24 (.tmp 10) (.tmp 30) rfl (w3.heap.size + 1 + 1 + 1) rfl rfl (pk (by omega) (pk (by omega) q3)) size24 rfl rfl (by simp [Value.oneCell']) ?_
        refine hK1 _ _ (pk (by omega) (pk (by omega) (pk (by omega) b74))) ?_
        clear hK1 K1
        refine wpAnyH_one (i := 11) (o := { dst := none, op := _, type := _, pos := _, after := _, guard := none }) (by kernel_rfl) rfl (by rfl) (fun K1 hK1 => ?_)
        refine oper_store_blk 24 (.tmp 11) (.tmp 31) rfl (w3.heap.size + 1) rfl rfl (pk (by omega) (pk (by omega) (pk (by omega) q1))) size24 rfl rfl (by simp [Value.oneCell']) ?_
        refine hK1 _ _ (pk (by omega) (pk (by omega) (pk (by omega) (pk (by omega) b74)))) ?_
        clear hK1 K1
        refine wpAnyH_done (by kernel_rfl) ?_ _
        exact HTAIL.out _ _ _ _ _ (by omega) (by omega) (pk (by omega) (pk (by omega) (pk (by omega) (ps q0)))) (pk (by omega) (pk (by omega) (ps (pk (by omega) q2)))) (pk (by omega) (ps (pk (by omega) (pk (by omega) q3)))) (ps (pk (by omega) (pk (by omega) (pk (by omega) q1)))) (below_putObj (below_putObj (below_putObj (below_putObj hB4 (by omega)) (by omega)) (by omega)) (by omega))
      refine AllReadyH.cons (o := { dst := some 10, op := _, type := _, pos := _, after := _, guard := none }) rfl (fun K1 hK1 => ?_) ?_
      · rw [if_pos (by rfl)]
        have HK1 := Lib.hid hK1; clear hK1
        go_simp
        refine HK1.out _ _ (blk_keep b73 ?_) ?_
        · exact ((((Below.refl _ _).alloc (by first | exact Nat.le_refl _ | (simp only [World.size_alloc]; omega)) _).alloc (by first | exact Nat.le_refl _ | (simp only [World.size_alloc]; omega)) _).alloc (by first | exact Nat.le_refl _ | (simp only [World.size_alloc]; omega)) _).drew
        clear HK1 K1
        intro _
        try simp only [Act.put, List.setIfInBounds_toArray, List.set_cons_zero, List.set_cons_succ]
        refine wpAnyH_one (i := 5) (o := { dst := some 9, op := _, type := _, pos := _, after := _, guard := none }) (by kernel_rfl) rfl (by rfl) (fun K1 hK1 => ?_)
        have HK1 := Lib.hid hK1; clear hK1
        go_simp
        refine HK1.out _ _ (blk_keep b73 ?_) ?_
        · exact (((((Below.refl _ _).alloc (by first | exact Nat.le_refl _ | (simp only [World.size_alloc]; omega)) _).alloc (by first | exact Nat.le_refl _ | (simp only [World.size_alloc]; omega)) _).alloc (by first | exact Nat.le_refl _ | (simp only [World.size_alloc]; omega)) _).alloc (by first | exact Nat.le_refl _ | (simp only [World.size_alloc]; omega)) _).drew
        clear HK1 K1
        try simp only [Act.put, List.setIfInBounds_toArray, List.set_cons_zero, List.set_cons_succ]
        generalize hW4 : World.drew (World.alloc _ _) = W4
        obtain ⟨q0, q1, q2, q3, hB4, hs4⟩ := four hW4
        clear hW4
        have b74 := blk_keep b73 hB4
        have hn73 := lt_blk b73
        refine wpAnyH_one (i := 8) (o := { dst := none, op := _, type := _, pos := _, after := _, guard := none }) (by kernel_rfl) rfl (by rfl) (fun K1 hK1 => ?_)
        refine oper_store_blk 24 (.tmp 8) (.tmp 28) rfl (w3.heap.size) rfl rfl q0 size24 rfl rfl (by simp [Value.oneCell']) ?_
        refine hK1 _ _ (pk (by omega) b74) ?_
        clear hK1 K1
        refine wpAnyH_one (i := 9) (o := { dst := none, op := _, type := _, pos := _, after := _, guard := none }) (by kernel_rfl) rfl (by rfl) (fun K1 hK1 => ?_)
        refine oper_store_blk 24 (.tmp 9) (.tmp 29) rfl (w3.heap.size + 1 + 1 + 1) rfl rfl (pk (by omega) q3) size24 rfl rfl (by simp [Value.oneCell']) ?_
        refine hK1 _ _ (pk (by omega) (pk (by omega) b74)) ?_
        clear hK1 K1
        refine wpAnyH_one (i := 10) (o := { dst := none, op := _, type := _, pos := _, after := _, guard := none }) (by kernel_rfl) rfl (by rfl) (fun K1 hK1 => ?_)
        refine oper_store_blk 24 (.tmp 10) (.tmp 30) rfl (w3.heap.size + 1 + 1) rfl rfl (pk (by omega) (pk (by omega) q2)) size24 rfl rfl (by simp [Value.oneCell']) ?_
        refine hK1 _ _ (pk (by omega) (pk (by omega) (pk (by omega) b74))) ?_
        clear hK1 K1
        refine wpAnyH_one (i := 11) (o := { dst := none, op := _, type := _, pos := _, after := _, guard := none }) (by kernel_rfl) rfl (by rfl) (fun K1 hK1 => ?_)
        refine oper_store_blk 24 (.tmp 11) (.tmp 31) rfl (w3.heap.size + 1) rfl rfl (pk (by omega) (pk (by omega) (pk (by omega) q1))) size24 rfl rfl (by simp [Value.oneCell']) ?_
        refine hK1 _ _ (pk (by omega) (pk (by omega) (pk (by omega) (pk (by omega) b74)))) ?_
        clear hK1 K1
        refine wpAnyH_done (by kernel_rfl) ?_ _
        exact HTAIL.out _ _ _ _ _ (by omega) (by omega) (pk (by omega) (pk (by omega) (pk (by omega) (ps q0)))) (pk (by omega) (pk (by omega) (ps (pk (by omega) q3)))) (pk (by omega) (ps (pk (by omega) (pk (by omega) q2)))) (ps (pk (by omega) (pk (by omega) (pk (by omega) q1)))) (below_putObj (below_putObj (below_putObj (below_putObj hB4 (by omega)) (by omega)) (by omega)) (by omega))
      exact AllReadyH.nil
    exact AllReadyH.nil
  refine AllReadyH.cons (o := { dst := some 9, op := _, type := _, pos := _, after := _, guard := none }) rfl (fun K1 hK1 => ?_) ?_
  · rw [if_pos (by rfl)]
    have HK1 := Lib.hid hK1; clear hK1
    go_simp
    refine HK1.out _ _ (blk_keep b73 ?_) ?_
    · exact ((Below.refl _ _).alloc (by first | exact Nat.le_refl _ | (simp only [World.size_alloc]; omega)) _).drew
    clear HK1 K1
    intro _
    try simp only [Act.put, List.setIfInBounds_toArray, List.set_cons_zero, List.set_cons_succ]
    refine wpAnyH_ready (rs := [4, 6, 7]) (by kernel_rfl) (by simp) ?_
    refine AllReadyH.cons (o := { dst := some 8, op := _, type := _, pos := _, after := _, guard := none }) rfl (fun K1 hK1 => ?_) ?_
    · rw [if_pos (by rfl)]
      have HK1 := Lib.hid hK1; clear hK1
      go_simp
      refine HK1.out _ _ (blk_keep b73 ?_) ?_
      · exact (((Below.refl _ _).alloc (by first | exact Nat.le_refl _ | (simp only [World.size_alloc]; omega)) _).alloc (by first | exact Nat.le_refl _ | (simp only [World.size_alloc]; omega)) _).drew
      clear HK1 K1
      intro _
      try simp only [Act.put, List.setIfInBounds_toArray, List.set_cons_zero, List.set_cons_succ]
      refine wpAnyH_ready (rs := [6, 7]) (by kernel_rfl) (by simp) ?_
      refine AllReadyH.cons (o := { dst := some 10, op := _, type := _, pos := _, after := _, guard := none }) rfl (fun K1 hK1 => ?_) ?_
      · rw [if_pos (by rfl)]
        have HK1 := Lib.hid hK1; clear hK1
        go_simp
        refine HK1.out _ _ (blk_keep b73 ?_) ?_
        · exact ((((Below.refl _ _).alloc (by first | exact Nat.le_refl _ | (simp only [World.size_alloc]; omega)) _).alloc (by first | exact Nat.le_refl _ | (simp only [World.size_alloc]; omega)) _).alloc (by first | exact Nat.le_refl _ | (simp only [World.size_alloc]; omega)) _).drew
        clear HK1 K1
        intro _
        try simp only [Act.put, List.setIfInBounds_toArray, List.set_cons_zero, List.set_cons_succ]
        refine wpAnyH_one (i := 7) (o := { dst := some 11, op := _, type := _, pos := _, after := _, guard := none }) (by kernel_rfl) rfl (by rfl) (fun K1 hK1 => ?_)
        have HK1 := Lib.hid hK1; clear hK1
        go_simp
        refine HK1.out _ _ (blk_keep b73 ?_) ?_
        · exact (((((Below.refl _ _).alloc (by first | exact Nat.le_refl _ | (simp only [World.size_alloc]; omega)) _).alloc (by first | exact Nat.le_refl _ | (simp only [World.size_alloc]; omega)) _).alloc (by first | exact Nat.le_refl _ | (simp only [World.size_alloc]; omega)) _).alloc (by first | exact Nat.le_refl _ | (simp only [World.size_alloc]; omega)) _).drew
        clear HK1 K1
        try simp only [Act.put, List.setIfInBounds_toArray, List.set_cons_zero, List.set_cons_succ]
        generalize hW4 : World.drew (World.alloc _ _) = W4
        obtain ⟨q0, q1, q2, q3, hB4, hs4⟩ := four hW4
        clear hW4
        have b74 := blk_keep b73 hB4
        have hn73 := lt_blk b73
        refine wpAnyH_one (i := 8) (o := { dst := none, op := _, type := _, pos := _, after := _, guard := none }) (by kernel_rfl) rfl (by rfl) (fun K1 hK1 => ?_)
        refine oper_store_blk 24 (.tmp 8) (.tmp 28) rfl (w3.heap.size + 1) rfl rfl q1 size24 rfl rfl (by simp [Value.oneCell']) ?_
        refine hK1 _ _ (pk (by omega) b74) ?_
        clear hK1 K1
        refine wpAnyH_one (i := 9) (o := { dst := none, op := _, type := _, pos := _, after := _, guard := none }) (by kernel_rfl) rfl (by rfl) (fun K1 hK1 => ?_)
        refine oper_store_blk 24 (.tmp 9) (.tmp 29) rfl (w3.heap.size) rfl rfl (pk (by omega) q0) size24 rfl rfl (by simp [Value.oneCell']) ?_
        refine hK1 _ _ (pk (by omega) (pk (by omega) b74)) ?_
        clear hK1 K1
        refine wpAnyH_one (i := 10) (o := { dst := none, op := _, type := _, pos := _, after := _, guard := none }) (by kernel_rfl) rfl (by rfl) (fun K1 hK1 => ?_)
        refine oper_store_blk 24 (.tmp 10) (.tmp 30) rfl (w3.heap.size + 1 + 1) rfl rfl (pk (by omega) (pk (by omega) q2)) size24 rfl rfl (by simp [Value.oneCell']) ?_
        refine hK1 _ _ (pk (by omega) (pk (by omega) (pk (by omega) b74))) ?_
        clear hK1 K1
        refine wpAnyH_one (i := 11) (o := { dst := none, op := _, type := _, pos := _, after := _, guard := none }) (by kernel_rfl) rfl (by rfl) (fun K1 hK1 => ?_)
        refine oper_store_blk 24 (.tmp 11) (.tmp 31) rfl (w3.heap.size + 1 + 1 + 1) rfl rfl (pk (by omega) (pk (by omega) (pk (by omega) q3))) size24 rfl rfl (by simp [Value.oneCell']) ?_
        refine hK1 _ _ (pk (by omega) (pk (by omega) (pk (by omega) (pk (by omega) b74)))) ?_
        clear hK1 K1
        refine wpAnyH_done (by kernel_rfl) ?_ _
        exact HTAIL.out _ _ _ _ _ (by omega) (by omega) (pk (by omega) (pk (by omega) (pk (by omega) (ps q1)))) (pk (by omega) (pk (by omega) (ps (pk (by omega) q0)))) (pk (by omega) (ps (pk (by omega) (pk (by omega) q2)))) (ps (pk (by omega) (pk (by omega) (pk (by omega) q3)))) (below_putObj (below_putObj (below_putObj (below_putObj hB4 (by omega)) (by omega)) (by omega)) (by omega))
      refine AllReadyH.cons (o := { dst := some 11, op := _, type := _, pos := _, after := _, guard := none }) rfl (fun K1 hK1 => ?_) ?_
      · rw [if_pos (by rfl)]
        have HK1 := Lib.hid hK1; clear hK1
        go_simp
        refine HK1.out _ _ (blk_keep b73 ?_) ?_
        · exact ((((Below.refl _ _).alloc (by first | exact Nat.le_refl _ | (simp only [World.size_alloc]; omega)) _).alloc (by first | exact Nat.le_refl _ | (simp only [World.size_alloc]; omega)) _).alloc (by first | exact Nat.le_refl _ | (simp only [World.size_alloc]; omega)) _).drew
        clear HK1 K1
        intro _
        try simp only [Act.put, List.setIfInBounds_toArray, List.set_cons_zero, List.set_cons_succ]
        refine wpAnyH_one (i := 6) (o := { dst := some 10, op := _, type := _, pos := _, after := _, guard := none }) (by kernel_rfl) rfl (by rfl) (fun K1 hK1 => ?_)
        have HK1 := Lib.hid hK1; clear hK1
        go_simp
        refine HK1.out _ _ (blk_keep b73 ?_) ?_
        · exact (((((Below.refl _ _).alloc (by first | exact Nat.le_refl _ | (simp only [World.size_alloc]; omega)) _).alloc (by first | exact Nat.le_refl _ | (simp only [World.size_alloc]; omega)) _).alloc (by first | exact Nat.le_refl _ | (simp only [World.size_alloc]; omega)) _).alloc (by first | exact Nat.le_refl _ | (simp only [World.size_alloc]; omega)) _).drew
        clear HK1 K1
        try simp only [Act.put, List.setIfInBounds_toArray, List.set_cons_zero, List.set_cons_succ]
        generalize hW4 : World.drew (World.alloc _ _) = W4
        obtain ⟨q0, q1, q2, q3, hB4, hs4⟩ := four hW4
        clear hW4
        have b74 := blk_keep b73 hB4
        have hn73 := lt_blk b73
        refine wpAnyH_one (i := 8) (o := { dst := none, op := _, type := _, pos := _, after := _, guard := none }) (by kernel_rfl) rfl (by rfl) (fun K1 hK1 => ?_)
        refine oper_store_blk 24 (.tmp 8) (.tmp 28) rfl (w3.heap.size + 1) rfl rfl q1 size24 rfl rfl (by simp [Value.oneCell']) ?_
        refine hK1 _ _ (pk (by omega) b74) ?_
        clear hK1 K1
        refine wpAnyH_one (i := 9) (o := { dst := none, op := _, type := _, pos := _, after := _, guard := none }) (by kernel_rfl) rfl (by rfl) (fun K1 hK1 => ?_)
        refine oper_store_blk 24 (.tmp 9) (.tmp 29) rfl (w3.heap.size) rfl rfl (pk (by omega) q0) size24 rfl rfl (by simp [Value.oneCell']) ?_
        refine hK1 _ _ (pk (by omega) (pk (by omega) b74)) ?_
        clear hK1 K1
        refine wpAnyH_one (i := 10) (o := { dst := none, op := _, type := _, pos := _, after := _, guard := none }) (by kernel_rfl) rfl (by rfl) (fun K1 hK1 => ?_)
        refine oper_store_blk 24 (.tmp 10) (.tmp 30) rfl (w3.heap.size + 1 + 1 + 1) rfl rfl (pk (by omega) (pk (by omega) q3)) size24 rfl rfl (by simp [Value.oneCell']) ?_
        refine hK1 _ _ (pk (by omega) (pk (by omega) (pk (by omega) b74))) ?_
        clear hK1 K1
        refine wpAnyH_one (i := 11) (o := { dst := none, op := _, type := _, pos := _, after := _, guard := none }) (by kernel_rfl) rfl (by rfl) (fun K1 hK1 => ?_)
        refine oper_store_blk 24 (.tmp 11) (.tmp 31) rfl (w3.heap.size + 1 + 1) rfl rfl (pk (by omega) (pk (by omega) (pk (by omega) q2))) size24 rfl rfl (by simp [Value.oneCell']) ?_
        refine hK1 _ _ (pk (by omega) (pk (by omega) (pk (by omega) (pk (by omega) b74)))) ?_
        clear hK1 K1
        refine wpAnyH_done (by kernel_rfl) ?_ _
        exact HTAIL.out _ _ _ _ _ (by omega) (by omega) (pk (by omega) (pk (by omega) (pk (by omega) (ps q1)))) (pk (by omega) (pk (by omega) (ps (pk (by omega) q0)))) (pk (by omega) (ps (pk (by omega) (pk (by omega) q3)))) (ps (pk (by omega) (pk (by omega) (pk (by omega) q2)))) (below_putObj (below_putObj (below_putObj (below_putObj hB4 (by omega)) (by omega)) (by omega)) (by omega))
      exact AllReadyH.nil
    refine AllReadyH.cons (o := { dst := some 10, op := _, type := _, pos := _, after := _, guard := none }) rfl (fun K1 hK1 => ?_) ?_
    · rw [if_pos (by rfl)]
      have HK1 := Lib.hid hK1; clear hK1
      go_simp
      refine HK1.out _ _ (blk_keep b73 ?_) ?_
      · exact (((Below.refl _ _).alloc (by first | exact Nat.le_refl _ | (simp only [World.size_alloc]; omega)) _).alloc (by first | exact Nat.le_refl _ | (simp only [World.size_alloc]; omega)) _).drew
      clear HK1 K1
      intro _
      try simp only [Act.put, List.setIfInBounds_toArray, List.set_cons_zero, List.set_cons_succ]
      refine wpAnyH_ready (rs := [4, 7]) (by kernel_rfl) (by simp) ?_
      refine AllReadyH.cons (o := { dst := some 8, op := _, type := _, pos := _, after := _, guard := none }) rfl (fun K1 hK1 => ?_) ?_
      · rw [if_pos (by rfl)]
        have HK1 := Lib.hid hK1; clear hK1
        go_simp
        refine HK1.out _ _ (blk_keep b73 ?_) ?_
        · exact ((((Below.refl _ _).alloc (by first | exact Nat.le_refl _ | (simp only [World.size_alloc]; omega)) _).alloc (by first | exact Nat.le_refl _ | (simp only [World.size_alloc]; omega)) _).alloc (by first | exact Nat.le_refl _ | (simp only [World.size_alloc]; omega)) _).drew
        clear HK1 K1
        intro _
        try simp only [Act.put, List.setIfInBounds_toArray, List.set_cons_zero, List.set_cons_succ]
        refine wpAnyH_one (i := 7) (o := { dst := some 11, op := _, type := _, pos := _, after := _, guard := none }) (by kernel_rfl) rfl (by rfl) (fun K1 hK1 => ?_)
        have HK1 := Lib.hid hK1; clear hK1
        go_simp
        refine HK1.out _ _ (blk_keep b73 ?_) ?_
        · exact (((((Below.refl _ _).alloc (by first | exact Nat.le_refl _ | (simp only [World.size_alloc]; omega)) _).alloc (by first | exact Nat.le_refl _ | (simp only [World.size_alloc]; omega)) _).alloc (by first | exact Nat.le_refl _ | (simp only [World.size_alloc]; omega)) _).alloc (by first | exact Nat.le_refl _ | (simp only [World.size_alloc]; omega)) _).drew
        clear HK1 K1
        try simp only [Act.put, List.setIfInBounds_toArray, List.set_cons_zero, List.set_cons_succ]
        generalize hW4 : World.drew (World.alloc _ _) = W4
        obtain ⟨q0, q1, q2, q3, hB4, hs4⟩ := four hW4
        clear hW4
        have b74 := blk_keep b73 hB4
        have hn73 := lt_blk b73
        refine wpAnyH_one (i := 8) (o := { dst := none, op := _, type := _, pos := _, after := _, guard := none }) (by kernel_rfl) rfl (by rfl) (fun K1 hK1 => ?_)
        refine oper_store_blk 24 (.tmp 8) (.tmp 28) rfl (w3.heap.size + 1 + 1) rfl rfl q2 size24 rfl rfl (by simp [Value.oneCell']) ?_
        refine hK1 _ _ (pk (by omega) b74) ?_
        clear hK1 K1
        refine wpAnyH_one (i := 9) (o := { dst := none, op := _, type := _, pos := _, after := _, guard := none }) (by kernel_rfl) rfl (by rfl) (fun K1 hK1 => ?_)
        refine oper_store_blk 24 (.tmp 9) (.tmp 29) rfl (w3.heap.size) rfl rfl (pk (by omega) q0) size24 rfl rfl (by simp [Value.oneCell']) ?_
        refine hK1 _ _ (pk (by omega) (pk (by omega) b74)) ?_
        clear hK1 K1
        refine wpAnyH_one (i := 10) (o := { dst := none, op := _, type := _, pos := _, after := _, guard := none }) (by kernel_rfl) rfl (by rfl) (fun K1 hK1 => ?_)
        refine oper_store_blk 24 (.tmp 10) (.tmp 30) rfl (w3.heap.size + 1) rfl rfl (pk (by omega) (pk (by omega) q1)) size24 rfl rfl (by simp [Value.oneCell']) ?_
        refine hK1 _ _ (pk (by omega) (pk (by omega) (pk (by omega) b74))) ?_
        clear hK1 K1
        refine wpAnyH_one (i := 11) (o := { dst := none, op := _, type := _, pos := _, after := _, guard := none }) (by kernel_rfl) rfl (by rfl) (fun K1 hK1 => ?_)
        refine oper_store_blk 24 (.tmp 11) (.tmp 31) rfl (w3.heap.size + 1 + 1 + 1) rfl rfl (pk (by omega) (pk (by omega) (pk (by omega) q3))) size24 rfl rfl (by simp [Value.oneCell']) ?_
        refine hK1 _ _ (pk (by omega) (pk (by omega) (pk (by omega) (pk (by omega) b74)))) ?_
        clear hK1 K1
        refine wpAnyH_done (by kernel_rfl) ?_ _
        exact HTAIL.out _ _ _ _ _ (by omega) (by omega) (pk (by omega) (pk (by omega) (pk (by omega) (ps q2)))) (pk (by omega) (pk (by omega) (ps (pk (by omega) q0)))) (pk (by omega) (ps (pk (by omega) (pk (by omega) q1)))) (ps (pk (by omega) (pk (by omega) (pk (by omega) q3)))) (below_putObj (below_putObj (below_putObj (below_putObj hB4 (by omega)) (by omega)) (by omega)) (by omega))
      refine AllReadyH.cons (o := { dst := some 11, op := _, type := _, pos := _, after := _, guard := none }) rfl (fun K1 hK1 => ?_) ?_
      · rw [if_pos (by rfl)]
        have HK1 := Lib.hid hK1; clear hK1
        go_simp
        refine HK1.out _ _ (blk_keep b73 ?_) ?_
        · exact ((((Below.refl _ _).alloc (by first | exact Nat.le_refl _ | (simp only [World.size_alloc]; omega)) _).alloc (by first | exact Nat.le_refl _ | (simp only [World.size_alloc]; omega)) _).alloc (by first | exact Nat.le_refl _ | (simp only [World.size_alloc]; omega)) _).drew
        clear HK1 K1
        intro _
        try simp only [Act.put, List.setIfInBounds_toArray, List.set_cons_zero, List.set_cons_succ]
        refine wpAnyH_one (i := 4) (o := { dst := some 8, op := _, type := _, pos := _, after := _, guard := none }) (by kernel_rfl) rfl (by rfl) (fun K1 hK1 => ?_)
        have HK1 := Lib.hid hK1; clear hK1
        go_simp
        refine HK1.out _ _ (blk_keep b73 ?_) ?_
        · exact (((((Below.refl _ _).alloc (by first | exact Nat.le_refl _ | (simp only [World.size_alloc]; omega)) _).alloc (by first | exact Nat.le_refl _ | (simp only [World.size_alloc]; omega)) _).alloc (by first | exact Nat.le_refl _ | (simp only [World.size_alloc]; omega)) _).alloc (by first | exact Nat.le_refl _ | (simp only [World.size_alloc]; omega)) _).drew
        clear HK1 K1
        try simp only [Act.put, List.setIfInBounds_toArray, List.set_cons_zero, List.set_cons_succ]
        generalize hW4 : World.drew (World.alloc _ _) = W4
        obtain ⟨q0, q1, q2, q3, hB4, hs4⟩ := four hW4
        clear hW4
        have b74 := blk_keep b73 hB4
        have hn73 := lt_blk b73
        refine wpAnyH_one (i := 8) (o := { dst := none, op := _, type := _, pos := _, after := _, guard := none }) (by kernel_rfl) rfl (by rfl) (fun K1 hK1 => ?_)
        refine oper_store_blk 24 (.tmp 8) (.tmp 28) rfl (w3.heap.size + 1 + 1 + 1) rfl rfl q3 size24 rfl rfl (by simp [Value.oneCell']) ?_
        refine hK1 _ _ (pk (by omega) b74) ?_
        clear hK1 K1
        refine wpAnyH_one (i := 9) (o := { dst := none, op := _, type := _, pos := _, after := _, guard := none }) (by kernel_rfl) rfl (by rfl) (fun K1 hK1 => ?_)
        refine oper_store_blk 24 (.tmp 9) (.tmp 29) rfl (w3.heap.size) rfl rfl (pk (by omega) q0) size24 rfl rfl (by simp [Value.oneCell']) ?_
        refine hK1 _ _ (pk (by omega) (pk (by omega) b74)) ?_
        clear hK1 K1
        refine wpAnyH_one (i := 10) (o := { dst := none, op := _, type := _, pos := _, after := _, guard := none }) (by kernel_rfl) rfl (by rfl) (fun K1 hK1 => ?_)
        refine oper_store_blk 24 (.tmp 10) (.tmp 30) rfl (w3.heap.size + 1) rfl rfl (pk (by omega) (pk (by omega) q1)) size24 rfl rfl (by simp [Value.oneCell']) ?_
        refine hK1 _ _ (pk (by omega) (pk (by omega) (pk (by omega) b74))) ?_
        clear hK1 K1
        refine wpAnyH_one (i := 11) (o := { dst := none, op := _, type := _, pos := _, after := _, guard := none }) (by kernel_rfl) rfl (by rfl) (fun K1 hK1 => ?_)
        refine oper_store_blk 24 (.tmp 11) (.tmp 31) rfl (w3.heap.size + 1 + 1) rfl rfl (pk (by omega) (pk (by omega) (pk (by omega) q2))) size24 rfl rfl (by simp [Value.oneCell']) ?_
        refine hK1 _ _ (pk (by omega) (pk (by omega) (pk (by omega) (pk (by omega) b74)))) ?_
        clear hK1 K1
        refine wpAnyH_done (by kernel_rfl) ?_ _
        exact HTAIL.out _ _ _ _ _ (by omega) (by omega) (pk (by omega) (pk (by omega) (pk (by omega) (ps q3)))) (pk (by omega) (pk (by omega) (ps (pk (by omega) q0)))) (pk (by omega) (ps (pk (by omega) (pk (by omega) q1)))) (ps (pk (by omega) (pk (by omega) (pk (by omega) q2)))) (below_putObj (below_putObj (below_putObj (below_putObj hB4 (by omega)) (by omega)) (by omega)) (by omega))
      exact AllReadyH.nil
    refine AllReadyH.cons (o := { dst := some 11, op := _, type := _, pos := _, after := _, guard := none }) rfl (fun K1 hK1 => ?_) ?_
    · rw [if_pos (by rfl)]
      have HK1 := Lib.hid hK1; clear hK1
      go_simp
      refine HK1.out _ _ (blk_keep b73 ?_) ?_
      · exact (((Below.refl _ _).alloc (by first | exact Nat.le_refl _ | (simp only [World.size_alloc]; omega)) _).alloc (by first | exact Nat.le_refl _ | (simp only [World.size_alloc]; omega)) _).drew
      clear HK1 K1
      intro _
      try simp only [Act.put, List.setIfInBounds_toArray, List.set_cons_zero, List.set_cons_succ]
      refine wpAnyH_ready (rs := [4, 6]) (by kernel_rfl) (by simp) ?_
      refine AllReadyH.cons (o := { dst := some 8, op := _, type := _, pos := _, after := _, guard := none }) rfl (fun K1 hK1 => ?_) ?_
      · rw [if_pos (by rfl)]
        have HK1 := Lib.hid hK1; clear hK1
        go_simp
        refine HK1.out _ _ (blk_keep b73 ?_) ?_
        · exact ((((Below.refl _ _).alloc (by first | exact Nat.le_refl _ | (simp only [World.size_alloc]; omega)) _).alloc (by first | exact Nat.le_refl _ | (simp only [World.size_alloc]; omega)) _).alloc (by first | exact Nat.le_refl _ | (simp only [World.size_alloc]; omega)) _).drew
        clear HK1 K1
        intro _
        try simp only [Act.put, List.setIfInBounds_toArray, List.set_cons_zero, List.set_cons_succ]
        refine wpAnyH_one (i := 6) (o := { dst := some 10, op := _, type := _, pos := _, after := _, guard := none }) (by kernel_rfl) rfl (by rfl) (fun K1 hK1 => ?_)
        have HK1 := Lib.hid hK1; clear hK1
        go_simp
        refine HK1.out _ _ (blk_keep b73 ?_) ?_
        · exact (((((Below.refl _ _).alloc (by first | exact Nat.le_refl _ | (simp only [World.size_alloc]; omega)) _).alloc (by first | exact Nat.le_refl _ | (simp only [World.size_alloc]; omega)) _).alloc (by first | exact Nat.le_refl _ | (simp only [World.size_alloc]; omega)) _).alloc (by first | exact Nat.le_refl _ | (simp only [World.size_alloc]; omega)) _).drew
        clear HK1 K1
        try simp only [Act.put, List.setIfInBounds_toArray, List.set_cons_zero, List.set_cons_succ]
        generalize hW4 : World.drew (World.alloc _ _) = W4
        obtain ⟨q0, q1, q2, q3, hB4, hs4⟩ := four hW4
        clear hW4
        have b74 := blk_keep b73 hB4
        have hn73 := lt_blk b73
        refine wpAnyH_one (i := 8) (o := { dst := none, op := _, type := _, pos := _, after := _, guard := none }) (by kernel_rfl) rfl (by rfl) (fun K1 hK1 => ?_)
        refine oper_store_blk 24 (.tmp 8) (.tmp 28) rfl (w3.heap.size + 1 + 1) rfl rfl q2 size24 rfl rfl (by simp [Value.oneCell']) ?_
        refine hK1 _ _ (pk (by omega) b74) ?_
        clear hK1 K1
        refine wpAnyH_one (i := 9) (o := { dst := none, op := _, type := _, pos := _, after := _, guard := none }) (by kernel_rfl) rfl (by rfl) (fun K1 hK1 => ?_)
        refine oper_store_blk 24 (.tmp 9) (.tmp 29) rfl (w3.heap.size) rfl rfl (pk (by omega) q0) size24 rfl rfl (by simp [Value.oneCell']) ?_
        refine hK1 _ _ (pk (by omega) (pk (by omega) b74)) ?_
        clear hK1 K1
        refine wpAnyH_one (i := 10) (o := { dst := none, op := _, type := _, pos := _, after := _, guard := none }) (by kernel_rfl) rfl (by rfl) (fun K1 hK1 => ?_)
        refine oper_store_blk 24 (.tmp 10) (.tmp 30) rfl (w3.heap.size + 1 + 1 + 1) rfl rfl (pk (by omega) (pk (by omega) q3)) size24 rfl rfl (by simp [Value.oneCell']) ?_
        refine hK1 _ _ (pk (by omega) (pk (by omega) (pk (by omega) b74))) ?_
        clear hK1 K1
        refine wpAnyH_one (i := 11) (o := { dst := none, op := _, type := _, pos := _, after := _, guard := none }) (by kernel_rfl) rfl (by rfl) (fun K1 hK1 => ?_)
        refine oper_store_blk 24 (.tmp 11) (.tmp 31) rfl (w3.heap.size + 1) rfl rfl (pk (by omega) (pk (by omega) (pk (by omega) q1))) size24 rfl rfl (by simp [Value.oneCell']) ?_
        refine hK1 _ _ (pk (by omega) (pk (by omega) (pk (by omega) (pk (by omega) b74)))) ?_
        clear hK1 K1
        refine wpAnyH_done (by kernel_rfl) ?_ _
        exact HTAIL.out _ _ _ _ _ (by omega) (by omega) (pk (by omega) (pk (by omega) (pk (by omega) (ps q2)))) (pk (by omega) (pk (by omega) (ps (pk (by omega) q0)))) (pk (by omega) (ps (pk (by omega) (pk (by omega) q3)))) (ps (pk (by omega) (pk (by omega) (pk (by omega) q1)))) (below_putObj (below_putObj (below_putObj (below_putObj hB4 (by omega)) (by omega)) (by omega)) (by omega))
      refine AllReadyH.cons (o := { dst := some 10, op := _, type := _, pos := _, after := _, guard := none }) rfl (fun K1 hK1 => ?_) ?_
      · rw [if_pos (by rfl)]
        have HK1 := Lib.hid hK1; clear hK1
        go_simp
        refine HK1.out _ _ (blk_keep b73 ?_) ?_
        · exact ((((Below.refl _ _).alloc (by first | exact Nat.le_refl _ | (simp only [World.size_alloc]; omega)) _).alloc (by first | exact Nat.le_refl _ | (simp only [World.size_alloc]; omega)) _).alloc (by first | exact Nat.le_refl _ | (simp only [World.size_alloc]; omega)) _).drew
        clear HK1 K1
        intro _
        try simp only [Act.put, List.setIfInBounds_toArray, List.set_cons_zero, List.set_cons_succ]
        refine wpAnyH_one (i := 4) (o := { dst := some 8, op := _, type := _, pos := _, after := _, guard := none }) (by kernel_rfl) rfl (by rfl) (fun K1 hK1 => ?_)
        have HK1 := Lib.hid hK1; clear hK1
        go_simp
        refine HK1.out _ _ (blk_keep b73 ?_) ?_
        · exact (((((Below.refl _ _).alloc (by first | exact Nat.le_refl _ | (simp only [World.size_alloc]; omega)) _).alloc (by first | exact Nat.le_refl _ | (simp only [World.size_alloc]; omega)) _).alloc (by first | exact Nat.le_refl _ | (simp only [World.size_alloc]; omega)) _).alloc (by first | exact Nat.le_refl _ | (simp only [World.size_alloc]; omega)) _).drew
        clear HK1 K1
        try simp only [Act.put, List.setIfInBounds_toArray, List.set_cons_zero, List.set_cons_succ]
        generalize hW4 : World.drew (World.alloc _ _) = W4
        obtain ⟨q0, q1, q2, q3, hB4, hs4⟩ := four hW4
        clear hW4
        have b74 := blk_keep b73 hB4
        have hn73 := lt_blk b73
        refine wpAnyH_one (i := 8) (o := { dst := none, op := _, type := _, pos := _, after := _, guard := none }) (by kernel_rfl) rfl (by rfl) (fun K1 hK1 => ?_)
        refine oper_store_blk 24 (.tmp 8) (.tmp 28) rfl (w3.heap.size + 1 + 1 + 1) rfl rfl q3 size24 rfl rfl (by simp [Value.oneCell']) ?_
        refine hK1 _ _ (pk (by omega) b74) ?_
        clear hK1 K1
        refine wpAnyH_one (i := 9) (o := { dst := none, op := _, type := _, pos := _, after := _, guard := none }) (by kernel_rfl) rfl (by rfl) (fun K1 hK1 => ?_)
        refine oper_store_blk 24 (.tmp 9) (.tmp 29) rfl (w3.heap.size) rfl rfl (pk (by omega) q0) size24 rfl rfl (by simp [Value.oneCell']) ?_
        refine hK1 _ _ (pk (by omega) (pk (by omega) b74)) ?_
        clear hK1 K1
        refine wpAnyH_one (i := 10) (o := { dst := none, op := _, type := _, pos := _, after := _, guard := none }) (by kernel_rfl) rfl (by rfl) (fun K1 hK1 => ?_)
        refine oper_store_blk 24 (.tmp 10) (.tmp 30) rfl (w3.heap.size + 1 + 1) rfl rfl (pk (by omega) (pk (by omega) q2)) size24 rfl rfl (by simp [Value.oneCell']) ?_
        refine hK1 _ _ (pk (by omega) (pk (by omega) (pk (by omega) b74))) ?_
        clear hK1 K1
        refine wpAnyH_one (i := 11) (o := { dst := none, op := _, type := _, pos := _, after := _, guard := none }) (by kernel_rfl) rfl (by rfl) (fun K1 hK1 => ?_)
        refine oper_store_blk 24 (.tmp 11) (.tmp 31) rfl (w3.heap.size + 1) rfl rfl (pk (by omega) (pk (by omega) (pk (by omega) q1))) size24 rfl rfl (by simp [Value.oneCell']) ?_
        refine hK1 _ _ (pk (by omega) (pk (by omega) (pk (by omega) (pk (by omega) b74)))) ?_
        clear hK1 K1
        refine wpAnyH_done (by kernel_rfl) ?_ _
        exact HTAIL.out _ _ _ _ _ (by omega) (by omega) (pk (by omega) (pk (by omega) (pk (by omega) (ps q3)))) (pk (by omega) (pk (by omega) (ps (pk (by omega) q0)))) (pk (by omega) (ps (pk (by omega) (pk (by omega) q2)))) (ps (pk (by omega) (pk (by omega) (pk (by omega) q1)))) (below_putObj (below_putObj (below_putObj (below_putObj hB4 (by omega)) (by omega)) (by omega)) (by omega))
      exact AllReadyH.nil
    exact AllReadyH.nil
  refine AllReadyH.cons (o := { dst := some 10, op := _, type := _, pos := _, after := _, guard := none }) rfl (fun K1 hK1 => ?_) ?_
  · rw [if_pos (by rfl)]
    have HK1 := Lib.hid hK1; clear hK1
    go_simp
    refine HK1.out _ _ (blk_keep b73 ?_) ?_
    · exact ((Below.refl _ _).alloc (by first | exact Nat.le_refl _ | (simp only [World.size_alloc]; omega)) _).drew
    clear HK1 K1
    intro _
    try simp only [Act.put, List.setIfInBounds_toArray, List.set_cons_zero, List.set_cons_succ]
    refine wpAnyH_ready (rs := [4, 5, 7]) (by kernel_rfl) (by simp) ?_
    refine AllReadyH.cons (o := { dst := some 8, op := _, type := _, pos := _, after := _, guard := none }) rfl (fun K1 hK1 => ?_) ?_
    · rw [if_pos (by rfl)]
      have HK1 := Lib.hid hK1; clear hK1
      go_simp
      refine HK1.out _ _ (blk_keep b73 ?_) ?_
      · exact (((Below.refl _ _).alloc (by first | exact Nat.le_refl _ | (simp only [World.size_alloc]; omega)) _).alloc (by first | exact Nat.le_refl _ | (simp only [World.size_alloc]; omega)) _).drew
      clear HK1 K1
      intro _
      try simp only [Act.put, List.setIfInBounds_toArray, List.set_cons_zero, List.set_cons_succ]
      refine wpAnyH_ready (rs := [5, 7]) (by kernel_rfl) (by simp) ?_
      refine AllReadyH.cons (o := { dst := some 9, op := _, type := _, pos := _, after := _, guard := none }) rfl (fun K1 hK1 => ?_) ?_
      · rw [if_pos (by rfl)]
        have HK1 := Lib.hid hK1; clear hK1
        go_simp
        refine HK1.out _ _ (blk_keep b73 ?_) ?_
        · exact ((((Below.refl _ _).alloc (by first | exact Nat.le_refl _ | (simp only [World.size_alloc]; omega)) _).alloc (by first | exact Nat.le_refl _ | (simp only [World.size_alloc]; omega)) _).alloc (by first | exact Nat.le_refl _ | (simp only [World.size_alloc]; omega)) _).drew
        clear HK1 K1
        intro _
        try simp only [Act.put, List.setIfInBounds_toArray, List.set_cons_zero, List.set_cons_succ]
        refine wpAnyH_one (i := 7) (o := { dst := some 11, op := _, type := _, pos := _, after := _, guard := none }) (by kernel_rfl) rfl (by rfl) (fun K1 hK1 => ?_)
        have HK1 := Lib.hid hK1; clear hK1
        go_simp
        refine HK1.out _ _ (blk_keep b73 ?_) ?_
        · exact (((((Below.refl _ _).alloc (by first | exact Nat.le_refl _ | (simp only [World.size_alloc]; omega)) _).alloc (by first | exact Nat.le_refl _ | (simp only [World.size_alloc]; omega)) _).alloc (by first | exact Nat.le_refl _ | (simp only [World.size_alloc]; omega)) _).alloc (by first | exact Nat.le_refl _ | (simp only [World.size_alloc]; omega)) _).drew
        clear HK1 K1
        try simp only [Act.put, List.setIfInBounds_toArray, List.set_cons_zero, List.set_cons_succ]
        generalize hW4 : World.drew (World.alloc _ _) = W4
        obtain ⟨q0, q1, q2, q3, hB4, hs4⟩ := four hW4
        clear hW4
        have b74 := blk_keep b73 hB4
        have hn73 := lt_blk b73
        refine wpAnyH_one (i := 8) (o := { dst := none, op := _, type := _, pos := _, after := _, guard := none }) (by kernel_rfl) rfl (by rfl) (fun K1 hK1 => ?_)
        refine oper_store_blk 24 (.tmp 8) (.tmp 28) rfl (w3.heap.size + 1) rfl rfl q1 size24 rfl rfl (by simp [Value.oneCell']) ?_
        refine hK1 _ _ (pk (by omega) b74) ?_
        clear hK1 K1
        refine wpAnyH_one (i := 9) (o := { dst := none, op := _, type := _, pos := _, after := _, guard := none }) (by kernel_rfl) rfl (by rfl) (fun K1 hK1 => ?_)
        refine oper_store_blk 24 (.tmp 9) (.tmp 29) rfl (w3.heap.size + 1 + 1) rfl rfl (pk (by omega) q2) size24 rfl rfl (by simp [Value.oneCell']) ?_
        refine hK1 _ _ (pk (by omega) (pk (by omega) b74)) ?_
        clear hK1 K1
        refine wpAnyH_one (i := 10) (o := { dst := none, op := _, type := _, pos := _, after := _, guard := none }) (by kernel_rfl) rfl (by rfl) (fun K1 hK1 => ?_)
        refine oper_store_blk 24 (.tmp 10) (.tmp 30) rfl (w3.heap.size) rfl rfl (pk (by omega) (pk (by omega) q0)) size24 rfl rfl (by simp [Value.oneCell']) ?_
        refine hK1 _ _ (pk (by omega) (pk (by omega) (pk (by omega) b74))) ?_
        clear hK1 K1
        refine wpAnyH_one (i := 11) (o := { dst := none, op := _, type := _, pos := _, after := _, guard := none }) (by kernel_rfl) rfl (by rfl) (fun K1 hK1 => ?_)
        refine oper_store_blk 24 (.tmp 11) (.tmp 31) rfl (w3.heap.size + 1 + 1 + 1) rfl rfl (pk (by omega) (pk (by omega) (pk (by omega) q3))) size24 rfl rfl (by simp [Value.oneCell']) ?_
        refine hK1 _ _ (pk (by omega) (pk (by omega) (pk (by omega) (pk (by omega) b74)))) ?_
        clear hK1 K1
        refine wpAnyH_done (by kernel_rfl) ?_ _
        exact HTAIL.out _ _ _ _ _ (by omega) (by omega) (pk (by omega) (pk (by omega) (pk (by omega) (ps q1)))) (pk (by omega) (pk (by omega) (ps (pk (by omega) q2)))) (pk (by omega) (ps (pk (by omega) (pk (by omega) q0)))) (ps (pk (by omega) (pk (by omega) (pk (by omega) q3)))) (below_putObj (below_putObj (below_putObj (below_putObj hB4 (by omega)) (by omega)) (by omega)) (by omega))
      refine AllReadyH.cons (o := { dst := some 11, op := _, type := _, pos := _, after := _, guard := none }) rfl (fun K1 hK1 => ?_) ?_
      · rw [if_pos (by rfl)]
        have HK1 := Lib.hid hK1; clear hK1
        go_simp
        refine HK1.out _ _ (blk_keep b73 ?_) ?_
        · exact ((((Below.refl _ _).alloc (by first | exact Nat.le_refl _ | (simp only [World.size_alloc]; omega)) _).alloc (by first | exact Nat.le_refl _ | (simp only [World.size_alloc]; omega)) _).alloc (by first | exact Nat.le_refl _ | (simp only [World.size_alloc]; omega)) _).drew
        clear HK1 K1
        intro _
        try simp only [Act.put, List.setIfInBounds_toArray, List.set_cons_zero, List.set_cons_succ]
        refine wpAnyH_one (i := 5) (o := { dst := some 9, op := _, type := _, pos := _, after := _, guard := none }) (by kernel_rfl) rfl (by rfl) (fun K1 hK1 => ?_)
        have HK1 := Lib.hid hK1; clear hK1
        go_simp
        refine HK1.out _ _ (blk_keep b73 ?_) ?_
        · exact (((((Below.refl _ _).alloc (by first | exact Nat.le_refl _ | (simp only [World.size_alloc]; omega)) _).alloc (by first | exact Nat.le_refl _ | (simp only [World.size_alloc]; omega)) _).alloc (by first | exact Nat.le_refl _ | (simp only [World.size_alloc]; omega)) _).alloc (by first | exact Nat.le_refl _ | (simp only [World.size_alloc]; omega)) _).drew
        clear HK1 K1
        try simp only [Act.put, List.setIfInBounds_toArray, List.set_cons_zero, List.set_cons_succ]
        generalize hW4 : World.drew (World.alloc _ _) = W4
        obtain ⟨q0, q1, q2, q3, hB4, hs4⟩ := four hW4
        clear hW4
        have b74 := blk_keep b73 hB4
        have hn73 := lt_blk b73
        refine wpAnyH_one (i := 8) (o := { dst := none, op := _, type := _, pos := _, after := _, guard := none }) (by kernel_rfl) rfl (by rfl) (fun K1 hK1 => ?_)
        refine oper_store_blk 24 (.tmp 8) (.tmp 28) rfl (w3.heap.size + 1) rfl rfl q1 size24 rfl rfl (by simp [Value.oneCell']) ?_
        refine hK1 _ _ (pk (by omega) b74) ?_
        clear hK1 K1
        refine wpAnyH_one (i := 9) (o := { dst := none, op := _, type := _, pos := _, after := _, guard := none }) (by kernel_rfl) rfl (by rfl) (fun K1 hK1 => ?_)
        refine oper_store_blk 24 (.tmp 9) (.tmp 29) rfl (w3.heap.size + 1 + 1 + 1) rfl rfl (pk (by omega) q3) size24 rfl rfl (by simp [Value.oneCell']) ?_
        refine hK1 _ _ (pk (by omega) (pk (by omega) b74)) ?_
        clear hK1 K1
        refine wpAnyH_one (i := 10) (o := { dst := none, op := _, type := _, pos := _, after := _, guard := none }) (by kernel_rfl) rfl (by rfl) (fun K1 hK1 => ?_)
        refine oper_store_blk 24 (.tmp 10) (.tmp 30) rfl (w3.heap.size) rfl rfl (pk (by omega) (pk (by omega) q0)) size24 rfl rfl (by simp [Value.oneCell']) ?_
        refine hK1 _ _ (pk (by omega) (pk (by omega) (pk (by omega) b74))) ?_
        clear hK1 K1
        refine wpAnyH_one (i := 11) (o := { dst := none, op := _, type := _, pos := _, after := _, guard := none }) (by kernel_rfl) rfl (by rfl) (fun K1 hK1 => ?_)
        refine oper_store_blk 24 (.tmp 11) (.tmp 31) rfl (w3.heap.size + 1 + 1) rfl rfl (pk (by omega) (pk (by omega) (pk (by omega) q2))) size24 rfl rfl (by simp [Value.oneCell']) ?_
        refine hK1 _ _ (pk (by omega) (pk (by omega) (pk (by omega) (pk (by omega) b74)))) ?_
        clear hK1 K1
        refine wpAnyH_done (by kernel_rfl) ?_ _
        exact HTAIL.out _ _ _ _ _ (by omega) (by omega) (pk (by omega) (pk (by omega) (pk (by omega) (ps q1)))) (pk (by omega) (pk (by omega) (ps (pk (by omega) q3)))) (pk (by omega) (ps (pk (by omega) (pk (by omega) q0)))) (ps (pk (by omega) (pk (by omega) (pk (by omega) q2)))) (below_putObj (below_putObj (below_putObj (below_putObj hB4 (by omega)) (by omega)) (by omega)) (by omega))
      exact AllReadyH.nil
    refine AllReadyH.cons (o := { dst := some 9, op := _, type := _, pos := _, after := _, guard := none }) rfl (fun K1 hK1 => ?_) ?_
    · rw [if_pos (by rfl)]
      have HK1 := Lib.hid hK1; clear hK1
      go_simp
      refine HK1.out _ _ (blk_keep b73 ?_) ?_
      · exact (((Below.refl _ _).alloc (by first | exact Nat.le_refl _ | (simp only [World.size_alloc]; omega)) _).alloc (by first | exact Nat.le_refl _ | (simp only [World.size_alloc]; omega)) _).drew
      clear HK1 K1
      intro _
      try simp only [Act.put, List.setIfInBounds_toArray, List.set_cons_zero, List.set_cons_succ]
      refine wpAnyH_ready (rs := [4, 7]) (by kernel_rfl) (by simp) ?_
      refine AllReadyH.cons (o := { dst := some 8, op := _, type := _, pos := _, after := _, guard := none }) rfl (fun K1 hK1 => ?_) ?_
      · rw [if_pos (by rfl)]
        have HK1 := Lib.hid hK1; clear hK1
        go_simp
        refine HK1.out _ _ (blk_keep b73 ?_) ?_
        · exact ((((Below.refl _ _).alloc (by first | exact Nat.le_refl _ | (simp only [World.size_alloc]; omega)) _).alloc (by first | exact Nat.le_refl _ | (simp only [World.size_alloc]; omega)) _).alloc (by first | exact Nat.le_refl _ | (simp only [World.size_alloc]; omega)) _).drew
        clear HK1 K1
        intro _
        try simp only [Act.put, List.setIfInBounds_toArray, List.set_cons_zero, List.set_cons_succ]
        refine wpAnyH_one (i := 7) (o := { dst := some 11, op := _, type := _, pos := _, after := _, guard := none }) (by kernel_rfl) rfl (by rfl) (fun K1 hK1 => ?_)
        have HK1 := Lib.hid hK1; clear hK1
        go_simp
        refine HK1.out _ _ (blk_keep b73 ?_) ?_
        · exact (((((Below.refl _ _).alloc (by first | exact Nat.le_refl _ | (simp only [World.size_alloc]; omega)) _).alloc (by first | exact Nat.le_refl _ | (simp only [World.size_alloc]; omega)) _).alloc (by first | exact Nat.le_refl _ | (simp only [World.size_alloc]; omega)) _).alloc (by first | exact Nat.le_refl _ | (simp only [World.size_alloc]; omega)) _).drew
        clear HK1 K1
        try simp only [Act.put, List.setIfInBounds_toArray, List.set_cons_zero, List.set_cons_succ]
        generalize hW4 : World.drew (World.alloc _ _) = W4
        obtain ⟨q0, q1, q2, q3, hB4, hs4⟩ := four hW4
        clear hW4
        have b74 := blk_keep b73 hB4
        have hn73 := lt_blk b73
        refine wpAnyH_one (i := 8) (o := { dst := none, op := _, type := _, pos := _, after := _, guard := none }) (by kernel_rfl) rfl (by rfl) (fun K1 hK1 => ?_)
        refine oper_store_blk 24 (.tmp 8) (.tmp 28) rfl (w3.heap.size + 1 + 1) rfl rfl q2 size24 rfl rfl (by simp [Value.oneCell']) ?_
        refine hK1 _ _ (pk (by omega) b74) ?_
        clear hK1 K1
        refine wpAnyH_one (i := 9) (o := { dst := none, op := _, type := _, pos := _, after := _, guard := none }) (by kernel_rfl) rfl (by rfl) (fun K1 hK1 => ?_)
        refine oper_store_blk 24 (.tmp 9) (.tmp 29) rfl (w3.heap.size + 1) rfl rfl (pk (by omega) q1) size24 rfl rfl (by simp [Value.oneCell']) ?_
        refine hK1 _ _ (pk (by omega) (pk (by omega) b74)) ?_
        clear hK1 K1
        refine wpAnyH_one (i := 10) (o := { dst := none, op := _, type := _, pos := _, after := _, guard := none }) (by kernel_rfl) rfl (by rfl) (fun K1 hK1 => ?_)
        refine oper_store_blk 24 (.tmp 10) (.tmp 30) rfl (w3.heap.size) rfl rfl (pk (by omega) (pk (by omega) q0)) size24 rfl rfl (by simp [Value.oneCell']) ?_
        refine hK1 _ _ (pk (by omega) (pk (by omega) (pk (by omega) b74))) ?_
        clear hK1 K1
        refine wpAnyH_one (i := 11) (o := { dst := none, op := _, type := _, pos := _, after := _, guard := none }) (by kernel_rfl) rfl (by rfl) (fun K1 hK1 => ?_)
        refine oper_store_blk 24 (.tmp 11) (.tmp 31) rfl (w3.heap.size + 1 + 1 + 1) rfl rfl (pk (by omega) (pk (by omega) (pk (by omega) q3))) size24 rfl rfl (by simp [Value.oneCell']) ?_
        refine hK1 _ _ (pk (by omega) (pk (by omega) (pk (by omega) (pk (by omega) b74)))) ?_
        clear hK1 K1
        refine wpAnyH_done (by kernel_rfl) ?_ _
        exact HTAIL.out _ _ _ _ _ (by omega) (by omega) (pk (by omega) (pk (by omega) (pk (by omega) (ps q2)))) (pk (by omega) (pk (by omega) (ps (pk (by omega) q1)))) (pk (by omega) (ps (pk (by omega) (pk (by omega) q0)))) (ps (pk (by omega) (pk (by omega) (pk (by omega) q3)))) (below_putObj (below_putObj (below_putObj (below_putObj hB4 (by omega)) (by omega)) (by omega)) (by omega))
      refine AllReadyH.cons (o := { dst := some 11, op := _, type := _, pos := _, after := _, guard := none }) rfl (fun K1 hK1 => ?_) ?_
      · rw [if_pos (by rfl)]
        have HK1 := Lib.hid hK1; clear hK1
        go_simp
        refine HK1.out _ _ (blk_keep b73 ?_) ?_
        · exact ((((Below.refl _ _).alloc (by first | exact Nat.le_refl _ | (simp only [World.size_alloc]; omega)) _).alloc (by first | exact Nat.le_refl _ | (simp only [World.size_alloc]; omega)) _).alloc (by first | exact Nat.le_refl _ | (simp only [World.size_alloc]; omega)) _).drew
        clear HK1 K1
        intro _
        try simp only [Act.put, List.setIfInBounds_toArray, List.set_cons_zero, List.set_cons_succ]
        refine wpAnyH_one (i := 4) (o := { dst := some 8, op := _, type := _, pos := _, after := _, guard := none }) (by kernel_rfl) rfl (by rfl) (fun K1 hK1 => ?_)
        have HK1 := Lib.hid hK1; clear hK1
        go_simp
        refine HK1.out _ _ (blk_keep b73 ?_) ?_
        · exact (((((Below.refl _ _).alloc (by first | exact Nat.le_refl _ | (simp only [World.size_alloc]; omega)) _).alloc (by first | exact Nat.le_refl _ | (simp only [World.size_alloc]; omega)) _).alloc (by first | exact Nat.le_refl _ | (simp only [World.size_alloc]; omega)) _).alloc (by first | exact Nat.le_refl _ | (simp only [World.size_alloc]; omega)) _).drew
        clear HK1 K1
        try simp only [Act.put, List.setIfInBounds_toArray, List.set_cons_zero, List.set_cons_succ]
        generalize hW4 : World.drew (World.alloc _ _) = W4
        obtain ⟨q0, q1, q2, q3, hB4, hs4⟩ := four hW4
        clear hW4
        have b74 := blk_keep b73 hB4
        have hn73 := lt_blk b73
        refine wpAnyH_one (i := 8) (o := { dst := none, op := _, type := _, pos := _, after := _, guard := none }) (by kernel_rfl) rfl (by rfl) (fun K1 hK1 => ?_)
        refine oper_store_blk 24 (.tmp 8) (.tmp 28) rfl (w3.heap.size + 1 + 1 + 1) rfl rfl q3 size24 rfl rfl (by simp [Value.oneCell']) ?_
        refine hK1 _ _ (pk (by omega) b74) ?_
        clear hK1 K1
        refine wpAnyH_one (i := 9) (o := { dst := none, op := _, type := _, pos := _, after := _, guard := none }) (by kernel_rfl) rfl (by rfl) (fun K1 hK1 => ?_)
        refine oper_store_blk 24 (.tmp 9) (.tmp 29) rfl (w3.heap.size + 1) rfl rfl (pk (by omega) q1) size24 rfl rfl (by simp [Value.oneCell']) ?_
        refine hK1 _ _ (pk (by omega) (pk (by omega) b74)) ?_
        clear hK1 K1
        refine wpAnyH_one (i := 10) (o := { dst := none, op := _, type := _, pos := _, after := _, guard := none }) (by kernel_rfl) rfl (by rfl) (fun K1 hK1 => ?_)
        refine oper_store_blk 24 (.tmp 10) (.tmp 30) rfl (w3.heap.size) rfl rfl (pk (by omega) (pk (by omega) q0)) size24 rfl rfl (by simp [Value.oneCell']) ?_
        refine hK1 _ _ (pk (by omega) (pk (by omega) (pk (by omega) b74))) ?_
        clear hK1 K1
        refine wpAnyH_one (i := 11) (o := { dst := none, op := _, type := _, pos := _, after := _, guard := none }) (by kernel_rfl) rfl (by rfl) (fun K1 hK1 => ?_)
        refine oper_store_blk 24 (.tmp 11) (.tmp 31) rfl (w3.heap.size + 1 + 1) rfl rfl (pk (by omega) (pk (by omega) (pk (by omega) q2))) size24 rfl rfl (by simp [Value.oneCell']) ?_
        refine hK1 _ _ (pk (by omega) (pk (by omega) (pk (by omega) (pk (by omega) b74)))) ?_
        clear hK1 K1
        refine wpAnyH_done (by kernel_rfl) ?_ _
        exact HTAIL.out _ _ _ _ _ (by omega) (by omega) (pk (by omega) (pk (by omega) (pk (by omega) (ps q3)))) (pk (by omega) (pk (by omega) (ps (pk (by omega) q1)))) (pk (by omega) (ps (pk (by omega) (pk (by omega) q0)))) (ps (pk (by omega) (pk (by omega) (pk (by omega) q2)))) (below_putObj (below_putObj (below_putObj (below_putObj hB4 (by omega)) (by omega)) (by omega)) (by omega))
      exact AllReadyH.nil
    refine AllReadyH.cons (o := { dst := some 11, op := _, type := _, pos := _, after := _, guard := none }) rfl (fun K1 hK1 => ?_) ?_
    · rw [if_pos (by rfl)]
      have HK1 := Lib.hid hK1; clear hK1
      go_simp
      refine HK1.out _ _ (blk_keep b73 ?_) ?_
      · exact (((Below.refl _ _).alloc (by first | exact Nat.le_refl _ | (simp only [World.size_alloc]; omega)) _).alloc (by first | exact Nat.le_refl _ | (simp only [World.size_alloc]; omega)) _).drew
      clear HK1 K1
      intro _
      try simp only [Act.put, List.setIfInBounds_toArray, List.set_cons_zero, List.set_cons_succ]
      refine wpAnyH_ready (rs := [4, 5]) (by kernel_rfl) (by simp) ?_
      refine AllReadyH.cons (o := { dst := some 8, op := _, type := _, pos := _, after := _, guard := none }) rfl (fun K1 hK1 => ?_) ?_
      · rw [if_pos (by rfl)]
        have HK1 := Lib.hid hK1; clear hK1
        go_simp
        refine HK1.out _ _ (blk_keep b73 ?_) ?_
        · exact ((((Below.refl _ _).alloc (by first | exact Nat.le_refl _ | (simp only [World.size_alloc]; omega)) _).alloc (by first | exact Nat.le_refl _ | (simp only [World.size_alloc]; omega)) _).alloc (by first | exact Nat.le_refl _ | (simp only [World.size_alloc]; omega)) _).drew
        clear HK1 K1
        intro _
        try simp only [Act.put, List.setIfInBounds_toArray, List.set_cons_zero, List.set_cons_succ]
        refine wpAnyH_one (i := 5) (o := { dst := some 9, op := _, type := _, pos := _, after := _, guard := none }) (by kernel_rfl) rfl (by rfl) (fun K1 hK1 => ?_)
        have HK1 := Lib.hid hK1; clear hK1
        go_simp
        refine HK1.out _ _ (blk_keep b73 ?_) ?_
        · exact (((((Below.refl _ _).alloc (by first | exact Nat.le_refl _ | (simp only [World.size_alloc]; omega)) _).alloc (by first | exact Nat.le_refl _ | (simp only [World.size_alloc]; omega)) _).alloc (by first | exact Nat.le_refl _ | (simp only [World.size_alloc]; omega)) _).alloc (by first | exact Nat.le_refl _ | (simp only [World.size_alloc]; omega)) _).drew
        clear HK1 K1
        try simp only [Act.put, List.setIfInBounds_toArray, List.set_cons_zero, List.set_cons_succ]
        generalize hW4 : World.drew (World.alloc _ _) = W4
        obtain ⟨q0, q1, q2, q3, hB4, hs4⟩ := four hW4
        clear hW4
        have b74 := blk_keep b73 hB4
        have hn73 := lt_blk b73
        refine wpAnyH_one (i := 8) (o := { dst := none, op := _, type := _, pos := _, after := _, guard := none }) (by kernel_rfl) rfl (by rfl) (fun K1 hK1 => ?_)
        refine oper_store_blk 24 (.tmp 8) (.tmp 28) rfl (w3.heap.size + 1 + 1) rfl rfl q2 size24 rfl rfl (by simp [Value.oneCell']) ?_
        refine hK1 _ _ (pk (by omega) b74) ?_
        clear hK1 K1
        refine wpAnyH_one (i := 9) (o := { dst := none, op := _, type := _, pos := _, after := _, guard := none }) (by kernel_rfl) rfl (by rfl) (fun K1 hK1 => ?_)
        refine oper_store_blk 24 (.tmp 9) (.tmp 29) rfl (w3.heap.size + 1 + 1 + 1) rfl rfl (pk (by omega) q3) size24 rfl rfl (by simp [Value.oneCell']) ?_
        refine hK1 _ _ (pk (by omega) (pk (by omega) b74)) ?_
        clear hK1 K1
        refine wpAnyH_one (i := 10) (o := { dst := none, op := _, type := _, pos := _, after := _, guard := none }) (by kernel_rfl) rfl (by rfl) (fun K1 hK1 => ?_)
        refine oper_store_blk 24 (.tmp 10) (.tmp 30) rfl (w3.heap.size) rfl rfl (pk (by omega) (pk (by omega) q0)) size24 rfl rfl (by simp [Value.oneCell']) ?_
        refine hK1 _ _ (pk (by omega) (pk (by omega) (pk (by omega) b74))) ?_
        clear hK1 K1
        refine wpAnyH_one (i := 11) (o := { dst := none, op := _, type := _, pos := _, after := _, guard := none }) (by kernel_rfl) rfl (by rfl) (fun K1 hK1 => ?_)
        refine oper_store_blk 24 (.tmp 11) (.tmp 31) rfl (w3.heap.size + 1) rfl rfl (pk (by omega) (pk (by omega) (pk (by omega) q1))) size24 rfl rfl (by simp [Value.oneCell']) ?_
        refine hK1 _ _ (pk (by omega) (pk (by omega) (pk (by omega) (pk (by omega) b74)))) ?_
        clear hK1 K1
        refine wpAnyH_done (by kernel_rfl) ?_ _
        exact HTAIL.out _ _ _ _ _ (by omega) (by omega) (pk (by omega) (pk (by omega) (pk (by omega) (ps q2)))) (pk (by omega) (pk (by omega) (ps (pk (by omega) q3)))) (pk (by omega) (ps (pk (by omega) (pk (by omega) q0)))) (ps (pk (by omega) (pk (by omega) (pk (by omega) q1)))) (below_putObj (below_putObj (below_putObj (below_putObj hB4 (by omega)) (by omega)) (by omega)) (by omega))
      refine AllReadyH.cons (o := { dst := some 9, op := _, type := _, pos := _, after := _, guard := none }) rfl (fun K1 hK1 => ?_) ?_
      · rw [if_pos (by rfl)]
        have HK1 := Lib.hid hK1; clear hK1
        go_simp
        refine HK1.out _ _ (blk_keep b73 ?_) ?_
        · exact ((((Below.refl _ _).alloc (by first | exact Nat.le_refl _ | (simp only [World.size_alloc]; omega)) _).alloc (by first | exact Nat.le_refl _ | (simp only [World.size_alloc]; omega)) _).alloc (by first | exact Nat.le_refl _ | (simp only [World.size_alloc]; omega)) _).drew
        clear HK1 K1
        intro _
        try simp only [Act.put, List.setIfInBounds_toArray, List.set_cons_zero, List.set_cons_succ]
        refine wpAnyH_one (i := 4) (o := { dst := some 8, op := _, type := _, pos := _, after := _, guard := none }) (by kernel_rfl) rfl (by rfl) (fun K1 hK1 => ?_)
        have HK1 := Lib.hid hK1; clear hK1
        go_simp
        refine HK1.out _ _ (blk_keep b73 ?_) ?_
        · exact (((((Below.refl _ _).alloc (by first | exact Nat.le_refl _ | (simp only [World.size_alloc]; omega)) _).alloc (by first | exact Nat.le_refl _ | (simp only [World.size_alloc]; omega)) _).alloc (by first | exact Nat.le_refl _ | (simp only [World.size_alloc]; omega)) _).alloc (by first | exact Nat.le_refl _ | (simp only [World.size_alloc]; omega)) _).drew
        clear HK1 K1
        try simp only [Act.put, List.setIfInBounds_toArray, List.set_cons_zero, List.set_cons_succ]
        generalize hW4 : World.drew (World.alloc _ _) = W4
        obtain ⟨q0, q1, q2, q3, hB4, hs4⟩ := four hW4
        clear hW4
        have b74 := blk_keep b73 hB4
        have hn73 := lt_blk b73
        refine wpAnyH_one (i := 8) (o := { dst := none, op := _, type := _, pos := _, after := _, guard := none }) (by kernel_rfl) rfl (by rfl) (fun K1 hK1 => ?_)
        refine oper_store_blk 24 (.tmp 8) (.tmp 28) rfl (w3.heap.size + 1 + 1 + 1) rfl rfl q3 size24 rfl rfl (by simp [Value.oneCell']) ?_
        refine hK1 _ _ (pk (by omega) b74) ?_
        clear hK1 K1
        refine wpAnyH_one (i := 9) (o := { dst := none, op := _, type := _, pos := _, after := _, guard := none }) (by kernel_rfl) rfl (by rfl) (fun K1 hK1 => ?_)
        refine oper_store_blk 24 (.tmp 9) (.tmp 29) rfl (w3.heap.size + 1 + 1) rfl rfl (pk (by omega) q2) size24 rfl rfl (by simp [Value.oneCell']) ?_
        refine hK1 _ _ (pk (by omega) (pk (by omega) b74)) ?_
        clear hK1 K1
        refine wpAnyH_one (i := 10) (o := { dst := none, op := _, type := _, pos := _, after := _, guard := none }) (by kernel_rfl) rfl (by rfl) (fun K1 hK1 => ?_)
        refine oper_store_blk 24 (.tmp 10) (.tmp 30) rfl (w3.heap.size) rfl rfl (pk (by omega) (pk (by omega) q0)) size24 rfl rfl (by simp [Value.oneCell']) ?_
        refine hK1 _ _ (pk (by omega) (pk (by omega) (pk (by omega) b74))) ?_
        clear hK1 K1
        refine wpAnyH_one (i := 11) (o := { dst := none, op := _, type := _, pos := _, after := _, guard := none }) (by kernel_rfl) rfl (by rfl) (fun K1 hK1 => ?_)
        refine oper_store_blk 24 (.tmp 11) (.tmp 31) rfl (w3.heap.size + 1) rfl rfl (pk (by omega) (pk (by omega) (pk (by omega) q1))) size24 rfl rfl (by simp [Value.oneCell']) ?_
        refine hK1 _ _ (pk (by omega) (pk (by omega) (pk (by omega) (pk (by omega) b74)))) ?_
        clear hK1 K1
        refine wpAnyH_done (by kernel_rfl) ?_ _
        exact HTAIL.out _ _ _ _ _ (by omega) (by omega) (pk (by omega) (pk (by omega) (pk (by omega) (ps q3)))) (pk (by omega) (pk (by omega) (ps (pk (by omega) q2)))) (pk (by omega) (ps (pk (by omega) (pk (by omega) q0)))) (ps (pk (by omega) (pk (by omega) (pk (by omega) q1)))) (below_putObj (below_putObj (below_putObj (below_putObj hB4 (by omega)) (by omega)) (by omega)) (by omega))
      exact AllReadyH.nil
    exact AllReadyH.nil
  refine AllReadyH.cons (o := { dst := some 11, op := _, type := _, pos := _, after := _, guard := none }) rfl (fun K1 hK1 => ?_) ?_
  · rw [if_pos (by rfl)]
    have HK1 := Lib.hid hK1; clear hK1
    go_simp
    refine HK1.out _ _ (blk_keep b73 ?_) ?_
    · exact ((Below.refl _ _).alloc (by first | exact Nat.le_refl _ | (simp only [World.size_alloc]; omega)) _).drew
    clear HK1 K1
    intro _
    try simp only [Act.put, List.setIfInBounds_toArray, List.set_cons_zero, List.set_cons_succ]
    refine wpAnyH_ready (rs := [4, 5, 6]) (by kernel_rfl) (by simp) ?_
    refine AllReadyH.cons (o := { dst := some 8, op := _, type := _, pos := _, after := _, guard := none }) rfl (fun K1 hK1 => ?_) ?_
    · rw [if_pos (by rfl)]
      have HK1 := Lib.hid hK1; clear hK1
      go_simp
      refine HK1.out _ _ (blk_keep b73 ?_) ?_
      · exact (((Below.refl _ _).alloc (by first | exact Nat.le_refl _ | (simp only [World.size_alloc]; omega)) _).alloc (by first | exact Nat.le_refl _ | (simp only [World.size_alloc]; omega)) _).drew
      clear HK1 K1
      intro _
      try simp only [Act.put, List.setIfInBounds_toArray, List.set_cons_zero, List.set_cons_succ]
      refine wpAnyH_ready (rs := [5, 6]) (by kernel_rfl) (by simp) ?_
      refine AllReadyH.cons (o := { dst := some 9, op := _, type := _, pos := _, after := _, guard := none }) rfl (fun K1 hK1 => ?_) ?_
      · rw [if_pos (by rfl)]
        have HK1 := Lib.hid hK1; clear hK1
        go_simp
        refine HK1.out _ _ (blk_keep b73 ?_) ?_
        · exact ((((Below.refl _ _).alloc (by first | exact Nat.le_refl _ | (simp only [World.size_alloc]; omega)) _).alloc (by first | exact Nat.le_refl _ | (simp only [World.size_alloc]; omega)) _).alloc (by first | exact Nat.le_refl _ | (simp only [World.size_alloc]; omega)) _).drew
        clear HK1 K1
        intro _
        try simp only [Act.put, List.setIfInBounds_toArray, List.set_cons_zero, List.set_cons_succ]
        refine wpAnyH_one (i := 6) (o := { dst := some 10, op := _, type := _, pos := _, after := _, guard := none }) (by kernel_rfl) rfl (by rfl) (fun K1 hK1 => ?_)
        have HK1 := Lib.hid hK1; clear hK1
        go_simp
        refine HK1.out _ _ (blk_keep b73 ?_) ?_
        · exact (((((Below.refl _ _).alloc (by first | exact Nat.le_refl _ | (simp only [World.size_alloc]; omega)) _).alloc (by first | exact Nat.le_refl _ | (simp only [World.size_alloc]; omega)) _).alloc (by first | exact Nat.le_refl _ | (simp only [World.size_alloc]; omega)) _).alloc (by first | exact Nat.le_refl _ | (simp only [World.size_alloc]; omega)) _).drew
        clear HK1 K1
        try simp only [Act.put, List.setIfInBounds_toArray, List.set_cons_zero, List.set_cons_succ]
        generalize hW4 : World.drew (World.alloc _ _) = W4
        obtain ⟨q0, q1, q2, q3, hB4, hs4⟩ := four hW4
        clear hW4
        have b74 := blk_keep b73 hB4
        have hn73 := lt_blk b73
        refine wpAnyH_one (i := 8) (o := { dst := none, op := _, type := _, pos := _, after := _, guard := none }) (by kernel_rfl) rfl (by rfl) (fun K1 hK1 => ?_)
        refine oper_store_blk 24 (.tmp 8) (.tmp 28) rfl (w3.heap.size + 1) rfl rfl q1 size24 rfl rfl (by simp [Value.oneCell']) ?_
        refine hK1 _ _ (pk (by omega) b74) ?_
        clear hK1 K1
        refine wpAnyH_one (i := 9) (o := { dst := none, op := _, type := _, pos := _, after := _, guard := none }) (by kernel_rfl) rfl (by rfl) (fun K1 hK1 => ?_)
        refine oper_store_blk 24 (.tmp 9) (.tmp 29) rfl (w3.heap.size + 1 + 1) rfl rfl (pk (by omega) q2) size24 rfl rfl (by simp [Value.oneCell']) ?_
        refine hK1 _ _ (pk (by omega) (pk (by omega) b74)) ?_
        clear hK1 K1
        refine wpAnyH_one (i := 10) (o := { dst := none, op := _, type := _, pos := _, after := _, guard := none }) (by kernel_rfl) rfl (by rfl) (fun K1 hK1 => ?_)
        refine oper_store_blk 24 (.tmp 10) (.tmp 30) rfl (w3.heap.size + 1 + 1 + 1) rfl rfl (pk (by omega) (pk (by omega) q3)) size24 rfl rfl (by simp [Value.oneCell']) ?_
        refine hK1 _ _ (pk (by omega) (pk (by omega) (pk (by omega) b74))) ?_
        clear hK1 K1
        refine wpAnyH_one (i := 11) (o := { dst := none, op := _, type := _, pos := _, after := _, guard := none }) (by kernel_rfl) rfl (by rfl) (fun K1 hK1 => ?_)
        refine oper_store_blk 24 (.tmp 11) (.tmp 31) rfl (w3.heap.size) rfl rfl (pk (by omega) (pk (by omega) (pk (by omega) q0))) size24 rfl rfl (by simp [Value.oneCell']) ?_
        refine hK1 _ _ (pk (by omega) (pk (by omega) (pk (by omega) (pk (by omega) b74)))) ?_
        clear hK1 K1
        refine wpAnyH_done (by kernel_rfl) ?_ _
        exact HTAIL.out _ _ _ _ _ (by omega) (by omega) (pk (by omega) (pk (by omega) (pk (by omega) (ps q1)))) (pk (by omega) (pk (by omega) (ps (pk (by omega) q2)))) (pk (by omega) (ps (pk (by omega) (pk (by omega) q3)))) (ps (pk (by omega) (pk (by omega) (pk (by omega) q0)))) (below_putObj (below_putObj (below_putObj (below_putObj hB4 (by omega)) (by omega)) (by omega)) (by omega))
      refine AllReadyH.cons (o := { dst := some 10, op := _, type := _, pos := _, after := _, guard := none }) rfl (fun K1 hK1 => ?_) ?_
      · rw [if_pos (by rfl)]
        have HK1 := Lib.hid hK1; clear hK1
        go_simp
        refine HK1.out _ _ (blk_keep b73 ?_) ?_
        · exact ((((Below.refl _ _).alloc (by first | exact Nat.le_refl _ | (simp only [World.size_alloc]; omega)) _).alloc (by first | exact Nat.le_refl _ | (simp only [World.size_alloc]; omega)) _).alloc (by first | exact Nat.le_refl _ | (simp only [World.size_alloc]; omega)) _).drew
        clear HK1 K1
        intro _
        try simp only [Act.put, List.setIfInBounds_toArray, List.set_cons_zero, List.set_cons_succ]
        refine wpAnyH_one (i := 5) (o := { dst := some 9, op := _, type := _, pos := _, after := _, guard := none }) (by kernel_rfl) rfl (by rfl) (fun K1 hK1 => ?_)
        have HK1 := Lib.hid hK1; clear hK1
        go_simp
        refine HK1.out _ _ (blk_keep b73 ?_) ?_
        · exact (((((Below.refl _ _).alloc (by first | exact Nat.le_refl _ | (simp only [World.size_alloc]; omega)) _).alloc (by first | exact Nat.le_refl _ | (simp only [World.size_alloc]; omega)) _).alloc (by first | exact Nat.le_refl _ | (simp only [World.size_alloc]; omega)) _).alloc (by first | exact Nat.le_refl _ | (simp only [World.size_alloc]; omega)) _).drew
        clear HK1 K1
        try simp only [Act.put, List.setIfInBounds_toArray, List.set_cons_zero, List.set_cons_succ]
        generalize hW4 : World.drew (World.alloc _ _) = W4
        obtain ⟨q0, q1, q2, q3, hB4, hs4⟩ := four hW4
        clear hW4
        have b74 := blk_keep b73 hB4
        have hn73 := lt_blk b73
        refine wpAnyH_one (i := 8) (o := { dst := none, op := _, type := _, pos := _, after := _, guard := none }) (by kernel_rfl) rfl (by rfl) (fun K1 hK1 => ?_)
        refine oper_store_blk 24 (.tmp 8) (.tmp 28) rfl (w3.heap.size + 1) rfl rfl q1 size24 rfl rfl (by simp [Value.oneCell']) ?_
        refine hK1 _ _ (pk (by omega) b74) ?_
        clear hK1 K1
        refine wpAnyH_one (i := 9) (o := { dst := none, op := _, type := _, pos := _, after := _, guard := none }) (by kernel_rfl) rfl (by rfl) (fun K1 hK1 => ?_)
        refine oper_store_blk 24 (.tmp 9) (.tmp 29) rfl (w3.heap.size + 1 + 1 + 1) rfl rfl (pk (by omega) q3) size24 rfl rfl (by simp [Value.oneCell']) ?_
        refine hK1 _ _ (pk (by omega) (pk (by omega) b74)) ?_
        clear hK1 K1
        refine wpAnyH_one (i := 10) (o := { dst := none, op := _, type := _, pos := _, after := _, guard := none }) (by kernel_rfl) rfl (by rfl) (fun K1 hK1 => ?_)
        refine oper_store_blk 24 (.tmp 10) (.tmp 30) rfl (w3.heap.size + 1 + 1) rfl rfl (pk (by omega) (pk (by omega) q2)) size24 rfl rfl (by simp [Value.oneCell']) ?_
        refine hK1 _ _ (pk (by omega) (pk (by omega) (pk (by omega) b74))) ?_
        clear hK1 K1
        refine wpAnyH_one (i := 11) (o := { dst := none, op := _, type := _, pos := _, after := _, guard := none }) (by kernel_rfl) rfl (by rfl) (fun K1 hK1 => ?_)
        refine oper_store_blk 24 (.tmp 11) (.tmp 31) rfl (w3.heap.size) rfl rfl (pk (by omega) (pk (by omega) (pk (by omega) q0))) size24 rfl rfl (by simp [Value.oneCell']) ?_
        refine hK1 _ _ (pk (by omega) (pk (by omega) (pk (by omega) (pk (by omega) b74)))) ?_
        clear hK1 K1
        refine wpAnyH_done (by kernel_rfl) ?_ _
        exact HTAIL.out _ _ _ _ _ (by omega) (by omega) (pk (by omega) (pk (by omega) (pk (by omega) (ps q1)))) (pk (by omega) (pk (by omega) (ps (pk (by omega) q3)))) (pk (by omega) (ps (pk (by omega) (pk (by omega) q2)))) (ps (pk (by omega) (pk (by omega) (pk (by omega) q0)))) (below_putObj (below_putObj (below_putObj (below_putObj hB4 (by omega)) (by omega)) (by omega)) (by omega))
      exact AllReadyH.nil
    refine AllReadyH.cons (o := { dst := some 9, op := _, type := _, pos := _, after := _, guard := none }) rfl (fun K1 hK1 => ?_) ?_
    · rw [if_pos (by rfl)]
      have HK1 := Lib.hid hK1; clear hK1
      go_simp
      refine HK1.out _ _ (blk_keep b73 ?_) ?_
      · exact (((Below.refl _ _).alloc (by first | exact Nat.le_refl _ | (simp only [World.size_alloc]; omega)) _).alloc (by first | exact Nat.le_refl _ | (simp only [World.size_alloc]; omega)) _).drew
      clear HK1 K1
      intro _
      try simp only [Act.put, List.setIfInBounds_toArray, List.set_cons_zero, List.set_cons_succ]
      refine wpAnyH_ready (rs := [4, 6]) (by kernel_rfl) (by simp) ?_
      refine AllReadyH.cons (o := { dst := some 8, op := _, type := _, pos := _, after := _, guard := none }) rfl (fun K1 hK1 => ?_) ?_
      · rw [if_pos (by rfl)]
        have HK1 := Lib.hid hK1; clear hK1
        go_simp
        refine HK1.out _ _ (blk_keep b73 ?_) ?_
        · exact ((((Below.refl _ _).alloc (by first | exact Nat.le_refl _ | (simp only [World.size_alloc]; omega)) _).alloc (by first | exact Nat.le_refl _ | (simp only [World.size_alloc]; omega)) _).alloc (by first | exact Nat.le_refl _ | (simp only [World.size_alloc]; omega)) _).drew
        clear HK1 K1
        intro _
        try simp only [Act.put, List.setIfInBounds_toArray, List.set_cons_zero, List.set_cons_succ]
        refine wpAnyH_one (i := 6) (o := { dst := some 10, op := _, type := _, pos := _, after := _, guard := none }) (by kernel_rfl) rfl (by rfl) (fun K1 hK1 => ?_)
        have HK1 := Lib.hid hK1; clear hK1
        go_simp
        refine HK1.out _ _ (blk_keep b73 ?_) ?_
        · exact (((((Below.refl _ _).alloc (by first | exact Nat.le_refl _ | (simp only [World.size_alloc]; omega)) _).alloc (by first | exact Nat.le_refl _ | (simp only [World.size_alloc]; omega)) _).alloc (by first | exact Nat.le_refl _ | (simp only [World.size_alloc]; omega)) _).alloc (by first | exact Nat.le_refl _ | (simp only [World.size_alloc]; omega)) _).drew
        clear HK1 K1
        try simp only [Act.put, List.setIfInBounds_toArray, List.set_cons_zero, List.set_cons_succ]
        generalize hW4 : World.drew (World.alloc _ _) = W4
        obtain ⟨q0, q1, q2, q3, hB4, hs4⟩ := four hW4
        clear hW4
        have b74 := blk_keep b73 hB4
        have hn73 := lt_blk b73
        refine wpAnyH_one (i := 8) (o := { dst := none, op := _, type := _, pos := _, after := _, guard := none }) (by kernel_rfl) rfl (by rfl) (fun K1 hK1 => ?_)
        refine oper_store_blk 24 (.tmp 8) (.tmp 28) rfl (w3.heap.size + 1 + 1) rfl rfl q2 size24 rfl rfl (by simp [Value.oneCell']) ?_
        refine hK1 _ _ (pk (by omega) b74) ?_
        clear hK1 K1
        refine wpAnyH_one (i := 9) (o := { dst := none, op := _, type := _, pos := _, after := _, guard := none }) (by kernel_rfl) rfl (by rfl) (fun K1 hK1 => ?_)
        refine oper_store_blk 24 (.tmp 9) (.tmp 29) rfl (w3.heap.size + 1) rfl rfl (pk (by omega) q1) size24 rfl rfl (by simp [Value.oneCell']) ?_
        refine hK1 _ _ (pk (by omega) (pk (by omega) b74)) ?_
        clear hK1 K1
        refine wpAnyH_one (i := 10) (o := { dst := none, op := _, type := _, pos := _, after := _, guard := none }) (by kernel_rfl) rfl (by rfl) (fun K1 hK1 => ?_)
        refine oper_store_blk 24 (.tmp 10) (.tmp 30) rfl (w3.heap.size + 1 + 1 + 1) rfl rfl (pk (by omega) (pk (by omega) q3)) size24 rfl rfl (by simp [Value.oneCell']) ?_
        refine hK1 _ _ (pk (by omega) (pk (by omega) (pk (by omega) b74))) ?_
        clear hK1 K1
        refine wpAnyH_one (i := 11) (o := { dst := none, op := _, type := _, pos := _, after := _, guard := none }) (by kernel_rfl) rfl (by rfl) (fun K1 hK1 => ?_)
        refine oper_store_blk 24 (.tmp 11) (.tmp 31) rfl (w3.heap.size) rfl rfl (pk (by omega) (pk (by omega) (pk (by omega) q0))) size24 rfl rfl (by simp [Value.oneCell']) ?_
        refine hK1 _ _ (pk (by omega) (pk (by omega) (pk (by omega) (pk (by omega) b74)))) ?_
        clear hK1 K1
        refine wpAnyH_done (by kernel_rfl) ?_ _
        exact HTAIL.out _ _ _ _ _ (by omega) (by omega) (pk (by omega) (pk (by omega) (pk (by omega) (ps q2)))) (pk (by omega) (pk (by omega) (ps (pk (by omega) q1)))) (pk (by omega) (ps (pk (by omega) (pk (by omega) q3)))) (ps (pk (by omega) (pk (by omega) (pk (by omega) q0)))) (below_putObj (below_putObj (below_putObj (below_putObj hB4 (by omega)) (by omega)) (by omega)) (by omega))
      refine AllReadyH.cons (o := { dst := some 10, op := _, type := _, pos := _, after := _, guard := none }) rfl (fun K1 hK1 => ?_) ?_
      · rw [if_pos (by rfl)]
        have HK1 := Lib.hid hK1; clear hK1
        go_simp
        refine HK1.out _ _ (blk_keep b73 ?_) ?_
        · exact ((((Below.refl _ _).alloc (by first | exact Nat.le_refl _ | (simp only [World.size_alloc]; omega)) _).alloc (by first | exact Nat.le_refl _ | (simp only [World.size_alloc]; omega)) _).alloc (by first | exact Nat.le_refl _ | (simp only [World.size_alloc]; omega)) _).drew
        clear HK1 K1
        intro _
        try simp only [Act.put, List.setIfInBounds_toArray, List.set_cons_zero, List.set_cons_succ]
        refine wpAnyH_one (i := 4) (o := { dst := some 8, op := _, type := _, pos := _, after := _, guard := none }) (by kernel_rfl) rfl (by rfl) (fun K1 hK1 => ?_)
        have HK1 := Lib.hid hK1; clear hK1
        go_simp
        refine HK1.out _ _ (blk_keep b73 ?_) ?_
        · exact (((((Below.refl _ _).alloc (by first | exact Nat.le_refl _ | (simp only [World.size_alloc]; omega)) _).alloc (by first | exact Nat.le_refl _ | (simp only [World.size_alloc]; omega)) _).alloc (by first | exact Nat.le_refl _ | (simp only [World.size_alloc]; omega)) _).alloc (by first | exact Nat.le_refl _ | (simp only [World.size_alloc]; omega)) _).drew
        clear HK1 K1
        try simp only [Act.put, List.setIfInBounds_toArray, List.set_cons_zero, List.set_cons_succ]
        generalize hW4 : World.drew (World.alloc _ _) = W4
        obtain ⟨q0, q1, q2, q3, hB4, hs4⟩ := four hW4
        clear hW4
        have b74 := blk_keep b73 hB4
        have hn73 := lt_blk b73
        refine wpAnyH_one (i := 8) (o := { dst := none, op := _, type := _, pos := _, after := _, guard := none }) (by kernel_rfl) rfl (by rfl) (fun K1 hK1 => ?_)
        refine oper_store_blk 24 (.tmp 8) (.tmp 28) rfl (w3.heap.size + 1 + 1 + 1) rfl rfl q3 size24 rfl rfl (by simp [Value.oneCell']) ?_
        refine hK1 _ _ (pk (by omega) b74) ?_
        clear hK1 K1
        refine wpAnyH_one (i := 9) (o := { dst := none, op := _, type := _, pos := _, after := _, guard := none }) (by kernel_rfl) rfl (by rfl) (fun K1 hK1 => ?_)
        refine oper_store_blk 24 (.tmp 9) (.tmp 29) rfl (w3.heap.size + 1) rfl rfl (pk (by omega) q1) size24 rfl rfl (by simp [Value.oneCell']) ?_
        refine hK1 _ _ (pk (by omega) (pk (by omega) b74)) ?_
        clear hK1 K1
        refine wpAnyH_one (i := 10) (o := { dst := none, op := _, type := _, pos := _, after := _, guard := none }) (by kernel_rfl) rfl (by rfl) (fun K1 hK1 => ?_)
        refine oper_store_blk 24 (.tmp 10) (.tmp 30) rfl (w3.heap.size + 1 + 1) rfl rfl (pk (by omega) (pk (by omega) q2)) size24 rfl rfl (by simp [Value.oneCell']) ?_
        refine hK1 _ _ (pk (by omega) (pk (by omega) (pk (by omega) b74))) ?_
        clear hK1 K1
        refine wpAnyH_one (i := 11) (o := { dst := none, op := _, type := _, pos := _, after := _, guard := none }) (by kernel_rfl) rfl (by rfl) (fun K1 hK1 => ?_)
        refine oper_store_blk 24 (.tmp 11) (.tmp 31) rfl (w3.heap.size) rfl rfl (pk (by omega) (pk (by omega) (pk (by omega) q0))) size24 rfl rfl (by simp [Value.oneCell']) ?_
        refine hK1 _ _ (pk (by omega) (pk (by omega) (pk (by omega) (pk (by omega) b74)))) ?_
        clear hK1 K1
        refine wpAnyH_done (by kernel_rfl) ?_ _
        exact HTAIL.out _ _ _ _ _ (by omega) (by omega) (pk (by omega) (pk (by omega) (pk (by omega) (ps q3)))) (pk (by omega) (pk (by omega) (ps (pk (by omega) q1)))) (pk (by omega) (ps (pk (by omega) (pk (by omega) q2)))) (ps (pk (by omega) (pk (by omega) (pk (by omega) q0)))) (below_putObj (below_putObj (below_putObj (below_putObj hB4 (by omega)) (by omega)) (by omega)) (by omega))
      exact AllReadyH.nil
    refine AllReadyH.cons (o := { dst := some 10, op := _, type := _, pos := _, after := _, guard := none }) rfl (fun K1 hK1 => ?_) ?_
    · rw [if_pos (by rfl)]
      have HK1 := Lib.hid hK1; clear hK1
      go_simp
      refine HK1.out _ _ (blk_keep b73 ?_) ?_
      · exact (((Below.refl _ _).alloc (by first | exact Nat.le_refl _ | (simp only [World.size_alloc]; omega)) _).alloc (by first | exact Nat.le_refl _ | (simp only [World.size_alloc]; omega)) _).drew
      clear HK1 K1
      intro _
      try simp only [Act.put, List.setIfInBounds_toArray, List.set_cons_zero, List.set_cons_succ]
      refine wpAnyH_ready (rs := [4, 5]) (by kernel_rfl) (by simp) ?_
      refine AllReadyH.cons (o := { dst := some 8, op := _, type := _, pos := _, after := _, guard := none }) rfl (fun K1 hK1 => ?_) ?_
      · rw [if_pos (by rfl)]
        have HK1 := Lib.hid hK1; clear hK1
        go_simp
        refine HK1.out _ _ (blk_keep b73 ?_) ?_
        · exact ((((Below.refl _ _).alloc (by first | exact Nat.le_refl _ | (simp only [World.size_alloc]; omega)) _).alloc (by first | exact Nat.le_refl _ | (simp only [World.size_alloc]; omega)) _).alloc (by first | exact Nat.le_refl _ | (simp only [World.size_alloc]; omega)) _).drew
        clear HK1 K1
        intro _
        try simp only [Act.put, List.setIfInBounds_toArray, List.set_cons_zero, List.set_cons_succ]
        refine wpAnyH_one (i := 5) (o := { dst := some 9, op := _, type := _, pos := _, after := _, guard := none }) (by kernel_rfl) rfl (by rfl) (fun K1 hK1 => ?_)
        have HK1 := Lib.hid hK1; clear hK1
        go_simp
        refine HK1.out _ _ (blk_keep b73 ?_) ?_
        · exact (((((Below.refl _ _).alloc (by first | exact Nat.le_refl _ | (simp only [World.size_alloc]; omega)) _).alloc (by first | exact Nat.le_refl _ | (simp only [World.size_alloc]; omega)) _).alloc (by first | exact Nat.le_refl _ | (simp only [World.size_alloc]; omega)) _).alloc (by first | exact Nat.le_refl _ | (simp only [World.size_alloc]; omega)) _).drew
        clear HK1 K1
        try simp only [Act.put, List.setIfInBounds_toArray, List.set_cons_zero, List.set_cons_succ]
        generalize hW4 : World.drew (World.alloc _ _) = W4
        obtain ⟨q0, q1, q2, q3, hB4, hs4⟩ := four hW4
        clear hW4
        have b74 := blk_keep b73 hB4
        have hn73 := lt_blk b73
        refine wpAnyH_one (i := 8) (o := { dst := none, op := _, type := _, pos := _, after := _, guard := none }) (by kernel_rfl) rfl (by rfl) (fun K1 hK1 => ?_)
        refine oper_store_blk 24 (.tmp 8) (.tmp 28) rfl (w3.heap.size + 1 + 1) rfl rfl q2 size24 rfl rfl (by simp [Value.oneCell']) ?_
        refine hK1 _ _ (pk (by omega) b74) ?_
        clear hK1 K1
        refine wpAnyH_one (i := 9) (o := { dst := none, op := _, type := _, pos := _, after := _, guard := none }) (by kernel_rfl) rfl (by rfl) (fun K1 hK1 => ?_)
        refine oper_store_blk 24 (.tmp 9) (.tmp 29) rfl (w3.heap.size + 1 + 1 + 1) rfl rfl (pk (by omega) q3) size24 rfl rfl (by simp [Value.oneCell']) ?_
        refine hK1 _ _ (pk (by omega) (pk (by omega) b74)) ?_
        clear hK1 K1
        refine wpAnyH_one (i := 10) (o := { dst := none, op := _, type := _, pos := _, after := _, guard := none }) (by kernel_rfl) rfl (by rfl) (fun K1 hK1 => ?_)
        refine oper_store_blk 24 (.tmp 10) (.tmp 30) rfl (w3.heap.size + 1) rfl rfl (pk (by omega) (pk (by omega) q1)) size24 rfl rfl (by simp [Value.oneCell']) ?_
        refine hK1 _ _ (pk (by omega) (pk (by omega) (pk (by omega) b74))) ?_
        clear hK1 K1
        refine wpAnyH_one (i := 11) (o := { dst := none, op := _, type := _, pos := _, after := _, guard := none }) (by kernel_rfl) rfl (by rfl) (fun K1 hK1 => ?_)
        refine oper_store_blk 24 (.tmp 11) (.tmp 31) rfl (w3.heap.size) rfl rfl (pk (by omega) (pk (by omega) (pk (by omega) q0))) size24 rfl rfl (by simp [Value.oneCell']) ?_
        refine hK1 _ _ (pk (by omega) (pk (by omega) (pk (by omega) (pk (by omega) b74)))) ?_
        clear hK1 K1
        refine wpAnyH_done (by kernel_rfl) ?_ _
        exact HTAIL.out _ _ _ _ _ (by omega) (by omega) (pk (by omega) (pk (by omega) (pk (by omega) (ps q2)))) (pk (by omega) (pk (by omega) (ps (pk (by omega) q3)))) (pk (by omega) (ps (pk (by omega) (pk (by omega) q1)))) (ps (pk (by omega) (pk (by omega) (pk (by omega) q0)))) (below_putObj (below_putObj (below_putObj (below_putObj hB4 (by omega)) (by omega)) (by omega)) (by omega))
      refine AllReadyH.cons (o := { dst := some 9, op := _, type := _, pos := _, after := _, guard := none }) rfl (fun K1 hK1 => ?_) ?_
      · rw [if_pos (by rfl)]
        have HK1 := Lib.hid hK1; clear hK1
        go_simp
        refine HK1.out _ _ (blk_keep b73 ?_) ?_
        · exact ((((Below.refl _ _).alloc (by first | exact Nat.le_refl _ | (simp only [World.size_alloc]; omega)) _).alloc (by first | exact Nat.le_refl _ | (simp only [World.size_alloc]; omega)) _).alloc (by first | exact Nat.le_refl _ | (simp only [World.size_alloc]; omega)) _).drew
        clear HK1 K1
        intro _
        try simp only [Act.put, List.setIfInBounds_toArray, List.set_cons_zero, List.set_cons_succ]
        refine wpAnyH_one (i := 4) (o := { dst := some 8, op := _, type := _, pos := _, after := _, guard := none }) (by kernel_rfl) rfl (by rfl) (fun K1 hK1 => ?_)
        have HK1 := Lib.hid hK1; clear hK1
        go_simp
        refine HK1.out _ _ (blk_keep b73 ?_) ?_
        · exact (((((Below.refl _ _).alloc (by first | exact Nat.le_refl _ | (simp only [World.size_alloc]; omega)) _).alloc (by first | exact Nat.le_refl _ | (simp only [World.size_alloc]; omega)) _).alloc (by first | exact Nat.le_refl _ | (simp only [World.size_alloc]; omega)) _).alloc (by first | exact Nat.le_refl _ | (simp only [World.size_alloc]; omega)) _).drew
        clear HK1 K1
        try simp only [Act.put, List.setIfInBounds_toArray, List.set_cons_zero, List.set_cons_succ]
        generalize hW4 : World.drew (World.alloc _ _) = W4
        obtain ⟨q0, q1, q2, q3, hB4, hs4⟩ := four hW4
        clear hW4
        have b74 := blk_keep b73 hB4
        have hn73 := lt_blk b73
        refine wpAnyH_one (i := 8) (o := { dst := none, op := _, type := _, pos := _, after := _, guard := none }) (by kernel_rfl) rfl (by rfl) (fun K1 hK1 => ?_)
        refine oper_store_blk 24 (.tmp 8) (.tmp 28) rfl (w3.heap.size + 1 + 1 + 1) rfl rfl q3 size24 rfl rfl (by simp [Value.oneCell']) ?_
        refine hK1 _ _ (pk (by omega) b74) ?_
        clear hK1 K1
        refine wpAnyH_one (i := 9) (o := { dst := none, op := _, type := _, pos := _, after := _, guard := none }) (by kernel_rfl) rfl (by rfl) (fun K1 hK1 => ?_)
        refine oper_store_blk 24 (.tmp 9) (.tmp 29) rfl (w3.heap.size + 1 + 1) rfl rfl (pk (by omega) q2) size24 rfl rfl (by simp [Value.oneCell']) ?_
        refine hK1 _ _ (pk (by omega) (pk (by omega) b74)) ?_
        clear hK1 K1
        refine wpAnyH_one (i := 10) (o := { dst := none, op := _, type := _, pos := _, after := _, guard := none }) (by kernel_rfl) rfl (by rfl) (fun K1 hK1 => ?_)
        refine oper_store_blk 24 (.tmp 10) (.tmp 30) rfl (w3.heap.size + 1) rfl rfl (pk (by omega) (pk (by omega) q1)) size24 rfl rfl (by simp [Value.oneCell']) ?_
        refine hK1 _ _ (pk (by omega) (pk (by omega) (pk (by omega) b74))) ?_
        clear hK1 K1
        refine wpAnyH_one (i := 11) (o := { dst := none, op := _, type := _, pos := _, after := _, guard := none }) (by kernel_rfl) rfl (by rfl) (fun K1 hK1 => ?_)
        refine oper_store_blk 24 (.tmp 11) (.tmp 31) rfl (w3.heap.size) rfl rfl (pk (by omega) (pk (by omega) (pk (by omega) q0))) size24 rfl rfl (by simp [Value.oneCell']) ?_
        refine hK1 _ _ (pk (by omega) (pk (by omega) (pk (by omega) (pk (by omega) b74)))) ?_
        clear hK1 K1
        refine wpAnyH_done (by kernel_rfl) ?_ _
        exact HTAIL.out _ _ _ _ _ (by omega) (by omega) (pk (by omega) (pk (by omega) (pk (by omega) (ps q3)))) (pk (by omega) (pk (by omega) (ps (pk (by omega) q2)))) (pk (by omega) (ps (pk (by omega) (pk (by omega) q1)))) (ps (pk (by omega) (pk (by omega) (pk (by omega) q0)))) (below_putObj (below_putObj (below_putObj (below_putObj hB4 (by omega)) (by omega)) (by omega)) (by omega))
      exact AllReadyH.nil
    exact AllReadyH.nil
  exact AllReadyH.nil
end Ytndmjginmomfiaa
end Go.Proofs
