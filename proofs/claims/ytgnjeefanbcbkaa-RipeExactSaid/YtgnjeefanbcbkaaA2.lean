/- Fields: lines, and the greater and the lesser one of fractions. -/
import Derived.Test.YtgnjeefanbcbkaaA1
import Derived.Deep.MidRow
open Go Go.RowKit Go.YtgnjeefanbcbkaaIt
namespace Go.Proofs
namespace Ytgnjeefanbcbkaa
set_option maxRecDepth 100000 in
set_option maxHeartbeats 4000000 in
theorem most_any (x y : Fr) (w : World) (hx : Big x) (hy : Big y) : Calls Try.prog 77 #[enc x, enc y] w fun e w' => e = .returned (enc (most x y)) ∧ Below w.heap.size w w' := by
  have h64 := fun W => less_any x y W hx hy
  unfold most
  obtain ⟨t, ht⟩ : ∃ t, t = x.lt y := ⟨_, rfl⟩
  rw [← ht] at h64 ⊢
  have H64 := Lib.hid h64
  clear ht h64 hx hy
  go_enter Try.func77, Try.ntmps77
  refine wp_seq_k (fun K hK => ?_)
  have HK := Lib.hid hK; clear hK
  go_wp2
  refine HK.out _ _ ?_; clear HK K
  generalize hw1 : World.alloc _ _ = w1
  obtain ⟨b1, b2, b3, hB, hs1⟩ := blk3 hw1
  clear hw1
  cases t
  all_goals
    go_wp2_with (first | (refine wpList_load_blk rfl 101 _ rfl _ rfl b13 Try.underlying101 rfl size101 rfl ?_) | (refine wpList_load_blk rfl 101 _ rfl _ rfl b23 Try.underlying101 rfl size101 rfl ?_) | (refine wpList_load_blk rfl 101 _ rfl _ rfl b1 Try.underlying101 rfl size101 rfl ?_) | (refine wpList_load_blk rfl 101 _ rfl _ rfl b2 Try.underlying101 rfl size101 rfl ?_) | (go_at_call 64; refine (H64.out _).mono ?_; rintro e w2 ⟨rfl, hb2⟩; have b13 := blk_keep b1 hb2; have b23 := blk_keep b2 hb2; have b33 := blk_keep b3 hb2; have hB2 := btr hB hb2 (Nat.le_refl _)) | (refine wpList_store_blk rfl 101 _ _ rfl _ rfl rfl b33 size101 rfl rfl (by simp [Value.oneCell']) ?_))
    exact bodyPost_ret (results_blk rfl _ _ _ rfl (World.putObj_heap_same (lt_blk b33)) Try.underlying101 rfl size101 rfl) rfl ⟨by simp, below_putObj hB2 (by omega)⟩
set_option maxRecDepth 100000 in
set_option maxHeartbeats 4000000 in
theorem least_any (x y : Fr) (w : World) (hx : Big x) (hy : Big y) : Calls Try.prog 79 #[enc x, enc y] w fun e w' => e = .returned (enc (least x y)) ∧ Below w.heap.size w w' := by
  have h64 := fun W => less_any y x W hy hx
  unfold least
  obtain ⟨t, ht⟩ : ∃ t, t = y.lt x := ⟨_, rfl⟩
  rw [← ht] at h64 ⊢
  have H64 := Lib.hid h64
  clear ht h64 hx hy
  go_enter Try.func79, Try.ntmps79
  refine wp_seq_k (fun K hK => ?_)
  have HK := Lib.hid hK; clear hK
  go_wp2
  refine HK.out _ _ ?_; clear HK K
  generalize hw1 : World.alloc _ _ = w1
  obtain ⟨b1, b2, b3, hB, hs1⟩ := blk3 hw1
  clear hw1
  cases t
  all_goals
    go_wp2_with (first | (refine wpList_load_blk rfl 101 _ rfl _ rfl b13 Try.underlying101 rfl size101 rfl ?_) | (refine wpList_load_blk rfl 101 _ rfl _ rfl b23 Try.underlying101 rfl size101 rfl ?_) | (refine wpList_load_blk rfl 101 _ rfl _ rfl b2 Try.underlying101 rfl size101 rfl ?_) | (refine wpList_load_blk rfl 101 _ rfl _ rfl b1 Try.underlying101 rfl size101 rfl ?_) | (go_at_call 64; refine (H64.out _).mono ?_; rintro e w2 ⟨rfl, hb2⟩; have b13 := blk_keep b1 hb2; have b23 := blk_keep b2 hb2; have b33 := blk_keep b3 hb2; have hB2 := btr hB hb2 (Nat.le_refl _)) | (refine wpList_store_blk rfl 101 _ _ rfl _ rfl rfl b33 size101 rfl rfl (by simp [Value.oneCell']) ?_))
    exact bodyPost_ret (results_blk rfl _ _ _ rfl (World.putObj_heap_same (lt_blk b33)) Try.underlying101 rfl size101 rfl) rfl ⟨by simp, below_putObj hB2 (by omega)⟩
/-- A year in memory: the weeks, the lows, the highs. -/
structure Yr (W : World) (b n : Nat) (L H : Nat → Int) : Prop where
  wk : W.cell? ⟨b, 0, none⟩ = some (.int .i64 (n : Int))
  lo : ∀ w, w < n → W.cell? ⟨b, 1 + w, none⟩ = some (.int .i64 (L w))
  hi : ∀ w, w < n → W.cell? ⟨b, 31 + w, none⟩ = some (.int .i64 (H w))
  lt : b < W.heap.size
theorem Yr.below {W W' : World} {B b n : Nat} {L H : Nat → Int} (h : Yr W b n L H) (hb : Below B W W') (hB : b < B) : Yr W' b n L H :=
  ⟨(hb.cell hB).trans h.wk, fun w hw => (hb.cell (p := ⟨b, 1 + w, none⟩) hB).trans (h.lo w hw), fun w hw => (hb.cell (p := ⟨b, 31 + w, none⟩) hB).trans (h.hi w hw), Nat.lt_of_lt_of_le h.lt hb.size⟩
theorem Yr.keep {W W' : World} {b n : Nat} {L H : Nat → Int} (h : Yr W b n L H) (hb : Below W.heap.size W W') : Yr W' b n L H := h.below hb h.lt
theorem mid_blk {W : World} {b o : Nat} {cs : Array Value} {t : TypeId} {fr : Nat × Nat} {xs : List Value} (h : W.heap[b]? = some (.cells cs t fr)) (hx : ∀ j v, xs[j]? = some v → cs[o + j]? = some v) : W.rangeAt b o xs := fun j v hv => by
  rw [cell_blk h]; exact hx j v hv
theorem mid2 {W : World} {b o : Nat} {x y : Value} (h1 : W.cell? ⟨b, o, none⟩ = some x) (h2 : W.cell? ⟨b, o + 1, none⟩ = some y) : W.rangeAt b o [x, y] := fun j v hv => by
  match j, hv with
  | 0, hv => simp at hv; subst hv; exact h1
  | 1, hv => simp at hv; subst hv; exact h2
/-- A point's value. -/
abbrev encP (i : Int) (x : Fr) : Value := .agg #[.int .i64 i, .int .i64 x.o, .int .i64 x.u]
set_option maxRecDepth 100000 in
set_option maxHeartbeats 4000000 in
theorem lowest_any {b n : Nat} {L H : Nat → Int} {i : Nat} {w : World} (hy : Yr w b n L H) (hi : i < n) (hn : n ≤ 30) :
    Calls Try.prog 75 #[.pointer (some ⟨b, 0, none⟩), .int .i64 (i : Int)] w fun e w' => e = .returned (encP i (whole (L i))) ∧ Below w.heap.size w w' := by
  have HY := Lib.hid hy
  go_enter Try.func75, Try.ntmps75
  refine wp_seq_k (fun K hK => ?_)
  have HK := Lib.hid hK; clear hK
  go_wp2
  refine HK.out _ _ ?_; clear HK K
  generalize hw1 : World.alloc _ _ = w1
  obtain ⟨b1, hB, hs1⟩ := blk1 hw1
  clear hw1
  have hyl := (hy.keep hB).lo i hi
  have hbl := (hy.keep hB).lt
  have hi30 : i < 30 := by omega
  generalize hx : L i = x at *
  clear hy hx
  have h59 := fun W => whole_any x W
  have H59 := Lib.hid h59
  clear h59
  go_wp2_with (first | (go_at_call 59; refine (H59.out _).mono ?_; rintro e w2 ⟨rfl, hb2⟩; have b12 := blk_keep b1 hb2; have hB2 := btr hB hb2 (Nat.le_refl _)) | (refine wpList_store_blk rfl 129 _ _ rfl _ rfl rfl b12 size129 rfl rfl (by simp [Value.oneCell']) ?_))
  exact bodyPost_ret (results_blk rfl _ _ _ rfl (World.putObj_heap_same (lt_blk b12)) Try.underlying129 rfl size129 rfl) rfl ⟨by simp, below_putObj hB2 (by omega)⟩
end Ytgnjeefanbcbkaa
end Go.Proofs
