/- Fields: fractions of the program and of the reference. -/
import Derived.Test.YtgnjeefanbcbkaaProg
import Derived.Test.YtgnjeefanbcbkaaGenH
import Derived.Test.YtgnjeefanbcbkaaRp
open Go Go.RowKit Go.YtgnjeefanbcbkaaIt
namespace Go.Proofs
namespace Ytgnjeefanbcbkaa
theorem size93 : (Try.prog.info? 93).map (·.size) = some 2 := by kernel_rfl
theorem size101 : (Try.prog.info? 101).map (·.size) = some 2 := by kernel_rfl
theorem size129 : (Try.prog.info? 129).map (·.size) = some 3 := by kernel_rfl
/-- A fraction's value in memory. -/
abbrev enc (x : Fr) : Value := .agg #[.int .i64 x.o, .int .i64 x.u]
theorem between_any (lo n hi : Int) (w : World) : Calls Try.prog 51 #[.int .i64 lo, .int .i64 n, .int .i64 hi] w fun e w' => e = .returned (.bool (btw lo n hi)) ∧ w = w' := by
  unfold btw
  by_cases h1 : lo ≤ n <;> by_cases h2 : n ≤ hi
  all_goals
    go_enter Try.func51, Try.ntmps51
    go_wp2
    go_ret
    simp [h1, h2]
theorem is_any (n lo hi : Int) (w : World) : Calls Try.prog 52 #[.int .i64 n, .int .i64 lo, .int .i64 hi] w fun e w' => e = .returned (.bool (btw lo n hi)) ∧ w = w' := by
  unfold btw
  by_cases h1 : lo ≤ n <;> by_cases h2 : n ≤ hi
  all_goals
    have h3 : (decide (n ≥ lo)) = decide (lo ≤ n) := rfl
    go_enter Try.func52, Try.ntmps52
    go_wp2
    go_ret
    simp [h1, h2]
set_option maxRecDepth 100000 in
theorem whole_any (n : Int) (w : World) : Calls Try.prog 59 #[.int .i64 n] w fun e w' => e = .returned (enc (whole n)) ∧ Below w.heap.size w w' := by
  go_enter Try.func59, Try.ntmps59
  refine wp_seq_k (fun K hK => ?_)
  have HK := Lib.hid hK; clear hK
  go_wp2
  refine HK.out _ _ ?_; clear HK K
  generalize hw1 : World.alloc _ _ = w1
  obtain ⟨b1, hB, hs1⟩ := blk1 hw1
  clear hw1
  go_wp2_with (refine wpList_store_blk rfl 93 _ _ rfl _ rfl rfl b1 size93 rfl rfl (by simp [Value.oneCell']) ?_)
  exact bodyPost_ret (results_blk rfl _ _ _ rfl (World.putObj_heap_same (lt_blk b1)) Try.underlying93 rfl size93 rfl) rfl ⟨by simp [whole], below_putObj hB (by omega)⟩
set_option maxRecDepth 100000 in
theorem rwhole_any (n : Int) (w : World) : Calls Try.prog 65 #[.int .i64 n] w fun e w' => e = .returned (enc (whole n)) ∧ Below w.heap.size w w' := by
  go_enter Try.func65, Try.ntmps65
  refine wp_seq_k (fun K hK => ?_)
  have HK := Lib.hid hK; clear hK
  go_wp2
  refine HK.out _ _ ?_; clear HK K
  generalize hw1 : World.alloc _ _ = w1
  obtain ⟨b1, hB, hs1⟩ := blk1 hw1
  clear hw1
  go_wp2_with (refine wpList_store_blk rfl 101 _ _ rfl _ rfl rfl b1 size101 rfl rfl (by simp [Value.oneCell']) ?_)
  exact bodyPost_ret (results_blk rfl _ _ _ rfl (World.putObj_heap_same (lt_blk b1)) Try.underlying101 rfl size101 rfl) rfl ⟨by simp [whole], below_putObj hB (by omega)⟩
/-- Within bounds. -/
structure Bd (B D : Int) (x : Fr) : Prop where
  lo : -B ≤ x.o
  hi : x.o ≤ B
  pos : 0 < x.u
  le : x.u ≤ D
theorem mulB {a b A B : Int} (h1 : -A ≤ a) (h2 : a ≤ A) (h3 : -B ≤ b) (h4 : b ≤ B) : -(A * B) ≤ a * b ∧ a * b ≤ A * B := by
  have hA : 0 ≤ A := by omega
  have hB : 0 ≤ B := by omega
  have e1 : 0 ≤ (A - a) * (B + b) := Int.mul_nonneg (by omega) (by omega)
  have e2 : 0 ≤ (A + a) * (B - b) := Int.mul_nonneg (by omega) (by omega)
  have e3 : 0 ≤ (A - a) * (B - b) := Int.mul_nonneg (by omega) (by omega)
  have e4 : 0 ≤ (A + a) * (B + b) := Int.mul_nonneg (by omega) (by omega)
  constructor <;> grind
abbrev Big : Fr → Prop := Bd 4000000000000 800000
theorem Bd.mono {B D B' D' : Int} {x : Fr} (h : Bd B D x) (h1 : B ≤ B') (h2 : D ≤ D') : Bd B' D' x := ⟨by have := h.lo; omega, by have := h.hi; omega, h.pos, by have := h.le; omega⟩
theorem mulU {B D : Int} {x y : Fr} {B' D' : Int} (hx : Bd B D x) (hy : Bd B' D' y) : -(B * D') ≤ x.o * y.u ∧ x.o * y.u ≤ B * D' := mulB hx.lo hx.hi (by have := hy.pos; have := hy.le; omega) hy.le
theorem big_mul {x y : Fr} (hx : Big x) (hy : Big y) : IntKind.i64.wrap (x.o * y.u) = x.o * y.u := by
  have := mulU hx hy
  rw [IntKind.wrap_i64]; omega
theorem big_mul2 {x y : Fr} (hx : Big x) (hy : Big y) : IntKind.i64.wrap (y.u * x.o) = y.u * x.o := by rw [Int.mul_comm]; exact big_mul hx hy
def cmpI (x y : Fr) : Int := if x.o * y.u < y.o * x.u then -1 else if y.o * x.u < x.o * y.u then 1 else 0
set_option maxRecDepth 100000 in
set_option maxHeartbeats 4000000 in
theorem compare_any (x y : Fr) (w : World) (hx : Big x) (hy : Big y) : Calls Try.prog 63 #[enc x, enc y] w fun e w' => e = .returned (.int .i64 (cmpI x y)) ∧ Below w.heap.size w w' := by
  have h1 := big_mul hx hy
  have h2 := big_mul hy hx
  unfold cmpI
  clear hx hy
  obtain ⟨a, ha⟩ : ∃ a, a = x.o * y.u := ⟨_, rfl⟩
  obtain ⟨b, hb⟩ : ∃ b, b = y.o * x.u := ⟨_, rfl⟩
  rw [← ha] at h1
  rw [← hb] at h2
  rw [← ha, ← hb]
  have HA := Lib.hid ha
  have HB := Lib.hid hb
  have H1 := Lib.hid h1
  have H2 := Lib.hid h2
  clear ha hb h1 h2
  go_enter Try.func63, Try.ntmps63
  refine wp_seq_k (fun K hK => ?_)
  have HK := Lib.hid hK; clear hK
  go_wp2
  refine HK.out _ _ ?_; clear HK K
  generalize hw1 : World.alloc _ _ = w1
  obtain ⟨b1, b2, hB, hs1⟩ := blk2 hw1
  clear hw1
  have c0 := cell_blk (i := 0) b1
  have c1 := cell_blk (i := 1) b1
  have d0 := cell_blk (i := 0) b2
  have d1 := cell_blk (i := 1) b2
  simp only [List.getElem?_toArray, List.getElem?_cons_zero, List.getElem?_cons_succ] at c0 c1 d0 d1
  have e1 : IntKind.i64.wrap (x.o * y.u) = a := by rw [← HA.out]; exact H1.out
  have e2 : IntKind.i64.wrap (y.o * x.u) = b := by rw [← HB.out]; exact H2.out
  refine wp_seq_k (fun K' hK' => ?_)
  have HK' := Lib.hid hK'; clear hK'
  refine wp_seq_k (fun K hK => ?_)
  have HK := Lib.hid hK; clear hK
  go_quiet (fail)
  refine HK.out _ _ ?_; clear HK K
  generalize hw2 : World.drewN _ _ = w2
  have hb2 : Below w.heap.size w w2 := by rw [← hw2]; exact below_drewN hB _
  clear hw2 c0 c1 d0 d1 e1 e2
  by_cases h3 : a < b
  · go_wp2
    go_ret
    exact ⟨by simp, hb2⟩
  · by_cases h4 : b < a
    · go_wp2
      go_ret
      exact ⟨by simp, hb2⟩
    · go_wp2
      refine HK'.out _ _ ?_
      go_wp2
      go_ret
      exact ⟨by simp, hb2⟩

theorem less_any (x y : Fr) (w : World) (hx : Big x) (hy : Big y) : Calls Try.prog 64 #[enc x, enc y] w fun e w' => e = .returned (.bool (x.lt y)) ∧ Below w.heap.size w w' := by
  have h1 := big_mul hx hy
  have h2 := big_mul hy hx
  unfold Fr.lt
  clear hx hy
  go_enter Try.func64, Try.ntmps64
  go_wp2
  go_ret
  refine ⟨rfl, ?_⟩
  exact ((Below.refl _ _).alloc (Nat.le_refl _) _).alloc (by rw [World.size_alloc]; omega) _
set_option maxRecDepth 100000 in
set_option maxHeartbeats 4000000 in
theorem minus_any (x y : Fr) (w : World) (h1 : IntKind.i64.wrap (x.o * y.u) = x.o * y.u) (h2 : IntKind.i64.wrap (y.o * x.u) = y.o * x.u) (h3 : IntKind.i64.wrap (x.o * y.u - y.o * x.u) = x.o * y.u - y.o * x.u) (h4 : IntKind.i64.wrap (x.u * y.u) = x.u * y.u) :
    Calls Try.prog 81 #[enc x, enc y] w fun e w' => e = .returned (enc (x.minus y)) ∧ Below w.heap.size w w' := by
  unfold Fr.minus
  go_enter Try.func81, Try.ntmps81
  refine wp_seq_k (fun K hK => ?_)
  have HK := Lib.hid hK; clear hK
  go_wp2
  refine HK.out _ _ ?_; clear HK K
  generalize hw1 : World.alloc _ _ = w1
  obtain ⟨b1, b2, b3, hB, hs1⟩ := blk3 hw1
  clear hw1
  have c0 := cell_blk (i := 0) b1
  have c1 := cell_blk (i := 1) b1
  have d0 := cell_blk (i := 0) b2
  have d1 := cell_blk (i := 1) b2
  simp only [List.getElem?_toArray, List.getElem?_cons_zero, List.getElem?_cons_succ] at c0 c1 d0 d1
  go_wp2_with (refine wpList_store_blk rfl 93 _ _ rfl _ rfl rfl b3 size93 rfl rfl (by simp [Value.oneCell']) ?_)
  exact bodyPost_ret (results_blk rfl _ _ _ rfl (World.putObj_heap_same (lt_blk b3)) Try.underlying93 rfl size93 rfl) rfl ⟨by simp, below_putObj hB (by omega)⟩
theorem tdiv_floor {o u : Int} (h : 0 < u) : o / u = if o.tmod u < 0 then o.tdiv u - 1 else o.tdiv u := by
  have h1 := Int.mul_tdiv_add_tmod o u
  have h2 := Int.mul_ediv_add_emod o u
  have h3 := Int.emod_lt_of_pos o h
  have h4 := Int.emod_nonneg o (show u ≠ 0 by omega)
  have h5 := Int.tmod_lt_of_pos o h
  have h6 : -u < o.tmod u := by
    have := Int.tmod_lt_of_pos (-o) h
    rw [Int.neg_tmod] at this; omega
  split
  · rename_i h7
    have : u * (o / u - (o.tdiv u - 1)) = o.tmod u + u - o % u := by grind
    have h8 : -u < o.tmod u + u - o % u := by omega
    have h9 : o.tmod u + u - o % u < u := by omega
    rw [← this] at h8 h9
    have : -1 < o / u - (o.tdiv u - 1) := by
      refine Int.lt_of_mul_lt_mul_left (a := u) ?_ (by omega); omega
    have : o / u - (o.tdiv u - 1) < 1 := by
      refine Int.lt_of_mul_lt_mul_left (a := u) ?_ (by omega); omega
    omega
  · rename_i h7
    have : u * (o / u - o.tdiv u) = o.tmod u - o % u := by grind
    have h8 : -u < o.tmod u - o % u := by omega
    have h9 : o.tmod u - o % u < u := by omega
    rw [← this] at h8 h9
    have : -1 < o / u - o.tdiv u := by
      refine Int.lt_of_mul_lt_mul_left (a := u) ?_ (by omega); omega
    have : o / u - o.tdiv u < 1 := by
      refine Int.lt_of_mul_lt_mul_left (a := u) ?_ (by omega); omega
    omega
theorem tdiv_bd {o u B : Int} (_ : 0 < u) (h1 : -B ≤ o) (h2 : o ≤ B) : -B ≤ o.tdiv u ∧ o.tdiv u ≤ B := by
  have := Int.natAbs_tdiv_le_natAbs o u
  omega
set_option maxRecDepth 100000 in
set_option maxHeartbeats 4000000 in
theorem floor_any (x : Fr) (w : World) (hx : Big x) : Calls Try.prog 42 #[enc x] w fun e w' => e = .returned (.int .i64 x.floor) ∧ Below w.heap.size w w' := by
  have hp := hx.pos
  have hfl := tdiv_floor (o := x.o) hp
  have hbd := tdiv_bd (o := x.o) hp hx.lo hx.hi
  have hu0 : ¬ x.u = 0 := by omega
  have h1 : IntKind.i64.wrap (x.o.tdiv x.u) = x.o.tdiv x.u := by rw [IntKind.wrap_i64]; omega
  have h2 : IntKind.i64.wrap (x.o.tdiv x.u - 1) = x.o.tdiv x.u - 1 := by rw [IntKind.wrap_i64]; omega
  have hne : (x.u != 0) = true := by simpa using hu0
  unfold Fr.floor
  by_cases h3 : x.o.tmod x.u < 0
  · rw [if_pos h3] at hfl
    have HF := Lib.hid hfl
    clear hfl hbd hx hp
    go_enter Try.func42, Try.ntmps42
    go_wp2
    go_ret
    exact ⟨by rw [HF.out]; rfl, (Below.refl _ _).alloc (Nat.le_refl _) _⟩
  · rw [if_neg h3] at hfl
    have HF := Lib.hid hfl
    clear hfl hbd hx hp
    go_enter Try.func42, Try.ntmps42
    go_wp2
    go_ret
    exact ⟨by rw [HF.out]; rfl, (Below.refl _ _).alloc (Nat.le_refl _) _⟩
set_option maxRecDepth 100000 in
set_option maxHeartbeats 4000000 in
theorem rfloor_any (x : Fr) (w : World) (hx : Big x) : Calls Try.prog 47 #[enc x] w fun e w' => e = .returned (.int .i64 x.floor) ∧ Below w.heap.size w w' := by
  have hp := hx.pos
  have hfl := tdiv_floor (o := x.o) hp
  have hbd := tdiv_bd (o := x.o) hp hx.lo hx.hi
  have hu0 : ¬ x.u = 0 := by omega
  have h1 : IntKind.i64.wrap (x.o.tdiv x.u) = x.o.tdiv x.u := by rw [IntKind.wrap_i64]; omega
  have h2 : IntKind.i64.wrap (x.o.tdiv x.u - 1) = x.o.tdiv x.u - 1 := by rw [IntKind.wrap_i64]; omega
  have hne : (x.u != 0) = true := by simpa using hu0
  unfold Fr.floor
  by_cases h3 : x.o.tmod x.u < 0
  · rw [if_pos h3] at hfl
    have HF := Lib.hid hfl
    clear hfl hbd hx hp
    go_enter Try.func47, Try.ntmps47
    go_wp2
    go_ret
    exact ⟨by rw [HF.out]; rfl, (Below.refl _ _).alloc (Nat.le_refl _) _⟩
  · rw [if_neg h3] at hfl
    have HF := Lib.hid hfl
    clear hfl hbd hx hp
    go_enter Try.func47, Try.ntmps47
    go_wp2
    go_ret
    exact ⟨by rw [HF.out]; rfl, (Below.refl _ _).alloc (Nat.le_refl _) _⟩
set_option maxRecDepth 100000 in
set_option maxHeartbeats 4000000 in
theorem ceil_any (x : Fr) (w : World) (hx : Big x) : Calls Try.prog 44 #[enc x] w fun e w' => e = .returned (.int .i64 x.ceil) ∧ Below w.heap.size w w' := by
  have hlo := hx.lo
  have hhi := hx.hi
  have h1 : IntKind.i64.wrap (-x.o) = -x.o := by rw [IntKind.wrap_i64]; omega
  have hy : Big ⟨-x.o, x.u⟩ := ⟨by show _ ≤ -x.o; omega, by show -x.o ≤ _; omega, hx.pos, hx.le⟩
  have h42 := fun W => floor_any ⟨-x.o, x.u⟩ W hy
  have hfl := tdiv_floor (o := -x.o) hx.pos
  have hbd := tdiv_bd (o := -x.o) hx.pos (B := 4000000000000) (by omega) (by omega)
  have h2 : IntKind.i64.wrap (-((-x.o) / x.u)) = -((-x.o) / x.u) := by rw [hfl]; split <;> rw [IntKind.wrap_i64] <;> omega
  have H2 := Lib.hid h2
  unfold Fr.ceil
  unfold Fr.floor at h42
  have H42 := Lib.hid h42
  generalize (-x.o) / x.u = q at *
  have h2 := H2.out
  clear hlo hhi hy hfl hbd hx h42 H2
  go_enter Try.func44, Try.ntmps44
  go_wp2_with (go_at_call 42; refine (H42.out _).mono ?_; rintro e w2 ⟨rfl, hb2⟩)
  go_ret
  exact ⟨rfl, btr ((Below.refl _ _).alloc (Nat.le_refl _) _) hb2 (Nat.le_refl _)⟩
set_option maxRecDepth 100000 in
set_option maxHeartbeats 4000000 in
theorem rceil_any (x : Fr) (w : World) (hx : Big x) : Calls Try.prog 49 #[enc x] w fun e w' => e = .returned (.int .i64 x.ceil) ∧ Below w.heap.size w w' := by
  have hlo := hx.lo
  have hhi := hx.hi
  have h1 : IntKind.i64.wrap (-x.o) = -x.o := by rw [IntKind.wrap_i64]; omega
  have hy : Big ⟨-x.o, x.u⟩ := ⟨by show _ ≤ -x.o; omega, by show -x.o ≤ _; omega, hx.pos, hx.le⟩
  have h42 := fun W => rfloor_any ⟨-x.o, x.u⟩ W hy
  have hfl := tdiv_floor (o := -x.o) hx.pos
  have hbd := tdiv_bd (o := -x.o) hx.pos (B := 4000000000000) (by omega) (by omega)
  have h2 : IntKind.i64.wrap (-((-x.o) / x.u)) = -((-x.o) / x.u) := by rw [hfl]; split <;> rw [IntKind.wrap_i64] <;> omega
  have H2 := Lib.hid h2
  unfold Fr.ceil
  unfold Fr.floor at h42
  have H42 := Lib.hid h42
  generalize (-x.o) / x.u = q at *
  have h2 := H2.out
  clear hlo hhi hy hfl hbd hx h42 H2
  go_enter Try.func49, Try.ntmps49
  go_wp2_with (go_at_call 47; refine (H42.out _).mono ?_; rintro e w2 ⟨rfl, hb2⟩)
  go_ret
  exact ⟨rfl, btr ((Below.refl _ _).alloc (Nat.le_refl _) _) hb2 (Nat.le_refl _)⟩
end Ytgnjeefanbcbkaa
end Go.Proofs
