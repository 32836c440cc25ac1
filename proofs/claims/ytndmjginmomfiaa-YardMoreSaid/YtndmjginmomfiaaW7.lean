/- What a game knows: the layer for some days, the term of a state. -/
import Derived.Test.YtndmjginmomfiaaW6
open Go Go.RowKit Go.YtndmjginmomfiaaIt
namespace Go.Proofs
namespace Ytndmjginmomfiaa
theorem ly_cells {w : World} {b off n : Nat} {ls : List (List Nat)} (h : ∀ i (h : i < ls.length) f u, (encLy ls[i])[f]? = some u → w.cell? ⟨b, off + i * 4 + f, none⟩ = some u) {i : Nat} (hi : i < ls.length) (hn : n = i) :
    w.cell? ⟨b, off + n * 4, none⟩ = some (.int .u64 (ls[i].getD 0 0 : Nat)) ∧ w.cell? ⟨b, off + n * 4 + 1, none⟩ = some (.int .u64 (ls[i].getD 1 0 : Nat)) ∧ w.cell? ⟨b, off + n * 4 + 2, none⟩ = some (.int .u64 (ls[i].getD 2 0 : Nat)) ∧ w.cell? ⟨b, off + n * 4 + 3, none⟩ = some (.int .u64 (ls[i].getD 3 0 : Nat)) := by
  subst hn
  exact ⟨h n hi 0 _ rfl, h n hi 1 _ rfl, h n hi 2 _ rfl, h n hi 3 _ rfl⟩
theorem encL4 {l : List Nat} (h : l.length = 4) : encL l = #[.int .u64 (l.getD 0 0 : Nat), .int .u64 (l.getD 1 0 : Nat), .int .u64 (l.getD 2 0 : Nat), .int .u64 (l.getD 3 0 : Nat)] := by
  obtain ⟨a, b, c, d, rfl⟩ := list4 h
  rfl
theorem layL_len (y : Yd) (k : Nat) : (layL y k).length = k + 1 := by simp [layL]
theorem layL_get (y : Yd) {k i : Nat} (h : i < (layL y k).length) : (layL y k)[i] = lay y i := by simp [layL]
set_option maxRecDepth 100000 in
set_option maxHeartbeats 1000000 in
theorem kept_any (y : Yd) (v vl : Value) (g k d : Nat) (w : World) (ok : Ok y) (hg : Gm w g y v vl (layL y k)) (hs : Stab y k) (hd : d ≤ 1000) :
    Calls Try.prog 56 #[.pointer (some ⟨g, 0, none⟩), .int .i64 d] w fun e w' => e = .returned (.agg (encL (lay y d))) ∧ Below w.heap.size w w' := by
  obtain ⟨hb, ad, cap, rfl, hm, hcp, hc⟩ := hg
  have hk := hs.le ok
  have hc244 := term_lt ok
  obtain ⟨b, off, rfl, hlt, hcell⟩ := hc (by rw [layL_len]; omega)
  rw [layL_len] at hm hcp hb
  obtain ⟨i, hi, hie, him⟩ : ∃ i : Nat, i < (layL y k).length ∧ lay y i = lay y d ∧ ((d ≤ k ∧ i = d) ∨ (k < d ∧ i = k)) := by
    by_cases h : d ≤ k
    · exact ⟨d, by rw [layL_len]; omega, rfl, .inl ⟨h, rfl⟩⟩
    · exact ⟨k, by rw [layL_len]; omega, (hs.all (by omega)).symm, .inr ⟨by omega, rfl⟩⟩
  obtain ⟨c0, c1, c2, c3⟩ := ly_cells hcell (n := i) hi rfl
  rw [layL_get, hie] at c0 c1 c2 c3
  have hl4 := lay_len y d
  have he := encL4 hl4
  rw [he]
  rw [layL_len] at hi
  generalize (lay y d).getD 0 0 = x0 at *
  generalize (lay y d).getD 1 0 = x1 at *
  generalize (lay y d).getD 2 0 = x2 at *
  generalize (lay y d).getD 3 0 = x3 at *
  have c4 := cell_blk (i := 4) hb
  simp only [List.getElem?_toArray, List.getElem?_cons_zero, List.getElem?_cons_succ] at c4
  have hlg := lt_blk hb
  clear he hie hl4 hcell hc hb hs
  have hi0 : (0 : Int) ≤ (i : Int) := by omega
  have hi1 : (i : Int) < (k : Int) + 1 := by omega
  rcases him with ⟨h1, h2⟩ | ⟨h1, h2⟩
  all_goals
    obtain rfl := h2
    first
    | (have hnl : ¬ k < i := by omega)
    | (have hnl : i < d := h1)
    first
    | (have hwk : IntKind.i64.wrap (k : Int) = (k : Int) := IntWalk.i64_in _ (by omega))
    | (have hwk : IntKind.i64.wrap (i : Int) = (i : Int) := IntWalk.i64_in _ (by omega))
    go_enter Try.func56, Try.ntmps56
    refine wp_seq_k (fun K hK => ?_)
    have HK := Lib.hid hK; clear hK
    go_wp2
    refine HK.out _ _ ?_; clear HK K
    generalize hw1 : World.alloc _ _ = w1
    obtain ⟨b1, hb1, hs1⟩ := blk1 hw1
    clear hw1
    replace c0 := (hb1.cell (p := ⟨b, off + i * 4, none⟩) hlt).trans c0
    replace c1 := (hb1.cell (p := ⟨b, off + i * 4 + 1, none⟩) hlt).trans c1
    replace c2 := (hb1.cell (p := ⟨b, off + i * 4 + 2, none⟩) hlt).trans c2
    replace c3 := (hb1.cell (p := ⟨b, off + i * 4 + 3, none⟩) hlt).trans c3
    replace c4 := (hb1.cell (p := ⟨g, 4, none⟩) hlg).trans c4
    have hz4 : (#[Value.int .u64 (x0 : Nat), .int .u64 (x1 : Nat), .int .u64 (x2 : Nat), .int .u64 (x3 : Nat)]).size = 4 := rfl
    refine wp_seq_k (fun K hK => ?_)
    have HK := Lib.hid hK; clear hK
    refine wp_region_still_tail 14 (by kernel_rfl) (by kernel_rfl) ?_
    simp only [List.take_succ_cons, List.take_zero, List.drop_succ_cons, List.drop_zero]
    change wpStill _ _ (World.drew w1) _ _ _
    repeat still_step
    refine wpStill_nil ?_
    change wpList _ _ _ _ _ (World.drew w1)
    have b2 : w1.drew.heap[w.heap.size]? = some (.cells #[.int .u64 0, .int .u64 0, .int .u64 0, .int .u64 0] 110 (0, 0)) := b1
    have hb2 : Below w.heap.size w w1.drew := hb1.drew
    generalize World.drew w1 = w2 at *
    refine wpList_store_blk rfl 110 _ _ rfl _ rfl rfl b2 size110 hz4 rfl (by simp [Value.oneCell']) ?_
    go_wp2
    refine HK.out _ _ ?_; clear HK
    go_wp2
    exact bodyPost_ret (results_blk rfl _ _ w.heap.size rfl (World.putObj_heap_same (lt_blk b2)) Try.underlying110 rfl size110 hz4) rfl ⟨rfl, below_putObj hb2 (Nat.le_refl _)⟩
/-- A function value answers p, and turns nothing old. -/
def Tests {α : Type} (g : Nat) (lb : Array Value) (enc : α → Value) (p : α → Bool) (w : World) : Prop :=
  (∀ args w, (callFunc g args).run Try.prog w = .ok (.enter g args) w) ∧
  ∀ x W, Below w.heap.size w W → Calls Try.prog g (#[enc x] ++ lb) W fun e W' => e = .returned (.bool (p x)) ∧ Below W.heap.size W W'
/-- Where the first is of which p holds, or -1. -/
def idx {α : Type} (p : α → Bool) : List α → Int
  | [] => -1
  | x :: xs => if p x then 0 else if idx p xs < 0 then -1 else idx p xs + 1
theorem idx_any {α : Type} (p : α → Bool) (xs : List α) : decide (0 ≤ idx p xs) = xs.any p := by
  induction xs with
  | nil => rfl
  | cons x xs ih =>
    simp only [idx, List.any_cons, ← ih]
    by_cases hx : p x = true
    · simp [hx]
    · simp only [hx, if_false, Bool.false_eq_true, Bool.false_or]
      split
      · simp; omega
      · simp; omega
theorem idx_at {α : Type} (p : α → Bool) {xs : List α} {k : Nat} (hk : k < xs.length) (hn : ∀ j (h : j < k), p (xs[j]'(by omega)) = false) (hp : p xs[k] = true) : idx p xs = k := by
  induction xs generalizing k with
  | nil => simp at hk
  | cons x xs ih =>
    cases k with
    | zero => simp at hp; simp [idx, hp]
    | succ k =>
      have h0 := hn 0 (by omega)
      simp at h0
      have := ih (k := k) (by simpa using hk) (fun j h => by have := hn (j + 1) (by omega); simpa using this) (by simpa using hp)
      simp [idx, h0, this]
      omega
theorem idx_none {α : Type} (p : α → Bool) {xs : List α} (hn : ∀ j (h : j < xs.length), p xs[j] = false) : idx p xs = -1 := by
  induction xs with
  | nil => rfl
  | cons x xs ih =>
    have h0 := hn 0 (by simp)
    simp at h0
    have := ih (fun j h => by have := hn (j + 1) (by simpa using h); simpa using this)
    simp [idx, h0, this]
set_option maxRecDepth 100000 in
set_option maxHeartbeats 1000000 in
theorem index66_any (v : Value) (xs : List (List Nat)) (g : Nat) (lb : Array Value) (p : List Nat → Bool) (w : World) (hx4 : ∀ x ∈ xs, x.length = 4) (hv : SlG encLy 4 w v xs)
    (eg : ∀ args w, (callFunc g args).run Try.prog w = .ok (.enter g args) w) (hp : ∀ x ∈ xs, ∀ W, Below w.heap.size w W → Calls Try.prog g (#[.agg (encL x)] ++ lb) W fun e W' => e = .returned (.bool (p x)) ∧ Below W.heap.size W W') :
    Calls Try.prog 66 #[v, .func (.func g) #[] lb] w fun e w' => e = .returned (.int .i64 (idx p xs)) ∧ Below w.heap.size w w' := by
  obtain ⟨ad, cap, rfl, hm, hcp, hc⟩ := hv
  have HP := Lib.hid hp
  have HX4 := Lib.hid hx4
  have HC := Lib.hid hc
  clear hp hx4 hc
  go_enter Try.func66, Try.ntmps66
  go_wp2
  go_loopw [8] (fun i wr => ∃ k : Nat, k ≤ xs.length ∧ i = .int .i64 k ∧ (∀ j (h : j < k) (h2 : j < xs.length), p xs[j] = false) ∧ Below w.heap.size w wr) (fun i _ => xs.length - (intOf i).toNat)
  case atStart => exact ⟨0, Nat.zero_le _, rfl, fun _ h => by omega, Below.refl _ _⟩
  case round =>
    obtain ⟨k, hk, rfl, hno, hb⟩ := hrel
    have HNO := Lib.hid hno
    clear hno
    by_cases hkn : k < xs.length
    · obtain ⟨b, off, rfl, hlt, hcell⟩ := HC.out (by omega)
      obtain ⟨c0, c1, c2, c3⟩ := ly_cells hcell (n := k) hkn rfl
      replace c0 := (hb.cell (p := ⟨b, off + k * 4, none⟩) hlt).trans c0
      replace c1 := (hb.cell (p := ⟨b, off + k * 4 + 1, none⟩) hlt).trans c1
      replace c2 := (hb.cell (p := ⟨b, off + k * 4 + 2, none⟩) hlt).trans c2
      replace c3 := (hb.cell (p := ⟨b, off + k * 4 + 3, none⟩) hlt).trans c3
      have hmem := List.getElem_mem hkn
      have hcall := HP.out xs[k] hmem wr hb
      rw [encL4 (HX4.out _ hmem)] at hcall
      obtain ⟨pv, hpv⟩ : ∃ pv, pv = p xs[k] := ⟨_, rfl⟩
      rw [← hpv] at hcall
      have HPV := Lib.hid hpv
      generalize xs[k].getD 0 0 = x0 at *
      generalize xs[k].getD 1 0 = x1 at *
      generalize xs[k].getD 2 0 = x2 at *
      generalize xs[k].getD 3 0 = x3 at *
      clear hcell hpv hmem
      go_wp2_with fail
      refine hcall.mono ?_
      rintro e w2 ⟨rfl, hb2⟩
      have hb3 : Below w.heap.size w w2 := hb.trans (hb2.mono hb.size)
      clear hcall hb2 hb c0 c1 c2 c3
      cases pv
      · go_wp2
        go_roundw
        case rel => exact ⟨k + 1, by omega, by go_num, fun j h1 h2 => by rcases (show j < k ∨ j = k by omega) with h | rfl; exact HNO.out j h h2; exact HPV.out.symm, hb3⟩
        case measure => simp [intOf]; omega
      · have hi : idx p xs = k := idx_at p hkn (fun j h => HNO.out j h (by omega)) HPV.out.symm
        have HI := Lib.hid hi
        clear hi
        go_wp2
        go_ret
        exact ⟨by rw [HI.out]; rfl, hb3⟩
    · have hi : idx p xs = -1 := idx_none p (fun j h => HNO.out j (by omega) h)
      have HI := Lib.hid hi
      clear hi
      go_wp2
      go_ret
      exact ⟨by rw [HI.out]; rfl, hb⟩
end Ytndmjginmomfiaa
end Go.Proofs
