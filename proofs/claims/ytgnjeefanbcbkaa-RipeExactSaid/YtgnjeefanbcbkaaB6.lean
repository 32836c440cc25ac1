/- Fields: slices.ContainsFunc, chosen weeks, Clash and Verify. -/
import Derived.Test.YtgnjeefanbcbkaaB5
open Go Go.RowKit Go.YtgnjeefanbcbkaaIt
namespace Go.Proofs
namespace Ytgnjeefanbcbkaa
def idx {α : Type} (p : α → Bool) : List α → Int
  | [] => -1
  | x :: xs => if p x then 0 else if idx p xs < 0 then -1 else idx p xs + 1
theorem idx_any {α : Type} (p : α → Bool) (xs : List α) : decide (0 ≤ idx p xs) = xs.any p := by
  induction xs with
  | nil => rfl
  | cons x xs ih =>
    simp only [idx, List.any_cons, ← ih]
    by_cases hx : p x = true
    · simp [hx]
    · simp only [hx, if_false, Bool.false_eq_true, Bool.false_or]
      split
      · simp; omega
      · simp; omega
theorem idx_at {α : Type} (p : α → Bool) {xs : List α} {k : Nat} (hk : k < xs.length) (hn : ∀ j (h : j < k), p (xs[j]'(by omega)) = false) (hp : p xs[k] = true) : idx p xs = k := by
  induction xs generalizing k with
  | nil => simp at hk
  | cons x xs ih =>
    cases k with
    | zero => simp at hp; simp [idx, hp]
    | succ k =>
      have h0 := hn 0 (by omega)
      simp at h0
      have := ih (k := k) (by simpa using hk) (fun j h => by have := hn (j + 1) (by omega); simpa using this) (by simpa using hp)
      simp [idx, h0, this]
      omega
theorem idx_none {α : Type} (p : α → Bool) {xs : List α} (hn : ∀ j (h : j < xs.length), p xs[j] = false) : idx p xs = -1 := by
  induction xs with
  | nil => rfl
  | cons x xs ih =>
    have h0 := hn 0 (by simp)
    simp at h0
    have := ih (fun j h => by have := hn (j + 1) (by simpa using h); simpa using this)
    simp [idx, h0, this]
set_option maxRecDepth 100000 in
set_option maxHeartbeats 1000000 in
theorem index80_any (v : Value) (xs : List Int) (g : Nat) (lb : Array Value) (p : Int → Bool) (w : World) (hv : SlI w v xs)
    (eg : ∀ args w, (callFunc g args).run Try.prog w = .ok (.enter g args) w) (hp : ∀ x ∈ xs, ∀ W, Below w.heap.size w W → Calls Try.prog g (#[.int .i64 x] ++ lb) W fun e W' => e = .returned (.bool (p x)) ∧ Below W.heap.size W W') :
    Calls Try.prog 80 #[v, .func (.func g) #[] lb] w fun e w' => e = .returned (.int .i64 (idx p xs)) ∧ Below w.heap.size w w' := by
  obtain ⟨ad, cap, rfl, hm, hcp, hc⟩ := hv
  have HP := Lib.hid hp
  have HC := Lib.hid hc
  clear hp hc
  go_enter Try.func80, Try.ntmps80
  go_wp2
  go_loopw [8] (fun i wr => ∃ k : Nat, k ≤ xs.length ∧ i = .int .i64 k ∧ (∀ j (h : j < k) (h2 : j < xs.length), p xs[j] = false) ∧ Below w.heap.size w wr) (fun i _ => xs.length - (intOf i).toNat)
  case atStart => exact ⟨0, Nat.zero_le _, rfl, fun _ h => by omega, Below.refl _ _⟩
  case round =>
    obtain ⟨k, hk, rfl, hno, hb⟩ := hrel
    have HNO := Lib.hid hno
    clear hno
    by_cases hkn : k < xs.length
    · obtain ⟨b, off, rfl, hlt, hcell⟩ := HC.out (by omega)
      have c0 := (hb.cell (p := ⟨b, off + k, none⟩) hlt).trans (hcell k hkn)
      rw [at0_lt hkn] at c0
      have hmem := List.getElem_mem hkn
      have hcall := HP.out xs[k] hmem wr hb
      obtain ⟨pv, hpv⟩ : ∃ pv, pv = p xs[k] := ⟨_, rfl⟩
      rw [← hpv] at hcall
      have HPV := Lib.hid hpv
      obtain ⟨x0, hx0⟩ : ∃ x0, x0 = xs[k] := ⟨_, rfl⟩
      rw [← hx0] at c0 hcall
      clear hx0
      clear hcell hpv hmem
      go_wp2_with fail
      refine hcall.mono ?_
      rintro e w2 ⟨rfl, hb2⟩
      have hb3 : Below w.heap.size w w2 := hb.trans (hb2.mono hb.size)
      clear hcall hb2 hb c0
      cases pv
      · go_wp2
        go_roundw
        case rel => exact ⟨k + 1, by omega, by go_num, fun j h1 h2 => by rcases (show j < k ∨ j = k by omega) with h | rfl; exact HNO.out j h h2; exact HPV.out.symm, hb3⟩
        case measure => simp [intOf]; omega
      · have hi : idx p xs = k := idx_at p hkn (fun j h => HNO.out j h (by omega)) HPV.out.symm
        have HI := Lib.hid hi
        clear hi
        go_wp2
        go_ret
        exact ⟨by rw [HI.out]; rfl, hb3⟩
    · have hi : idx p xs = -1 := idx_none p (fun j h => HNO.out j (by omega) h)
      have HI := Lib.hid hi
      clear hi
      go_wp2
      go_ret
      exact ⟨by rw [HI.out]; rfl, hb⟩
set_option maxRecDepth 100000 in
theorem cont55_any (v : Value) (xs : List Int) (g : Nat) (lb : Array Value) (p : Int → Bool) (w : World) (hv : SlI w v xs)
    (eg : ∀ args w, (callFunc g args).run Try.prog w = .ok (.enter g args) w) (hp : ∀ x ∈ xs, ∀ W, Below w.heap.size w W → Calls Try.prog g (#[.int .i64 x] ++ lb) W fun e W' => e = .returned (.bool (p x)) ∧ Below W.heap.size W W') :
    Calls Try.prog 55 #[v, .func (.func g) #[] lb] w fun e w' => e = .returned (.bool (xs.any p)) ∧ Below w.heap.size w w' := by
  have h := index80_any v xs g lb p w hv eg hp
  have hi := idx_any p xs
  generalize idx p xs = i at *
  have HI := Lib.hid hi
  clear hi
  go_enter Try.func55, Try.ntmps55
  go_wp2_with (go_at_call 80; refine h.mono ?_; rintro e w2 ⟨rfl, hb⟩)
  go_ret
  exact ⟨by rw [← HI.out]; rfl, hb⟩
/-- The weeks of which something is true. -/
def chosenL (p : Nat → Bool) (n : Nat) : List Int := ((List.range n).filter p).map fun (i : Nat) => (i : Int)
theorem chosen_succ (p : Nat → Bool) (k : Nat) : chosenL p (k + 1) = chosenL p k ++ if p k then [(k : Int)] else [] := by
  unfold chosenL
  rw [List.range_succ, List.filter_append, List.map_append]
  congr 1
  by_cases h : p k = true <;> simp [h]
theorem chosen_len (p : Nat → Bool) (k : Nat) : (chosenL p k).length ≤ k := by
  unfold chosenL
  rw [List.length_map]
  exact Nat.le_trans (List.length_filter_le _ _) (by simp)
theorem info3 : (Try.prog.info? 3).map (fun i => (i.zero, i.size, i.bytes)) = some (some (.int .i64 0), 1, 8) := by kernel_rfl
set_option maxRecDepth 100000 in
set_option maxHeartbeats 4000000 in
theorem chosen_any {b n : Nat} {L H : Nat → Int} (g : Nat) (lb : Array Value) (p : Nat → Bool) {w : World} (hn30 : n ≤ 30) (hy : Yr w b n L H)
    (eg : ∀ args w, (callFunc g args).run Try.prog w = .ok (.enter g args) w) (hp : ∀ x, x < n → ∀ W, Below w.heap.size w W → Calls Try.prog g (#[.int .i64 (x : Int)] ++ lb) W fun e W' => e = .returned (.bool (p x)) ∧ Below W.heap.size W W') :
    Calls Try.prog 61 #[.pointer (some ⟨b, 0, none⟩), .func (.func g) #[] lb] w fun e w' => ∃ v, e = .returned v ∧ SlI w' v (chosenL p n) ∧ Below w.heap.size w w' := by
  have HP := Lib.hid hp
  have e1 := hy.wk
  clear hp
  obtain ⟨i3, hi3, hz1, hz2, hz3⟩ := info_parts info3
  have HI := Lib.hid (And.intro hi3 (And.intro hz1 (And.intro hz2 hz3)))
  clear hi3 hz1 hz2 hz3
  go_enter Try.func61, Try.ntmps61
  go_wp2
  clear e1
  go_loopw [5, 11] (fun q i wr => ∃ k : Nat, k ≤ n ∧ i = .int .i64 k ∧ wr.ownsRow w.heap.size 3 1 q (chosenL p k).length ((chosenL p k).map (.int .i64)) ∧ Below w.heap.size w wr) (fun _ i _ => n - (intOf i).toNat)
  case atStart => exact ⟨0, Nat.zero_le _, rfl, World.ownsRow_nil _ _ _ _, Below.refl _ _⟩
  case round =>
    obtain ⟨k, hk, rfl, ro, hB⟩ := hrel
    have hlen := chosen_len p k
    have hcs := chosen_succ p k
    have hend : Hid (k = n → chosenL p n = chosenL p k) := Lib.hid fun h => by rw [h]
    generalize chosenL p k = l at *
    obtain ⟨aq, cq, rfl⟩ := form_of ro
    by_cases hkn : k < n
    · have hcall := HP.out k hkn wr hB
      obtain ⟨pv, hpv⟩ : ∃ pv, pv = p k := ⟨_, rfl⟩
      rw [← hpv] at hcall hcs
      have HCS := Lib.hid hcs
      clear hcs hpv
      go_wp2_with fail
      refine hcall.mono ?_
      rintro e w2 ⟨rfl, hb2⟩
      have hB2 := btr hB hb2 (Nat.le_refl _)
      have ro2 := row_below ro hb2
      have hz2 := hB2.size
      clear hcall hb2 hB ro
      cases pv
      · have hl : chosenL p (k + 1) = l := by rw [HCS.out]; simp
        have HL := Lib.hid hl
        clear hl HCS
        go_wp2
        go_roundw
        case rel => exact ⟨k + 1, by omega, by go_num, by rw [HL.out]; exact ro2, hB2⟩
        case measure => simp [intOf]; omega
      · have hl : chosenL p (k + 1) = l ++ [(k : Int)] := by rw [HCS.out]; simp
        have HL := Lib.hid hl
        clear hl HCS
        go_wp2_with (at_builtin; refine wpList_append_own _ rfl _ _ 41 rfl w.heap.size 3 i3 (.int .i64 0) 1 8 Try.underlying41 HI.out.1 HI.out.2.1 HI.out.2.2.1 HI.out.2.2.2 rfl (by decide) _ _ _ rfl (ro2.alloc _) ⟨w2.heap.size, 0, none⟩ 1 1 [.int .i64 (k : Int)] rfl rfl (cell_newL rfl) (by intro u hu; simp at hu; subst hu; rfl) (Nat.le_trans (by omega : l.length + 1 ≤ 200) (by decide)) (by omega) (by rw [World.size_alloc]; omega) ?_; intro v' w7 r1 r2 _)
        obtain ⟨hk7, hs7, ee1, ee2, ee3⟩ := append_same1 ro2 r2
        have hB7 : Below w.heap.size w w7 := ⟨ee1.trans hB2.os, ee2.trans hB2.tape, ee3.trans hB2.output, by omega, fun b hb => (hk7 b (by omega) (fun e => by have := (ro2.lt _ e).1; omega)).trans (hB2.block b hb)⟩
        have r11 : w7.ownsRow w.heap.size 3 1 v' (chosenL p (k + 1)).length ((chosenL p (k + 1)).map (.int .i64)) := by
          rw [HL.out, List.length_append, List.map_append]; exact r1
        clear r1 r2 hk7 hs7 ee1 ee2 ee3 HL ro2 hB2
        go_wp2
        go_roundw
        case rel => exact ⟨k + 1, by omega, by go_num, r11, hB7⟩
        case measure => simp [intOf]; omega
    · have hki : ¬ ((k : Int) < (n : Int)) := by omega
      have hso := slI_own ro (by simp) (by omega)
      have HSO := Lib.hid hso
      clear hso hcs ro
      go_wp2
      go_ret
      exact ⟨_, rfl, by rw [hend.out (by omega)]; exact HSO.out, hB⟩
set_option maxRecDepth 100000 in
set_option maxHeartbeats 4000000 in
theorem out_any {b1 : Nat} {n lo hi : Int} {v : Value} {x : Int} {w : World} (hn : 1 ≤ n ∧ n ≤ 30) (h1 : w.heap[b1]? = some (.cells #[.int .i64 n, .int .i64 lo, .int .i64 hi, v] 26 (0, 0))) :
    Calls Try.prog 56 #[.int .i64 x, .pointer (some ⟨b1, 0, none⟩)] w fun e w' => e = .returned (.bool (!btw 0 x (n - 1))) ∧ Below w.heap.size w w' := by
  have c0 := cell_blk (i := 0) h1
  simp only [List.getElem?_toArray, List.getElem?_cons_zero] at c0
  have hw1 : IntKind.i64.wrap (n - 1) = n - 1 := by rw [IntKind.wrap_i64]; omega
  have h51 := fun W => between_any 0 x (n - 1) W
  have H51 := Lib.hid h51
  clear h51
  go_enter Try.func56, Try.ntmps56
  go_wp2_with (go_at_call 51; refine (H51.out _).mono ?_; rintro e w2 ⟨rfl, hw2⟩; subst hw2)
  go_ret
  exact ⟨rfl, Below.refl _ _⟩
/-- What is said of three weeks. -/
def verE (n lo hi : Int) (ss : List Smp) (xs : List Int) : Int :=
  if chkE n lo hi ss ≠ 0 then chkE n lo hi ss else if xs.length ≠ 3 then 3 else if xs.any (fun x => !btw 0 x (n - 1)) = true then 5
  else if hol (lowAt lo ss) (highAt hi ss) (at0 xs 0).toNat (at0 xs 1).toNat (at0 xs 2).toNat = true then 0 else 11
/-- What Clash says. -/
def clE (n lo hi : Int) (ss : List Smp) : Int := if chkE n lo hi ss ≠ 0 then chkE n lo hi ss else if noB (lowAt lo ss) (highAt hi ss) n.toNat = true then 5 else 0
def ClR (n lo hi : Int) (ss : List Smp) (W : World) (v : Value) : Prop :=
  (clE n lo hi ss = 0 ∧ ∃ m i j k : Nat, n = m ∧ i < m ∧ j < m ∧ k < m ∧ hol (lowAt lo ss) (highAt hi ss) i j k = true ∧ SlI W v [(i : Int), (j : Int), (k : Int)]) ∨ (clE n lo hi ss ≠ 0 ∧ v = .slice none 0 0)
set_option maxRecDepth 100000 in
set_option maxHeartbeats 4000000 in
theorem clashF_any (n lo hi : Int) (v : Value) (ss : List Smp) (w : World) (hv : SlS w v ss) :
    Calls Try.prog 20 #[.agg #[.int .i64 n, .int .i64 lo, .int .i64 hi, v]] w fun e w' => ∃ p, e = .returned (.tuple #[p, .int .i64 (clE n lo hi ss)]) ∧ ClR n lo hi ss w' p ∧ Below w.heap.size w w' := by
  have HV := Lib.hid hv
  obtain ⟨ad, cap, rfl, -, -, -⟩ := hv
  go_enter Try.func20, Try.ntmps20
  refine wp_seq_k (fun K hK => ?_)
  have HK := Lib.hid hK; clear hK
  go_wp2
  refine HK.out _ _ ?_; clear HK K
  generalize hw1 : World.alloc _ _ = w1
  obtain ⟨b1, hB, hs1⟩ := blk1 hw1
  clear hw1
  have h18 := check_any n lo hi _ ss w1 (HV.out.below hB (Nat.le_refl _))
  obtain ⟨E, hE⟩ : ∃ E, E = chkE n lo hi ss := ⟨_, rfl⟩
  rw [← hE] at h18
  have HE := Lib.hid hE
  have H18 := Lib.hid h18
  clear hE h18
  by_cases h0 : E = 0
  · obtain ⟨m, rfl, hV⟩ := chk_ok (HE.out.symm.trans h0)
    subst h0
    have HVAL := Lib.hid hV
    have h53 := fun W (hW : Below w.heap.size w W) => year_any m lo hi (.slice ad ss.length cap) ss W HVAL.out (HV.out.below hW (Nat.le_refl _))
    have H53 := Lib.hid h53
    have hpe : clE m lo hi ss = if noB (lowAt lo ss) (highAt hi ss) m = true then 5 else 0 := by
      unfold clE; rw [if_neg (by rw [← HE.out]; simp)]; rfl
    have HPE := Lib.hid hpe
    clear hV h53 hpe
    refine wp_seq_k (fun K hK => ?_)
    have HK := Lib.hid hK; clear hK
    go_wp2_with (first | (refine wpList_load_blk rfl 26 _ rfl _ rfl b1 Try.underlying26 rfl size26 rfl ?_) | (go_at_call 18; refine H18.out.mono ?_; rintro e w2 ⟨rfl, hb2⟩))
    refine HK.out _ _ ?_; clear HK K H18
    replace b1 := blk_keep b1 hb2
    replace hB := btr hB hb2 (Nat.le_refl _)
    have h53 := H53.out w2 hB
    clear H53 hs1
    refine wp_seq_k (fun K hK => ?_)
    have HK := Lib.hid hK; clear hK
    go_wp2_with (first | (refine wpList_load_blk rfl 26 _ rfl _ rfl b1 Try.underlying26 rfl size26 rfl ?_) | (go_at_call 53; refine h53.mono ?_; rintro e w3 ⟨b, rfl, hyr, hb3, hlb⟩; have h54 := clash_any HVAL.out.bds hyr) | (go_at_call 54; refine h54.mono ?_; rintro e w4 ⟨v4, t4, rfl, hcl, hb4⟩))
    refine HK.out _ _ ?_; clear HK K h53 h54
    have hB4 := btr (btr hB hb3 (Nat.le_refl _)) hb4 (Nat.le_refl _)
    clear hyr
    cases t4
    · rcases hcl with ⟨h, -⟩ | ⟨-, hv4, hno⟩
      · cases h
      · have hp0 : clE m lo hi ss = 5 := by rw [HPE.out, if_pos (noB_true.2 hno)]
        have HP0 := Lib.hid hp0
        clear hno hp0 hv4
        go_wp2
        go_ret2
        exact ⟨_, by rw [HP0.out]; rfl, .inr ⟨by rw [HP0.out]; decide, rfl⟩, hB4⟩
    · rcases hcl with ⟨-, i, j, k, q1, q2, q3, hh, hsl⟩ | ⟨h, -⟩
      · have hnb : ¬ (noB (lowAt lo ss) (highAt hi ss) m = true) := fun h => by
          have := noB_true.1 h i j k q1 q2 q3
          rw [hh] at this; cases this
        have hp0 : clE m lo hi ss = 0 := by rw [HPE.out, if_neg hnb]
        have HP0 := Lib.hid hp0
        have HH := Lib.hid (And.intro q1 (And.intro q2 (And.intro q3 (And.intro hh hsl))))
        clear hnb hp0 hh q1 q2 q3 hsl
        go_wp2
        go_ret2
        exact ⟨_, by rw [HP0.out]; rfl, .inl ⟨HP0.out, m, i, j, k, rfl, HH.out⟩, hB4⟩
      · cases h
  · have hne : (E != 0) = true := by simpa using h0
    have hpe : clE n lo hi ss = E := by unfold clE; rw [← HE.out, if_pos h0]
    have HPE := Lib.hid hpe
    have H0 := Lib.hid h0
    clear hpe h0
    go_wp2_with (first | (refine wpList_load_blk rfl 26 _ rfl _ rfl b1 Try.underlying26 rfl size26 rfl ?_) | (go_at_call 18; refine H18.out.mono ?_; rintro e w2 ⟨rfl, hb2⟩))
    go_ret2
    exact ⟨_, by rw [HPE.out]; rfl, .inr ⟨by rw [HPE.out]; exact H0.out, rfl⟩, btr hB hb2 (Nat.le_refl _)⟩
end Ytgnjeefanbcbkaa
end Go.Proofs
