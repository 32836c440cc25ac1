/- Laws of rotation: numbers within bounds, slices.ContainsFunc, the crops of a law. -/
import Derived.Test.YtnjgglnpmhjmiaaLe
open Go Go.RowKit Go.YtnjgglnpmhjmiaaIt
open Rest
namespace Go.Proofs
namespace Ytnjgglnpmhjmiaa
theorem between_any (lo n hi : Int) (w : World) : Calls Try.prog 64 #[.int .i64 lo, .int .i64 n, .int .i64 hi] w fun e w' => e = .returned (.bool (btw lo n hi)) ∧ w = w' := by
 unfold btw
 by_cases h1 : lo ≤ n <;> by_cases h2 : n ≤ hi
 all_goals
  go_enter Try.func64, Try.ntmps64
  go_wp2
  go_ret
  simp [h1, h2]
theorem is_any (n lo hi : Int) (w : World) : Calls Try.prog 59 #[.int .i64 n, .int .i64 lo, .int .i64 hi] w fun e w' => e = .returned (.bool (btw lo n hi)) ∧ w = w' := by
 unfold btw
 by_cases h1 : lo ≤ n <;> by_cases h2 : n ≤ hi
 all_goals
  have h3 : (decide (n ≥ lo)) = decide (lo ≤ n) := rfl
  go_enter Try.func59, Try.ntmps59
  go_wp2
  go_ret
  simp [h1, h2]
def idxW {α : Type} (p : α → Bool) : List α → Int
 | [] => -1
 | x :: xs => if p x then 0 else if idxW p xs < 0 then -1 else idxW p xs + 1
theorem idxW_any {α : Type} (p : α → Bool) (xs : List α) : decide (0 ≤ idxW p xs) = xs.any p := by
 induction xs with
 | nil => rfl
 | cons x xs ih =>
  simp only [idxW, List.any_cons, ← ih]
  by_cases hx : p x = true
  ·simp [hx]
  ·simp only [hx, if_false, Bool.false_eq_true, Bool.false_or]
   split
   ·simp; omega
   ·simp; omega
theorem idxW_at {α : Type} (p : α → Bool) {xs : List α} {k : Nat} (hk : k < xs.length) (hn : ∀ j (h : j < k), p (xs[j]'(by omega)) = false) (hp : p xs[k] = true) : idxW p xs = k := by
 induction xs generalizing k with
 | nil => simp at hk
 | cons x xs ih =>
  cases k with
  | zero => simp at hp; simp [idxW, hp]
  | succ k =>
   have h0 := hn 0 (by omega)
   simp at h0
   have := ih (k := k) (by simpa using hk) (fun j h => by have := hn (j + 1) (by omega); simpa using this) (by simpa using hp)
   simp [idxW, h0, this]
   omega
theorem idxW_none {α : Type} (p : α → Bool) {xs : List α} (hn : ∀ j (h : j < xs.length), p xs[j] = false) : idxW p xs = -1 := by
 induction xs with
 | nil => rfl
 | cons x xs ih =>
  have h0 := hn 0 (by simp)
  simp at h0
  have := ih (fun j h => by have := hn (j + 1) (by simpa using h); simpa using this)
  simp [idxW, h0, this]
set_option maxRecDepth 100000 in
set_option maxHeartbeats 1000000 in
theorem index104_any (v : Value) (xs : List Int) (g : Nat) (lb : Array Value) (p : Int → Bool) (w : World) (hv : SlI w v xs)
  (eg : ∀ args w, (callFunc g args).run Try.prog w = .ok (.enter g args) w) (hp : ∀ x ∈ xs, ∀ W, Below w.heap.size w W → Calls Try.prog g (#[.int .i64 x] ++ lb) W fun e W' => e = .returned (.bool (p x)) ∧ Below W.heap.size W W') :
  Calls Try.prog 104 #[v, .func (.func g) #[] lb] w fun e w' => e = .returned (.int .i64 (idxW p xs)) ∧ Below w.heap.size w w' := by
 obtain ⟨ad, cap, rfl, hm, hcp, hc⟩ := hv
 have HP := Lib.hid hp
 have HC := Lib.hid hc
 clear hp hc
 go_enter Try.func104, Try.ntmps104
 go_wp2
 go_loopw [8] (fun i wr => ∃ k : Nat, k ≤ xs.length ∧ i = .int .i64 k ∧ (∀ j (h : j < k) (h2 : j < xs.length), p xs[j] = false) ∧ Below w.heap.size w wr) (fun i _ => xs.length - (intOf i).toNat)
 case atStart => exact ⟨0, Nat.zero_le _, rfl, fun _ h => by omega, Below.refl _ _⟩
 case round =>
  obtain ⟨k, hk, rfl, hno, hb⟩ := hrel
  have HNO := Lib.hid hno
  clear hno
  by_cases hkn : k < xs.length
  ·obtain ⟨b, off, rfl, hlt, hcell⟩ := HC.out (by omega)
   have c0 := (hb.cell (p := ⟨b, off + k, none⟩) hlt).trans (hcell k hkn)
   rw [at0_lt hkn] at c0
   have hmem := List.getElem_mem hkn
   have hcall := HP.out xs[k] hmem wr hb
   obtain ⟨pv, hpv⟩ : ∃ pv, pv = p xs[k] := ⟨_, rfl⟩
   rw [← hpv] at hcall
   have HPV := Lib.hid hpv
   obtain ⟨x0, hx0⟩ : ∃ x0, x0 = xs[k] := ⟨_, rfl⟩
   rw [← hx0] at c0 hcall
   clear hx0
   clear hcell hpv hmem
   go_wp2_with fail
   refine hcall.mono ?_
   rintro e w2 ⟨rfl, hb2⟩
   have hb3 : Below w.heap.size w w2 := hb.trans (hb2.mono hb.size)
   clear hcall hb2 hb c0
   cases pv
   ·go_wp2
    go_roundw
    case rel => exact ⟨k + 1, by omega, by go_num, fun j h1 h2 => by rcases (show j < k ∨ j = k by omega) with h | rfl; exact HNO.out j h h2; exact HPV.out.symm, hb3⟩
    case measure => simp [intOf]; omega
   ·have hi : idxW p xs = k := idxW_at p hkn (fun j h => HNO.out j h (by omega)) HPV.out.symm
    have HI := Lib.hid hi
    clear hi
    go_wp2
    go_ret
    exact ⟨by rw [HI.out]; rfl, hb3⟩
  ·have hi : idxW p xs = -1 := idxW_none p (fun j h => HNO.out j (by omega) h)
   have HI := Lib.hid hi
   clear hi
   go_wp2
   go_ret
   exact ⟨by rw [HI.out]; rfl, hb⟩
set_option maxRecDepth 100000 in
theorem cont87_any (v : Value) (xs : List Int) (g : Nat) (lb : Array Value) (p : Int → Bool) (w : World) (hv : SlI w v xs)
  (eg : ∀ args w, (callFunc g args).run Try.prog w = .ok (.enter g args) w) (hp : ∀ x ∈ xs, ∀ W, Below w.heap.size w W → Calls Try.prog g (#[.int .i64 x] ++ lb) W fun e W' => e = .returned (.bool (p x)) ∧ Below W.heap.size W W') :
  Calls Try.prog 87 #[v, .func (.func g) #[] lb] w fun e w' => e = .returned (.bool (xs.any p)) ∧ Below w.heap.size w w' := by
 have h := index104_any v xs g lb p w hv eg hp
 have hi := idxW_any p xs
 generalize idxW p xs = i at *
 have HI := Lib.hid hi
 clear hi
 go_enter Try.func87, Try.ntmps87
 go_wp2_with (go_at_call 104; refine h.mono ?_; rintro e w2 ⟨rfl, hb⟩)
 go_ret
 exact ⟨by rw [← HI.out]; rfl, hb⟩

/-- A law of rotation: where states lead, and which are good. -/
structure Lw where
 nx : List (List Int)
 gd : List Bool
def Lw.k (l : Lw) : Nat := (l.nx.headD []).length
/-- A law's value, and what it has in memory. -/
def LawA (w : World) (v : Value) (l : Lw) : Prop := ∃ vn vg, v = .agg #[vn, vg] ∧ SlII w vn l.nx ∧ SlV w vg (l.gd.map Value.bool)
theorem LawA.below {w w' : World} {v : Value} {l : Lw} {B : Nat} (h : LawA w v l) (hb : Below B w w') (hB : w.heap.size ≤ B) : LawA w' v l := by
 obtain ⟨vn, vg, e, h1, h2⟩ := h
 exact ⟨vn, vg, e, h1.below hb hB, h2.below hb hB⟩
theorem slII_form {w : World} {v : Value} {rows : List (List Int)} (h : SlII w v rows) : ∃ ad c, v = .slice ad rows.length c ∧ rows.length ≤ c := by
 obtain ⟨vs, ⟨ad, cap, e, _, hc, _⟩, hl, _⟩ := h
 exact ⟨ad, cap, by rw [e, hl], by omega⟩
/-- The k-th row. -/
theorem SlII.row {w : World} {ad : Option Addr} {n c : Nat} {rows : List (List Int)} (h : SlII w (.slice ad n c) rows) {i : Nat} (hi : i < rows.length) : ∃ b off a cc, ad = some ⟨b, off, none⟩ ∧ b < w.heap.size ∧ w.cell? ⟨b, off + i, none⟩ = some (.slice a rows[i].length cc) ∧ SlI w (.slice a rows[i].length cc) rows[i] := by
 obtain ⟨vs, ⟨ad', cap, e, _, hc, hh⟩, hl, hr⟩ := h
 injection e with e1 e2 e3
 subst e1
 obtain ⟨b, off, rfl, hb, hcell⟩ := hh (by omega)
 have h1 := hcell i (by omega)
 have h2 := hr i (by omega) hi
 obtain ⟨a, cc, e⟩ := slI_form h2
 rw [e] at h1 h2
 exact ⟨b, off, a, cc, rfl, hb, h1, h2⟩
theorem SlII.addr {w : World} {ad : Option Addr} {n c : Nat} {rows : List (List Int)} (h : SlII w (.slice ad n c) rows) (h0 : 0 < rows.length) : ∃ b off, ad = some ⟨b, off, none⟩ ∧ b < w.heap.size := by
 obtain ⟨b, off, a, cc, e, hb, -⟩ := h.row h0
 exact ⟨b, off, e, hb⟩
set_option maxRecDepth 100000 in
theorem crops_any {v : Value} {l : Lw} {w : World} (h : LawA w v l) (h0 : l.nx ≠ []) : Calls Try.prog 85 #[v] w fun e w' => e = .returned (.int .i64 (l.k : Nat)) ∧ Below w.heap.size w w' := by
 obtain ⟨vn, vg, rfl, h1, -⟩ := h
 obtain ⟨ad, c, rfl, hc⟩ := slII_form h1
 have hp : 0 < l.nx.length := List.length_pos_iff.2 h0
 obtain ⟨b, off, a, cc, rfl, hb, hcell, -⟩ := h1.row hp
 have hk : l.nx[0].length = l.k := by
  simp [Lw.k, List.headD_eq_head?_getD, List.head?_eq_getElem?, hp]
 rw [hk] at hcell
 have hpi : (0 : Int) < (l.nx.length : Int) := by omega
 have hbb := (Below.refl w.heap.size w).alloc (Nat.le_refl _) (.cells #[.slice (some ⟨b, off, none⟩) l.nx.length c, vg] 25)
 have c0 : ∀ o, (w.alloc o).cell? ⟨b, off, none⟩ = some (.slice a l.k cc) := fun o => by
  rw [World.cell?_alloc_lt w o _ (by simpa using hb)]; simpa using hcell
 clear hcell hk h0 h1
 go_enter Try.func85, Try.ntmps85
 go_wp2
 go_ret
 exact ⟨rfl, (Below.refl w.heap.size w).alloc (Nat.le_refl _) _⟩
end Ytnjgglnpmhjmiaa
end Go.Proofs
/- Laws of rotation: Check. -/
open Go Go.RowKit Go.YtnjgglnpmhjmiaaIt
open Rest
namespace Go.Proofs
namespace Ytnjgglnpmhjmiaa
/-- The error of rows. -/
def rowsE (k n : Nat) : List (List Int) → Int
 | [] => 0
 | r :: rs => if r.length ≠ k then 3 else if r.any (fun s => !btw 0 s ((n : Int) - 1)) then 5 else rowsE k n rs
theorem rowsE_at {k n : Nat} : ∀ {rows : List (List Int)} {i : Nat} (hi : i < rows.length), (∀ j (h : j < i), (rows[j]'(by omega)).length = k ∧ (rows[j]'(by omega)).any (fun s => !btw 0 s ((n : Int) - 1)) = false) → rowsE k n rows = rowsE k n (rows.drop i)
 | r :: rs, 0, _, _ => rfl
 | r :: rs, i + 1, hi, h => by
  have h0 := h 0 (by omega)
  simp only [List.getElem_cons_zero] at h0
  rw [rowsE, if_neg (by simp [h0.1]), if_neg (by simp [h0.2]), List.drop_succ_cons]
  exact rowsE_at (by simpa using hi) fun j hj => by have := h (j + 1) (by omega); simpa using this
theorem rowsE_all {k n : Nat} : ∀ {rows : List (List Int)}, (∀ j (h : j < rows.length), rows[j].length = k ∧ rows[j].any (fun s => !btw 0 s ((n : Int) - 1)) = false) → rowsE k n rows = 0
 | [], _ => rfl
 | r :: rs, h => by
  have h0 := h 0 (by simp)
  simp only [List.getElem_cons_zero] at h0
  rw [rowsE, if_neg (by simp [h0.1]), if_neg (by simp [h0.2])]
  exact rowsE_all fun j hj => by have := h (j + 1) (by simpa using hj); simpa using this
/-- The error of a law. -/
def chkL (l : Lw) : Int :=
 if l.nx.length = 0 then 4 else if 40 < l.nx.length then 1 else if ¬ (1 ≤ l.k ∧ l.k ≤ 4) then 2 else if l.gd.length ≠ l.nx.length then 3 else rowsE l.k l.nx.length l.nx
/-- A law in a variable. -/
structure LawX (W : World) (g t : Nat) (l : Lw) (vn vg : Value) : Prop where
 blk : W.heap[g]? = some (.cells #[vn, vg] t (0, 0))
 nx : SlII W vn l.nx
 gd : SlV W vg (l.gd.map Value.bool)
theorem LawX.below {w w' : World} {g t : Nat} {l : Lw} {vn vg : Value} (h : LawX w g t l vn vg) (hb : Below w.heap.size w w') : LawX w' g t l vn vg :=
 ⟨blk_keep h.blk hb, h.nx.below hb (Nat.le_refl _), h.gd.below hb (Nat.le_refl _)⟩
theorem LawX.law {w : World} {g t : Nat} {l : Lw} {vn vg : Value} (h : LawX w g t l vn vg) : LawA w (.agg #[vn, vg]) l := ⟨_, _, rfl, h.nx, h.gd⟩
theorem LawA.box {w : World} {vn vg : Value} {l : Lw} (h : LawA w (.agg #[vn, vg]) l) (t : Nat) : LawX (w.alloc (.cells #[vn, vg] t)) w.heap.size t l vn vg := by
 have hb := (Below.refl w.heap.size w).alloc (Nat.le_refl _) (.cells #[vn, vg] t)
 obtain ⟨a, b, e, h1, h2⟩ := h.below hb (Nat.le_refl _)
 injection e with e
 have e2 : [vn, vg] = [a, b] := by injection e
 injection e2 with e3 e4
 injection e4 with e5 _
 subst e3 e5
 exact ⟨heap_newI rfl, h1, h2⟩
set_option maxRecDepth 100000 in
theorem none86_any {g : Nat} {l : Lw} {vn vg : Value} {w : World} (h : LawX w g 25 l vn vg) (x : Int) (hl : l.nx.length ≤ 1000) : Calls Try.prog 86 (#[.int .i64 x] ++ #[.pointer (some ⟨g, 0, none⟩)]) w fun e w' => e = .returned (.bool (!btw 0 x ((l.nx.length : Int) - 1))) ∧ Below w.heap.size w w' := by
 obtain ⟨ad, c, rfl, hc⟩ := slII_form h.nx
 have c0 := cell_blk (i := 0) h.blk
 simp only [List.getElem?_toArray, List.getElem?_cons_zero] at c0
 have h64 : (between_any 0 x ((l.nx.length : Int) - 1)) = (between_any 0 x ((l.nx.length : Int) - 1)) := rfl
 have hw : wrap64 ((l.nx.length : Int) - 1) = (l.nx.length : Int) - 1 := IntWalk.wrap64_in _ (by omega)
 clear h
 go_enter Try.func86, Try.ntmps86
 go_wp2_with (go_at_call 64; refine (between_any 0 x ((l.nx.length : Int) - 1) _).mono ?_; rintro e w2 ⟨rfl, rfl⟩)
 go_ret
 exact ⟨rfl, Below.refl _ _⟩
set_option maxRecDepth 100000 in
set_option maxHeartbeats 4000000 in
theorem check_any {v : Value} {l : Lw} {w : World} (h : LawA w v l) : Calls Try.prog 52 #[v] w fun e w' => e = .returned (.int .i64 (chkL l)) ∧ Below w.heap.size w w' := by
 obtain ⟨vn, vg, rfl, hn, hg⟩ := h
 obtain ⟨an, cn, rfl, hcn⟩ := slII_form hn
 obtain ⟨ag, cg, rfl, -⟩ := id hg
 have hX := LawA.box (⟨_, _, rfl, hn, hg⟩ : LawA w (.agg #[.slice an l.nx.length cn, .slice ag (l.gd.map Value.bool).length cg]) l) 25
 rw [List.length_map] at *
 have hB1 := (Below.refl w.heap.size w).alloc (Nat.le_refl _) (.cells #[.slice an l.nx.length cn, .slice ag l.gd.length cg] 25)
 clear hn hg
 go_enter Try.func52, Try.ntmps52
 refine wp_seq_k (fun K hK => ?_)
 have HK := Lib.hid hK; clear hK
 go_wp2
 refine HK.out _ _ ?_; clear HK
 obtain ⟨w1, hw1⟩ : ∃ q, q = w.alloc (.cells #[.slice an l.nx.length cn, .slice ag l.gd.length cg] 25) := ⟨_, rfl⟩
 rw [← hw1] at hX hB1 ⊢
 obtain ⟨g, hgw⟩ : ∃ q, q = w.heap.size := ⟨_, rfl⟩
 rw [← hgw] at hX ⊢
 have HGW := Lib.hid hgw
 clear hw1 hgw
 have c0 := cell_blk (i := 0) hX.blk
 have c1 := cell_blk (i := 1) hX.blk
 simp only [List.getElem?_toArray, List.getElem?_cons_zero, List.getElem?_cons_succ] at c0 c1
 have HX := Lib.hid hX
 have HB1 := Lib.hid hB1
 clear hX hB1
 have FIN : Hid (∀ E : Int, E = chkL l → ∀ w', Below g w w' → (Ending.returned (.int .i64 E) = Ending.returned (.int .i64 (chkL l)) ∧ Below g w w')) := Lib.hid fun E hE w' hw => ⟨by rw [hE], hw⟩
 have HBg : Hid (Below g w w1) := Lib.hid (by rw [HGW.out]; exact HB1.out)
 by_cases h0 : l.nx.length = 0
 ·have HE : Hid ((4 : Int) = chkL l) := Lib.hid (by unfold chkL; rw [if_pos h0])
  have hbb : ((l.nx.length : Int) == 0) = true := by simp [h0]
  clear h0
  go_wp2
  go_ret
  exact FIN.out _ HE.out _ HBg.out
 have hb0 : ((l.nx.length : Int) == 0) = false := by simpa using h0
 by_cases h1 : 40 < l.nx.length
 ·have HE : Hid ((1 : Int) = chkL l) := Lib.hid (by unfold chkL; rw [if_neg h0, if_pos h1])
  have hbb : decide ((40 : Int) < (l.nx.length : Int)) = true := by simp; omega
  clear h0 h1
  go_wp2
  go_ret
  exact FIN.out _ HE.out _ HBg.out
 have hb1 : decide ((40 : Int) < (l.nx.length : Int)) = false := by simp; omega
 have hne : l.nx ≠ [] := fun e => h0 (by rw [e]; rfl)
 have HK5 : Hid (∀ W, Below w1.heap.size w1 W → Calls Try.prog 85 #[.agg #[.slice an l.nx.length cn, .slice ag l.gd.length cg]] W fun e w' => e = .returned (.int .i64 (l.k : Nat)) ∧ Below W.heap.size W w') := Lib.hid fun W hW => crops_any (HX.out.below hW).law hne
 by_cases h2 : 1 ≤ l.k ∧ l.k ≤ 4
 case neg =>
  have HE : Hid ((2 : Int) = chkL l) := Lib.hid (by unfold chkL; rw [if_neg h0, if_neg h1, if_pos h2])
  have hbt : btw 1 (l.k : Nat) 4 = false := by rw [btw_false]; omega
  clear h0 h1 h2
  go_wp2_with (first | (refine wpList_load_blk rfl 25 _ rfl _ rfl HX.out.blk Try.underlying25 rfl size25 rfl ?_) | (go_at_call 85; refine (HK5.out _ (Below.refl _ _)).mono ?_; rintro e w2 ⟨rfl, hb2⟩; have HB2 := Lib.hid hb2; clear hb2) | (go_at_call 64; refine (between_any 1 (l.k : Nat) 4 _).mono ?_; rintro e w3 ⟨rfl, rfl⟩))
  go_ret
  exact FIN.out _ HE.out _ (btr HBg.out HB2.out (by rw [HGW.out]; exact Nat.le_refl _))
 have hbt : btw 1 (l.k : Nat) 4 = true := by rw [btw_true]; omega
 by_cases h3 : l.gd.length = l.nx.length
 case neg =>
  have HE : Hid ((3 : Int) = chkL l) := Lib.hid (by unfold chkL; rw [if_neg h0, if_neg h1, if_neg (fun e => e h2), if_pos h3])
  have hbb : ((l.gd.length : Int) != (l.nx.length : Int)) = true := by simp; omega
  have hbb2 : ((l.gd.length : Int) == (l.nx.length : Int)) = false := by simp; omega
  clear h0 h1 h2 h3
  go_wp2_with (first | (refine wpList_load_blk rfl 25 _ rfl _ rfl HX.out.blk Try.underlying25 rfl size25 rfl ?_) | (go_at_call 85; refine (HK5.out _ (Below.refl _ _)).mono ?_; rintro e w2 ⟨rfl, hb2⟩; have d0 := (hb2.cell (p := ⟨g, 0, none⟩) (lt_blk HX.out.blk)).trans c0; have d1 := (hb2.cell (p := ⟨g, 1, none⟩) (lt_blk HX.out.blk)).trans c1; have HB2 := Lib.hid hb2; clear hb2) | (go_at_call 64; refine (between_any 1 (l.k : Nat) 4 _).mono ?_; rintro e w3 ⟨rfl, rfl⟩))
  go_ret
  exact FIN.out _ HE.out _ (btr HBg.out HB2.out (by rw [HGW.out]; exact Nat.le_refl _))
 have HCE : Hid (chkL l = rowsE l.k l.nx.length l.nx) := Lib.hid (by unfold chkL; rw [if_neg h0, if_neg h1, if_neg (fun e => e h2), if_neg (fun e => e h3)])
 have hbb : ((l.gd.length : Int) != (l.nx.length : Int)) = false := by simp; omega
 have hbb2 : ((l.gd.length : Int) == (l.nx.length : Int)) = true := by simp; omega
 have HN := Lib.hid (And.intro h0 (And.intro h1 (And.intro h2 h3)))
 clear h0 h1 h2 h3
 refine wp_seq_k (fun K hK => ?_)
 have HK := Lib.hid hK; clear hK
 go_wp2_with (first | (refine wpList_load_blk rfl 25 _ rfl _ rfl HX.out.blk Try.underlying25 rfl size25 rfl ?_) | (go_at_call 85; refine (HK5.out _ (Below.refl _ _)).mono ?_; rintro e w2 ⟨rfl, hb2⟩; have d0 := (hb2.cell (p := ⟨g, 0, none⟩) (lt_blk HX.out.blk)).trans c0; have d1 := (hb2.cell (p := ⟨g, 1, none⟩) (lt_blk HX.out.blk)).trans c1; have HB2 := Lib.hid hb2; clear hb2) | (go_at_call 64; refine (between_any 1 (l.k : Nat) 4 _).mono ?_; rintro e w3 ⟨rfl, rfl⟩))
 refine HK.out _ _ ?_; clear HK
 clear d1 c0 c1
 have hX2 := HX.out.below HB2.out
 have HX2 := Lib.hid hX2
 have HBw : Hid (Below g w w2) := Lib.hid (btr HBg.out HB2.out (by rw [HGW.out]; exact Nat.le_refl _))
 have HK6 : Hid (∀ W, Below w2.heap.size w2 W → Calls Try.prog 85 #[.agg #[.slice an l.nx.length cn, .slice ag l.gd.length cg]] W fun e w' => e = .returned (.int .i64 (l.k : Nat)) ∧ Below W.heap.size W w') := Lib.hid fun W hW => crops_any (HX2.out.below hW).law hne
 have hgn : g < w2.heap.size := lt_blk hX2.blk
 have hln : l.nx.length ≤ 40 := by have := HN.out; omega
 clear hX2 hb0 hb1 hbb hbb2 hbt
 go_wp2
 go_loopw [33] (fun i wr => ∃ k : Nat, k ≤ l.nx.length ∧ i = .int .i64 k ∧ Hid (∀ j (h : j < k) (h2 : j < l.nx.length), l.nx[j].length = l.k ∧ l.nx[j].any (fun s => !btw 0 s ((l.nx.length : Int) - 1)) = false) ∧ Below w2.heap.size w2 wr) (fun i _ => l.nx.length - (intOf i).toNat)
 case atStart => exact ⟨0, Nat.zero_le _, rfl, Lib.hid fun _ h => by omega, Below.refl _ _⟩
 case round =>
  clear d0
  obtain ⟨k, hk, rfl, HNO, hb⟩ := hrel
  have hX := HX2.out.below hb
  by_cases hkn : k < l.nx.length
  ·have hki : (k : Int) < (l.nx.length : Int) := by omega
   obtain ⟨b, off, a, cc, rfl, hbl, hcell, hrow⟩ := hX.nx.row hkn
   obtain ⟨r, hr⟩ : ∃ r, r = l.nx[k] := ⟨_, rfl⟩
   rw [← hr] at hcell hrow
   have HRr := Lib.hid hr
   have HROW := Lib.hid hrow
   have HXr := Lib.hid hX
   have HXB := Lib.hid hX.blk
   clear hr hrow hX hbl
   by_cases hkk : r.length = l.k
   case neg =>
    have HE : Hid ((3 : Int) = chkL l) := Lib.hid (by rw [HCE.out, rowsE_at hkn (fun j h => HNO.out j h (by omega)), List.drop_eq_getElem_cons hkn, rowsE, if_pos (by rw [← HRr.out]; exact hkk)])
    have hbq : ((r.length : Int) != (l.k : Int)) = true := by simp; omega
    have hbq2 : ((r.length : Int) == (l.k : Int)) = false := by simp; omega
    clear hkk
    go_wp2_with (first | (refine wpList_load_blk rfl 25 _ rfl _ rfl HXB.out Try.underlying25 rfl size25 rfl ?_) | (go_at_call 85; refine (HK6.out _ hb).mono ?_; rintro e w4 ⟨rfl, hb4⟩; have HB4 := Lib.hid hb4; clear hb4))
    go_ret
    exact FIN.out _ HE.out _ (HBw.out.trans ((btr hb HB4.out (Nat.le_refl _)).mono (by omega)))
   have hbq : ((r.length : Int) != (l.k : Int)) = false := by simp; omega
   have hbq2 : ((r.length : Int) == (l.k : Int)) = true := by simp; omega
   have HKK := Lib.hid hkk
   clear hkk
   obtain ⟨bad, hbad⟩ : ∃ q, q = r.any (fun s => !btw 0 s ((l.nx.length : Int) - 1)) := ⟨_, rfl⟩
   have HC87 : Hid (∀ W, Below wr.heap.size wr W → Calls Try.prog 87 #[.slice a r.length cc, .func (.func 86) #[] #[.pointer (some ⟨g, 0, none⟩)]] W fun e w' => e = .returned (.bool bad) ∧ Below W.heap.size W w') := Lib.hid fun W hW => by
    rw [hbad]
    exact cont87_any _ r 86 _ _ W (HROW.out.below hW (Nat.le_refl _)) (enters_of Try.func86 (by kernel_rfl) rfl) fun x _ U hU => none86_any ((HXr.out.below hW).below hU) x (by omega)
   have HBAD := Lib.hid hbad
   clear hbad
   cases bad
   ·go_wp2_with (first | (refine wpList_load_blk rfl 25 _ rfl _ rfl HXB.out Try.underlying25 rfl size25 rfl ?_) | (go_at_call 85; refine (HK6.out _ hb).mono ?_; rintro e w4 ⟨rfl, hb4⟩; have HB4 := Lib.hid hb4; clear hb4) | (go_at_call 87; refine (HC87.out _ HB4.out).mono ?_; rintro e w5 ⟨rfl, hb5⟩; have HB5 := Lib.hid hb5; clear hb5))
    go_roundw
    case rel => exact ⟨k + 1, by omega, by go_num, Lib.hid fun j h1 h2 => by
     rcases (show j < k ∨ j = k by omega) with h | rfl
     ·exact HNO.out j h h2
     ·rw [← HRr.out]; exact ⟨HKK.out, HBAD.out.symm⟩, btr (btr hb HB4.out (Nat.le_refl _)) HB5.out (Nat.le_refl _)⟩
    case measure => simp [intOf]; omega
   ·have HE : Hid ((5 : Int) = chkL l) := Lib.hid (by rw [HCE.out, rowsE_at hkn (fun j h => HNO.out j h (by omega)), List.drop_eq_getElem_cons hkn, rowsE, if_neg (by rw [← HRr.out]; simp [HKK.out]), if_pos (by rw [← HRr.out]; exact HBAD.out.symm)])
    go_wp2_with (first | (refine wpList_load_blk rfl 25 _ rfl _ rfl HXB.out Try.underlying25 rfl size25 rfl ?_) | (go_at_call 85; refine (HK6.out _ hb).mono ?_; rintro e w4 ⟨rfl, hb4⟩; have HB4 := Lib.hid hb4; clear hb4) | (go_at_call 87; refine (HC87.out _ HB4.out).mono ?_; rintro e w5 ⟨rfl, hb5⟩; have HB5 := Lib.hid hb5; clear hb5))
    go_ret
    exact FIN.out _ HE.out _ (HBw.out.trans ((btr (btr hb HB4.out (Nat.le_refl _)) HB5.out (Nat.le_refl _)).mono (by omega)))
  ·have HE : Hid ((0 : Int) = chkL l) := Lib.hid (by rw [HCE.out, rowsE_all fun j h => HNO.out j (by omega) h])
   have hki : ¬ (k : Int) < (l.nx.length : Int) := by omega
   clear hX
   go_wp2
   go_ret
   exact FIN.out _ HE.out _ (HBw.out.trans (hb.mono (by omega)))
end Ytnjgglnpmhjmiaa
end Go.Proofs
/- Laws of rotation: the states of a law. -/
open Go Go.RowKit Go.YtnjgglnpmhjmiaaIt
open Rest
namespace Go.Proofs
namespace Ytnjgglnpmhjmiaa
/-- A valid law. -/
structure Lw.Ok (l : Lw) : Prop where
 n1 : 1 ≤ l.nx.length
 n40 : l.nx.length ≤ 40
 k1 : 1 ≤ l.k
 k4 : l.k ≤ 4
 gd : l.gd.length = l.nx.length
 row : ∀ i (h : i < l.nx.length), l.nx[i].length = l.k
 ent : ∀ i (h : i < l.nx.length), ∀ s ∈ l.nx[i], 0 ≤ s ∧ s < l.nx.length
theorem rowsE_zero {k n : Nat} : ∀ {rows : List (List Int)}, rowsE k n rows = 0 → ∀ r ∈ rows, r.length = k ∧ ∀ s ∈ r, 0 ≤ s ∧ s < n
 | [], _, r, h => by cases h
 | r :: rs, h, q, hq => by
  rw [rowsE] at h
  split at h
  ·omega
  ·rename_i h1
   split at h
   ·omega
   ·rename_i h2
    rcases List.mem_cons.1 hq with rfl | hq
    ·refine ⟨by omega, fun s hs => ?_⟩
     have : ¬ ((!btw 0 s ((n : Int) - 1)) = true) := fun e => h2 (List.any_eq_true.2 ⟨s, hs, e⟩)
     have : btw 0 s ((n : Int) - 1) = true := by simpa using this
     rw [btw_true] at this
     omega
    ·exact rowsE_zero h q hq
theorem chkL_ok {l : Lw} (h : chkL l = 0) : l.Ok := by
 unfold chkL at h
 split at h; · omega
 split at h; · omega
 split at h; · omega
 split at h; · omega
 rename_i h0 h1 h2 h3
 have hr := rowsE_zero h
 refine ⟨by omega, by omega, by omega, by omega, by omega, fun i hi => (hr _ (List.getElem_mem hi)).1, fun i hi s hs => (hr _ (List.getElem_mem hi)).2 s hs⟩
theorem rowsE_of {k n : Nat} {rows : List (List Int)} (h : ∀ r ∈ rows, r.length = k ∧ ∀ s ∈ r, 0 ≤ s ∧ s < (n : Int)) : rowsE k n rows = 0 :=
 rowsE_all fun j hj => by
  obtain ⟨h1, h2⟩ := h _ (List.getElem_mem hj)
  refine ⟨h1, ?_⟩
  rw [List.any_eq_false]
  intro s hs
  have := h2 s hs
  have : btw 0 s ((n : Int) - 1) = true := by rw [btw_true]; omega
  simp [this]
theorem ok_chkL {l : Lw} (h : l.Ok) : chkL l = 0 := by
 have h1 := h.n1
 have h2 := h.n40
 have h3 := h.k1
 have h4 := h.k4
 unfold chkL
 rw [if_neg (by omega), if_neg (by omega), if_neg (by omega), if_neg (by have := h.gd; omega)]
 refine rowsE_of fun r hr => ?_
 obtain ⟨i, hi, rfl⟩ := List.getElem_of_mem hr
 exact ⟨h.row i hi, h.ent i hi⟩
def Lw.at (l : Lw) (s : Int) (c : Nat) : Int := (l.nx.getD s.toNat []).getD c 0
def Lw.good (l : Lw) (s : Int) : Bool := l.gd.getD s.toNat false
/-- The states of a law. -/
def sysL (l : Lw) : RSys Int := ⟨l.k, 0, l.at, l.good⟩
def Lw.st (l : Lw) (s : Int) : Prop := 0 ≤ s ∧ s < l.nx.length
theorem Lw.st.nat {l : Lw} {s : Int} (h : l.st s) : ∃ m : Nat, s = (m : Int) ∧ m < l.nx.length := ⟨s.toNat, by have := h.1; omega, by have := h.1; have := h.2; omega⟩
theorem Lw.Ok.at_eq {l : Lw} (h : l.Ok) {m : Nat} (hm : m < l.nx.length) {c : Nat} (hc : c < l.k) : ∃ h2 : c < (l.nx[m]).length, l.at (m : Int) c = (l.nx[m])[c] := by
 have h2 : c < (l.nx[m]).length := by rw [h.row _ hm]; exact hc
 refine ⟨h2, ?_⟩
 unfold Lw.at
 simp [List.getElem?_eq_getElem hm, List.getElem?_eq_getElem h2]
theorem Lw.Ok.cl {l : Lw} (h : l.Ok) {s : Int} (hs : l.st s) {c : Nat} (hc : c < l.k) : l.st (l.at s c) := by
 obtain ⟨m, rfl, hm⟩ := hs.nat
 obtain ⟨h2, e⟩ := h.at_eq hm hc
 rw [e]
 exact h.ent _ hm _ (List.getElem_mem h2)
theorem Lw.Ok.st0 {l : Lw} (h : l.Ok) : l.st 0 := ⟨by omega, by have := h.n1; omega⟩
theorem Lw.Ok.ne {l : Lw} (h : l.Ok) : l.nx ≠ [] := fun e => by have := h.n1; rw [e] at this; simp at this
theorem slV_bool {w : World} {ad : Option Addr} {n c : Nat} {bs : List Bool} (h : SlV w (.slice ad n c) (bs.map Value.bool)) {i : Nat} (hi : i < bs.length) : ∃ b off, ad = some ⟨b, off, none⟩ ∧ b < w.heap.size ∧ w.cell? ⟨b, off + i, none⟩ = some (.bool bs[i]) := by
 obtain ⟨ad', cap, e, _, hc, hh⟩ := h
 injection e with e1 e2 e3
 subst e1
 obtain ⟨b, off, rfl, hb, hcell⟩ := hh (by rw [List.length_map]; omega)
 refine ⟨b, off, rfl, hb, ?_⟩
 rw [hcell i (by rw [List.length_map]; exact hi), List.getElem_map]
set_option maxRecDepth 100000 in
theorem next91_any {g : Nat} {l : Lw} {vn vg : Value} {w : World} (ho : l.Ok) (h : LawX w g 25 l vn vg) {s : Int} {c : Nat} (hs : l.st s) (hc : c < l.k) : Calls Try.prog 91 (#[.int .i64 s, .int .i64 c] ++ #[.pointer (some ⟨g, 0, none⟩)]) w fun e w' => e = .returned (.int .i64 (l.at s c)) ∧ Below w.heap.size w w' := by
 obtain ⟨an, cn, rfl, hcn⟩ := slII_form h.nx
 obtain ⟨m, rfl, h1⟩ := hs.nat
 obtain ⟨h2, e⟩ := ho.at_eq h1 hc
 obtain ⟨b, off, a, cc, rfl, hb, hcell, hrow⟩ := h.nx.row h1
 obtain ⟨ad', cap', e', -, -, hcc⟩ := hrow
 injection e' with e1 e2 e3
 subst e1
 obtain ⟨b2, off2, rfl, hb2, hcell2⟩ := hcc (by omega)
 have c1 := hcell2 c h2
 rw [at0_lt h2, ← e] at c1
 have c0 := cell_blk (i := 0) h.blk
 simp only [List.getElem?_toArray, List.getElem?_cons_zero] at c0
 have hsl : (m : Int) < (l.nx.length : Int) := by omega
 have hcl : (c : Int) < ((l.nx[m]).length : Int) := by omega
 obtain ⟨rl, hrl⟩ : ∃ q, q = (l.nx[m]).length := ⟨_, rfl⟩
 rw [← hrl] at hcell hcl
 obtain ⟨rv, hrv⟩ : ∃ q, q = l.at (m : Int) c := ⟨_, rfl⟩
 rw [← hrv] at c1 ⊢
 clear hcc hcell2 e e2 e3 h hrv hs hc ho h2
 clear hrl
 go_enter Try.func91, Try.ntmps91
 go_wp2
 go_ret
 exact ⟨rfl, Below.refl _ _⟩
set_option maxRecDepth 100000 in
theorem good92_any {g : Nat} {l : Lw} {vn vg : Value} {w : World} (ho : l.Ok) (h : LawX w g 25 l vn vg) {s : Int} (hs : l.st s) : Calls Try.prog 92 (#[.int .i64 s] ++ #[.pointer (some ⟨g, 0, none⟩)]) w fun e w' => e = .returned (.bool (l.good s)) ∧ Below w.heap.size w w' := by
 have hg := h.gd
 obtain ⟨ag, cg, rfl, -⟩ := id hg
 obtain ⟨m, hm⟩ : ∃ m : Nat, s = (m : Int) := ⟨s.toNat, by have := hs.1; omega⟩
 subst hm
 have hml : m < l.gd.length := by have := hs.2; have := ho.gd; omega
 obtain ⟨b, off, rfl, hb, hcell⟩ := slV_bool hg hml
 have e : l.good (m : Int) = l.gd[m] := by
  unfold Lw.good
  rw [show (m : Int).toNat = m from rfl, List.getD_eq_getElem?_getD, List.getElem?_eq_getElem hml, Option.getD_some]
 rw [← e] at hcell
 obtain ⟨rv, hrv⟩ : ∃ q, q = l.good (m : Int) := ⟨_, rfl⟩
 rw [← hrv] at hcell ⊢
 have c0 := cell_blk (i := 1) h.blk
 simp only [List.getElem?_toArray, List.getElem?_cons_zero, List.getElem?_cons_succ, List.length_map] at c0
 have hsl : (m : Int) < (l.gd.length : Int) := by omega
 clear h hg hrv e ho hs hml
 go_enter Try.func92, Try.ntmps92
 go_wp2
 go_ret
 exact ⟨rfl, Below.refl _ _⟩
theorem LawX.sys {W : World} {g : Nat} {l : Lw} {vn vg : Value} (ho : l.Ok) (h : LawX W g 25 l vn vg) : SysM (sysL l) l.st 91 92 #[.pointer (some ⟨g, 0, none⟩)] #[.pointer (some ⟨g, 0, none⟩)] W.heap.size W :=
 ⟨ho.k1, ho.k4, ho.st0, fun s c hs hc => ho.cl hs hc, fun s hs => by have := hs.1; have := hs.2; have := ho.n40; omega, fun U hU s c hs hc => next91_any ho (h.below hU) hs hc, fun U hU s hs => good92_any ho (h.below hU) hs⟩
theorem enter91 : ∀ args w, (callFunc 91 args).run Try.prog w = .ok (.enter 91 args) w := enters_of Try.func91 (by kernel_rfl) rfl
theorem enter92 : ∀ args w, (callFunc 92 args).run Try.prog w = .ok (.enter 92 args) w := enters_of Try.func92 (by kernel_rfl) rfl
/-- All states of a law are among its numbers. -/
theorem Lw.Ok.walk {l : Lw} (h : l.Ok) : ∃ L, Walk (sysL l) L ∧ L.length ≤ 40 ∧ ∀ p ∈ L, l.st p.1 := by
 have hmem : ∀ s, s ∈ nI (List.range l.nx.length) ↔ l.st s := fun s => by
  simp only [List.mem_map, List.mem_range]
  exact ⟨fun ⟨i, hi, e⟩ => by subst e; exact ⟨by omega, by omega⟩, fun hs => ⟨s.toNat, by have := hs.1; have := hs.2; omega, by have := hs.1; omega⟩⟩
 obtain ⟨L, h1, h2, h3⟩ := walk_exists (sysL l) (nI (List.range l.nx.length)) ((hmem _).2 h.st0) (fun s hs c hc => (hmem _).2 (h.cl ((hmem s).1 hs) hc))
 refine ⟨L, h1, ?_, fun p hp => (hmem _).1 (h3 p hp)⟩
 rw [List.length_map, List.length_range] at h2
 exact Nat.le_trans h2 h.n40
set_option maxRecDepth 100000 in
set_option maxHeartbeats 1000000 in
theorem system_any {v : Value} {l : Lw} {w : World} (h : LawA w v l) (h0 : l.nx ≠ []) : Calls Try.prog 66 #[v] w fun e w' => ∃ g vn vg, e = .returned (.agg (sysV (sysL l) 91 92 #[.pointer (some ⟨g, 0, none⟩)] #[.pointer (some ⟨g, 0, none⟩)])) ∧ LawX w' g 25 l vn vg ∧ w.heap.size ≤ g ∧ Below w.heap.size w w' := by
 have H85 := Lib.hid (fun W (hW : Below w.heap.size w W) => crops_any (h.below hW (Nat.le_refl _)) h0)
 obtain ⟨vn, vg, rfl, hn, hg⟩ := h
 have hX := LawA.box (⟨_, _, rfl, hn, hg⟩ : LawA w (.agg #[vn, vg]) l) 25
 obtain ⟨g, hgw⟩ : ∃ q, q = w.heap.size := ⟨_, rfl⟩
 have hB1 := (Below.refl w.heap.size w).alloc (Nat.le_refl _) (.cells #[vn, vg] 25)
 obtain ⟨w1, hw1⟩ : ∃ q, q = w.alloc (.cells #[vn, vg] 25) := ⟨_, rfl⟩
 have hz1 : w1.heap.size = w.heap.size + 1 := by rw [hw1]; exact World.size_alloc ..
 rw [← hw1] at hX hB1
 go_enter Try.func66, Try.ntmps66
 refine wp_seq_k (fun K hK => ?_)
 have HK := Lib.hid hK; clear hK
 have HH := Lib.hid (And.intro hgw (And.intro hX (And.intro hB1 hz1)))
 have HW1 := Lib.hid hw1
 clear hw1 hgw hX hB1 hz1
 go_wp2
 refine HK.out _ _ ?_; clear HK
 rw [← HW1.out]
 obtain ⟨hgw, hX, hB1, hz1⟩ := HH.out
 have hb2 := (Below.refl w1.heap.size w1).alloc (Nat.le_refl _) (.cells #[.int .i64 0, .int .i64 0, .nilFunc, .nilFunc] 96)
 have hX2 := hX.below hb2
 have hb3 : w.heap.size + 1 = w1.heap.size := hz1.symm
 have hz2 : (w1.alloc (.cells #[.int .i64 0, .int .i64 0, .nilFunc, .nilFunc] 96)).heap.size = w1.heap.size + 1 := World.size_alloc ..
 have b2 : (w1.alloc (.cells #[.int .i64 0, .int .i64 0, .nilFunc, .nilFunc] 96)).heap[w1.heap.size]? = some (.cells #[.int .i64 0, .int .i64 0, .nilFunc, .nilFunc] 96 (0, 0)) := heap_newI rfl
 obtain ⟨w2, hw2⟩ : ∃ q, q = w1.alloc (.cells #[.int .i64 0, .int .i64 0, .nilFunc, .nilFunc] 96) := ⟨_, rfl⟩
 rw [← hw2] at hb2 hX2 b2 hz2 ⊢
 rw [hb3]
 obtain ⟨g2, hg2⟩ : ∃ q, q = w1.heap.size := ⟨_, rfl⟩
 rw [← hg2] at b2 ⊢
 rw [← hgw] at hX2 ⊢
 have hB2 : Below w.heap.size w w2 := btr hB1 hb2 (Nat.le_refl _)
 have H85' := H85.out w2 hB2
 have HX2 := Lib.hid hX2.blk
 have HH2 := Lib.hid (And.intro hX2 (And.intro hB2 (And.intro b2 (And.intro hgw (And.intro hg2 hz1)))))
 clear hX2 hw2 hb3 hz2 hgw hX hB1 hz1 hb2 b2 hg2 hB2
 go_wp2_with (first | (refine wpList_load_blk rfl 25 _ rfl _ rfl HX2.out Try.underlying25 rfl size25 rfl ?_) | (go_at_call 85; refine H85'.mono ?_; rintro e w3 ⟨rfl, hb3⟩; have b3 := blk_keep HH2.out.2.2.1 hb3; have HB3 := Lib.hid hb3; clear hb3) | (refine wpList_store_blk rfl 96 _ _ rfl _ rfl rfl b3 size96 rfl rfl (by simp [Value.oneCell']) ?_))
 obtain ⟨hX2, hB2, b2, hgw, hg2, hz1⟩ := HH2.out
 have hb3 := HB3.out
 have hBF : Below w.heap.size w (w3.putObj g2 (.cells #[.int .i64 (l.k : Nat), .int .i64 0, .func (.func 91) #[] #[.pointer (some ⟨g, 0, none⟩)], .func (.func 92) #[] #[.pointer (some ⟨g, 0, none⟩)]] 96)) := below_putObj (btr hB2 hb3 (Nat.le_refl _)) (by omega)
 have hBg := hBF
 rw [← hgw] at hBg
 refine bodyPost_ret (results_blk rfl _ _ _ rfl (World.putObj_heap_same (lt_blk b3)) Try.underlying96 rfl size96 rfl) rfl ⟨g, vn, vg, rfl, ⟨?_, hn.below hBF (Nat.le_refl _), hg.below hBF (Nat.le_refl _)⟩, by omega, hBg⟩
 exact (World.putObj_heap_other (by omega)).trans (blk_keep hX2.blk hb3)
end Ytnjgglnpmhjmiaa
end Go.Proofs
/- Laws of rotation: Least. -/
open Go Go.RowKit Go.YtnjgglnpmhjmiaaIt
open Rest
namespace Go.Proofs
namespace Ytnjgglnpmhjmiaa
open Classical in
/-- The least table of all that g allows. -/
noncomputable def theT (k : Nat) (g : List Nat → Bool) : Tab := if h : ∃ T, LeastT k g T then h.choose else ⟨[], [], []⟩
theorem theT_eq {k : Nat} {g : List Nat → Bool} {T : Tab} (h : LeastT k g T) : theT k g = T := by
 unfold theT
 have hx : ∃ T, LeastT k g T := ⟨T, h⟩
 rw [dif_pos hx]
 exact hx.choose_spec.uniq h
def tabL (T : Tab) : Lw := ⟨T.nx.map nI, T.gd⟩
/-- A result: nothing, if there is an error. -/
def resL (l : Lw) (E : Int) : Lw := if E = 0 then l else ⟨[], []⟩
noncomputable def leastL (l : Lw) : Lw := tabL (theT l.k (Fut (sysL l) 0))
theorem lawA_nil (w : World) : LawA w (.agg #[.slice none 0 0, .slice none 0 0]) ⟨[], []⟩ := ⟨_, _, rfl, ⟨[], ⟨none, 0, rfl, by simp, by simp, fun h => by simp at h⟩, rfl, fun i h => by simp at h⟩, ⟨none, 0, rfl, by simp, by simp, fun h => by simp at h⟩⟩
theorem LawA.one {w : World} {a b : Value} {l : Lw} (h : LawA w (.agg #[a, b]) l) : (#[a, b] : Array Value).all (·.oneCell') = true := by
 obtain ⟨vn, vg, e, h1, h2⟩ := h
 injection e with e
 have e2 : [a, b] = [vn, vg] := by injection e
 injection e2 with e3 e4
 injection e4 with e5 _
 subst e3 e5
 obtain ⟨an, cn, rfl, -⟩ := slII_form h1
 obtain ⟨ag, cg, rfl, -⟩ := h2
 simp [Value.oneCell']
theorem TabN.law {w w' W : World} {vn vg vst : Value} {T : Tab} (h : TabN w w' vn vg vst T) (hz : w'.heap.size ≤ W.heap.size) (hk : ∀ i, w.heap.size ≤ i → i < w'.heap.size → W.heap[i]? = w'.heap[i]?) : LawA W (.agg #[vn, vg]) (tabL T) :=
 ⟨_, _, rfl, (h W hz hk).1, (h W hz hk).2.1⟩
set_option maxRecDepth 100000 in
set_option maxHeartbeats 2000000 in
theorem least50_any {v : Value} {l : Lw} {w : World} (h : LawA w v l) : Calls Try.prog 50 #[v] w fun e w' => ∃ vn vg, e = .returned (.tuple #[.agg #[vn, vg], .int .i64 (chkL l)]) ∧ LawA w' (.agg #[vn, vg]) (resL (leastL l) (chkL l)) ∧ Below w.heap.size w w' := by
 have H0 := Lib.hid h
 obtain ⟨vn, vg, rfl, hn, hg⟩ := h
 have H52 := Lib.hid (fun W (hW : Below w.heap.size w W) => check_any (H0.out.below hW (Nat.le_refl _)))
 clear hn hg
 go_enter Try.func50, Try.ntmps50
 refine wp_seq_k (fun K hK => ?_)
 have HK := Lib.hid hK; clear hK
 go_wp2
 refine HK.out _ _ ?_; clear HK
 obtain ⟨b1, b2, hB, hz⟩ := blk2 (w := w) (a := .cells #[vn, vg] 25) (b := .cells #[.slice none 0 0, .slice none 0 0] 25) rfl
 obtain ⟨w2, hw2⟩ : ∃ q, q = (w.alloc (.cells #[vn, vg] 25)).alloc (.cells #[.slice none 0 0, .slice none 0 0] 25) := ⟨_, rfl⟩
 rw [← hw2] at b1 b2 hB hz ⊢
 clear hw2
 obtain ⟨g1, hg1⟩ : ∃ q, q = w.heap.size := ⟨_, rfl⟩
 obtain ⟨g2, hg2⟩ : ∃ q, q = w.heap.size + 1 := ⟨_, rfl⟩
 rw [← hg1] at b1
 rw [← hg2] at b2
 rw [← hg2, ← hg1]
 have HH := Lib.hid (And.intro b1 (And.intro b2 (And.intro hB (And.intro hg1 (And.intro hg2 hz)))))
 have HB1 := Lib.hid b1
 have HC := Lib.hid (H52.out w2 hB)
 clear b1 b2 hB hg1 hg2 hz
 obtain ⟨E, hE⟩ : ∃ E, E = chkL l := ⟨_, rfl⟩
 rw [← hE] at HC ⊢
 have HE := Lib.hid hE
 clear hE
 by_cases h0 : E = 0
 case neg =>
  have hb0 : (E != 0) = true := by simpa using h0
  have hb0' : (E == 0) = false := by simpa using h0
  have H0E := Lib.hid h0
  clear h0
  go_wp2_with (first | (refine wpList_load_blk rfl 25 _ rfl _ rfl HB1.out Try.underlying25 rfl size25 rfl ?_) | (go_at_call 52; refine HC.out.mono ?_; rintro e w3 ⟨rfl, hb3⟩; have b3 := blk_keep HH.out.2.1 hb3; have HB3 := Lib.hid hb3; clear hb3) | (refine wpList_store_blk rfl 25 _ _ rfl _ rfl rfl b3 size25 rfl rfl (by simp [Value.oneCell']) ?_))
  obtain ⟨c1, c2, hB, hg1, hg2, hz⟩ := HH.out
  refine bodyPost_ret (results_agg_tmp rfl _ _ g2 rfl (World.putObj_heap_same (lt_blk b3)) Try.underlying25 rfl size25 rfl) rfl ⟨_, _, rfl, ?_, ?_⟩
  ·unfold resL; rw [if_neg H0E.out]; exact lawA_nil _
  ·rw [hg1]; exact below_putObj (btr hB HB3.out (Nat.le_refl _)) (by omega)
 have hok : l.Ok := chkL_ok (by rw [← HE.out]; exact h0)
 have HOK := Lib.hid hok
 subst h0
 clear hok
 obtain ⟨L, hL, hlen, -⟩ := HOK.out.walk
 have HL := Lib.hid (And.intro hL (show L.length ≤ 5000 by omega))
 clear hL hlen
 have H66 := Lib.hid (fun W (hW : Below w.heap.size w W) => system_any (H0.out.below hW (Nat.le_refl _)) HOK.out.ne)
 refine wp_seq_k (fun K hK => ?_)
 have HK := Lib.hid hK; clear hK
 go_wp2_with (first | (refine wpList_load_blk rfl 25 _ rfl _ rfl HB1.out Try.underlying25 rfl size25 rfl ?_) | (go_at_call 52; refine HC.out.mono ?_; rintro e w3 ⟨rfl, hb3⟩; have HB3 := Lib.hid hb3; clear hb3))
 refine HK.out _ _ ?_; clear HK
 obtain ⟨c1, c2, hB, hg1, hg2, hz⟩ := HH.out
 have d1 := blk_keep c1 HB3.out
 have d2 := blk_keep c2 HB3.out
 have HB4 := Lib.hid (btr hB HB3.out (by omega))
 have HD := Lib.hid (And.intro d1 (And.intro d2 (And.intro hg1 (And.intro hg2 hz))))
 have HD1 := Lib.hid d1
 clear c1 c2 hB hg1 hg2 hz d1 d2 HB3 HC HH HB1
 refine wp_seq_k (fun K hK => ?_)
 have HK := Lib.hid hK; clear hK
 go_wp2_with (first | (refine wpList_load_blk rfl 25 _ rfl _ rfl HD1.out Try.underlying25 rfl size25 rfl ?_) | (go_at_call 66; refine (H66.out _ HB4.out).mono ?_; rintro e w4 ⟨g, un, ug, rfl, hX, hgg, hb4⟩; have H74 := Lib.hid (least_any (hX.sys HOK.out) (Nat.le_refl _) enter91 enter92 HL.out.1 HL.out.2 w4 (Below.refl _ _)); have HX4 := Lib.hid (And.intro hgg hb4); clear hX hgg hb4) | (go_at_call 74; refine H74.out.mono ?_; rintro e w5 ⟨tn, tg, ts, T, hT, rfl, hb5, hN⟩; have H5 := Lib.hid (And.intro hT (And.intro hb5 hN)); clear hT hb5 hN) | (refine wpList_store_blk rfl 25 _ _ rfl _ rfl rfl (heap_newI rfl) size25 rfl rfl (H5.out.2.2.law (Nat.le_refl _) (fun _ _ _ => rfl)).one ?_))
 refine HK.out _ _ ?_; clear HK
 obtain ⟨hT, hb5, hN⟩ := H5.out
 obtain ⟨hgg, hb4⟩ := HX4.out
 obtain ⟨d1, d2, hg1, hg2, hz⟩ := HD.out
 obtain ⟨W, hW⟩ : ∃ q, q = (w5.alloc (.cells #[.slice none 0 0, .slice none 0 0] 25)).putObj w5.heap.size (.cells #[tn, tg] 25) := ⟨_, rfl⟩
 have hbW : Below w5.heap.size w5 W := by rw [hW]; exact below_putObj ((Below.refl _ _).alloc (Nat.le_refl _) _) (Nat.le_refl _)
 have bW : W.heap[w5.heap.size]? = some (.cells #[tn, tg] 25 (0, 0)) := by rw [hW]; exact World.putObj_heap_same (by rw [World.size_alloc]; omega)
 have e2 : W.heap[g2]? = some (.cells #[.slice none 0 0, .slice none 0 0] 25 (0, 0)) := blk_keep (blk_keep (blk_keep d2 hb4) hb5) hbW
 rw [← hW]
 obtain ⟨g5, hg5⟩ : ∃ q, q = w5.heap.size := ⟨_, rfl⟩
 rw [← hg5] at bW ⊢
 have hone := (hN.law (Nat.le_refl _) (fun _ _ _ => rfl)).one
 have hgz2 := lt_blk d2
 have hz4 := hb4.size
 have hz5 := hb5.size
 have HF := Lib.hid (And.intro hbW (And.intro hg5 (And.intro hg1 (And.intro hg2 (And.intro hT (And.intro hb5 (And.intro hb4 (And.intro hN (And.intro hgz2 (And.intro hz4 hz5))))))))))
 clear hW hbW hg5 hg1 hg2 hT hb5 hb4 hN hgz2 hz4 hz5 d1 d2 hz HX4 H5 H74 HD
 go_wp2_with (first | (refine wpList_load_blk rfl 25 _ rfl _ rfl bW Try.underlying25 rfl size25 rfl ?_) | (refine wpList_store_blk rfl 25 _ _ rfl _ rfl rfl e2 size25 rfl rfl hone ?_))
 obtain ⟨hbW, hg5, hg1, hg2, hT, hb5, hb4, hN, hgz2, hz4, hz5⟩ := HF.out
 have hzW := hbW.size
 refine bodyPost_ret (results_agg_tmp rfl _ _ g2 rfl (World.putObj_heap_same (lt_blk e2)) Try.underlying25 rfl size25 rfl) rfl ⟨_, _, rfl, ?_, ?_⟩
 ·unfold resL leastL
  rw [if_pos rfl, show theT l.k (Fut (sysL l) 0) = T from theT_eq hT]
  refine hN.law (by rw [World.putObj_size]; exact hzW) fun i h1 h2 => (World.putObj_heap_other (by omega)).trans (hbW.block i h2)
 ·rw [hg1]; exact below_putObj (btr (btr (btr HB4.out hb4 (Nat.le_refl _)) hb5 (Nat.le_refl _)) hbW (Nat.le_refl _)) (by omega)
end Ytnjgglnpmhjmiaa
end Go.Proofs
