/- Laws of rotation: Count. -/
import Derived.Test.YtnjgglnpmhjmiaaB8
open Go Go.RowKit Go.YtnjgglnpmhjmiaaIt
open Rest
namespace Go.Proofs
namespace Ytnjgglnpmhjmiaa
/-- A row of numbers that is changed in place. -/
def rowX (n : Nat) (g : Nat → Int) : List Value := (List.range n).map fun v => .int .i64 (g v)
theorem rowX_len (n : Nat) (g : Nat → Int) : (rowX n g).length = n := by simp [rowX]
theorem rowX_get {n i : Nat} (g : Nat → Int) (h : i < n) : (rowX n g)[i]? = some (.int .i64 (g i)) := by simp [rowX, h]
theorem rowX_set {n t : Nat} (g g' : Nat → Int) (z : Int) (h : ∀ v, v < n → g' v = if v = t then z else g v) : (rowX n g).toArray.setIfInBounds t (.int .i64 z) = (rowX n g').toArray := by
 apply Array.toList_inj.1
 rw [Array.toList_setIfInBounds]
 show (rowX n g).set t _ = rowX n g'
 apply List.ext_getElem?
 intro i
 rw [List.getElem?_set, rowX_len]
 by_cases hi : i < n
 ·rw [rowX_get g hi, rowX_get g' hi, h i hi]
  by_cases e : t = i
  ·subst e; simp [hi]
  ·rw [if_neg e, if_neg (fun h => e h.symm)]
 ·rw [List.getElem?_eq_none (by rw [rowX_len]; omega), List.getElem?_eq_none (by rw [rowX_len]; omega)]
  split
  ·rw [if_neg (by omega)]
  ·rfl
theorem rowX_zero (n : Nat) : (rowX n fun _ => 0) = List.replicate n (.int .i64 0) := by
 apply List.ext_getElem? ; intro i
 by_cases hi : i < n <;> simp [rowX, hi]
theorem rowX_same {n : Nat} {g k : Nat → Int} (h : ∀ v, v < n → g v = k v) : rowX n g = rowX n k := by
 unfold rowX
 exact List.map_congr_left fun v hv => by rw [h v (List.mem_range.1 hv)]
def sumTo (f : Nat → Int) : Nat → Int
 | 0 => 0
 | k + 1 => sumTo f k + f k
def cnt0 (l : Lw) (s : Nat) : Int := if l.good (s : Int) = true then 1 else 0
def cntS (l : Lw) (f : Nat → Int) (s : Nat) : Int := sumTo (fun c => f (l.at (s : Int) c).toNat) l.k
def cntF (l : Lw) : Nat → Nat → Int
 | 0 => cnt0 l
 | n + 1 => cntS l (cntF l n)
theorem sumTo_bd {f : Nat → Int} {B : Int} (h : ∀ i, 0 ≤ f i ∧ f i ≤ B) : ∀ k : Nat, 0 ≤ sumTo f k ∧ sumTo f k ≤ (k : Int) * B
 | 0 => by simp [sumTo]
 | k + 1 => by
  have ih := sumTo_bd h k
  have hk := h k
  rw [sumTo, Int.natCast_succ, Int.add_mul, Int.one_mul]
  omega
theorem cntF_bd {l : Lw} (hk : l.k ≤ 4) : ∀ n s, 0 ≤ cntF l n s ∧ cntF l n s ≤ ((4 ^ n : Nat) : Int)
 | 0, s => by
  show 0 ≤ cnt0 l s ∧ cnt0 l s ≤ 1
  unfold cnt0
  split <;> omega
 | n + 1, s => by
  have h := sumTo_bd (f := fun c => cntF l n (l.at (s : Int) c).toNat) (B := ((4 ^ n : Nat) : Int)) (fun i => cntF_bd hk n _) l.k
  refine ⟨h.1, Int.le_trans h.2 ?_⟩
  rw [Nat.pow_succ, Nat.mul_comm, Int.natCast_mul]
  exact Int.mul_le_mul_of_nonneg_right (by omega) (Int.natCast_nonneg _)
theorem pow25 {n : Nat} (h : n ≤ 25) : ((4 ^ n : Nat) : Int) ≤ 1125899906842624 := by
 have : 4 ^ n ≤ 4 ^ 25 := Nat.pow_le_pow_right (by decide) h
 have e : (4 : Nat) ^ 25 = 1125899906842624 := by decide
 omega
theorem cntP_bd {l : Lw} (hk : l.k ≤ 4) {n : Nat} (hn : n ≤ 25) (s c : Nat) (hc : c ≤ 4) : 0 ≤ sumTo (fun c => cntF l n (l.at (s : Int) c).toNat) c ∧ sumTo (fun c => cntF l n (l.at (s : Int) c).toNat) c ≤ 4503599627370496 := by
 have h := sumTo_bd (f := fun c => cntF l n (l.at (s : Int) c).toNat) (B := 1125899906842624) (fun i => ⟨(cntF_bd hk n _).1, Int.le_trans (cntF_bd hk n _).2 (pow25 hn)⟩) c
 omega
/-- The row while state s is counted, c crops of it done. -/
def curF (l : Lw) (k s c t : Nat) : Int := if t < s then cntF l (k + 1) t else if t = s then sumTo (fun c => cntF l k (l.at (s : Int) c).toNat) c else 0
theorem curF_zero (l : Lw) (k s t : Nat) : curF l k s 0 t = if t < s then cntF l (k + 1) t else 0 := by
 unfold curF
 by_cases h : t < s
 ·rw [if_pos h, if_pos h]
 ·rw [if_neg h, if_neg h]; split <;> rfl
theorem curF_last (l : Lw) (k s t : Nat) : curF l k s l.k t = if t < s + 1 then cntF l (k + 1) t else 0 := by
 unfold curF
 by_cases h : t < s
 ·rw [if_pos h, if_pos (by omega)]
 ·rw [if_neg h]
  by_cases h2 : t = s
  ·subst h2; rw [if_pos rfl, if_pos (by omega)]; rfl
  ·rw [if_neg h2, if_neg (by omega)]
theorem curF_here (l : Lw) (k s c : Nat) : curF l k s c s = sumTo (fun c => cntF l k (l.at (s : Int) c).toNat) c := by
 unfold curF; rw [if_neg (by omega), if_pos rfl]
theorem curF_succ (l : Lw) (k s c t : Nat) : curF l k s (c + 1) t = if t = s then curF l k s c s + cntF l k (l.at (s : Int) c).toNat else curF l k s c t := by
 by_cases h2 : t = s
 ·subst h2; rw [if_pos rfl, curF_here, curF_here]; rfl
 ·rw [if_neg h2]; unfold curF
  rw [if_neg h2, if_neg h2]
def countE (l : Lw) (n : Int) : Int × Int := if chkL l = 0 then (if btw 0 n 25 = true then (cntF l n.toNat 0, 0) else (0, 2)) else (0, chkL l)
set_option maxRecDepth 100000 in
set_option maxHeartbeats 8000000 in
theorem count23_any {v : Value} {l : Lw} {n : Int} {w : World} (h : LawA w v l) : Calls Try.prog 23 #[v, .int .i64 n] w fun e w' => e = .returned (.tuple #[.int .i64 (countE l n).1, .int .i64 (countE l n).2]) ∧ Below w.heap.size w w' := by
 have H0 := Lib.hid h
 obtain ⟨vn, vg, rfl, hn, hg⟩ := h
 obtain ⟨ag, cg, rfl, -⟩ := id hg
 obtain ⟨an, cn, rfl, hcn⟩ := slII_form hn
 have hX := LawA.box (⟨_, _, rfl, hn, hg⟩ : LawA w (.agg #[.slice an l.nx.length cn, .slice ag (l.gd.map Value.bool).length cg]) l) 25
 rw [List.length_map] at *
 have hB1 := (Below.refl w.heap.size w).alloc (Nat.le_refl _) (.cells #[.slice an l.nx.length cn, .slice ag l.gd.length cg] 25)
 obtain ⟨w1, hw1⟩ : ∃ q, q = w.alloc (.cells #[.slice an l.nx.length cn, .slice ag l.gd.length cg] 25) := ⟨_, rfl⟩
 obtain ⟨g, hgw⟩ : ∃ q, q = w.heap.size := ⟨_, rfl⟩
 go_enter Try.func23, Try.ntmps23
 refine wp_seq_k (fun K hK => ?_)
 have HK := Lib.hid hK; clear hK
 have HW := Lib.hid (And.intro hw1 hgw)
 clear hw1 hgw
 go_wp2
 refine HK.out _ _ ?_; clear HK
 obtain ⟨hw1, hgw⟩ := HW.out
 have HB0 := Lib.hid (show Below w.heap.size w w1 by rw [hw1]; exact hB1)
 rw [← hw1] at hX ⊢
 rw [← hgw] at hX ⊢
 have HBg := Lib.hid (show Below g w w1 by rw [hgw]; exact HB0.out)
 have HB := Lib.hid hX.blk
 have lgw := lt_blk hX.blk
 have HX := Lib.hid hX
 have H52 := Lib.hid (check_any (H0.out.below HB0.out (Nat.le_refl _)))
 have H64 := Lib.hid (fun W => between_any 0 n 25 W)
 clear hw1 hgw HW hX hB1 hn hg H0
 have FIN : Hid (∀ A B w', (A, B) = countE l n → Below w1.heap.size w1 w' → (Ending.returned (.tuple #[.int .i64 A, .int .i64 B]) = Ending.returned (.tuple #[.int .i64 (countE l n).1, .int .i64 (countE l n).2]) ∧ Below g w w')) := Lib.hid fun A B w' hE hw => ⟨by rw [← hE], HBg.out.trans (hw.mono (Nat.le_of_lt lgw))⟩
 have HE : Hid (countE l n = if chkL l = 0 then (if btw 0 n 25 = true then (cntF l n.toNat 0, 0) else (0, 2)) else (0, chkL l)) := Lib.hid rfl
 obtain ⟨E, hE⟩ : ∃ E, E = chkL l := ⟨_, rfl⟩
 rw [← hE] at H52 HE
 have HCE := Lib.hid hE
 clear hE
 by_cases h0 : E = 0
 case neg =>
  have hb0 : (E != 0) = true := by simpa using h0
  have hb0' : (E == 0) = false := by simpa using h0
  have HE1 : Hid (((0 : Int), E) = countE l n) := Lib.hid (by rw [HE.out, if_neg h0])
  clear h0
  go_wp2_with (first | (refine wpList_load_blk rfl 25 _ rfl _ rfl HB.out Try.underlying25 rfl size25 rfl ?_) | (go_at_call 52; refine H52.out.mono ?_; rintro e w3 ⟨rfl, hb3⟩))
  refine bodyPost_ret (results_tmp2 rfl _ _ _) rfl ?_
  exact FIN.out _ _ _ HE1.out hb3
 have HOK := Lib.hid (chkL_ok (l := l) (by rw [← HCE.out]; exact h0))
 have HE2 : Hid (countE l n = if btw 0 n 25 = true then (cntF l n.toNat 0, 0) else (0, 2)) := Lib.hid (by rw [HE.out, if_pos h0])
 clear HE
 subst h0
 obtain ⟨bt, hbt⟩ : ∃ q, q = btw 0 n 25 := ⟨_, rfl⟩
 rw [← hbt] at H64 HE2
 have HBT := Lib.hid hbt
 clear hbt
 refine wp_seq_k (fun K hK => ?_)
 have HK := Lib.hid hK; clear hK
 go_wp2_with (first | (refine wpList_load_blk rfl 25 _ rfl _ rfl HB.out Try.underlying25 rfl size25 rfl ?_) | (go_at_call 52; refine H52.out.mono ?_; rintro e w3 ⟨rfl, hb3⟩))
 refine HK.out _ _ ?_; clear HK
 have HB3 := Lib.hid hb3
 clear hb3
 cases bt with
 | false =>
  have HE1 : Hid (((0 : Int), (2 : Int)) = countE l n) := Lib.hid (by rw [HE2.out, if_neg (by simp)])
  have hn3 : n < 0 ∨ (0 ≤ n ∧ 25 < n) := by have h := HBT.out; simp [btw] at h; omega
  clear HE2
  rcases hn3 with hlt | ⟨hge, hgt⟩
  ·have hq1 : decide ((0 : Int) ≤ n) = false := by simp; omega
   clear hlt
   go_wp2
   all_goals (refine bodyPost_ret (results_tmp2 rfl _ _ _) rfl ?_; exact FIN.out _ _ _ HE1.out HB3.out)
  ·have hq1 : decide ((0 : Int) ≤ n) = true := by simp; omega
   have hq2 : decide (n ≤ (25 : Int)) = false := by simp; omega
   clear hge hgt
   go_wp2
   all_goals (refine bodyPost_ret (results_tmp2 rfl _ _ _) rfl ?_; exact FIN.out _ _ _ HE1.out HB3.out)
 | true =>
 have hn25 : 0 ≤ n ∧ n ≤ 25 := by have h := HBT.out; simp [btw] at h; omega
 obtain ⟨N, hN⟩ : ∃ N : Nat, n = (N : Int) := ⟨n.toNat, by omega⟩
 subst hN
 have hN25 : N ≤ 25 := by omega
 have HE1 : Hid ((cntF l N 0, (0 : Int)) = countE l N) := Lib.hid (by rw [HE2.out, if_pos rfl]; rfl)
 clear HE2 hn25
 have hq1 : decide ((0 : Int) ≤ (N : Int)) = true := by simp
 have hq2 : decide ((N : Int) ≤ (25 : Int)) = true := by simp; omega
 refine wp_seq_k (fun K hK => ?_)
 have HK := Lib.hid hK; clear hK
 go_wp2
 refine HK.out _ _ ?_; clear HK
 clear hq1 hq2
 obtain ⟨i3, hi3, hz1, hz2, hz3⟩ := info_parts info3
 have HI := Lib.hid (And.intro hi3 (And.intro hz1 (And.intro hz2 hz3)))
 clear hi3 hz1 hz2 hz3
 obtain ⟨m, hm⟩ : ∃ m, m = l.nx.length := ⟨_, rfl⟩
 have HM := Lib.hid hm
 have hm40 : m ≤ 40 := by rw [hm]; exact HOK.out.n40
 have hm1 : 1 ≤ m := by rw [hm]; exact HOK.out.n1
 have hgm : l.gd.length = m := by rw [hm]; exact HOK.out.gd
 rw [← hm, hgm] at HX HB ⊢
 clear hm hgm
 have HBX := Lib.hid (blk_keep HB.out HB3.out)
 have c0 := cell_blk (i := 0) HBX.out
 simp only [List.getElem?_toArray, List.getElem?_cons_zero] at c0
 have c1 := cell_blk (i := 1) HBX.out
 simp only [List.getElem?_toArray, List.getElem?_cons_zero, List.getElem?_cons_succ] at c1
 refine wp_seq_k (fun K hK => ?_)
 have HK := Lib.hid hK; clear hK
 go_wp2_with (at_make; refine wpList_make_full w3 rfl (.tmp 25) (.tmp 25) 40 rfl w3.heap.size 3 i3 (.int .i64 0) 1 Try.underlying40 HI.out.1 HI.out.2.1 HI.out.2.2.1 .i64 .i64 _ _ m rfl rfl rfl rfl (by rw [HI.out.2.2.2]; omega) (Nat.le_trans (by omega : m ≤ 100) (by decide)) (Nat.le_refl _) ?_; intro w5 q1 q2)
 refine HK.out _ _ ?_; clear HK
 rw [made_rep _ rfl] at q1
 have hb5 : Below w3.heap.size w3 w5 := ⟨q2.os, q2.tape, q2.output, q2.size, fun k hk => q2.block k hk (by simp)⟩
 have q3 := row_full q1
 rw [← rowX_zero] at q3
 obtain ⟨f0, hf0⟩ : ∃ f, f = w3.heap.size := ⟨_, rfl⟩
 have lf0 : w3.heap.size ≤ f0 := by omega
 rw [← hf0] at q3 ⊢
 clear hf0 q1 q2 c0 c1
 have HB5 := Lib.hid hb5
 have HQ3 := Lib.hid q3
 clear hb5 q3
 have HBY := Lib.hid (blk_keep HBX.out HB5.out)
 have c1 := cell_blk (i := 1) HBY.out
 simp only [List.getElem?_toArray, List.getElem?_cons_zero, List.getElem?_cons_succ] at c1
 go_wp2
 have HG : Hid (∀ W, Below w3.heap.size w3 W → ∀ k, k < m → ∃ b off, ag = some ⟨b, off, none⟩ ∧ W.cell? ⟨b, off + k, none⟩ = some (.bool (l.good (k : Int)))) := Lib.hid fun W hW k hk => by
  obtain ⟨b, off, cg', e, -, hc, -⟩ := (HX.out.below (btr HB3.out hW (Nat.le_refl _))).gds HOK.out (m := k) (by rw [← HM.out]; exact hk)
  injection e with e1 e2 e3
  exact ⟨b, off, e1, hc⟩
 go_loopw [30] (fun i wr => ∃ k : Nat, k ≤ m ∧ i = .int .i64 k ∧ Hid (wr.heap[f0]? = some (.cells (rowX m fun s => if s < k then cnt0 l s else 0).toArray 3)) ∧ Below w3.heap.size w3 wr) (fun i _ => m - (intOf i).toNat)
 case atStart => exact ⟨0, Nat.zero_le _, rfl, Lib.hid (by rw [HQ3.out, rowX_same (k := fun s => if s < 0 then cnt0 l s else 0) fun v _ => (if_neg (by omega)).symm]), HB5.out⟩
 case round =>
  obtain ⟨k, hk, rfl, HF, hbr⟩ := hrel
  obtain ⟨wo, rfl⟩ : ∃ q, q = wr := ⟨_, rfl⟩
  by_cases hkm : k < m
  ·have hki : (k : Int) < (m : Int) := by omega
   obtain ⟨bg, og, rfl, cg1⟩ := HG.out wo hbr k hkm
   obtain ⟨r, hr⟩ : ∃ r, r = l.good (k : Int) := ⟨_, rfl⟩
   rw [← hr] at cg1
   have HR := Lib.hid hr
   have HBR := Lib.hid hbr
   clear hr hbr
   cases r with
   | false =>
    go_wp2
    refine ⟨⟨k + 1, by omega, by go_num, Lib.hid ?_, HBR.out⟩, by simp only [intOf]; omega⟩
    rw [HF.out, rowX_same (k := fun s => if s < k + 1 then cnt0 l s else 0) fun v _ => ?_]
    by_cases h1 : v < k
    ·rw [if_pos h1, if_pos (by omega)]
    ·rw [if_neg h1]
     by_cases h2 : v = k
     ·subst h2; rw [if_pos (by omega), cnt0, ← HR.out]; rfl
     ·rw [if_neg (by omega)]
   | true =>
    have x0 := cell_blk (i := k) HF.out
    rw [List.getElem?_toArray, rowX_get _ hkm] at x0
    have x1 := free_blk (i := k) HF.out
    go_wp2
    refine ⟨⟨k + 1, by omega, by go_num, Lib.hid ?_, HBR.out.setCell lf0 _⟩, by simp only [intOf]; omega⟩
    rw [heap_set_blk HF.out, rowX_set _ (fun s => if s < k + 1 then cnt0 l s else 0) _ fun v _ => ?_]
    by_cases h2 : v = k
    ·subst h2; rw [if_pos (by omega), if_pos rfl, cnt0, ← HR.out]; rfl
    ·rw [if_neg h2]
     by_cases h1 : v < k
     ·rw [if_pos h1, if_pos (by omega)]
     ·rw [if_neg h1, if_neg (by omega)]
  ·have hki : ¬ (k : Int) < (m : Int) := by omega
   have hkk : k = m := by omega
   have HF0 := Lib.hid (show wo.heap[f0]? = some (.cells (rowX m (cntF l 0)).toArray 3) by
    rw [HF.out, rowX_same fun v hv => if_pos (by omega)]; rfl)
   have HBR := Lib.hid hbr
   clear hbr hki hkk HF
   go_wp2
   go_loopw [7, 41] (fun vf i wr => ∃ k f : Nat, k ≤ N ∧ i = .int .i64 k ∧ vf = .slice (some ⟨f, 0, none⟩) m m ∧ w3.heap.size ≤ f ∧ Hid (wr.heap[f]? = some (.cells (rowX m (cntF l k)).toArray 3)) ∧ Below w3.heap.size w3 wr) (fun _ i _ => N - (intOf i).toNat)
   case atStart => exact ⟨0, f0, Nat.zero_le _, rfl, rfl, lf0, HF0, HBR.out⟩
   case round =>
    obtain ⟨k, f, hk, rfl, rfl, lf, HF, hbr⟩ := hrel
    obtain ⟨wp, rfl⟩ : ∃ q, q = wr := ⟨_, rfl⟩
    have HBP := Lib.hid hbr
    clear hbr
    by_cases hkn : k < N
    ·have hki : (k : Int) < (N : Int) := by omega
     have hwps := HBP.out.size
     go_wp2_with (at_make; refine wpList_make_full wp rfl (.tmp 44) (.tmp 44) 40 rfl wp.heap.size 3 i3 (.int .i64 0) 1 Try.underlying40 HI.out.1 HI.out.2.1 HI.out.2.2.1 .i64 .i64 _ _ m rfl rfl rfl rfl (by rw [HI.out.2.2.2]; omega) (Nat.le_trans (by omega : m ≤ 100) (by decide)) (Nat.le_refl _) ?_; intro w7 q1 q2; refine cutme ?_)
     refine ⟨?_⟩
     rw [made_rep _ rfl] at q1
     have hb7 : Below wp.heap.size wp w7 := ⟨q2.os, q2.tape, q2.output, q2.size, fun k hk => q2.block k hk (by simp)⟩
     have q3 := row_full q1
     rw [← rowX_zero] at q3
     have lf7 := lt_blk HF.out
     obtain ⟨gq, hgq⟩ : ∃ f, f = wp.heap.size := ⟨_, rfl⟩
     have lgq : w3.heap.size ≤ gq := by omega
     have lfg : f < gq := by omega
     rw [← hgq] at q3 ⊢
     have HQ3 := Lib.hid q3
     have HB7 := Lib.hid (btr HBP.out hb7 (Nat.le_refl _))
     have HF7 := Lib.hid (blk_keep HF.out hb7)
     clear hgq q1 q2 q3 hb7 lf7 hwps HF
     have HBZ := Lib.hid (blk_keep HBX.out HB7.out)
     have c0 := cell_blk (i := 0) HBZ.out
     simp only [List.getElem?_toArray, List.getElem?_cons_zero] at c0
     go_wp2
     go_loopw [49] (fun i wr => ∃ s : Nat, s ≤ m ∧ i = .int .i64 s ∧ Hid (wr.heap[gq]? = some (.cells (rowX m fun t => if t < s then cntF l (k + 1) t else 0).toArray 3)) ∧ Hid (wr.heap[f]? = some (.cells (rowX m (cntF l k)).toArray 3)) ∧ Below w3.heap.size w3 wr) (fun i _ => m - (intOf i).toNat)
     case atStart => exact ⟨0, Nat.zero_le _, rfl, Lib.hid (by rw [HQ3.out, rowX_same (k := fun t => if t < 0 then cntF l (k + 1) t else 0) fun v _ => (if_neg (by omega)).symm]), HF7, HB7.out⟩
     case round =>
      obtain ⟨s, hs, rfl, HG3, HF3, hb8⟩ := hrel
      obtain ⟨wq, rfl⟩ : ∃ q, q = wr := ⟨_, rfl⟩
      by_cases hsm : s < m
      ·have hsi : (s : Int) < (m : Int) := by omega
       obtain ⟨b, off, a, cc, rfl, hbl, hcell, hrow⟩ := (HX.out.below HB3.out).nx.row (i := s) (by rw [← HM.out]; exact hsm)
       have hrl := HOK.out.row s (by rw [← HM.out]; exact hsm)
       obtain ⟨kk, hkk⟩ : ∃ kk, kk = l.k := ⟨_, rfl⟩
       have hk4 : kk ≤ 4 := by rw [hkk]; exact HOK.out.k4
       rw [hrl, ← hkk] at hcell hrow
       have r0 := (hb8.cell (p := ⟨b, off + s, none⟩) hbl).trans hcell
       have HROW := Lib.hid hrow
       have HKK := Lib.hid hkk
       have HRL := Lib.hid hrl
       have HB8 := Lib.hid hb8
       clear hcell hrow hkk hrl hb8
       go_wp2
       go_loopw [56] (fun i wr => ∃ c : Nat, c ≤ kk ∧ i = .int .i64 c ∧ Hid (wr.heap[gq]? = some (.cells (rowX m (curF l k s c)).toArray 3)) ∧ Hid (wr.heap[f]? = some (.cells (rowX m (cntF l k)).toArray 3)) ∧ Below w3.heap.size w3 wr) (fun i _ => kk - (intOf i).toNat)
       case atStart => exact ⟨0, Nat.zero_le _, rfl, Lib.hid (by rw [HG3.out, rowX_same (k := curF l k s 0) fun v _ => (curF_zero ..).symm]), HF3, HB8.out⟩
       case round =>
        obtain ⟨c, hc, rfl, HG4, HF4, hb9⟩ := hrel
        obtain ⟨wz, rfl⟩ : ∃ q, q = wr := ⟨_, rfl⟩
        by_cases hck : c < kk
        ·have hci : (c : Int) < (kk : Int) := by omega
         obtain ⟨ad', cap', e', -, -, hcc⟩ := HROW.out
         injection e' with e1 e2 e3
         subst e1
         obtain ⟨b2, off2, rfl, hb2, hcell2⟩ := hcc (by omega)
         obtain ⟨h2, e⟩ := HOK.out.at_eq (m := s) (by rw [← HM.out]; exact hsm) (c := c) (by rw [← HKK.out]; exact hck)
         have c2 := (hb9.cell (p := ⟨b2, off2 + c, none⟩) hb2).trans (hcell2 c h2)
         rw [at0_lt h2, ← e] at c2
         obtain ⟨tn, etn, htn⟩ := (HOK.out.cl (s := (s : Int)) ⟨by omega, by rw [← HM.out]; omega⟩ (c := c) (by rw [← HKK.out]; exact hck)).nat
         rw [etn] at c2
         rw [← HM.out] at htn
         have hti : (tn : Int) < (m : Int) := by omega
         have hXb := cntP_bd (l := l) (n := k) HOK.out.k4 (by omega) s c (by omega)
         have hYb := cntF_bd (l := l) HOK.out.k4 k tn
         have hY25 := pow25 (n := k) (by omega)
         rw [← curF_here] at hXb
         obtain ⟨X, hX⟩ : ∃ X, X = curF l k s c s := ⟨_, rfl⟩
         obtain ⟨Y, hY⟩ : ∃ Y, Y = cntF l k tn := ⟨_, rfl⟩
         rw [← hX] at hXb
         rw [← hY] at hYb
         have hw : wrap64 (X + Y) = X + Y := IntWalk.wrap64_in _ (by omega)
         have x0 := cell_blk (i := s) HG4.out
         rw [List.getElem?_toArray, rowX_get _ hsm, ← hX] at x0
         have x1 := free_blk (i := s) HG4.out
         have y0 := cell_blk (i := tn) HF4.out
         rw [List.getElem?_toArray, rowX_get _ htn, ← hY] at y0
         have HXX := Lib.hid hX
         have HYY := Lib.hid hY
         have HAT := Lib.hid etn
         have HB9 := Lib.hid hb9
         clear hX hY etn hb9 hXb hYb hY25 e h2 hcell2 hcc e2 e3
         go_wp2
         refine wp_region_x (R := fun _ => True) (S := fun U => U.heap[f]? = some (.cells (rowX m (cntF l k)).toArray 3) ∧ U.heap[gq]? = some (.cells (rowX m (curF l k s c)).toArray 3)) (z := 10) rfl ?_
         refine wpX_kp (i := 0) (oi := ⟨some 60, _, _, _, _, none⟩) (v := ?_) rfl (fun _ _ _ h => h) ?_ ⟨trivial, fun _ => ⟨HF4.out, HG4.out⟩⟩ ?_
         rotate_left
         ·intro U hU
          go_simp
          all_goals with_reducible rfl
         simp only [putE]
         refine wpX_kp (i := 1) (oi := ⟨some 61, _, _, _, _, none⟩) (v := ?_) rfl (fun _ _ _ h => h) ?_ ⟨trivial, fun _ => ⟨HF4.out, HG4.out⟩⟩ ?_
         rotate_left
         ·intro U hU
          go_simp
          all_goals with_reducible rfl
         simp only [putE]
         refine wpX_kp (i := 2) (oi := ⟨some 62, _, _, _, _, none⟩) (v := ?_) rfl (fun _ _ _ h => h) ?_ ⟨trivial, fun _ => ⟨HF4.out, HG4.out⟩⟩ ?_
         rotate_left
         ·intro U hU
          go_simp
          all_goals with_reducible rfl
         simp only [putE]
         refine wpAnyX_take (i := 3) (oi := ⟨some 63, _, _, _, _, none⟩) (v := ?_) rfl (by kernel_rfl) (by kernel_rfl) (by kernel_rfl) (fun _ _ _ h => h) (Or.inl ⟨by rfl, ?_⟩) ⟨trivial, fun _ => ⟨HF4.out, HG4.out⟩⟩ ?_
         rotate_left
         ·intro U hU
          have u0 := cell_blk (i := s) hU.2.2
          rw [List.getElem?_toArray, rowX_get _ hsm, ← HXX.out] at u0
          go_simp
          all_goals with_reducible rfl
         simp only [putE]
         refine wpX_kp (i := 4) (oi := ⟨some 64, _, _, _, _, none⟩) (v := ?_) rfl (fun _ _ _ h => h) ?_ ⟨trivial, fun _ => ⟨HF4.out, HG4.out⟩⟩ ?_
         rotate_left
         ·intro U hU
          go_simp
          all_goals with_reducible rfl
         simp only [putE]
         refine wpX_kp (i := 5) (oi := ⟨some 65, _, _, _, _, none⟩) (v := ?_) rfl (fun _ _ _ h => h) ?_ ⟨trivial, fun _ => ⟨HF4.out, HG4.out⟩⟩ ?_
         rotate_left
         ·intro U hU
          go_simp
          all_goals with_reducible rfl
         simp only [putE]
         refine wpX_kp (i := 6) (oi := ⟨some 66, _, _, _, _, none⟩) (v := ?_) rfl (fun _ _ _ h => h) ?_ ⟨trivial, fun _ => ⟨HF4.out, HG4.out⟩⟩ ?_
         rotate_left
         ·intro U hU
          go_simp
          all_goals with_reducible rfl
         simp only [putE]
         refine wpAnyX_take (i := 7) (oi := ⟨some 67, _, _, _, _, none⟩) (v := ?_) rfl (by kernel_rfl) (by kernel_rfl) (by kernel_rfl) (fun _ _ _ h => h) (Or.inl ⟨by rfl, ?_⟩) ⟨trivial, fun _ => ⟨HF4.out, HG4.out⟩⟩ ?_
         rotate_left
         ·intro U hU
          have u0 := cell_blk (i := tn) hU.2.1
          rw [List.getElem?_toArray, rowX_get _ htn, ← HYY.out] at u0
          go_simp
          all_goals with_reducible rfl
         simp only [putE]
         refine wpX_kp (i := 8) (oi := ⟨some 68, _, _, _, _, none⟩) (v := ?_) rfl (fun _ _ _ h => h) ?_ ⟨trivial, fun _ => ⟨HF4.out, HG4.out⟩⟩ ?_
         rotate_left
         ·intro U hU
          go_simp
          all_goals with_reducible rfl
         simp only [putE]
         refine wpX_kp (i := 9) (oi := ⟨some 69, _, _, _, _, none⟩) (v := ?_) rfl (fun _ _ _ h => h) ?_ ⟨trivial, fun _ => ⟨HF4.out, HG4.out⟩⟩ ?_
         rotate_left
         ·intro U hU
          go_simp
          all_goals with_reducible rfl
         simp only [putE]
         refine wpAnyX_one (i := 10) (o := ⟨none, _, _, _, _, none⟩) (by kernel_rfl) rfl (by rfl) (fun K1 hK1 => ?_)
         have HK1 := Lib.hid hK1; clear hK1
         have u1 := free_blk (i := s) (W := wz.drew) HG4.out
         have u0 := cell_blk (i := s) (W := wz.drew) HG4.out
         rw [List.getElem?_toArray, rowX_get _ hsm, ← HXX.out] at u0
         go_simp
         refine HK1.out _ _ ⟨trivial, fun h => by simp at h⟩ ?_
         clear HK1 K1
         try simp only [putE]
         refine wpAnyX_done (by kernel_rfl) ?_ _
         go_wp2
         refine ⟨⟨c + 1, by omega, by go_num, Lib.hid ?_, Lib.hid ?_, (HB9.out.drew).setCell lgq _⟩, by simp only [intOf]; omega⟩
         ·refine (heap_set_blk (W := wz.drew) HG4.out).trans ?_
          rw [rowX_set _ (curF l k s (c + 1)) _ fun v _ => ?_]
          rw [curF_succ, HAT.out, ← HXX.out, show ((tn : Nat) : Int).toNat = tn from rfl, ← HYY.out]
          first | rfl | rw [hw]
         ·exact (heap_set_other (W := wz.drew) (by omega)).trans HF4.out
        ·have hci : ¬ (c : Int) < (kk : Int) := by omega
         have hce : c = l.k := by have := HKK.out; omega
         have HG5 := Lib.hid (show wz.heap[gq]? = some (.cells (rowX m fun t => if t < s + 1 then cntF l (k + 1) t else 0).toArray 3) by
          rw [HG4.out, hce, rowX_same fun v _ => curF_last ..])
         have HB9 := Lib.hid hb9
         clear hb9 hce HG4
         go_wp2
         exact ⟨⟨s + 1, by omega, by go_num, HG5, HF4, HB9.out⟩, by simp only [intOf]; omega⟩
      ·have hsi : ¬ (s : Int) < (m : Int) := by omega
       have hse : s = m := by omega
       have HG5 := Lib.hid (show wq.heap[gq]? = some (.cells (rowX m (cntF l (k + 1))).toArray 3) by
        rw [HG3.out, rowX_same fun v hv => if_pos (by omega)])
       have HB8 := Lib.hid hb8
       clear hb8 hse HG3
       go_wp2
       exact ⟨⟨k + 1, gq, by omega, by go_num, rfl, lgq, HG5, HB8.out⟩, by simp only [intOf]; omega⟩
    ·have hki : ¬ (k : Int) < (N : Int) := by omega
     have hkk : k = N := by omega
     subst hkk
     have x0 := cell_blk (i := 0) HF.out
     rw [List.getElem?_toArray, rowX_get _ (by omega)] at x0
     obtain ⟨R, hR⟩ : ∃ R, R = cntF l k 0 := ⟨_, rfl⟩
     rw [← hR] at x0 HE1
     clear hR
     go_wp2
     refine bodyPost_ret (results_tmp2 rfl _ _ _) rfl ?_
     exact FIN.out _ _ _ HE1.out (btr HB3.out HBP.out (Nat.le_refl _))
end Ytnjgglnpmhjmiaa
end Go.Proofs

