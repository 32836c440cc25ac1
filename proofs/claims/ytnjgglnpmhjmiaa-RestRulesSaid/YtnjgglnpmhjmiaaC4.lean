/- Laws of rotation: the laws' own small functions. -/
import Derived.Test.YtnjgglnpmhjmiaaB9
open Go Go.RowKit Go.YtnjgglnpmhjmiaaIt
open Rest
namespace Go.Proofs
namespace Ytnjgglnpmhjmiaa
set_option maxRecDepth 100000 in
set_option maxHeartbeats 1000000 in
theorem numbers_any (v u : Value) (xs ys : List Int) (w : World) (hx : SlI w v xs) (hy : SlI w u ys) :
  Calls Try.prog 29 #[v, u] w fun e w' => e = .returned (.bool (decide (xs = ys))) ∧ Below w.heap.size w w' := by
 obtain ⟨ad, cap, rfl, hm, -, hc⟩ := hx
 obtain ⟨ad', cap', rfl, hm', -, hc'⟩ := hy
 obtain ⟨n, hn⟩ : ∃ n, n = xs.length := ⟨_, rfl⟩
 by_cases hl : xs.length = ys.length
 ·rw [← hl] at hc' ⊢
  rw [← hn] at hm hc hc' ⊢
  have H := Lib.hid (And.intro hl hn)
  clear hl hn hm'
  go_enter Try.func29, Try.ntmps29
  go_wp2
  go_loopw [5] (fun i wr => ∃ k : Nat, k ≤ n ∧ i = .int .i64 k ∧ (∀ j, j < k → at0 xs j = at0 ys j) ∧ Below w.heap.size w wr) (fun i _ => n - (intOf i).toNat)
  case atStart => exact ⟨0, Nat.zero_le _, rfl, fun _ h => by omega, Below.refl _ _⟩
  case round =>
   obtain ⟨k, hk, rfl, heq, hb⟩ := hrel
   by_cases hkn : k < n
   ·obtain ⟨b, off, rfl, hlt, hcell⟩ := hc (by omega)
    obtain ⟨b', off', rfl, hlt', hcell'⟩ := hc' (by omega)
    have h1 := (hb.cell (p := ⟨b, off + k, none⟩) hlt).trans (hcell k hkn)
    have h2 := (hb.cell (p := ⟨b', off' + k, none⟩) hlt').trans (hcell' k hkn)
    have HE := Lib.hid heq
    clear heq hcell hcell' hc hc'
    by_cases he : at0 xs k = at0 ys k
    ·go_wp2
     go_quiet (fail)
     go_wp2
     go_roundw
     case rel => exact ⟨k + 1, by omega, by go_num, fun j hj => by rcases (show j < k ∨ j = k by omega) with h | rfl; exact HE.out j h; exact he, below_drewN hb _⟩
     case measure => simp [intOf]; omega
    ·have hf : decide (xs = ys) = false := by simp; rintro rfl; exact he rfl
     have hne : (at0 xs k != at0 ys k) = true := by rw [bne_iff_ne]; exact he
     have HF := Lib.hid hf
     clear hf
     go_wp2
     go_quiet (fail)
     go_wp2
     go_ret
     exact ⟨by rw [HF.out]; rfl, below_drewN hb _⟩
   ·have hf : decide (xs = ys) = true := by simp; exact eq_of_at0 H.out.1 (fun i hi => heq i (by have := H.out.2; omega))
    have HF := Lib.hid hf
    have HE := Lib.hid heq
    clear hf heq
    go_wp2
    go_ret
    exact ⟨by rw [HF.out]; rfl, hb⟩
 ·have hf : decide (xs = ys) = false := by simp; rintro rfl; exact hl rfl
  have hb : ((xs.length : Int) != ys.length) = true := by rw [bne_iff_ne]; omega
  have HF := Lib.hid hf
  clear hf hl
  go_enter Try.func29, Try.ntmps29
  go_wp2
  go_ret
  exact ⟨by rw [HF.out]; rfl, Below.refl _ _⟩
theorem eq_rows {xs ys : List (List Int)} (h : xs.length = ys.length) (he : ∀ i (h : i < xs.length) (h' : i < ys.length), xs[i] = ys[i]) : xs = ys := List.ext_getElem h he
set_option maxRecDepth 100000 in
set_option maxHeartbeats 1000000 in
theorem lists_any {v u : Value} {xs ys : List (List Int)} {w : World} (hx : SlII w v xs) (hy : SlII w u ys) :
  Calls Try.prog 33 #[v, u] w fun e w' => e = .returned (.bool (decide (xs = ys))) ∧ Below w.heap.size w w' := by
 have HX := Lib.hid hx
 have HY := Lib.hid hy
 obtain ⟨ad, cap, rfl, hm⟩ := slII_form hx
 obtain ⟨ad', cap', rfl, hm'⟩ := slII_form hy
 have hl1 := slII_len hx
 have hl2 := slII_len hy
 clear hx hy
 by_cases hl : xs.length = ys.length
 ·obtain ⟨n, hn⟩ : ∃ n, n = xs.length := ⟨_, rfl⟩
  rw [← hl] at HY hl2 hm' ⊢
  rw [← hn] at HX HY hl2 hm' hm hl1 ⊢
  have H := Lib.hid (And.intro hl hn)
  clear hl hn hm hm'
  go_enter Try.func33, Try.ntmps33
  go_wp2
  go_loopw [5] (fun i wr => ∃ k : Nat, k ≤ n ∧ i = .int .i64 k ∧ Hid (∀ j, j < k → ∀ (h : j < xs.length) (h' : j < ys.length), xs[j] = ys[j]) ∧ Below w.heap.size w wr) (fun i _ => n - (intOf i).toNat)
  case atStart => exact ⟨0, Nat.zero_le _, rfl, Lib.hid fun _ h => by omega, Below.refl _ _⟩
  case round =>
   obtain ⟨k, hk, rfl, HE, hb⟩ := hrel
   by_cases hkn : k < n
   ·have hk1 : k < xs.length := by have := H.out; omega
    have hk2 : k < ys.length := by have := H.out; omega
    obtain ⟨b, off, a, cc, rfl, lb0, c1, r1⟩ := HX.out.row hk1
    obtain ⟨b', off', a', cc', rfl, lb0', c2, r2⟩ := HY.out.row hk2
    obtain ⟨wd, hwd⟩ : ∃ q, q = wr.drew := ⟨_, rfl⟩
    have hbd : Below w.heap.size w wd := by rw [hwd]; exact hb.drew
    have HWD := Lib.hid hwd
    clear hwd
    have lb : b < wd.heap.size := Nat.lt_of_lt_of_le lb0 hbd.size
    have lb' : b' < wd.heap.size := Nat.lt_of_lt_of_le lb0' hbd.size
    obtain ⟨x, hx⟩ : ∃ x, x = xs[k] := ⟨_, rfl⟩
    obtain ⟨y, hy⟩ : ∃ y, y = ys[k] := ⟨_, rfl⟩
    rw [← hx] at c1 r1
    rw [← hy] at c2 r2
    have k1 := (hbd.cell (p := ⟨b, off + k, none⟩) lb0).trans c1
    have k2 := (hbd.cell (p := ⟨b', off' + k, none⟩) lb0').trans c2
    obtain ⟨R, hR⟩ : ∃ R, R = decide (x = y) := ⟨_, rfl⟩
    have h29 := numbers_any _ _ x y wd (r1.below hbd (Nat.le_refl _)) (r2.below hbd (Nat.le_refl _))
    rw [← hR] at h29
    have H29 := Lib.hid h29
    have HRR := Lib.hid hR
    have HXY := Lib.hid (And.intro hx hy)
    have hRd : Below wd.heap.size wd wd := Below.refl _ _
    have HBD := Lib.hid hbd
    clear h29 hR hx hy hb hbd c1 c2 r1 r2
    go_wp2
    refine wp_region_x (R := fun U => Below wd.heap.size wd U) (S := fun _ => True) (z := 999) rfl ?_
    change wpAnyX _ _ _ _ _ _ _ _ _ _ wr.drew
    rw [← HWD.out]
    refine wpX_kp (i := 0) (oi := ⟨some 17, _, _, _, _, none⟩) (v := ?_) rfl (fun _ _ _ h => h) ?_ ⟨(by assumption), fun _ => trivial⟩ ?_
    rotate_left
    ·intro U hU
     go_simp
     all_goals with_reducible rfl
    simp only [putE]
    refine wpX_kp (i := 1) (oi := ⟨some 18, _, _, _, _, none⟩) (v := ?_) rfl (fun _ _ _ h => h) ?_ ⟨(by assumption), fun _ => trivial⟩ ?_
    rotate_left
    ·intro U hU
     go_simp
     all_goals with_reducible rfl
    simp only [putE]
    refine wpX_kp (i := 2) (oi := ⟨some 19, _, _, _, _, none⟩) (v := ?_) rfl (fun _ _ _ h => h) ?_ ⟨(by assumption), fun _ => trivial⟩ ?_
    rotate_left
    ·intro U hU
     go_simp
     all_goals with_reducible rfl
    simp only [putE]
    refine wpX_kp (i := 3) (oi := ⟨some 20, _, _, _, _, none⟩) (v := ?_) rfl (fun _ _ _ h => h) ?_ ⟨(by assumption), fun _ => trivial⟩ ?_
    rotate_left
    ·intro U hU
     have u0 := (hU.cell (p := ⟨b, off + k, none⟩) lb).trans k1
     go_simp
     all_goals with_reducible rfl
    simp only [putE]
    refine wpX_kp (i := 4) (oi := ⟨some 21, _, _, _, _, none⟩) (v := ?_) rfl (fun _ _ _ h => h) ?_ ⟨(by assumption), fun _ => trivial⟩ ?_
    rotate_left
    ·intro U hU
     go_simp
     all_goals with_reducible rfl
    simp only [putE]
    refine wpX_kp (i := 5) (oi := ⟨some 22, _, _, _, _, none⟩) (v := ?_) rfl (fun _ _ _ h => h) ?_ ⟨(by assumption), fun _ => trivial⟩ ?_
    rotate_left
    ·intro U hU
     go_simp
     all_goals with_reducible rfl
    simp only [putE]
    refine wpX_kp (i := 6) (oi := ⟨some 23, _, _, _, _, none⟩) (v := ?_) rfl (fun _ _ _ h => h) ?_ ⟨(by assumption), fun _ => trivial⟩ ?_
    rotate_left
    ·intro U hU
     go_simp
     all_goals with_reducible rfl
    simp only [putE]
    refine wpX_kp (i := 7) (oi := ⟨some 24, _, _, _, _, none⟩) (v := ?_) rfl (fun _ _ _ h => h) ?_ ⟨(by assumption), fun _ => trivial⟩ ?_
    rotate_left
    ·intro U hU
     have u0 := (hU.cell (p := ⟨b', off' + k, none⟩) lb').trans k2
     go_simp
     all_goals with_reducible rfl
    simp only [putE]
    refine wpAnyX_one (i := 8) (o := ⟨some 25, _, _, _, _, none⟩) (by kernel_rfl) rfl (by rfl) (fun K1 hK1 => ?_)
    have HK1' := Lib.hid hK1; clear hK1
    refine oper_call (ts := _) (xs := #[.tmp 20, .tmp 24]) (f := 29) rfl (enters_of Try.func29 (by kernel_rfl) rfl) rfl (R := fun w' => Below wd.heap.size wd w') (v := .bool R) (H29.out.mono (by rintro e w' ⟨rfl, h⟩; exact ⟨rfl, h⟩)) ?_
    rintro wc hbc
    refine HK1'.out _ _ ⟨hbc, fun _ => trivial⟩ ?_
    clear HK1' hRd
    try simp only [putE]
    refine wpX_kp (i := 9) (oi := ⟨some 26, _, _, _, _, none⟩) (v := ?_) rfl (fun _ _ _ h => h) ?_ ⟨hbc, fun _ => trivial⟩ ?_
    rotate_left
    ·intro U hU
     go_simp
     all_goals with_reducible rfl
    simp only [putE]
    refine wpAnyX_done (by kernel_rfl) ?_ _
    have HBC := Lib.hid (btr HBD.out hbc (Nat.le_refl _))
    clear hbc
    cases R with
    | true =>
     go_wp2
     go_roundw
     case rel =>
      refine ⟨k + 1, by omega, by go_num, Lib.hid fun j hj h h' => ?_, HBC.out⟩
      rcases (show j < k ∨ j = k by omega) with h1 | rfl
      ·exact HE.out j h1 h h'
      ·rw [← HXY.out.1, ← HXY.out.2]; exact of_decide_eq_true HRR.out.symm
     case measure => simp [intOf]; omega
    | false =>
     have HF := Lib.hid (show false = decide (xs = ys) from (decide_eq_false (by rintro rfl; have := of_decide_eq_false HRR.out.symm; rw [HXY.out.1, HXY.out.2] at this; exact this rfl)).symm)
     go_wp2
     go_ret
     exact ⟨by rw [← HF.out]; rfl, HBC.out⟩
   ·have HF := Lib.hid (show true = decide (xs = ys) from (decide_eq_true (eq_rows H.out.1 fun i h h' => HE.out i (by have := H.out.2; omega) h h')).symm)
    go_wp2
    go_ret
    exact ⟨by rw [← HF.out]; rfl, hb⟩
 ·have HF := Lib.hid (show false = decide (xs = ys) from (decide_eq_false (by rintro rfl; exact hl rfl)).symm)
  have hb : ((xs.length : Int) != ys.length) = true := by rw [bne_iff_ne]; omega
  clear hl
  go_enter Try.func33, Try.ntmps33
  go_wp2
  go_ret
  exact ⟨by rw [← HF.out]; rfl, Below.refl _ _⟩
end Ytnjgglnpmhjmiaa
end Go.Proofs
/- Laws of rotation: two laws are the same. -/
open Go Go.RowKit Go.YtnjgglnpmhjmiaaIt
open Rest
namespace Go.Proofs
namespace Ytnjgglnpmhjmiaa
def sameL (l m : Lw) : Bool := decide (l.gd = m.gd) && decide (l.nx = m.nx)
theorem sameL_iff {l m : Lw} : sameL l m = true ↔ l = m := by
 obtain ⟨a, b⟩ := l
 obtain ⟨c, d⟩ := m
 simp [sameL, and_comm]
theorem LawA.form {w : World} {v : Value} {l : Lw} (h : LawA w v l) : ∃ an cn ag cg, v = .agg #[.slice an l.nx.length cn, .slice ag l.gd.length cg] ∧ SlII w (.slice an l.nx.length cn) l.nx ∧ SlV w (.slice ag l.gd.length cg) (l.gd.map Value.bool) := by
 obtain ⟨vn, vg, rfl, hn, hg⟩ := h
 obtain ⟨an, cn, rfl, -⟩ := slII_form hn
 obtain ⟨ag, cg, rfl, -⟩ := id hg
 rw [List.length_map] at *
 exact ⟨_, _, _, _, rfl, hn, hg⟩
set_option maxRecDepth 100000 in
set_option maxHeartbeats 2000000 in
theorem laws_any {v u : Value} {l m : Lw} {w : World} (hx : LawA w v l) (hy : LawA w u m) :
  Calls Try.prog 54 #[v, u] w fun e w' => e = .returned (.bool (sameL l m)) ∧ Below w.heap.size w w' := by
 obtain ⟨an, cn, ag, cg, rfl, hn, hg⟩ := hx.form
 obtain ⟨an', cn', ag', cg', rfl, hn', hg'⟩ := hy.form
 have HN := Lib.hid (And.intro hn hn')
 have HG := Lib.hid (And.intro hg hg')
 clear hx hy hn hg hn' hg'
 go_enter Try.func54, Try.ntmps54
 refine wp_seq_k (fun K hK => ?_)
 have HK := Lib.hid hK; clear hK
 go_wp2
 refine HK.out _ _ ?_; clear HK K
 generalize hw1 : World.alloc _ _ = w1
 obtain ⟨b1, b2, hB, hs1⟩ := blkE2 hw1
 clear hw1
 obtain ⟨g, hg⟩ : ∃ g, g = w.heap.size := ⟨_, rfl⟩
 rw [← hg] at b1 b2 hs1
 rw [← hg]
 have HB := Lib.hid (show Below w.heap.size w w1 by rw [← hg]; exact hg ▸ hB)
 have HBG := Lib.hid (show ∀ W, Below w1.heap.size w1 W → Below g w W from fun W h => (show Below g w w1 from hg ▸ hB).trans (h.mono (by omega)))
 clear hB
 have H1 := Lib.hid b1
 have H2 := Lib.hid b2
 clear b1 b2
 have KEY : Hid (∀ W, Below w1.heap.size w1 W → W.cell? ⟨g, 0, none⟩ = some (.slice an l.nx.length cn) ∧ W.cell? ⟨g, 1, none⟩ = some (.slice ag l.gd.length cg) ∧ W.cell? ⟨g + 1, 0, none⟩ = some (.slice an' m.nx.length cn') ∧ W.cell? ⟨g + 1, 1, none⟩ = some (.slice ag' m.gd.length cg')) := Lib.hid fun W hW => ⟨by rw [cell_blk (blk_keep H1.out hW)]; rfl, by rw [cell_blk (blk_keep H1.out hW)]; rfl, by rw [cell_blk (blk_keep H2.out hW)]; rfl, by rw [cell_blk (blk_keep H2.out hW)]; rfl⟩
 clear hs1 hg
 obtain ⟨x0, x1, y0, y1⟩ := KEY.out w1 (Below.refl _ _)
 by_cases hl : l.gd.length = m.gd.length
 ·obtain ⟨n, hn⟩ : ∃ n, n = l.gd.length := ⟨_, rfl⟩
  have H := Lib.hid (And.intro hl hn)
  have HLN := Lib.hid (show ∀ W, Below w1.heap.size w1 W → W.cell? ⟨g, 0, none⟩ = some (.slice an l.nx.length cn) ∧ W.cell? ⟨g, 1, none⟩ = some (.slice ag n cg) ∧ W.cell? ⟨g + 1, 0, none⟩ = some (.slice an' m.nx.length cn') ∧ W.cell? ⟨g + 1, 1, none⟩ = some (.slice ag' n cg') by
   intro W hW
   have := KEY.out W hW
   rw [← hl, ← hn] at this
   exact this)
  clear x0 x1 y0 y1
  obtain ⟨x0, x1, y0, y1⟩ := HLN.out w1 (Below.refl _ _)
  clear KEY
  have hnl : n ≤ 140737488355328 := by
   obtain ⟨_, _, _, h, _⟩ := HG.out.1
   rw [List.length_map] at h
   omega
  clear hl hn
  have HSB : Hid (∀ W, Below w1.heap.size w1 W → ∀ k, k < n → ∃ b off b' off', ag = some ⟨b, off, none⟩ ∧ ag' = some ⟨b', off', none⟩ ∧ W.cell? ⟨b, off + k, none⟩ = some (.bool (l.gd.getD k false)) ∧ W.cell? ⟨b', off' + k, none⟩ = some (.bool (m.gd.getD k false))) := Lib.hid fun W hW k hk => by
   have hk1 : k < l.gd.length := by have := H.out; omega
   have hk2 : k < m.gd.length := by have := H.out; omega
   obtain ⟨b, off, e, hb, hc⟩ := slV_bool HG.out.1 hk1
   obtain ⟨b', off', e', hb', hc'⟩ := slV_bool HG.out.2 hk2
   have hWW := btr HB.out hW (Nat.le_refl _)
   refine ⟨b, off, b', off', e, e', (hWW.cell (p := ⟨b, off + k, none⟩) hb).trans (hc.trans ?_), (hWW.cell (p := ⟨b', off' + k, none⟩) hb').trans (hc'.trans ?_)⟩
   ·simp [List.getD_eq_getElem?_getD, List.getElem?_eq_getElem hk1]
   ·simp [List.getD_eq_getElem?_getD, List.getElem?_eq_getElem hk2]
  go_wp2
  go_loopw [5] (fun i wr => ∃ k : Nat, k ≤ n ∧ i = .int .i64 k ∧ Hid (∀ j, j < k → l.gd.getD j false = m.gd.getD j false) ∧ Below w1.heap.size w1 wr) (fun i _ => n - (intOf i).toNat)
  case atStart => exact ⟨0, Nat.zero_le _, rfl, Lib.hid fun _ h => by omega, Below.refl _ _⟩
  case round =>
   clear x0 x1 y0 y1
   obtain ⟨k, hk, rfl, HE, hb⟩ := hrel
   obtain ⟨x0, x1, y0, y1⟩ := HLN.out wr hb
   by_cases hkn : k < n
   ·obtain ⟨b, off, b', off', rfl, rfl, c1, c2⟩ := HSB.out wr hb k hkn
    obtain ⟨p, hp⟩ : ∃ p, p = l.gd.getD k false := ⟨_, rfl⟩
    obtain ⟨q, hq⟩ : ∃ q, q = m.gd.getD k false := ⟨_, rfl⟩
    rw [← hp] at c1
    rw [← hq] at c2
    have HP := Lib.hid (And.intro hp hq)
    have HBR := Lib.hid hb
    clear hp hq hb x0 y0
    by_cases he : p = q
    ·subst he
     go_wp2
     go_quiet (fail)
     go_wp2
     go_roundw
     case rel => exact ⟨k + 1, by omega, by go_num, Lib.hid fun j hj => by rcases (show j < k ∨ j = k by omega) with h | rfl; exact HE.out j h; rw [← HP.out.1, ← HP.out.2], below_drewN HBR.out _⟩
     case measure => simp [intOf]; omega
    ·have hne : (p != q) = true := by rw [bne_iff_ne]; exact he
     have hq2 : q = !p := by cases p <;> cases q <;> simp_all
     have HF := Lib.hid (show false = sameL l m by
      unfold sameL
      rw [decide_eq_false (fun e => he (by rw [HP.out.1, HP.out.2, e])), Bool.false_and])
     clear he
     go_wp2
     go_quiet (fail)
     go_wp2
     go_ret
     exact ⟨by rw [← HF.out]; rfl, HBG.out _ (below_drewN HBR.out _)⟩
   ·have hgd : l.gd = m.gd := by
     refine List.ext_getElem H.out.1 fun i h1 h2 => ?_
     have := HE.out i (by have := H.out; omega)
     simpa [List.getD_eq_getElem?_getD, List.getElem?_eq_getElem h1, List.getElem?_eq_getElem h2] using this
    have HF := Lib.hid (show decide (l.nx = m.nx) = sameL l m by
     unfold sameL
     rw [decide_eq_true hgd, Bool.true_and])
    have hWW := btr HB.out hb (Nat.le_refl _)
    have H33 := Lib.hid (lists_any (HN.out.1.below hWW (Nat.le_refl _)) (HN.out.2.below hWW (Nat.le_refl _)))
    have HBR := Lib.hid hb
    clear hgd hWW hb
    go_wp2_with (go_at_call 33; refine H33.out.mono ?_; rintro e w3 ⟨rfl, hb3⟩)
    go_ret
    exact ⟨by rw [← HF.out]; rfl, HBG.out _ (btr HBR.out hb3 (Nat.le_refl _))⟩
 ·have HF := Lib.hid (show false = sameL l m by
   unfold sameL
   rw [decide_eq_false (fun e => hl (by rw [e])), Bool.false_and])
  have hb : ((l.gd.length : Int) != m.gd.length) = true := by rw [bne_iff_ne]; omega
  clear hl
  go_wp2
  go_ret
  exact ⟨by rw [← HF.out]; rfl, HBG.out _ (Below.refl _ _)⟩
end Ytnjgglnpmhjmiaa
end Go.Proofs
/- Laws of rotation: given, same. -/
open Go Go.RowKit Go.YtnjgglnpmhjmiaaIt
open Rest
namespace Go.Proofs
namespace Ytnjgglnpmhjmiaa
theorem size29 : (Try.prog.info? 29).map (·.size) = some 2 := by kernel_rfl
set_option maxRecDepth 100000 in
set_option maxHeartbeats 2000000 in
theorem given_any {v : Value} {l : Lw} {w : World} (hx : LawA w v l) : Calls Try.prog 22 #[v] w fun e w' => e = .returned v ∧ Below w.heap.size w w' := by
 obtain ⟨an, cn, ag, cg, rfl, -, -⟩ := hx.form
 clear hx
 go_enter Try.func22, Try.ntmps22
 refine wp_seq_k (fun K hK => ?_)
 have HK := Lib.hid hK; clear hK
 go_wp2
 refine HK.out _ _ ?_; clear HK K
 generalize hw1 : World.alloc _ _ = w1
 obtain ⟨b1, b2, hB, hs1⟩ := blkE2 hw1
 clear hw1
 obtain ⟨g, hg⟩ : ∃ g, g = w.heap.size := ⟨_, rfl⟩
 rw [← hg] at b1 b2 hs1
 rw [← hg]
 have HB := Lib.hid hB
 have HG := Lib.hid hg
 clear hB hg
 have c0 := cell_blk (i := 0) b1
 have c1 := cell_blk (i := 1) b1
 simp only [List.getElem?_toArray, List.getElem?_cons_zero, List.getElem?_cons_succ] at c0 c1
 have H2 := Lib.hid b2
 have lg : g + 1 < w1.heap.size := by omega
 go_wp2_with (refine wpList_store_blk rfl 29 _ _ rfl (g + 1) rfl rfl H2.out size29 rfl rfl (by simp [Value.oneCell']) ?_)
 refine bodyPost_ret (results_blk rfl _ _ (g + 1) rfl (World.putObj_heap_same lg) Try.underlying29 rfl size29 rfl) rfl ⟨rfl, ?_⟩
 rw [HG.out]
 exact below_putObj HB.out (by omega)
set_option maxRecDepth 100000 in
set_option maxHeartbeats 2000000 in
theorem same_any {v u : Value} {l m : Lw} {w : World} (hx : LawA w v l) (hy : LawA w u m) : Calls Try.prog 19 #[v, u] w fun e w' => e = .returned (.bool (sameL l m)) ∧ Below w.heap.size w w' := by
 have HX := Lib.hid hx
 have HY := Lib.hid hy
 obtain ⟨an, cn, ag, cg, rfl, -, -⟩ := hx.form
 obtain ⟨an', cn', ag', cg', rfl, -, -⟩ := hy.form
 clear hx hy
 go_enter Try.func19, Try.ntmps19
 refine wp_seq_k (fun K hK => ?_)
 have HK := Lib.hid hK; clear hK
 go_wp2
 refine HK.out _ _ ?_; clear HK K
 generalize hw1 : World.alloc _ _ = w1
 obtain ⟨b1, b2, hB, hs1⟩ := blkE2 hw1
 clear hw1
 have HB := Lib.hid hB
 obtain ⟨g, hg⟩ : ∃ g, g = w.heap.size := ⟨_, rfl⟩
 rw [← hg] at b1 b2 hs1
 rw [← hg]
 have HG := Lib.hid hg
 clear hB hg
 have c0 := cell_blk (i := 0) b2
 have c1 := cell_blk (i := 1) b2
 simp only [List.getElem?_toArray, List.getElem?_cons_zero, List.getElem?_cons_succ] at c0 c1
 have H1 := Lib.hid b1
 have H54 := Lib.hid (laws_any (HX.out.below HB.out (Nat.le_refl _)) (HY.out.below HB.out (Nat.le_refl _)))
 clear b1 b2
 go_wp2_with (first | (refine wpList_load_blk rfl 25 _ rfl _ rfl H1.out Try.underlying25 rfl size25 rfl ?_) | (go_at_call 54; refine H54.out.mono ?_; rintro e w3 ⟨rfl, hb3⟩))
 go_ret
 exact ⟨rfl, by rw [HG.out]; exact btr HB.out hb3 (Nat.le_refl _)⟩
end Ytnjgglnpmhjmiaa
end Go.Proofs
/- Laws of rotation: large, long. -/
open Go Go.RowKit Go.YtnjgglnpmhjmiaaIt
open Rest
namespace Go.Proofs
namespace Ytnjgglnpmhjmiaa
def anyB (b : Bool) (r : Nat) (ls : List (List Int)) : Bool := b || ls.any fun x => decide (r < x.length)
theorem anyB_step (b : Bool) (r : Nat) (ls : List (List Int)) {k : Nat} (h : k < ls.length) : anyB b r (ls.take (k + 1)) = (anyB b r (ls.take k) || decide (r < ls[k].length)) := by
 unfold anyB
 rw [List.take_succ_eq_append_getElem h, List.any_append, List.any_cons, List.any_nil, Bool.or_false, Bool.or_assoc]
set_option maxRecDepth 100000 in
set_option maxHeartbeats 2000000 in
theorem long_any {v : Value} {ls : List (List Int)} {w : World} (hx : SlII w v ls) : Calls Try.prog 30 #[v] w fun e w' => e = .returned (.bool (anyB (decide (100 < ls.length)) 80 ls)) ∧ Below w.heap.size w w' := by
 have HX := Lib.hid hx
 obtain ⟨ad, cap, rfl, hm⟩ := slII_form hx
 have hl1 := slII_len hx
 clear hx
 obtain ⟨n, hn⟩ : ∃ n, n = ls.length := ⟨_, rfl⟩
 have H := Lib.hid hn
 rw [← hn] at HX hm hl1 ⊢
 clear hn
 have hd : decide ((100 : Int) < (n : Int)) = decide (100 < n) := by simp; omega
 obtain ⟨b0, hb0⟩ : ∃ b, b = decide (100 < n) := ⟨_, rfl⟩
 rw [← hb0] at hd ⊢
 clear hb0
 go_enter Try.func30, Try.ntmps30
 go_wp2
 go_loopw [3, 4] (fun b i wr => ∃ k : Nat, k ≤ n ∧ i = .int .i64 k ∧ b = .bool (anyB b0 80 (ls.take k)) ∧ Below w.heap.size w wr) (fun _ i _ => n - (intOf i).toNat)
 case atStart => exact ⟨0, Nat.zero_le _, rfl, by simp [anyB], Below.refl _ _⟩
 case round =>
  obtain ⟨k, hk, rfl, rfl, hb⟩ := hrel
  by_cases hkn : k < n
  ·have hkl : k < ls.length := by have := H.out; omega
   have hs := anyB_step b0 80 ls hkl
   obtain ⟨b, off, a, cc, rfl, lb, c1, -⟩ := HX.out.row hkl
   obtain ⟨m, hm'⟩ : ∃ m, m = ls[k].length := ⟨_, rfl⟩
   rw [← hm'] at c1 hs
   have c2 := (hb.cell (p := ⟨b, off + k, none⟩) lb).trans c1
   obtain ⟨B, hB⟩ : ∃ B, B = anyB b0 80 (ls.take k) := ⟨_, rfl⟩
   rw [← hB] at hs ⊢
   obtain ⟨C, hC⟩ : ∃ C, C = anyB b0 80 (ls.take (k + 1)) := ⟨_, rfl⟩
   rw [← hC] at hs
   have HC := Lib.hid hC
   have HS := Lib.hid hs
   have HBB := Lib.hid hb
   have hd8 : decide ((80 : Int) < (m : Int)) = decide (80 < m) := by simp; omega
   clear hs hC hB c1 hm' hb
   cases B with
   | true =>
    go_wp2
    go_roundw
    case rel => exact ⟨k + 1, by omega, by go_num, by rw [← HC.out, HS.out]; rfl, HBB.out⟩
    case measure => simp [intOf]; omega
   | false =>
    go_wp2
    go_roundw
    case rel => exact ⟨k + 1, by omega, by go_num, by rw [← HC.out, HS.out, Bool.false_or], HBB.out⟩
    case measure => simp [intOf]; omega
  ·have hke : anyB b0 80 (ls.take k) = anyB b0 80 ls := by rw [List.take_of_length_le (by have := H.out; omega)]
   rw [hke]
   clear hke
   go_wp2
   go_ret
   exact ⟨rfl, hb⟩
set_option maxRecDepth 100000 in
set_option maxHeartbeats 2000000 in
theorem large_any {v : Value} {l : Lw} {w : World} (hx : LawA w v l) : Calls Try.prog 21 #[v] w fun e w' => e = .returned (.bool (anyB (decide (60 < l.nx.length) || decide (60 < l.gd.length)) 20 l.nx)) ∧ Below w.heap.size w w' := by
 obtain ⟨an, cn, ag, cg, rfl, hn, hg⟩ := hx.form
 clear hx hg
 have hl1 := slII_len hn
 obtain ⟨n, hnn⟩ : ∃ n, n = l.nx.length := ⟨_, rfl⟩
 obtain ⟨m, hmm⟩ : ∃ n, n = l.gd.length := ⟨_, rfl⟩
 have H := Lib.hid hnn
 rw [← hnn] at hn hl1 ⊢
 rw [← hmm]
 clear hnn hmm
 have HX := Lib.hid hn
 clear hn
 have hd1 : decide ((60 : Int) < (n : Int)) = decide (60 < n) := by simp; omega
 have hd2 : decide ((60 : Int) < (m : Int)) = decide (60 < m) := by simp; omega
 obtain ⟨p, hp⟩ : ∃ b, b = decide (60 < n) := ⟨_, rfl⟩
 obtain ⟨q, hq⟩ : ∃ b, b = decide (60 < m) := ⟨_, rfl⟩
 rw [← hp] at hd1 ⊢
 rw [← hq] at hd2 ⊢
 clear hp hq
 go_enter Try.func21, Try.ntmps21
 refine wp_seq_k (fun K hK => ?_)
 have HK := Lib.hid hK; clear hK
 go_wp2
 refine HK.out _ _ ?_; clear HK K
 generalize hw1 : World.alloc _ _ = w1
 obtain ⟨b1, hB, hs1⟩ := blkE1 hw1
 clear hw1
 obtain ⟨g, hg⟩ : ∃ g, g = w.heap.size := ⟨_, rfl⟩
 have HB := Lib.hid hB
 have HBG := Lib.hid (show ∀ W, Below w1.heap.size w1 W → Below g w W from fun W h => by rw [hg]; exact btr hB h (Nat.le_refl _))
 rw [← hg] at b1 hs1
 rw [← hg]
 clear hB hs1 hg
 have KEY : Hid (∀ W, Below w1.heap.size w1 W → W.cell? ⟨g, 0, none⟩ = some (.slice an n cn) ∧ W.cell? ⟨g, 1, none⟩ = some (.slice ag m cg)) := Lib.hid fun W hW => ⟨by rw [cell_blk (blk_keep b1 hW)]; rfl, by rw [cell_blk (blk_keep b1 hW)]; rfl⟩
 clear b1
 obtain ⟨x0, x1⟩ := KEY.out w1 (Below.refl _ _)
 obtain ⟨b0, hb0⟩ : ∃ b, b = (p || q) := ⟨_, rfl⟩
 rw [← hb0]
 have JOIN : Hid (∀ (a : Bool), a = (p || q) → a = b0) := Lib.hid fun a h => by rw [h, hb0]
 clear hb0
 cases p
 all_goals
  go_wp2
  go_loopw [3, 4] (fun b i wr => ∃ k : Nat, k ≤ n ∧ i = .int .i64 k ∧ b = .bool (anyB b0 20 (l.nx.take k)) ∧ Below w1.heap.size w1 wr) (fun _ i _ => n - (intOf i).toNat)
  case atStart => exact ⟨0, Nat.zero_le _, rfl, by rw [show anyB b0 20 (l.nx.take 0) = b0 by simp [anyB]]; exact congrArg Value.bool (JOIN.out _ (by simp)), Below.refl _ _⟩
  case round =>
   clear x0 x1
   obtain ⟨k, hk, rfl, rfl, hb⟩ := hrel
   obtain ⟨x0, x1⟩ := KEY.out wr hb
   by_cases hkn : k < n
   ·have hkl : k < l.nx.length := by have := H.out; omega
    have hs := anyB_step b0 20 l.nx hkl
    obtain ⟨b, off, a, cc, rfl, lb, c1, -⟩ := HX.out.row hkl
    obtain ⟨m', hm'⟩ : ∃ m, m = l.nx[k].length := ⟨_, rfl⟩
    rw [← hm'] at c1 hs
    have c2 := ((btr HB.out hb (Nat.le_refl _)).cell (p := ⟨b, off + k, none⟩) lb).trans c1
    obtain ⟨B, hB⟩ : ∃ B, B = anyB b0 20 (l.nx.take k) := ⟨_, rfl⟩
    rw [← hB] at hs ⊢
    obtain ⟨C, hC⟩ : ∃ C, C = anyB b0 20 (l.nx.take (k + 1)) := ⟨_, rfl⟩
    rw [← hC] at hs
    have HC := Lib.hid hC
    have HS := Lib.hid hs
    have HBB := Lib.hid hb
    have hd8 : decide ((20 : Int) < (m' : Int)) = decide (20 < m') := by simp; omega
    clear hs hC hB c1 hm' hb
    cases B with
    | true =>
     go_wp2
     go_roundw
     case rel => exact ⟨k + 1, by omega, by go_num, by rw [← HC.out, HS.out]; rfl, HBB.out⟩
     case measure => simp [intOf]; omega
    | false =>
     go_wp2
     go_roundw
     case rel => exact ⟨k + 1, by omega, by go_num, by rw [← HC.out, HS.out, Bool.false_or], HBB.out⟩
     case measure => simp [intOf]; omega
   ·have hke : anyB b0 20 (l.nx.take k) = anyB b0 20 l.nx := by rw [List.take_of_length_le (by have := H.out; omega)]
    rw [hke]
    clear hke
    go_wp2
    go_ret
    exact ⟨rfl, HBG.out _ hb⟩
end Ytnjgglnpmhjmiaa
end Go.Proofs
