/- Laws of rotation: the reference: where a list ends, Allows. -/
import Derived.Test.YtnjgglnpmhjmiaaRb
open Go Go.RowKit Go.YtnjgglnpmhjmiaaIt
open Rest
namespace Go.Proofs
namespace Ytnjgglnpmhjmiaa
theorem LawX.ent {W : World} {g t : Nat} {l : Lw} {vn vg : Value} (h : LawX W g t l vn vg) (ho : l.Fit) {m c : Nat} (hm : m < l.nx.length) (hc : c < l.k) : ∃ b off b2 off2 cc cap, vn = .slice (some ⟨b, off, none⟩) l.nx.length cap ∧ b < W.heap.size ∧ W.cell? ⟨b, off + m, none⟩ = some (.slice (some ⟨b2, off2, none⟩) l.k cc) ∧ b2 < W.heap.size ∧ W.cell? ⟨b2, off2 + c, none⟩ = some (.int .i64 (l.at (m : Int) c)) := by
 have hx := h.nx
 obtain ⟨ad, cap, rfl, -⟩ := slII_form hx
 obtain ⟨b, off, a, cc, rfl, hb, hcell, hrow⟩ := hx.row hm
 obtain ⟨hc2, e⟩ := ho.at_eq hm hc
 obtain ⟨ad', cap', e', -, -, hcc⟩ := hrow
 obtain ⟨b2, off2, rfl, hb2, hcell2⟩ := hcc (by omega)
 injection e' with e1 e2 e3
 subst e1
 have c2 := hcell2 c hc2
 rw [at0_lt hc2, ← e] at c2
 rw [ho.row m hm] at hcell
 exact ⟨b, off, b2, off2, cc, cap, rfl, hb, hcell, hb2, c2⟩
theorem LawX.gdF {W : World} {g t : Nat} {l : Lw} {vn vg : Value} (h : LawX W g t l vn vg) (ho : l.Fit) {m : Nat} (hm : m < l.nx.length) : ∃ b off cap, vg = .slice (some ⟨b, off, none⟩) l.nx.length cap ∧ b < W.heap.size ∧ W.cell? ⟨b, off + m, none⟩ = some (.bool (l.good (m : Int))) := by
 obtain ⟨ad, cap, rfl, -, -, hc⟩ := h.gd
 have hmg : m < l.gd.length := by rw [ho.gd]; exact hm
 obtain ⟨b, off, rfl, hb, hcell⟩ := hc (by rw [List.length_map]; omega)
 have c2 := hcell m (by rw [List.length_map]; exact hmg)
 rw [List.getElem_map] at c2
 refine ⟨b, off, cap, by rw [List.length_map, ho.gd], hb, ?_⟩
 rw [c2]
 simp [Lw.good, List.getElem?_eq_getElem hmg]
set_option maxRecDepth 100000 in
set_option maxHeartbeats 4000000 in
theorem rend_any {v vy : Value} {l : Lw} {s : Int} {ys : List Int} {w : World} (h : LawA w v l) (ho : l.Ok) (hs : l.st s) (hy : SlI w vy ys) (hv : YsOk l ys) : Calls Try.prog 79 #[v, .int .i64 s, vy] w fun e w' => e = .returned (.int .i64 (runI l s ys)) ∧ Below w.heap.size w w' := by
 obtain ⟨vn, vg, rfl, hn, hg⟩ := h
 obtain ⟨an, cn, rfl, hcn⟩ := slII_form hn
 have hX := LawA.box (⟨_, _, rfl, hn, hg⟩ : LawA w (.agg #[.slice an l.nx.length cn, vg]) l) 29
 have hB1 := (Below.refl w.heap.size w).alloc (Nat.le_refl _) (.cells #[.slice an l.nx.length cn, vg] 29)
 have hY1 := hy.below hB1 (Nat.le_refl _)
 obtain ⟨ad, cy, rfl⟩ := slI_form hy
 obtain ⟨w1, hw1⟩ : ∃ q, q = w.alloc (.cells #[.slice an l.nx.length cn, vg] 29) := ⟨_, rfl⟩
 obtain ⟨g, hgw⟩ : ∃ q, q = w.heap.size := ⟨_, rfl⟩
 have HW := Lib.hid (And.intro hw1 hgw)
 obtain ⟨N, hN⟩ : ∃ N, N = ys.length := ⟨_, rfl⟩
 have HN := Lib.hid hN
 rw [← hN] at hY1 ⊢
 have hmm := hY1
 obtain ⟨_, _, e0, hNm, -⟩ := hY1
 rw [← hN] at hNm
 have hN' : N ≤ 17592186044416 := hNm
 clear e0 hNm
 rw [← hw1] at hX hB1 hmm
 rw [← hgw] at hX
 have HX := Lib.hid hX
 have HY := Lib.hid hmm
 have HB1 := Lib.hid (show Below g w w1 by rw [hgw]; exact hB1)
 have HGW := Lib.hid (show g ≤ w1.heap.size from Nat.le_of_lt (lt_blk HX.out.blk))
 have HS := Lib.hid hs
 have HO := Lib.hid ho
 have HV := Lib.hid hv
 clear hn hg hX hB1 hy hw1 hgw hN hmm hs ho hv hcn
 go_enter Try.func79, Try.ntmps79
 refine wp_seq_k (fun K hK => ?_)
 have HK := Lib.hid hK; clear hK
 go_wp2
 refine HK.out _ _ ?_; clear HK
 rw [← HW.out.1, ← HW.out.2]
 go_wp2
 go_loopw [1, 7] (fun u i wr => ∃ k : Nat, k ≤ N ∧ i = .int .i64 k ∧ u = .int .i64 (runI l s (ys.take k)) ∧ Below w1.heap.size w1 wr) (fun _ i _ => N - (intOf i).toNat)
 case atStart => exact ⟨0, Nat.zero_le _, rfl, rfl, Below.refl _ _⟩
 case round =>
  obtain ⟨k, hk, rfl, rfl, hb1⟩ := hrel
  obtain ⟨wo, rfl⟩ : ∃ q, q = wr := ⟨_, rfl⟩
  have HB := Lib.hid hb1
  clear hb1
  by_cases hkn : k < N
  ·have hki : (k : Int) < (N : Int) := by omega
   have hky : k < ys.length := by rw [← HN.out]; exact hkn
   have hst : l.st (runI l s (ys.take k)) := runI_st HO.out HS.out (fun c hc => HV.out c (List.mem_of_mem_take hc))
   have hnext : runI l s (ys.take (k + 1)) = l.at (runI l s (ys.take k)) (ys[k]).toNat := by rw [List.take_succ_eq_append_getElem hky, runI_snoc]
   obtain ⟨m, hm, hml⟩ := hst.nat
   rw [hm] at hnext ⊢
   have hyk := HV.out ys[k] (List.getElem_mem hky)
   obtain ⟨c, hc, hck⟩ : ∃ c : Nat, ys[k] = (c : Int) ∧ c < l.k := ⟨ys[k].toNat, by omega, by omega⟩
   obtain ⟨ad', cap', e', -, -, hcc⟩ := HY.out
   obtain ⟨b0, off0, rfl2, hb0, hcell⟩ := hcc (by omega)
   injection e' with e1 e2 e3
   rw [rfl2] at e1
   have c2 := hcell k hky
   rw [at0_lt hky, hc] at c2
   rw [hc, Int.toNat_natCast] at hnext
   subst e1
   obtain ⟨b, off, b2, off2, cc, cap, e4, hb, hcell1, hb2, hcell2⟩ := (HX.out.below HB.out).ent HO.out.fit hml hck
   obtain ⟨z, hz⟩ : ∃ z, z = l.at (m : Int) c := ⟨_, rfl⟩
   rw [← hz] at hcell2 hnext
   injection e4 with e4 e5 e6
   subst e4
   have HC := Lib.hid (And.intro (Nat.lt_of_lt_of_le hb0 HB.out.size) ((HB.out.cell (p := ⟨b0, off0 + k, none⟩) hb0).trans c2))
   have HD := Lib.hid (And.intro hb hcell1)
   have HE := Lib.hid (And.intro hb2 hcell2)
   have HXB := Lib.hid (HX.out.below HB.out).blk
   have HNX := Lib.hid hnext
   obtain ⟨kk, hkk⟩ : ∃ kk, kk = l.k := ⟨_, rfl⟩
   rw [← hkk] at hck HD
   have hcki : (c : Int) < (kk : Int) := by omega
   have hmi : (m : Int) < (l.nx.length : Int) := by omega
   clear hcc hcell c2 e2 e3 e5 e6 hb0 rfl2 hb hcell1 hb2 hcell2 hnext hz hkk hc hyk hst hm
   go_wp2
   refine wp_region_x (R := fun U => Below wo.heap.size wo U) (S := fun _ => True) (z := 999) rfl ?_
   change wpAnyX _ _ _ _ _ _ _ _ _ _ wo.drew
   have Hq0 := Lib.hid (show Below wo.heap.size wo wo.drew from (Below.refl _ _).drew)
   obtain ⟨wq0, hwq⟩ : ∃ q, q = wo.drew := ⟨_, rfl⟩
   rw [← hwq] at Hq0 ⊢
   clear hwq
   refine wpX_kp (i := 0) (oi := ⟨some 14, _, _, _, _, none⟩) (v := ?_) rfl (fun _ _ _ h => h) ?_ ⟨(by first | exact Hq4.out | exact Hq3.out | exact Hq2.out | exact Hq1.out | exact Hq0.out), fun _ => trivial⟩ ?_
   rotate_left
   ·intro U hU
    go_simp
    all_goals with_reducible rfl
   simp only [putE]
   refine wpX_kp (i := 1) (oi := ⟨some 15, _, _, _, _, none⟩) (v := ?_) rfl (fun _ _ _ h => h) ?_ ⟨(by first | exact Hq4.out | exact Hq3.out | exact Hq2.out | exact Hq1.out | exact Hq0.out), fun _ => trivial⟩ ?_
   rotate_left
   ·intro U hU
    have u0 := cell_blk (i := 0) (blk_keep HXB.out hU)
    simp only [List.getElem?_toArray, List.getElem?_cons_zero] at u0
    go_simp
    all_goals with_reducible rfl
   simp only [putE]
   refine wpX_kp (i := 2) (oi := ⟨some 16, _, _, _, _, none⟩) (v := ?_) rfl (fun _ _ _ h => h) ?_ ⟨(by first | exact Hq4.out | exact Hq3.out | exact Hq2.out | exact Hq1.out | exact Hq0.out), fun _ => trivial⟩ ?_
   rotate_left
   ·intro U hU
    go_simp
    all_goals with_reducible rfl
   simp only [putE]
   refine wpX_kp (i := 3) (oi := ⟨some 17, _, _, _, _, none⟩) (v := ?_) rfl (fun _ _ _ h => h) ?_ ⟨(by first | exact Hq4.out | exact Hq3.out | exact Hq2.out | exact Hq1.out | exact Hq0.out), fun _ => trivial⟩ ?_
   rotate_left
   ·intro U hU
    go_simp
    all_goals with_reducible rfl
   simp only [putE]
   refine wpX_kp (i := 4) (oi := ⟨some 18, _, _, _, _, none⟩) (v := ?_) rfl (fun _ _ _ h => h) ?_ ⟨(by first | exact Hq4.out | exact Hq3.out | exact Hq2.out | exact Hq1.out | exact Hq0.out), fun _ => trivial⟩ ?_
   rotate_left
   ·intro U hU
    have u0 := (hU.cell (p := ⟨b, off + m, none⟩) HD.out.1).trans HD.out.2
    go_simp
    all_goals with_reducible rfl
   simp only [putE]
   refine wpX_kp (i := 5) (oi := ⟨some 19, _, _, _, _, none⟩) (v := ?_) rfl (fun _ _ _ h => h) ?_ ⟨(by first | exact Hq4.out | exact Hq3.out | exact Hq2.out | exact Hq1.out | exact Hq0.out), fun _ => trivial⟩ ?_
   rotate_left
   ·intro U hU
    go_simp
    all_goals with_reducible rfl
   simp only [putE]
   refine wpX_kp (i := 6) (oi := ⟨some 20, _, _, _, _, none⟩) (v := ?_) rfl (fun _ _ _ h => h) ?_ ⟨(by first | exact Hq4.out | exact Hq3.out | exact Hq2.out | exact Hq1.out | exact Hq0.out), fun _ => trivial⟩ ?_
   rotate_left
   ·intro U hU
    go_simp
    all_goals with_reducible rfl
   simp only [putE]
   refine wpX_kp (i := 7) (oi := ⟨some 21, _, _, _, _, none⟩) (v := ?_) rfl (fun _ _ _ h => h) ?_ ⟨(by first | exact Hq4.out | exact Hq3.out | exact Hq2.out | exact Hq1.out | exact Hq0.out), fun _ => trivial⟩ ?_
   rotate_left
   ·intro U hU
    go_simp
    all_goals with_reducible rfl
   simp only [putE]
   refine wpX_kp (i := 8) (oi := ⟨some 22, _, _, _, _, none⟩) (v := ?_) rfl (fun _ _ _ h => h) ?_ ⟨(by first | exact Hq4.out | exact Hq3.out | exact Hq2.out | exact Hq1.out | exact Hq0.out), fun _ => trivial⟩ ?_
   rotate_left
   ·intro U hU
    have u0 := (hU.cell (p := ⟨b0, off0 + k, none⟩) HC.out.1).trans HC.out.2
    go_simp
    all_goals with_reducible rfl
   simp only [putE]
   refine wpX_kp (i := 9) (oi := ⟨some 23, _, _, _, _, none⟩) (v := ?_) rfl (fun _ _ _ h => h) ?_ ⟨(by first | exact Hq4.out | exact Hq3.out | exact Hq2.out | exact Hq1.out | exact Hq0.out), fun _ => trivial⟩ ?_
   rotate_left
   ·intro U hU
    go_simp
    all_goals with_reducible rfl
   simp only [putE]
   refine wpX_kp (i := 10) (oi := ⟨some 24, _, _, _, _, none⟩) (v := ?_) rfl (fun _ _ _ h => h) ?_ ⟨(by first | exact Hq4.out | exact Hq3.out | exact Hq2.out | exact Hq1.out | exact Hq0.out), fun _ => trivial⟩ ?_
   rotate_left
   ·intro U hU
    have u0 := (hU.cell (p := ⟨b2, off2 + c, none⟩) HE.out.1).trans HE.out.2
    go_simp
    all_goals with_reducible rfl
   simp only [putE]
   refine wpX_kp (i := 11) (oi := ⟨some 1, _, _, _, _, none⟩) (v := ?_) rfl (fun _ _ _ h => h) ?_ ⟨(by first | exact Hq4.out | exact Hq3.out | exact Hq2.out | exact Hq1.out | exact Hq0.out), fun _ => trivial⟩ ?_
   rotate_left
   ·intro U hU
    go_simp
    all_goals with_reducible rfl
   simp only [putE]
   refine wpAnyX_done (by kernel_rfl) ?_ _
   have HBQ := Lib.hid (btr HB.out Hq0.out (Nat.le_refl _))
   clear HXB HC HD HE Hq0
   go_wp2
   go_roundw
   case rel => exact ⟨k + 1, by omega, by go_num, by rw [HNX.out], HBQ.out⟩
   case measure => simp [intOf]; omega
  ·have hki : ¬ (k : Int) < (N : Int) := by omega
   have hfin : runI l s (ys.take k) = runI l s ys := by rw [List.take_of_length_le (by rw [← HN.out]; omega)]
   rw [hfin]
   clear hfin
   go_wp2
   go_ret
   rw [HW.out.2]
   refine ⟨rfl, ?_⟩
   rw [← HW.out.2]
   exact HB1.out.trans (HB.out.mono HGW.out)
end Ytnjgglnpmhjmiaa
end Go.Proofs

