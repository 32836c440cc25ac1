/- Laws of rotation: whether a law allows lists, one after the other. -/
import Derived.Test.YtnjgglnpmhjmiaaA9
open Go Go.RowKit Go.YtnjgglnpmhjmiaaIt
open Rest
namespace Go.Proofs
namespace Ytnjgglnpmhjmiaa
set_option maxRecDepth 100000 in
set_option maxHeartbeats 4000000 in
theorem allows_any {v vl : Value} {l : Lw} {lists : List (List Int)} {w : World} (h : LawA w v l) (ho : l.Ok) (hl : SlII w vl lists) (hv : ∀ ys ∈ lists, YsOk l ys) : Calls Try.prog 40 #[v, vl] w fun e w' => e = .returned (.bool (l.good (endI l lists))) ∧ Below w.heap.size w w' := by
 obtain ⟨vn, vg, rfl, hn, hg⟩ := h
 obtain ⟨an, cn, rfl, hcn⟩ := slII_form hn
 have hllen := slII_len hl
 obtain ⟨al, cl, rfl, hcl⟩ := slII_form hl
 have hX := LawA.box (⟨_, _, rfl, hn, hg⟩ : LawA w (.agg #[.slice an l.nx.length cn, vg]) l) 25
 have hB1 := (Below.refl w.heap.size w).alloc (Nat.le_refl _) (.cells #[.slice an l.nx.length cn, vg] 25)
 have hL1 := hl.below hB1 (Nat.le_refl _)
 obtain ⟨w1, hw1⟩ : ∃ q, q = w.alloc (.cells #[.slice an l.nx.length cn, vg] 25) := ⟨_, rfl⟩
 obtain ⟨g, hgw⟩ : ∃ q, q = w.heap.size := ⟨_, rfl⟩
 go_enter Try.func40, Try.ntmps40
 refine wp_seq_k (fun K hK => ?_)
 have HK := Lib.hid hK; clear hK
 have HW := Lib.hid (And.intro hw1 hgw)
 clear hw1 hgw
 go_wp2
 refine HK.out _ _ ?_; clear HK
 obtain ⟨hw1, hgw⟩ := HW.out
 rw [← hw1] at hX hL1 hB1 ⊢
 rw [← hgw] at hX hB1 ⊢
 have c0 := cell_blk (i := 0) hX.blk
 simp only [List.getElem?_toArray, List.getElem?_cons_zero] at c0
 have HX := Lib.hid hX
 have HL1 := Lib.hid hL1
 have HB1 := Lib.hid hB1
 have HO := Lib.hid ho
 have HV := Lib.hid hv
 clear hw1 hgw HW hX hL1 hB1 hn hg hl ho hv
 go_wp2
 go_loopw [5, 12] (fun s i wr => ∃ k : Nat, k ≤ lists.length ∧ i = .int .i64 k ∧ s = .int .i64 (endI l (lists.take k)) ∧ w1 = wr) (fun _ i _ => lists.length - (intOf i).toNat)
 case atStart => exact ⟨0, Nat.zero_le _, rfl, rfl, rfl⟩
 case round =>
  obtain ⟨k, hk, rfl, rfl, rfl⟩ := hrel
  by_cases hkn : k < lists.length
  ·have hki : (k : Int) < (lists.length : Int) := by omega
   obtain ⟨b, off, a, cc, rfl, hbl, hcell, hrow⟩ := HL1.out.row hkn
   have hst : l.st (endI l (lists.take k)) := endI_st HO.out fun ys hy => HV.out ys (List.mem_of_mem_take hy)
   have hyk := HV.out _ (List.getElem_mem hkn)
   have hend : Hid (endI l (lists.take (k + 1)) = runI l (endI l (lists.take k)) lists[k]) := Lib.hid (by rw [List.take_succ_eq_append_getElem hkn, endI_snoc])
   obtain ⟨ys, hys⟩ : ∃ ys, ys = lists[k] := ⟨_, rfl⟩
   obtain ⟨s0, hs0⟩ : ∃ s, s = endI l (lists.take k) := ⟨_, rfl⟩
   rw [← hys] at hcell hrow hyk hend
   rw [← hs0] at hst hend ⊢
   have HS := Lib.hid (And.intro hst hyk)
   obtain ⟨ad', cap', e', hylen, -, hcc⟩ := hrow
   injection e' with e1 e2 e3
   subst e1
   have HCC := Lib.hid hcc
   clear hst hyk hys hs0 hcc e2 e3
   go_wp2
   go_loopw [5, 18] (fun s i wr => ∃ j : Nat, j ≤ ys.length ∧ i = .int .i64 j ∧ s = .int .i64 (runI l s0 (ys.take j)) ∧ w1 = wr) (fun _ i _ => ys.length - (intOf i).toNat)
   case atStart => exact ⟨0, Nat.zero_le _, rfl, rfl, rfl⟩
   case round =>
    obtain ⟨j, hj, rfl, rfl, rfl⟩ := hrel
    by_cases hjn : j < ys.length
    ·have hji : (j : Int) < (ys.length : Int) := by omega
     obtain ⟨b2, off2, rfl, hb2, hcell2⟩ := HCC.out (by omega)
     have c2 := hcell2 j hjn
     rw [at0_lt hjn] at c2
     have hs1 : l.st (runI l s0 (ys.take j)) := runI_st HO.out HS.out.1 fun c hc => HS.out.2 c (List.mem_of_mem_take hc)
     have hcy := HS.out.2 _ (List.getElem_mem hjn)
     have hnx : Hid (runI l s0 (ys.take (j + 1)) = l.at (runI l s0 (ys.take j)) (ys[j]).toNat) := Lib.hid (by rw [List.take_succ_eq_append_getElem hjn, runI_snoc])
     obtain ⟨c, hc⟩ : ∃ c : Nat, ys[j] = (c : Int) := ⟨(ys[j]).toNat, by omega⟩
     rw [hc] at c2 hcy hnx
     rw [show ((c : Nat) : Int).toNat = c from rfl] at hnx
     obtain ⟨s1, hs1e⟩ : ∃ s, s = runI l s0 (ys.take j) := ⟨_, rfl⟩
     rw [← hs1e] at hs1 hnx ⊢
     obtain ⟨m, rfl, hm⟩ := hs1.nat
     have hck : c < l.k := by omega
     obtain ⟨h2, e⟩ := HO.out.at_eq hm hck
     obtain ⟨b3, off3, a3, cc3, rfl, hb3, hcell3, hrow3⟩ := HX.out.nx.row hm
     obtain ⟨ad3, cap3, e3, -, -, hcc3⟩ := hrow3
     injection e3 with e4 e5 e6
     subst e4
     obtain ⟨b4, off4, rfl, hb4, hcell4⟩ := hcc3 (by omega)
     have c4 := hcell4 c h2
     rw [at0_lt h2, ← e] at c4
     have hsl : (m : Int) < (l.nx.length : Int) := by omega
     have hcl3 : (c : Int) < ((l.nx[m]).length : Int) := by omega
     obtain ⟨rl, hrl⟩ : ∃ q, q = (l.nx[m]).length := ⟨_, rfl⟩
     rw [← hrl] at hcell3 hcl3
     obtain ⟨rv, hrv⟩ : ∃ q, q = l.at (m : Int) c := ⟨_, rfl⟩
     rw [← hrv] at c4 hnx
     clear hcell2 hc hs1e e hcc3 hcell4 hrv e5 e6 hs1 h2
     clear hrl
     go_wp2
     refine ⟨⟨j + 1, by omega, by go_num, by rw [hnx.out], trivial⟩, ?_⟩
     simp only [intOf]; omega
    ·have hji : ¬ (j : Int) < (ys.length : Int) := by omega
     have hje : j = ys.length := by omega
     subst hje
     rw [List.take_length]
     have hend2 := hend.out
     obtain ⟨s2, hs2⟩ : ∃ s, s = runI l s0 ys := ⟨_, rfl⟩
     rw [← hs2] at hend2 ⊢
     have HE2 := Lib.hid hend2
     clear hs2 hend2
     go_wp2
     refine ⟨⟨k + 1, by omega, by go_num, by rw [HE2.out], trivial⟩, ?_⟩
     simp only [intOf]; omega
  ·have hki : ¬ (k : Int) < (lists.length : Int) := by omega
   have hke : k = lists.length := by omega
   subst hke
   rw [List.take_length]
   have hst := endI_st HO.out HV.out
   have hX := HX.out
   have hgd := HO.out.gd
   obtain ⟨m, hm, hml0⟩ := hst.nat
   have hml : m < l.gd.length := by rw [hgd]; exact hml0
   have hg := hX.gd
   obtain ⟨ag, cg, rfl, -⟩ := id hg
   obtain ⟨b, off, rfl, hb, hcell⟩ := slV_bool hg hml
   have e : l.good (m : Int) = l.gd[m] := by
    unfold Lw.good
    rw [show (m : Int).toNat = m from rfl, List.getD_eq_getElem?_getD, List.getElem?_eq_getElem hml, Option.getD_some]
   rw [← e] at hcell
   obtain ⟨rv, hrv⟩ : ∃ q, q = l.good (m : Int) := ⟨_, rfl⟩
   rw [← hrv] at hcell
   have HRV := Lib.hid (show l.good (endI l lists) = rv by rw [hrv, hm])
   rw [hm]
   have c1 := cell_blk (i := 1) hX.blk
   simp only [List.getElem?_toArray, List.getElem?_cons_zero, List.getElem?_cons_succ, List.length_map] at c1
   have hsl : (m : Int) < (l.gd.length : Int) := by omega
   clear hX hg hrv e hst hml hml0 hm hgd
   go_wp2
   go_ret
   exact ⟨by rw [HRV.out]; rfl, HB1.out⟩
end Ytnjgglnpmhjmiaa
end Go.Proofs
