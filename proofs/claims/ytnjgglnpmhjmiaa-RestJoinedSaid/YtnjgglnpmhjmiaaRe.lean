/- Laws of rotation: the reference: the classes of a law's states. -/
import Derived.Test.YtnjgglnpmhjmiaaRd
open Go Go.RowKit Go.YtnjgglnpmhjmiaaIt
open Rest
namespace Go.Proofs
namespace Ytnjgglnpmhjmiaa
theorem key141 : WideMaps.ArrKey Try.prog 141 3 5 := ⟨Try.underlying141, by kernel_rfl, by kernel_rfl, by kernel_rfl⟩
theorem keyed141 : Maps.Keyed Try.prog 141 := Maps.Keyed.of_law key141.law
theorem size141 : (Try.prog.info? 141).map (·.size) = some 5 := by kernel_rfl
theorem keyK141 {l : List Nat} (h5 : l.length = 5) (h : ∀ x ∈ l, x ≤ 1000000) : ∃ q, keyOf Try.prog 141 (encK l) = some q :=
 keyOf_ints key141 Try.underlying3 ⟨_, rfl⟩ (by rw [List.length_map]; exact h5) (fun x hx => by
  obtain ⟨n, hn, rfl⟩ := List.mem_map.1 hx
  have := h n hn
  exact wfZ (by omega))
theorem key141_ok {l : Lw} {r : Nat} (ho : l.Fit) {s : Int} (hs : l.st s) : ∃ q, keyOf Try.prog 141 (encK (keyC (sysL l) (clsL l r) s)) = some q :=
 keyK141 (by rw [← keyP_all]; exact keyP_len ho.k4) (fun j hj => by
  have hM := ho.nM
  unfold keyC at hj
  rcases List.mem_cons.1 hj with rfl | hj
  ·have := clsL_bd l r s hs; omega
  ·rcases List.mem_append.1 hj with hj | hj
   ·obtain ⟨c, hc, rfl⟩ := List.mem_map.1 hj
    have := clsL_bd l r _ (ho.cl hs (show c < l.k from List.mem_range.1 hc))
    have e : (sysL l).nx s c = l.at s c := rfl
    rw [e]; omega
   ·have := List.eq_of_mem_replicate hj; omega)
theorem slI_row {W : World} {g n : Nat} {f : Nat → Int} {t : TypeId} (h : W.heap[g]? = some (.cells (rowX n f).toArray t)) (hn : n ≤ 5000) : SlI W (.slice (some ⟨g, 0, none⟩) n n) ((List.range n).map f) :=
 ⟨some ⟨g, 0, none⟩, n, by simp, by simp; omega, by simp, fun _ => ⟨g, 0, rfl, lt_blk h, fun i hi => by
  have hi' : i < n := by simpa using hi
  rw [Nat.zero_add, cell_blk h, at0_lt hi, List.getElem?_toArray, rowX_get _ hi']
  simp⟩⟩
/-- The classes as numbers. -/
def clF (l : Lw) (r s : Nat) : Int := ((clsL l r (s : Int) : Nat) : Int)
theorem clF_list (l : Lw) (r : Nat) : (List.range l.nx.length).map (clF l r) = (stsL l).map fun s => ((clsL l r s : Nat) : Int) := by
 unfold stsL nI clF
 rw [List.map_map]
 rfl
theorem keysL_sub (x : RSys Int) (cls : Int → Nat) (sts : List Int) (k : Nat) : keysL x cls (sts.take k) <+: keysL x cls sts := by
 have h : keysL x cls sts = ((sts.drop k).map (keyC x cls)).foldl addK (keysL x cls (sts.take k)) := by
  unfold keysL
  rw [← List.foldl_append, ← List.map_append, List.take_append_drop]
 rw [h]
 exact foldK_pre _ _
theorem clF_next {l : Lw} {r k : Nat} (hk : k < l.nx.length) : ((keysL (sysL l) (clsL l r) ((stsL l).take (k + 1))).idxOf (keyC (sysL l) (clsL l r) (k : Int)) : Int) = clF l (r + 1) k := by
 unfold clF
 show _ = ((splitC (sysL l) (stsL l) (clsN (sysL l) (stsL l) r) (k : Int) : Nat) : Int)
 unfold splitC
 have hm : (k : Int) ∈ (stsL l).take (k + 1) := by
  rw [List.take_succ_eq_append_getElem (by rw [sts_len]; exact hk), sts_get hk]
  simp
 rw [idxOf_pre (keysL_sub (sysL l) (clsN (sysL l) (stsL l) r) (stsL l) (k + 1)) ((keysL_mem _ _ _ _).2 ⟨_, hm, rfl⟩)]
 rfl
set_option maxRecDepth 100000 in
set_option maxHeartbeats 8000000 in
theorem rclasses_any {v : Value} {l : Lw} {w : World} (h : LawA w v l) (ho : l.Fit) : Calls Try.prog 90 #[v] w fun e w' => ∃ vc r, e = .returned vc ∧ Stop (sysL l) (stsL l) r ∧ SlI w' vc ((stsL l).map fun s => ((clsL l r s : Nat) : Int)) ∧ Below w.heap.size w w' := by
 have HOK := Lib.hid ho
 obtain ⟨vn, vg, rfl, hn, hg⟩ := h
 obtain ⟨ag, cg, rfl, -⟩ := id hg
 obtain ⟨an, cn, rfl, hcn⟩ := slII_form hn
 have hX := LawA.box (⟨_, _, rfl, hn, hg⟩ : LawA w (.agg #[.slice an l.nx.length cn, .slice ag (l.gd.map Value.bool).length cg]) l) 29
 rw [List.length_map] at *
 rw [ho.gd] at *
 have hB1 := (Below.refl w.heap.size w).alloc (Nat.le_refl _) (.cells #[.slice an l.nx.length cn, .slice ag l.nx.length cg] 29)
 obtain ⟨m, hm⟩ : ∃ m, m = l.nx.length := ⟨_, rfl⟩
 have HM := Lib.hid hm
 have hm2 : m ≤ 2000 := by rw [hm]; exact ho.nM
 have hm1 : 1 ≤ m := by rw [hm]; exact ho.n1
 rw [← hm] at hX hB1 ⊢
 obtain ⟨w1, hw1⟩ : ∃ q, q = w.alloc (.cells #[.slice an m cn, .slice ag m cg] 29) := ⟨_, rfl⟩
 obtain ⟨g, hgw⟩ : ∃ q, q = w.heap.size := ⟨_, rfl⟩
 have HW := Lib.hid (And.intro hw1 hgw)
 rw [← hw1] at hX hB1
 rw [← hgw] at hX
 have HX := Lib.hid hX
 have HB1 := Lib.hid (show Below g w w1 by rw [hgw]; exact hB1)
 have HGW := Lib.hid (show g ≤ w1.heap.size from Nat.le_of_lt (lt_blk HX.out.blk))
 have HK5 : Hid (∀ W, Below w1.heap.size w1 W → Calls Try.prog 65 #[.agg #[.slice an m cn, .slice ag m cg]] W fun e w' => e = .returned (.int .i64 (l.k : Nat)) ∧ Below W.heap.size W w') := Lib.hid fun W hW => rcrops_any (HX.out.below hW).law HOK.out.ne
 obtain ⟨kk, hkq⟩ : ∃ q, q = l.k := ⟨_, rfl⟩
 have hk4 : kk ≤ 4 := by rw [hkq]; exact ho.k4
 rw [← hkq] at HK5
 have HKQ := Lib.hid hkq
 have hmm := @run_makeMap Try.prog
 clear hn hg hX hB1 hw1 hgw hcn hm ho hkq
 go_enter Try.func90, Try.ntmps90
 refine wp_seq_k (fun K hK => ?_)
 have HK := Lib.hid hK; clear hK
 go_wp2
 refine HK.out _ _ ?_; clear HK
 rw [← HW.out.1, ← HW.out.2]
 obtain ⟨i3, hi3, hz1, hz2, hz3⟩ := info_parts info3
 have HI := Lib.hid (And.intro hi3 (And.intro hz1 (And.intro hz2 hz3)))
 clear hi3 hz1 hz2 hz3
 have c0 := cell_blk (i := 0) HX.out.blk
 simp only [List.getElem?_toArray, List.getElem?_cons_zero] at c0
 refine wp_seq_k (fun K hK => ?_)
 have HK := Lib.hid hK; clear hK
 go_wp2_with (at_make; refine wpList_make_full w1 rfl (.tmp 15) (.tmp 15) 40 rfl w1.heap.size 3 i3 (.int .i64 0) 1 Try.underlying40 HI.out.1 HI.out.2.1 HI.out.2.2.1 .i64 .i64 _ _ m rfl rfl rfl rfl (by rw [HI.out.2.2.2]; omega) (Nat.le_trans (by omega : m ≤ 2000) (by decide)) (Nat.le_refl _) ?_; intro w5 q1 q2)
 refine HK.out _ _ ?_; clear HK
 rw [made_rep _ rfl] at q1
 have hb5 : Below w1.heap.size w1 w5 := ⟨q2.os, q2.tape, q2.output, q2.size, fun k hk => q2.block k hk (by simp)⟩
 have q3 := row_full q1
 rw [← rowX_zero] at q3
 obtain ⟨f0, hf0⟩ : ∃ f, f = w1.heap.size := ⟨_, rfl⟩
 have lf0 : w1.heap.size ≤ f0 := by omega
 rw [← hf0] at q3 ⊢
 clear hf0 q1 q2 c0
 have HB5 := Lib.hid hb5
 have HQ3 := Lib.hid q3
 clear hb5 q3
 have HG : Hid (∀ W, Below w1.heap.size w1 W → ∀ k, k < m → ∃ b off, ag = some ⟨b, off, none⟩ ∧ W.cell? ⟨b, off + k, none⟩ = some (.bool (l.good (k : Int)))) := Lib.hid fun W hW k hk => by
  obtain ⟨b, off, cg', e, hb, hc⟩ := (HX.out.below hW).gdF HOK.out (m := k) (by rw [← HM.out]; exact hk)
  injection e with e1 e2 e3
  exact ⟨b, off, e1, hc⟩
 have HBX := Lib.hid (fun W (hW : Below w1.heap.size w1 W) => blk_keep HX.out.blk hW)
 go_wp2
 go_loopw [4] (fun i wr => ∃ k : Nat, k ≤ m ∧ i = .int .i64 k ∧ Hid (wr.heap[f0]? = some (.cells (rowX m fun s => if s < k then clF l 0 s else 0).toArray 3)) ∧ Below w1.heap.size w1 wr) (fun i _ => m - (intOf i).toNat)
 case atStart => exact ⟨0, Nat.zero_le _, rfl, Lib.hid (by rw [HQ3.out, rowX_same (k := fun s => if s < 0 then clF l 0 s else 0) fun v _ => (if_neg (by omega)).symm]), HB5.out⟩
 case round =>
  obtain ⟨k, hk, rfl, HF, hbr⟩ := hrel
  obtain ⟨wo, rfl⟩ : ∃ q, q = wr := ⟨_, rfl⟩
  by_cases hkm : k < m
  ·have hki : (k : Int) < (m : Int) := by omega
   obtain ⟨bg, og, rfl, cg1⟩ := HG.out wo hbr k hkm
   obtain ⟨r, hr⟩ : ∃ r, r = l.good (k : Int) := ⟨_, rfl⟩
   rw [← hr] at cg1
   have c1 := cell_blk (i := 1) (HBX.out wo hbr)
   simp only [List.getElem?_toArray, List.getElem?_cons_zero, List.getElem?_cons_succ] at c1
   have HR := Lib.hid hr
   have HBR := Lib.hid hbr
   clear hr hbr
   have HC0 : Hid (clF l 0 k = if r = true then 1 else 0) := Lib.hid (by
    unfold clF clsL clsN
    show (((if l.good (k : Int) = true then 1 else 0 : Nat)) : Int) = _
    rw [← HR.out]
    cases r <;> rfl)
   cases r with
   | false =>
    go_wp2
    refine ⟨⟨k + 1, by omega, by go_num, Lib.hid ?_, HBR.out⟩, by simp only [intOf]; omega⟩
    rw [HF.out, rowX_same (k := fun s => if s < k + 1 then clF l 0 s else 0) fun v _ => ?_]
    by_cases h1 : v < k
    ·rw [if_pos h1, if_pos (by omega)]
    ·rw [if_neg h1]
     by_cases h2 : v = k
     ·subst h2; rw [if_pos (by omega), HC0.out]; rfl
     ·rw [if_neg (by omega)]
   | true =>
    have x0 := cell_blk (i := k) HF.out
    rw [List.getElem?_toArray, rowX_get _ hkm] at x0
    have x1 := free_blk (i := k) HF.out
    go_wp2
    refine ⟨⟨k + 1, by omega, by go_num, Lib.hid ?_, HBR.out.setCell lf0 _⟩, by simp only [intOf]; omega⟩
    rw [heap_set_blk HF.out, rowX_set _ (fun s => if s < k + 1 then clF l 0 s else 0) _ fun v _ => ?_]
    by_cases h2 : v = k
    ·subst h2; rw [if_pos (by omega), if_pos rfl, HC0.out]; rfl
    ·rw [if_neg h2]
     by_cases h1 : v < k
     ·rw [if_pos h1, if_pos (by omega)]
     ·rw [if_neg h1, if_neg (by omega)]
  ·have hki : ¬ (k : Int) < (m : Int) := by omega
   have hkk : k = m := by omega
   have HF0 := Lib.hid (show wo.heap[f0]? = some (.cells (rowX m (clF l 0)).toArray 3) by
    rw [HF.out, rowX_same fun v hv => if_pos (by omega)])
   have HBR := Lib.hid hbr
   clear hbr hki hkk HF
   go_wp2
   go_loopw [3, 5] (fun vf ct wr => ∃ r f : Nat, vf = .slice (some ⟨f, 0, none⟩) m m ∧ ct = .int .i64 (cntN (sysL l) (stsL l) r : Nat) ∧ w1.heap.size ≤ f ∧ Hid (wr.heap[f]? = some (.cells (rowX m (clF l r)).toArray 3)) ∧ Below w1.heap.size w1 wr) (fun _ ct _ => m + 1 - (intOf ct).toNat)
   case atStart => exact ⟨0, f0, rfl, rfl, lf0, HF0, HBR.out⟩
   case round =>
    clear HF0 HBR lf0 HQ3 HB5
    obtain ⟨r, f, rfl, rfl, lf, HF, hbr⟩ := hrel
    obtain ⟨wp, rfl⟩ : ∃ q, q = wr := ⟨_, rfl⟩
    obtain ⟨C, hC⟩ : ∃ C, C = cntN (sysL l) (stsL l) r := ⟨_, rfl⟩
    rw [← hC]
    have hCm : C ≤ m := by rw [hC, HM.out, ← sts_len]; exact cnt_le _ _ _
    have HC := Lib.hid hC
    have HBP := Lib.hid hbr
    clear hC hbr
    go_wp2_with (at_make; refine cutme ?_)
    refine ⟨?_⟩
    obtain ⟨wq, hwq⟩ : ∃ q, q = wp.alloc (.map #[] 0) := ⟨_, rfl⟩
    have hM0 := mapF_new encK wp 0
    have hbq : Below wp.heap.size wp wq := by rw [hwq]; exact (Below.refl _ _).alloc (Nat.le_refl _) _
    rw [← hwq] at hM0 ⊢
    obtain ⟨gk, hgk⟩ : ∃ q, q = wp.heap.size := ⟨_, rfl⟩
    rw [← hgk] at hM0 ⊢
    have lfk : f < gk := by rw [hgk]; exact lt_blk HF.out
    have lgk : gk < wq.heap.size := hM0.lt
    have HFq := Lib.hid (blk_keep HF.out hbq)
    have HBQ := Lib.hid (btr HBP.out hbq (Nat.le_refl _))
    have HM0 := Lib.hid hM0
    clear hwq hgk hM0 hbq HF HBP
    refine wpList_make_full wq rfl (.tmp 33) (.tmp 33) 40 rfl wq.heap.size 3 i3 (.int .i64 0) 1 Try.underlying40 HI.out.1 HI.out.2.1 HI.out.2.2.1 .i64 .i64 _ _ m rfl rfl rfl rfl (by rw [HI.out.2.2.2]; omega) (Nat.le_trans (by omega : m ≤ 2000) (by decide)) (Nat.le_refl _) ?_
    intro w7 q1 q2
    rw [made_rep _ rfl] at q1
    have hb7 : Below wq.heap.size wq w7 := ⟨q2.os, q2.tape, q2.output, q2.size, fun k hk => q2.block k hk (by simp)⟩
    have q3 := row_full q1
    rw [← rowX_zero] at q3
    obtain ⟨gn, hgn⟩ : ∃ f, f = wq.heap.size := ⟨_, rfl⟩
    rw [← hgn] at q3 ⊢
    have lkn : gk < gn := by omega
    have HQ7 := Lib.hid q3
    have HB7 := Lib.hid (btr HBQ.out hb7 (Nat.le_refl _))
    have HF7 := Lib.hid (blk_keep HFq.out hb7)
    have HM7 := Lib.hid (HM0.out.below hb7)
    clear hgn q1 q2 q3 hb7 lgk HFq HBQ HM0
    have HXF := Lib.hid (fun (s : Int) (hs : l.st s) => key141_ok (r := r) HOK.out hs)
    go_wp2
    go_loopw [8] (fun i wr => ∃ s : Nat, s ≤ m ∧ i = .int .i64 s ∧ Hid (MapF encK wr gk (keysL (sysL l) (clsL l r) ((stsL l).take s)).length (Fk (keysL (sysL l) (clsL l r) ((stsL l).take s)))) ∧ Hid (wr.heap[gn]? = some (.cells (rowX m fun v => if v < s then clF l (r + 1) v else 0).toArray 3)) ∧ Hid (wr.heap[f]? = some (.cells (rowX m (clF l r)).toArray 3)) ∧ Below w1.heap.size w1 wr) (fun i _ => m - (intOf i).toNat)
    case atStart => exact ⟨0, Nat.zero_le _, rfl, Lib.hid (HM7.out.congr fun s => by simp [Fk, keysL]), Lib.hid (by rw [HQ7.out, rowX_same (k := fun t => if t < 0 then clF l (r + 1) t else 0) fun v _ => (if_neg (by omega)).symm]), HF7, HB7.out⟩
    case round =>
     clear HM7 HQ7 HF7 HB7
     obtain ⟨s, hs, rfl, HMP, HN, HF, hbr⟩ := hrel
     obtain ⟨wo, rfl⟩ : ∃ q, q = wr := ⟨_, rfl⟩
     have HBO := Lib.hid hbr
     clear hbr
     by_cases hsm : s < m
     ·have hsi : (s : Int) < (m : Int) := by omega
      have hsl : s < l.nx.length := by rw [← HM.out]; exact hsm
      have hst : l.st (s : Int) := ⟨by omega, by omega⟩
      have y0 := cell_blk (i := s) HF.out
      rw [List.getElem?_toArray, rowX_get _ hsm] at y0
      have hcl0 : clF l r s = ((clsL l r (s : Int) : Nat) : Int) := rfl
      rw [hcl0] at y0
      clear hcl0
      go_wp2_with (refine wpList_store_blk rfl 141 _ _ rfl _ rfl rfl (heap_newI rfl) size141 rfl rfl rfl ?_)
      obtain ⟨w2, hw2⟩ : ∃ q, q = wo.alloc (.cells #[.int .i64 (clsL l r (s : Int) : Nat), .int .i64 0, .int .i64 0, .int .i64 0, .int .i64 0] 141) := ⟨_, rfl⟩
      have b2 : Below wo.heap.size wo w2 := by rw [hw2]; exact (Below.refl _ _).alloc (Nat.le_refl _) _
      have k2 : w2.heap[wo.heap.size]? = some (.cells ((nI (keyP (sysL l) (clsL l r) (s : Int) 0)).map (Value.int .i64)).toArray 141 (0, 0)) := by rw [hw2]; exact heap_newI rfl
      rw [← hw2]
      obtain ⟨g9, hg9⟩ : ∃ q, q = wo.heap.size := ⟨_, rfl⟩
      rw [← hg9] at k2 ⊢
      have lk9 : gn < g9 := by rw [hg9]; exact lt_blk HN.out
      have HG9 := Lib.hid (show wo.heap.size ≤ g9 from Nat.le_of_eq hg9.symm)
      have HK2 := Lib.hid k2
      have HB2 := Lib.hid b2
      clear hw2 k2 b2 hg9 y0
      go_loopw [10] (fun i wr => ∃ c : Nat, c ≤ kk ∧ i = .int .i64 c ∧ Hid (wr.heap[g9]? = some (.cells ((nI (keyP (sysL l) (clsL l r) (s : Int) c)).map (Value.int .i64)).toArray 141 (0, 0))) ∧ Below wo.heap.size wo wr) (fun i _ => kk - (intOf i).toNat)
      case atStart => exact ⟨0, Nat.zero_le _, rfl, HK2, HB2.out⟩
      case round =>
       clear HK2 HB2
       obtain ⟨c, hc, rfl, HKY, hbq⟩ := hrel
       obtain ⟨wq4, rfl⟩ : ∃ q, q = wr := ⟨_, rfl⟩
       have HBq := Lib.hid hbq
       have H65 := Lib.hid (HK5.out wq4 (btr HBO.out hbq (Nat.le_refl _)))
       have HBXq := Lib.hid (HBX.out wq4 (btr HBO.out hbq (Nat.le_refl _)))
       clear hbq
       by_cases hck : c < kk
       ·have hci : (c : Int) < (kk : Int) := by omega
        have hcl : c < l.k := by rw [← HKQ.out]; exact hck
        go_wp2_with (first | (refine wpList_load_blk rfl 29 _ rfl _ rfl HBXq.out Try.underlying29 rfl size29 rfl ?_) | (go_at_call 65; refine H65.out.mono ?_; rintro e wv ⟨rfl, hbv⟩; refine cutme ?_))
        refine ⟨?_⟩
        have HKv := Lib.hid (blk_keep HKY.out hbv)
        have HBV := Lib.hid (btr HBq.out hbv (Nat.le_refl _))
        clear hbv
        have hbw := btr HBO.out HBV.out (Nat.le_refl _)
        obtain ⟨b, off, b2, off2, cc, cap, e4, hb, hcell1, hb2, hcell2⟩ := (HX.out.below hbw).ent HOK.out hsl hcl
        rw [← HM.out] at e4
        injection e4 with e4 e5 e6
        subst e4
        obtain ⟨t, ht, htl⟩ := (HOK.out.cl hst hcl).nat
        rw [ht] at hcell2
        rw [← HM.out] at htl
        rw [← HKQ.out] at hcell1
        have hti : (t : Int) < (m : Int) := by omega
        have x0 := cell_blk (i := 0) (HBX.out wv hbw)
        simp only [List.getElem?_toArray, List.getElem?_cons_zero] at x0
        have y0 := cell_blk (i := t) (blk_keep HF.out HBV.out)
        rw [List.getElem?_toArray, rowX_get _ htl, show clF l r t = ((clsL l r (t : Int) : Nat) : Int) from rfl] at y0
        have hci4 : (0 : Int) ≤ (c : Int) + 1 ∧ (c : Int) + 1 < 5 := by omega
        have hcl9 : ∃ u, wv.cell? ⟨g9, c + 1, none⟩ = some u := by
         rw [cell_blk HKv.out, Array.getElem?_eq_getElem (by simp [keyP_len (show c ≤ 4 by omega)]; omega)]; exact ⟨_, rfl⟩
        obtain ⟨u9, hu9⟩ := hcl9
        have hf9 := free_blk (i := c + 1) HKv.out
        have HT := Lib.hid ht
        clear e5 e6 hbw hb hb2 ht
        go_wp2
        refine ⟨⟨c + 1, by omega, by go_num, Lib.hid ?_, HBV.out.setCell (p := ⟨g9, c + 1, none⟩) HG9.out _⟩, ?_⟩
        ·have := heap_set_blk (i := c + 1) (v := .int .i64 (clsL l r (t : Int) : Nat)) HKv.out
         rw [this, ← HT.out]
         exact congrArg (fun q => some (Obj.cells q 141 (0, 0))) (keyP_set (x := sysL l) (cls := clsL l r) (s := (s : Int)) (c := c) (by omega))
        ·simp only [intOf]; omega
       ·have hci : ¬ (c : Int) < (kk : Int) := by omega
        have HCE : Hid (c = l.k) := Lib.hid (by have := HKQ.out; omega)
        go_wp2_with (first | (refine wpList_load_blk rfl 29 _ rfl _ rfl HBXq.out Try.underlying29 rfl size29 rfl ?_) | (go_at_call 65; refine H65.out.mono ?_; rintro e wv ⟨rfl, hbv⟩; refine cutme ?_))
        refine ⟨?_⟩
        have hkv := blk_keep HKY.out hbv
        rw [HCE.out] at hkv
        have HBV := Lib.hid (btr HBq.out hbv (Nat.le_refl _))
        clear hbv HKY HBq H65 HBXq
        have hM1 : MapF encK wv gk _ _ := HMP.out.below HBV.out
        have hN1 := blk_keep HN.out HBV.out
        have hF1 := blk_keep HF.out HBV.out
        clear HMP HN HF
        obtain ⟨kl, hkl⟩ : ∃ q, q = keyC (sysL l) (clsL l r) (s : Int) := ⟨_, rfl⟩
        obtain ⟨Ks, hKs⟩ : ∃ q, q = keysL (sysL l) (clsL l r) ((stsL l).take s) := ⟨_, rfl⟩
        obtain ⟨Kt, hKt⟩ : ∃ q, q = keysL (sysL l) (clsL l r) ((stsL l).take (s + 1)) := ⟨_, rfl⟩
        have hstep : Kt = addK Ks kl := by
         rw [hKt, hKs, hkl, fo_step (by rw [sts_len]; exact hsl), sts_get hsl]
        have hF0 : ∀ k' j v, Fk (keysL (sysL l) (clsL l r) ((stsL l).take k')) j = some v → ∃ q, keyOf Try.prog 141 (encK j) = some q := fun k' j v h => by
         unfold Fk at h
         by_cases hj : j ∈ keysL (sysL l) (clsL l r) ((stsL l).take k')
         ·obtain ⟨t, ht, rfl⟩ := (keysL_mem _ _ _ _).1 hj
          exact HXF.out t (mem_sts.1 (List.mem_of_mem_take ht))
         ·rw [if_neg hj] at h; cases h
        have hkey : ∃ q, keyOf Try.prog 141 (encK kl) = some q := by rw [hkl]; exact HXF.out _ hst
        have hcl1 : ((Kt.idxOf kl : Nat) : Int) = clF l (r + 1) s := by rw [hKt, hkl]; exact clF_next hsl
        have hin1 : kl ∈ Kt := by
         rw [hstep, addK_mem]; exact .inr rfl
        have hFs := hF0 s
        have hFt := hF0 (s + 1)
        rw [← hKs] at hM1 hFs
        rw [← hKt] at hFt
        have hkv' : wv.heap[g9]? = some (.cells ((nI kl).map (Value.int .i64)).toArray 141 (0, 0)) := by rw [hkv, hkl]; rfl
        obtain ⟨ka, hka⟩ : ∃ q, q = ((nI kl).map (Value.int .i64)).toArray := ⟨_, rfl⟩
        rw [← hka] at hkv'
        have hke : encK kl = .agg ka := by rw [hka]; rfl
        have hkz : ka.size = 5 := by 
         have := keyP_len (x := sysL l) (cls := clsL l r) (s := (s : Int)) (c := (sysL l).k) HOK.out.k4
         rw [hka, hkl, ← keyP_all]; simpa using this
        have hlk := (hM1.look (P := Try.prog) (t := 140) (k := 141) (e := 3) keyed141 Try.underlying140 zero3 encK_inj hFs hkey wv rfl).1
        have hlen1 := run_len_map hM1 Try.underlying140 3
        have HKV := Lib.hid hkv'
        have HKZ := Lib.hid hkz
        have HH := Lib.hid (And.intro hkl (And.intro hKs (And.intro hKt (And.intro hstep (And.intro hcl1 (And.intro hin1 (And.intro hFs (And.intro hFt (And.intro hkey (And.intro hka hke))))))))))
        have HMM := Lib.hid (And.intro hM1 (And.intro hN1 hF1))
        have lgk : gk < wv.heap.size := hM1.lt
        have lgn : gn < wv.heap.size := lt_blk hN1
        have lg9 : g9 < wv.heap.size := lt_blk hkv'
        rw [hke] at hlk
        clear hkv hM1 hN1 hF1 hkl hKs hKt hstep hF0 hkey hcl1 hin1 hFs hFt hkv' hka hke hkz
        by_cases hin : kl ∈ Ks
        ·obtain ⟨z, hz⟩ : ∃ z, z = clF l (r + 1) s := ⟨_, rfl⟩
         have hKK : Kt = Ks := by rw [HH.out.2.2.2.1]; unfold addK; rw [if_pos hin]
         have hidx : ((Ks.idxOf kl : Nat) : Int) = z := by rw [← hKK, HH.out.2.2.2.2.1, hz]
         have hFk : Fk Ks kl = some (.int .i64 z) := by unfold Fk; rw [if_pos hin, hidx]
         rw [hFk] at hlk
         simp only [Option.getD_some, Option.isSome_some] at hlk
         have hlk2 : (Instr.lookup 140 (.map (some gk)) (.agg ka) false).run Try.prog wv = .ok (.int .i64 z) wv := by
          have := (HMM.out.1.look (P := Try.prog) (t := 140) (k := 141) (e := 3) keyed141 Try.underlying140 zero3 encK_inj HH.out.2.2.2.2.2.2.1 HH.out.2.2.2.2.2.2.2.2.1 wv rfl).2
          rw [hFk, HH.out.2.2.2.2.2.2.2.2.2.2] at this
          exact this
         have y1 := cell_blk (i := s) HMM.out.2.1
         rw [List.getElem?_toArray, rowX_get _ hsm] at y1
         have y2 := free_blk (i := s) HMM.out.2.1
         have HZ := Lib.hid (And.intro hz hKK)
         clear hin hKK hidx hFk hz
         go_wp2_with (refine wpList_load_blk rfl 141 _ rfl _ rfl HKV.out Try.underlying141 rfl size141 HKZ.out ?_)
         refine ⟨⟨s + 1, by omega, by go_num, Lib.hid ?_, Lib.hid ?_, Lib.hid ?_, (btr HBO.out HBV.out (Nat.le_refl _)).setCell (show w1.heap.size ≤ gn by omega) _⟩, by simp only [intOf]; omega⟩
         ·have := HMM.out.1.keep (w' := wv.setCell ⟨gn, s, none⟩ (.int .i64 z)) (heap_set_other (by omega))
          rw [← HH.out.2.2.1, HZ.out.2]; exact this
         ·rw [heap_set_blk HMM.out.2.1, rowX_set _ (fun v => if v < s + 1 then clF l (r + 1) v else 0) _ fun v _ => ?_]
          by_cases h2 : v = s
          ·subst h2; rw [if_pos (by omega), if_pos rfl, HZ.out.1]
          ·rw [if_neg h2]
           by_cases h1 : v < s
           ·rw [if_pos h1, if_pos (by omega)]
           ·rw [if_neg h1, if_neg (by omega)]
         ·exact (heap_set_other (by omega)).trans HMM.out.2.2
        ·obtain ⟨z, hz⟩ : ∃ z, z = clF l (r + 1) s := ⟨_, rfl⟩
         have hKK : Kt = Ks ++ [kl] := by rw [HH.out.2.2.2.1]; unfold addK; rw [if_neg hin]
         have hFk : Fk Ks kl = none := by unfold Fk; rw [if_neg hin]
         rw [hFk] at hlk
         simp only [Option.getD_none, Option.isSome_none] at hlk
         obtain ⟨o1, hup1, hM10⟩ := HMM.out.1.update (P := Try.prog) (t := 140) (k := 141) (e := 3) keyed141 Try.underlying140 encK_inj HH.out.2.2.2.2.2.2.1 HH.out.2.2.2.2.2.2.2.2.1 (.int .i64 (Ks.length : Nat))
         rw [hFk, if_neg (by simp)] at hM10
         replace hM10 := hM10.congr (fun j => fk_next hin j)
         rw [show Ks.length + 1 = (Ks ++ [kl]).length by simp, ← hKK] at hM10
         rw [HH.out.2.2.2.2.2.2.2.2.2.2] at hup1
         obtain ⟨w10, hw10⟩ : ∃ q, q = wv.putObj gk o1 := ⟨_, rfl⟩
         rw [← hw10] at hup1 hM10
         have hoth : ∀ g, g ≠ gk → w10.heap[g]? = wv.heap[g]? := fun g h => by rw [hw10]; exact World.putObj_heap_other h
         have hb10 : Below w1.heap.size w1 w10 := by rw [hw10]; exact below_putObj (btr HBO.out HBV.out (Nat.le_refl _)) (by omega)
         have hN10 := (hoth gn (by omega)).trans HMM.out.2.1
         have hF10 := (hoth f (by omega)).trans HMM.out.2.2
         have HK10 := Lib.hid ((hoth g9 (by omega)).trans HKV.out)
         have hlk2 : (Instr.lookup 140 (.map (some gk)) (.agg ka) false).run Try.prog w10 = .ok (.int .i64 z) w10 := by
          have := (hM10.look (P := Try.prog) (t := 140) (k := 141) (e := 3) keyed141 Try.underlying140 zero3 encK_inj HH.out.2.2.2.2.2.2.2.1 HH.out.2.2.2.2.2.2.2.2.1 w10 rfl).2
          rw [show Fk Kt kl = some (.int .i64 z) by unfold Fk; rw [if_pos HH.out.2.2.2.2.2.1, HH.out.2.2.2.2.1, hz], HH.out.2.2.2.2.2.2.2.2.2.2] at this
          exact this
         have y1 := cell_blk (i := s) hN10
         rw [List.getElem?_toArray, rowX_get _ hsm] at y1
         have y2 := free_blk (i := s) hN10
         have HZ := Lib.hid (And.intro hz (And.intro hM10 (And.intro hN10 (And.intro hF10 hb10))))
         clear hin hKK hFk hz hw10 hoth hM10 hN10 hF10 hb10
         go_wp2_with (first | (refine wpList_load_blk rfl 141 _ rfl _ rfl HKV.out Try.underlying141 rfl size141 HKZ.out ?_) | (refine wpList_load_blk rfl 141 _ rfl _ rfl HK10.out Try.underlying141 rfl size141 HKZ.out ?_))
         obtain ⟨hz, hM10, hN10, hF10, hb10⟩ := HZ.out
         refine ⟨⟨s + 1, by omega, by go_num, Lib.hid ?_, Lib.hid ?_, Lib.hid ?_, hb10.setCell (show w1.heap.size ≤ gn by omega) _⟩, by simp only [intOf]; omega⟩
         ·have := hM10.keep (w' := w10.setCell ⟨gn, s, none⟩ (.int .i64 z)) (heap_set_other (by omega))
          rw [← HH.out.2.2.1]; exact this
         ·rw [heap_set_blk hN10, rowX_set _ (fun v => if v < s + 1 then clF l (r + 1) v else 0) _ fun v _ => ?_]
          by_cases h2 : v = s
          ·subst h2; rw [if_pos (by omega), if_pos rfl, hz]
          ·rw [if_neg h2]
           by_cases h1 : v < s
           ·rw [if_pos h1, if_pos (by omega)]
           ·rw [if_neg h1, if_neg (by omega)]
         ·exact (heap_set_other (by omega)).trans hF10
     ·have hsi : ¬ (s : Int) < (m : Int) := by omega
      have hse : (stsL l).take s = stsL l := List.take_of_length_le (by rw [sts_len, ← HM.out]; omega)
      have hM1 := HMP.out
      rw [hse] at hM1
      have hlenE := run_len_map hM1 Try.underlying140 3
      have hC1 : (keysL (sysL l) (clsL l r) (stsL l)).length = cntN (sysL l) (stsL l) (r + 1) := rfl
      have hC1m : cntN (sysL l) (stsL l) (r + 1) ≤ m := by rw [HM.out, ← sts_len]; exact cnt_le _ _ _
      have hmono : C ≤ cntN (sysL l) (stsL l) (r + 1) := by rw [HC.out]; exact cnt_mono _ _ _
      rw [hC1] at hlenE
      have HN1 := Lib.hid (show wo.heap[gn]? = some (.cells (rowX m (clF l (r + 1))).toArray 3) by
       rw [HN.out, rowX_same fun v hv => if_pos (by omega)])
      obtain ⟨D, hD⟩ : ∃ D, D = cntN (sysL l) (stsL l) (r + 1) := ⟨_, rfl⟩
      rw [← hD] at hlenE hC1m hmono
      have HD := Lib.hid hD
      have lgn : gk < gn := lkn
      clear hse hM1 hC1 hD HMP HN HF
      by_cases hcd : D = C
      ·have hbb : ((D : Int) == (C : Int)) = true := by simp; omega
       have HS : Hid (Stop (sysL l) (stsL l) (r + 1)) := Lib.hid ⟨by
        rcases r with _ | r
        ·exfalso
         have h0 : C = 0 := HC.out
         have := cnt_pos (x := sysL l) (sts := stsL l) (fun e => by have := sts_len l; rw [e] at this; have := HOK.out.n1; simp at *; omega) 0
         have := HD.out
         omega
        ·omega, by show cntN _ _ (r + 1) = cntN _ _ r; rw [← HD.out, ← HC.out, hcd]⟩
       clear hcd
       go_wp2
       go_ret
       refine ⟨_, rfl, r + 1, HS.out, ?_, ?_⟩
       ·rw [← clF_list, ← HM.out]; exact slI_row HN1.out (by omega)
       ·rw [HW.out.2]; rw [← HW.out.2]; exact HB1.out.trans (HBO.out.mono HGW.out)
      ·have hbb : ((D : Int) == (C : Int)) = false := by simp; omega
       go_wp2
       go_roundw
       case rel => exact ⟨r + 1, gn, rfl, by rw [HD.out], by omega, HN1, HBO.out⟩
       case measure => simp only [intOf]; simp; omega
end Ytnjgglnpmhjmiaa
end Go.Proofs

