/- The law RailTurned returns true. -/
import Derived.Test.YteijenefhoconaaTl2
import Derived.Test.YteijenefhoconaaOT2
import Derived.Deep.RegionHeld3
open Go Go.RowKit Go.YteijenefhoconaaIt
namespace Go.Proofs
namespace Yteijenefhoconaa
theorem row_cells {W : World} {base : Nat} {n cap g : Nat} {ts : List Tn} (h : W.ownsRow base 69 2 (.slice (some ⟨g, 0, none⟩) n cap) n (flat ts)) {k : Nat} (hk : k < n) (hn : ts.length = n) :
    W.cell? ⟨g, k * 2, none⟩ = some (.int .i64 (tAt ts k)) ∧ W.cell? ⟨g, k * 2 + 1, none⟩ = some (.int .i64 (tTo ts k)) ∧ ∀ j, W.frozen? ⟨g, j, none⟩ = false := by
  have f := flat_at ts k (by omega)
  exact ⟨(h.cellAt (k * 2) (by omega)).trans f.1, (h.cellAt (k * 2 + 1) (by omega)).trans f.2, fun j => h.frozenAt j⟩
theorem row_set2 {W : World} {base : Nat} {n cap g : Nat} {ts : List Tn} (_h : W.ownsRow base 69 2 (.slice (some ⟨g, 0, none⟩) n cap) n (flat ts)) {k : Nat} (hk : k < ts.length) (x y : Int) :
    ∀ W' : World, W'.ownsRow base 69 2 (.slice (some ⟨g, 0, none⟩) n cap) n (flat ts) → ((W'.setCell ⟨g, k * 2, none⟩ (.int .i64 x)).setCell ⟨g, k * 2 + 1, none⟩ (.int .i64 y)).ownsRow base 69 2 (.slice (some ⟨g, 0, none⟩) n cap) n (flat (ts.set k (x, y))) := fun W' h' => by
  rw [flat_set2 hk]; exact (((h'.stored _ _).1).stored _ _).1
theorem below_none {W W' : World} {o : Obj} (h : (W.alloc o).grownBy W' none) : Below W.heap.size W W' := by
  have hs : W.heap.size + 1 ≤ W'.heap.size := by have := h.size; simpa using this
  refine ⟨h.os, h.tape, h.output, by omega, fun k hk => ?_⟩
  rw [h.block k (by simp; omega) (by simp)]
  exact heap_oldI hk
theorem slT_open3 {W : World} {ad : Option Addr} {n cap : Nat} {ts : List Tn} (h : SlT W (.slice ad n cap) ts) (h0 : 0 < ts.length) : ∃ b off, ad = some ⟨b, off, none⟩ ∧ b < W.heap.size ∧ ∀ i, i < ts.length → W.cell? ⟨b, off + i * 2, none⟩ = some (.int .i64 (tAt ts i)) ∧ W.cell? ⟨b, off + i * 2 + 1, none⟩ = some (.int .i64 (tTo ts i)) := by
  obtain ⟨ad', cap', h1, _, h3⟩ := h
  injection h1 with e1 _ _
  obtain ⟨b, off, h4, h5, h6⟩ := h3 h0
  exact ⟨b, off, e1.trans h4, h5, h6⟩
set_option maxRecDepth 100000 in
set_option maxHeartbeats 4000000 in
theorem railTurned_any (r0 r1 r2 r3 r4 r5 m : Int) (v : Value) (xs : List Tn) (x1 : Int) (w : World) (hR : ∀ x ∈ [r0, r1, r2, r3, r4, r5], 0 ≤ x ∧ x < 256) (hm : 0 ≤ m ∧ m < 256) (hx : SlP w v xs) (h1x : 0 ≤ x1 ∧ x1 < 256) :
    Calls Try.prog 11 #[.agg #[.int .u8 r0, .int .u8 r1, .int .u8 r2, .int .u8 r3, .int .u8 r4, .int .u8 r5, .int .u8 m, v], .int .u8 x1] w fun e w' => e = .returned (.bool true) ∧ Below w.heap.size w w' := by
  have HX := Lib.hid hx
  have HR := Lib.hid hR
  have HMM := Lib.hid hm
  clear hx hR hm
  have hmm := @run_makeMap Try.prog
  go_enter Try.func11, Try.ntmps11
  refine wp_seq_k (fun K hK => ?_)
  have HK := Lib.hid hK; clear hK
  go_wp2
  refine HK.out _ _ ?_; clear HK K
  generalize hw1 : World.alloc _ _ = w1
  have b1 : w1.heap[w.heap.size]? = some (.cells #[.int .u8 r0, .int .u8 r1, .int .u8 r2, .int .u8 r3, .int .u8 r4, .int .u8 r5, .int .u8 m, v] 52 (0, 0)) := by rw [← hw1]; exact (heap_oldI (by simp)).trans (heap_newI rfl)
  have b2 : w1.heap[w.heap.size + 1]? = some (.cells #[.int .u8 x1] 5 (0, 0)) := by rw [← hw1]; exact heap_newI (by simp)
  have B : Below w.heap.size w w1 := by rw [← hw1]; exact ((Below.refl _ _).alloc (Nat.le_refl _) _).alloc (by simp) _
  have HB0 := Lib.hid b2
  clear hw1 b2
  refine wp_seq_k (fun K hK => ?_)
  have HK := Lib.hid hK; clear hK
  go_wp2_with (first | (refine wpList_load_blk rfl 52 _ rfl _ rfl b1 Try.underlying52 rfl size52 rfl ?_) | (go_at_call 30; refine (made6 r0 r1 r2 r3 r4 r5 m v xs _ HR.out HMM.out (HX.out.below B (Nat.le_refl _))).mono ?_; rintro e w2 ⟨vL, vT, L, ts, rfl, hL, hT, hok, hb⟩; have HB := Lib.hid (blk_below HB0.out hb (lt_blk HB0.out)); replace B := btr B hb (Nat.le_refl _); clear hb b1 HB0))
  refine HK.out _ _ ?_; clear HK K
  obtain ⟨he, h4, hl2, hl6, hLb⟩ := hok
  have HV := Lib.hid (show Val L (tos ts) ts from ⟨he, rfl⟩)
  have HL := Lib.hid hL
  have HT := Lib.hid hT
  have HLB := Lib.hid hLb
  clear he hL hT hLb HX HR HMM
  obtain ⟨adt, capt, rfl, hmt, -⟩ := HT.out
  obtain ⟨adL, capL, rfl, hmL, -⟩ := HL.out
  obtain ⟨i69, hi69, hy1, hy2, hy3⟩ := info_parts info69
  obtain ⟨i3, hi3, hz1, hz2, hz3⟩ := info_parts info3
  obtain ⟨bL, oL, rfl, -, -⟩ := slI_cell3 HL.out (k := 0) (by omega)
  go_wp2
  go_loopw [7, 40] (fun v i wr => ∃ k : Nat, k ≤ L.length ∧ i = .int .i64 k ∧ Below w2.heap.size w2 wr ∧ wr.ownsRow w2.heap.size 3 1 v k ((L.reverse.take k).map (.int .i64))) (fun _ i _ => L.length - (intOf i).toNat)
  case atStart => exact ⟨0, Nat.zero_le _, rfl, Below.refl _ _, World.ownsRow_nil _ _ _ _⟩
  case round =>
    obtain ⟨k, hk, rfl, hb, ho⟩ := hrel
    have hsz := hb.size
    by_cases hkn : k < L.length
    · obtain ⟨hltL, c0⟩ := slI_cell HL.out (k := L.length - 1 - k) (by omega)
      have c1 := (hb.cell (p := ⟨bL, oL + (L.length - 1 - k), none⟩) hltL).trans c0
      have hlk : ((L.reverse.take k).map (Value.int .i64)) ++ [.int .i64 (at0 L (L.length - 1 - k))] = (L.reverse.take (k + 1)).map (.int .i64) := by
        rw [List.take_succ_eq_append_getElem (by simpa using hkn), List.map_append, List.getElem_reverse, at0_lt (by omega)]; rfl
      have HLK := Lib.hid hlk
      generalize at0 L (L.length - 1 - k) = x at *
      have hix : ((L.length : Int) - 1 - (k : Int)).toNat = L.length - 1 - k := by omega
      have HIX := Lib.hid hix
      clear hlk c0 hix
      go_wp2_with (at_builtin; refine wpList_append_own _ rfl _ _ 23 rfl w2.heap.size 3 i3 (.int .i64 0) 1 8 Try.underlying23 hi3 hz1 hz2 hz3 rfl (by decide) _ _ _ rfl (ho.alloc _) ⟨wr.heap.size, 0, none⟩ 1 1 [.int .i64 x] rfl rfl (cell_new1 rfl) (fun x hx => by simp at hx; subst hx; rfl) (Nat.le_trans (by omega : k + 1 ≤ 2000) (by decide)) (by omega) (by rw [World.size_alloc]; omega) ?_; intro v' w6 r1 r2 _)
      go_roundw
      case rel => exact ⟨k + 1, by omega, by go_num, grown_below1 r2 ho (Nat.le_refl _) hsz hb, by rw [← HLK.out]; exact r1⟩
      case measure => simp [intOf]; omega
    · have hkx : k = L.length := by omega
      have hrl : L.reverse.length = L.length := by simp
      have hrv : SlI wr u7 L.reverse := by
        refine slI_own (base := w2.heap.size) (W := wr) ?_ (by rw [hrl]; omega) (Nat.le_refl _) (fun _ _ _ => rfl)
        rw [hrl]; rw [hkx, ← hrl, List.take_length, hrl] at ho; exact ho
      have HM := Lib.hid hrv
      have HL := Lib.hid (HL.out.below hb (Nat.le_refl _))
      have HT := Lib.hid (HT.out.below hb (Nat.le_refl _))
      have HB := Lib.hid (blk_below HB.out hb (lt_blk HB.out))
      replace B := btr B hb (Nat.le_refl _)
      have hsz0 : w.heap.size + 2 ≤ wr.heap.size := by have := lt_blk HB.out; omega
      clear ho hb hrv hrl hsz
      subst hkx
      clear hk
      obtain ⟨w3, rfl⟩ : ∃ w3 : World, w3 = wr := ⟨_, rfl⟩
      obtain ⟨vM, rfl⟩ : ∃ vM : Value, vM = u7 := ⟨_, rfl⟩
      by_cases hn0 : ts.length = 0
      · have t0 : ((ts.length : Int) == 0) = true := by rw [hn0]; rfl
        clear hn0
        go_wp2_with fail
        have hX : Below w3.heap.size w3 (w3.alloc (.cells #[.int .i64 ts.length] 3)) := (Below.refl _ _).alloc (Nat.le_refl _) _
        replace B := btr B hX (Nat.le_refl _)
        refine (works_any _).mono ?_
        rintro e w10 ⟨rfl, hb⟩
        replace B := btr B hb (Nat.le_refl _)
        go_wp2
        go_ret
        exact ⟨rfl, B⟩
      have t0 : ((ts.length : Int) == 0) = false := by rw [beq_eq_false_iff_ne]; omega
      go_wp2_with (refine wpList_make_full (w3.alloc (.cells #[.int .i64 ts.length] 3)) rfl (.tmp 60) (.tmp 60) 24 rfl (w3.heap.size + 1) 69 i69 (.agg #[.int .i64 0, .int .i64 0]) 2 Try.underlying24 hi69 hy1 hy2 .i64 .i64 _ _ ts.length rfl rfl rfl rfl (by rw [hy3]; omega) (Nat.le_trans h4 (by decide)) (by simp) ?_; intro w5 q1 q2)
      have hU0 : w5.ownsRow (w3.heap.size + 1) 69 2 (.slice (some ⟨w3.heap.size + 1, 0, none⟩) ts.length ts.length) ts.length (flat (fillT L.length (x1 % (ts.length : Int)).toNat ts 0)) := by
        rw [made_flat] at q1
        simpa [fillT] using q1
      have hb5 : Below w3.heap.size w3 w5 := below_none q2
      have b9 : w5.heap[w3.heap.size]? = some (.cells #[.int .i64 ts.length] 3 (0, 0)) := (q2.block w3.heap.size (by simp) (by simp)).trans (heap_newI rfl)
      have H9 := Lib.hid b9
      have hg5 := (hU0.lt (w3.heap.size + 1) rfl).2
      have hlt3 := lt_blk HB.out
      have h35 := hb5.size
      clear q1 q2 b9
      obtain ⟨r, hre⟩ : ∃ r, r = (x1 % (ts.length : Int)).toNat := ⟨_, rfl⟩
      have hrl : r < ts.length := by
        have h1 := Int.emod_nonneg x1 (show (ts.length : Int) ≠ 0 by omega)
        have h2 := Int.emod_lt_of_pos x1 (show (0 : Int) < ts.length by omega)
        omega
      rw [← hre] at hU0
      have HRE := Lib.hid hre
      clear hre
      go_loopw [65] (fun i wr => ∃ k : Nat, k ≤ ts.length ∧ i = .int .i64 k ∧ Below (w3.heap.size + 1) w5 wr ∧ wr.ownsRow (w3.heap.size + 1) 69 2 (.slice (some ⟨w3.heap.size + 1, 0, none⟩) ts.length ts.length) ts.length (flat (fillT L.length r ts k))) (fun i _ => ts.length - (intOf i).toNat)
      case atStart => exact ⟨0, Nat.zero_le _, rfl, Below.refl _ _, hU0⟩
      case round =>
        obtain ⟨k, hk, rfl, hb, ho⟩ := hrel
        have hsz := hb.size
        by_cases hkn : k < ts.length
        · have hbw : Below w3.heap.size w3 wr := hb5.trans (hb.mono (by omega))
          obtain ⟨bt, ot, rfl, hltT, hcell⟩ := slT_open3 HT.out (by omega)
          have h1 := (hbw.cell (p := ⟨bt, ot + k * 2, none⟩) hltT).trans (hcell k hkn).1
          have h2 := (hbw.cell (p := ⟨bt, ot + k * 2 + 1, none⟩) hltT).trans (hcell k hkn).2
          have hv := vt_of HV.out.1
          have hat := hv.at_ k hkn
          have htt := hv.to_ k hkn
          have p3 := blk_below HB.out hbw (lt_blk HB.out)
          have p9 := blk_below H9.out hb (by omega)
          have hsl : sg r ts.length k < ts.length := sg_lt (by omega)
          have hca := row_cells ho hsl (fillT_len k)
          have hst := row_set2 ho (k := sg r ts.length k) (by rw [fillT_len]; exact hsl) ((L.length : Int) - 1 - tAt ts k) ((L.length : Int) - 1 - tTo ts k)
          rw [show (fillT L.length r ts k).set (sg r ts.length k) ((L.length : Int) - 1 - tAt ts k, (L.length : Int) - 1 - tTo ts k) = fillT L.length r ts (k + 1) from rfl] at hst
          have hto := fun (W : World) (hW : Below wr.heap.size wr W) => to_any x1 ts.length k w3.heap.size (w.heap.size + 1) W (by omega) h1x (by omega) (blk_below p3 hW (lt_blk p3)) (blk_below p9 hW (lt_blk p9))
          rw [← HRE.out, Int.toNat_natCast] at hto
          obtain ⟨j, hj⟩ : ∃ j, j = sg r ts.length k := ⟨_, rfl⟩
          rw [← hj] at hsl hca hst hto
          obtain ⟨a, hae⟩ : ∃ a, a = tAt ts k := ⟨_, rfl⟩
          obtain ⟨t, hte⟩ : ∃ t, t = tTo ts k := ⟨_, rfl⟩
          rw [← hae, ← hte] at hst
          rw [← hae] at h1 hat
          rw [← hte] at h2 htt
          have HTO := Lib.hid hto
          have HST := Lib.hid hst
          have HO5 := Lib.hid ho
          have hw1 : IntKind.i64.wrap ((L.length : Int) - 1) = (L.length : Int) - 1 := IntWalk.i64_in _ (by omega)
          have hw2 : IntKind.i64.wrap ((L.length : Int) - 1 - a) = (L.length : Int) - 1 - a := IntWalk.i64_in _ (by omega)
          have hw3 : IntKind.i64.wrap ((L.length : Int) - 1 - t) = (L.length : Int) - 1 - t := IntWalk.i64_in _ (by omega)
          obtain ⟨e1, e2, hfz⟩ := hca
          obtain ⟨v1, k1⟩ : ∃ v1, wr.cell? ⟨w3.heap.size + 1, j * 2, none⟩ = some v1 := ⟨_, e1⟩
          obtain ⟨v2, k2⟩ : ∃ v2, wr.cell? ⟨w3.heap.size + 1, j * 2 + 1, none⟩ = some v2 := ⟨_, e2⟩
          have hg := (ho.lt (w3.heap.size + 1) rfl).2
          have z1 : wr.frozen? ⟨w3.heap.size + 1, j * 2, none⟩ = false := hfz _
          have z2 : wr.frozen? ⟨w3.heap.size + 1, j * 2 + 1, none⟩ = false := hfz _
          have m1 : (wr.alloc (.cells #[.int .i64 a, .int .i64 t] 69)).drew.cell? ⟨wr.heap.size, 0, none⟩ = some (.int .i64 a) := by
            show (wr.alloc (.cells #[.int .i64 a, .int .i64 t] 69)).cell? _ = _
            rw [cell_blk (heap_newI (w := wr) (o := .cells #[.int .i64 a, .int .i64 t] 69) rfl)]; rfl
          have m2 : (wr.alloc (.cells #[.int .i64 a, .int .i64 t] 69)).drew.cell? ⟨wr.heap.size, 1, none⟩ = some (.int .i64 t) := by
            show (wr.alloc (.cells #[.int .i64 a, .int .i64 t] 69)).cell? _ = _
            rw [cell_blk (heap_newI (w := wr) (o := .cells #[.int .i64 a, .int .i64 t] 69) rfl)]; rfl
          clear hae hte hcell hst hto ho p3 p9 e1 e2 hfz hj
          go_wp2
          refine wp_region_still_tail 18 (by kernel_rfl) (by kernel_rfl) ?_
          change wpStill _ _ (World.drew (wr.alloc (.cells #[.int .i64 a, .int .i64 t] 69))) _ _ _
          simp only [List.take_succ_cons, List.take_zero, List.drop_succ_cons, List.drop_zero]
          repeat (first | still_step | still_call ((HTO.out _ (((Below.refl _ _).alloc (Nat.le_refl _) _).drew)).mono fun _ _ h => ⟨h.1, h.2.symm⟩))
          refine wpStill_nil ?_
          change wpList _ _ _ _ _ (World.drew (wr.alloc (.cells #[.int .i64 a, .int .i64 t] 69)))
          go_wp2
          refine ⟨⟨k + 1, by omega, by go_num, ?_, ?_⟩, by simp [intOf]; omega⟩
          · exact (((hb.setCell (by simp) _).setCell (by simp) _).alloc (by simp; omega) _).drew
          · exact ((HST.out _ HO5.out).alloc _).drew
        · have hkx : k = ts.length := by omega
          have hbw : Below w3.heap.size w3 wr := hb5.trans (hb.mono (by omega))
          rw [hkx, fillT_all hrl] at ho
          have hU : SlT wr (.slice (some ⟨w3.heap.size + 1, 0, none⟩) ts.length ts.length) (turnT L.length r ts) := slT_own (by rw [turnT_len]; exact ho) (by rw [turnT_len]; omega)
          have HU := Lib.hid hU
          have HL := Lib.hid (HL.out.below hbw (Nat.le_refl _))
          have HT := Lib.hid (HT.out.below hbw (Nat.le_refl _))
          have HM := Lib.hid (HM.out.below hbw (Nat.le_refl _))
          have HB := Lib.hid (blk_below HB.out hbw (lt_blk HB.out))
          have H9 := Lib.hid (blk_below H9.out hb (by omega))
          have HVU := Lib.hid (show Val L.reverse (tos (turnT L.length r ts)) (turnT L.length r ts) from ⟨turn_val HV.out.1 hrl, rfl⟩)
          have HSE := Lib.hid (turn_safe _ _ rfl HV.out hrl)
          replace B := btr B hbw (Nat.le_refl _)
          clear ho hU hbw hb hb5 hU0
          subst hkx
          clear hk
          obtain ⟨sa, hsa⟩ : ∃ sa, sa = safeT L ts := ⟨_, rfl⟩
          have HSA := Lib.hid hsa
          clear hsa
          go_wp2_with fail
          refine (y16 HV.out HSA.out.symm _ HL.out HT.out).mono ?_
          rintro e w9 ⟨rfl, hb⟩
          have HL := Lib.hid (HL.out.below hb (Nat.le_refl _))
          have HT := Lib.hid (HT.out.below hb (Nat.le_refl _))
          have HM := Lib.hid (HM.out.below hb (Nat.le_refl _))
          have HU := Lib.hid (HU.out.below hb (Nat.le_refl _))
          have HB := Lib.hid (blk_below HB.out hb (lt_blk HB.out))
          have H9 := Lib.hid (blk_below H9.out hb (lt_blk H9.out))
          replace B := btr B hb (Nat.le_refl _)
          clear hb
          go_wp2_with fail
          refine (y16 HVU.out (HSE.out.trans HSA.out.symm) _ HM.out HU.out).mono ?_
          rintro e w9 ⟨rfl, hb⟩
          have HL := Lib.hid (HL.out.below hb (Nat.le_refl _))
          have HT := Lib.hid (HT.out.below hb (Nat.le_refl _))
          have HM := Lib.hid (HM.out.below hb (Nat.le_refl _))
          have HU := Lib.hid (HU.out.below hb (Nat.le_refl _))
          have HB := Lib.hid (blk_below HB.out hb (lt_blk HB.out))
          have H9 := Lib.hid (blk_below H9.out hb (lt_blk H9.out))
          replace B := btr B hb (Nat.le_refl _)
          clear hb 
          obtain ⟨st, hst⟩ : ∃ st, st = (wayT ts ts.length && !canT L ts ts.length) := ⟨_, rfl⟩
          have h18 := fun W h1 h2 => y18 (vL := .slice (some ⟨bL, oL, none⟩) L.length capL) (vt := .slice adt ts.length capt) HV.out W h1 h2
          have h18u := fun W h1 h2 => y18 (vL := vM) (vt := .slice (some ⟨w3.heap.size + 1, 0, none⟩) ts.length ts.length) HVU.out W h1 h2
          rw [turnT_len] at h18u
          simp only [turn_stuck HV.out hrl, ← hst] at h18 h18u
          have H18 := Lib.hid h18
          have H18U := Lib.hid h18u
          clear h18 h18u hst
          go_wp2_with fail
          refine (H18.out _ HL.out HT.out).mono ?_
          rintro e w9 ⟨rfl, hb⟩
          have HL := Lib.hid (HL.out.below hb (Nat.le_refl _))
          have HT := Lib.hid (HT.out.below hb (Nat.le_refl _))
          have HM := Lib.hid (HM.out.below hb (Nat.le_refl _))
          have HU := Lib.hid (HU.out.below hb (Nat.le_refl _))
          have HB := Lib.hid (blk_below HB.out hb (lt_blk HB.out))
          have H9 := Lib.hid (blk_below H9.out hb (lt_blk H9.out))
          replace B := btr B hb (Nat.le_refl _)
          clear hb 
          go_wp2_with fail
          refine (H18U.out _ HM.out HU.out).mono ?_
          rintro e w9 ⟨rfl, hb⟩
          have HL := Lib.hid (HL.out.below hb (Nat.le_refl _))
          have HT := Lib.hid (HT.out.below hb (Nat.le_refl _))
          have HM := Lib.hid (HM.out.below hb (Nat.le_refl _))
          have HU := Lib.hid (HU.out.below hb (Nat.le_refl _))
          have HB := Lib.hid (blk_below HB.out hb (lt_blk HB.out))
          have H9 := Lib.hid (blk_below H9.out hb (lt_blk H9.out))
          replace B := btr B hb (Nat.le_refl _)
          clear hb 
          have e1 : (sa != sa) = false := by simp
          have e2 : (st != st) = false := by simp
          have hX : Below w9.heap.size w9 (w9.alloc (.cells #[.func (.func 35) #[] #[], .func (.func 23) #[] #[]] 34)) := (Below.refl _ _).alloc (Nat.le_refl _) _
          have hf0 : (w9.alloc (.cells #[.func (.func 35) #[] #[], .func (.func 23) #[] #[]] 34)).heap[w9.heap.size]? = some (.cells #[.func (.func 35) #[] #[], .func (.func 23) #[] #[]] 34 (0, 0)) := heap_newI rfl
          have hszX : w9.heap.size < (w9.alloc (.cells #[.func (.func 35) #[] #[], .func (.func 23) #[] #[]] 34)).heap.size := by simp
          go_wp2
          obtain ⟨wf, hwf⟩ : ∃ wf, wf = w9.alloc (.cells #[.func (.func 35) #[] #[], .func (.func 23) #[] #[]] 34) := ⟨_, rfl⟩
          rw [← hwf] at hX hf0 hszX
          rw [← hwf]
          obtain ⟨bf, hbf⟩ : ∃ bf, bf = w9.heap.size := ⟨_, rfl⟩
          rw [← hbf] at hf0 hszX
          have HBF := Lib.hid hbf
          have hbfe : w9.heap.size = bf := hbf.symm
          have HF := Lib.hid hf0
          have HL := Lib.hid (HL.out.below hX (Nat.le_refl _))
          have HT := Lib.hid (HT.out.below hX (Nat.le_refl _))
          have HM := Lib.hid (HM.out.below hX (Nat.le_refl _))
          have HU := Lib.hid (HU.out.below hX (Nat.le_refl _))
          have HB := Lib.hid (blk_below HB.out hX (lt_blk HB.out))
          have H9 := Lib.hid (blk_below H9.out hX (lt_blk H9.out))
          replace B := btr B hX (Nat.le_refl _)
          rw [hbfe]
          clear hwf hX hf0 hbf hbfe
          go_loopw [139] (fun i wr => ∃ k : Nat, k ≤ 2 ∧ i = .int .i64 k ∧ Below wf.heap.size wf wr) (fun i _ => 2 - (intOf i).toNat)
          case atStart => exact ⟨0, Nat.zero_le _, rfl, Below.refl _ _⟩
          case round =>
            obtain ⟨k, hk, rfl, hb⟩ := hrel
            have HL := Lib.hid (HL.out.below hb (Nat.le_refl _))
            have HT := Lib.hid (HT.out.below hb (Nat.le_refl _))
            have HM := Lib.hid (HM.out.below hb (Nat.le_refl _))
            have HU := Lib.hid (HU.out.below hb (Nat.le_refl _))
            have HB := Lib.hid (blk_below HB.out hb (lt_blk HB.out))
            have H9 := Lib.hid (blk_below H9.out hb (lt_blk H9.out))
            have hfr := blk_below HF.out hb (lt_blk HF.out)
            have f0 := cell_blk (i := 0) hfr
            have f1 := cell_blk (i := 1) hfr
            simp only [List.getElem?_toArray, List.getElem?_cons_zero, List.getElem?_cons_succ] at f0 f1
            have hfl : bf < wr.heap.size := lt_blk hfr
            clear hfr
            have hcase : k = 0 ∨ k = 1 ∨ k = 2 := by omega
            rcases hcase with rfl | rfl | rfl
            rotate_right
            · go_wp2_with fail
              refine (works_any _).mono ?_
              rintro e w12 ⟨rfl, hb2⟩
              replace B := btr (btr B hb (Nat.le_refl _)) hb2 (Nat.le_refl _)
              go_wp2
              go_ret
              exact ⟨rfl, B⟩
            · as_aux_lemma =>
              go_wp2_with fail
              refine (y35 HV.out _ HL.out HT.out).mono ?_
              rintro e w12 ⟨vp, rfl, hp, hb2⟩
              have HM := Lib.hid (HM.out.below hb2 (Nat.le_refl _))
              have HU := Lib.hid (HU.out.below hb2 (Nat.le_refl _))
              have HB := Lib.hid (blk_below HB.out hb2 (lt_blk HB.out))
              have H9 := Lib.hid (blk_below H9.out hb2 (lt_blk H9.out))
              have f0 := (hb2.cell (p := ⟨bf, 0, none⟩) hfl).trans f0
              have f1 := (hb2.cell (p := ⟨bf, 1, none⟩) hfl).trans f1
              have hfl2 : bf < w12.heap.size := Nat.lt_of_lt_of_le hfl hb2.size
              have HP := Lib.hid (show SlI w12 vp (fN (possT L ts) ts.length) from hp)
              replace hb := btr hb hb2 (Nat.le_refl _)
              clear hb2 hp
              go_wp2_with fail
              refine (y35 HVU.out _ HM.out HU.out).mono ?_
              rintro e w13 ⟨vq, rfl, hq, hb2⟩
              have HB := Lib.hid (blk_below HB.out hb2 (lt_blk HB.out))
              have H9 := Lib.hid (blk_below H9.out hb2 (lt_blk H9.out))
              have HP := Lib.hid (HP.out.below hb2 (Nat.le_refl _))
              have HQ0 : SlI w13 vq (fN (possT L.reverse (turnT L.length r ts)) (turnT L.length r ts).length) := hq
              rw [turnT_len] at HQ0
              obtain ⟨PP, hPP⟩ : ∃ PP, PP = fN (possT L ts) ts.length := ⟨_, rfl⟩
              obtain ⟨QQ, hQQ⟩ : ∃ QQ, QQ = fN (possT L.reverse (turnT L.length r ts)) ts.length := ⟨_, rfl⟩
              have hlen : QQ.length = PP.length := by rw [hPP, hQQ]; exact len_sg hrl _ _ (fun i hi => turn_poss HV.out.1 hrl hi)
              have HQ := Lib.hid (show SlI w13 vq QQ by rw [hQQ]; exact HQ0)
              replace HP := Lib.hid (show SlI w13 vp PP by rw [hPP]; exact HP.out)
              have HPE := Lib.hid hPP
              have HQE := Lib.hid hQQ
              have e3 : ((PP.length : Int) != (QQ.length : Int)) = false := by rw [hlen]; simp
              replace hb := btr hb hb2 (Nat.le_refl _)
              have HBB := Lib.hid hb
              clear hb2 hq HQ0 hPP hQQ hlen f0 f1 hb
              obtain ⟨adp, capp, rfl, hmp, -⟩ := HP.out
              obtain ⟨adq, capq, rfl, hmq, -⟩ := HQ.out
              go_wp2
              go_loop [172] (fun i => ∃ k : Nat, k ≤ PP.length ∧ i = .int .i64 k) (fun i => PP.length - (intOf i).toNat)
              case atStart => exact ⟨0, Nat.zero_le _, rfl⟩
              case round =>
                obtain ⟨k, hk, rfl⟩ := hrel
                by_cases hkp : k < PP.length
                · have hkp2 : k < (fN (possT L ts) ts.length).length := by rw [← HPE.out]; exact hkp
                  obtain ⟨ci, hci, hcg, hce⟩ := fN_mem hkp2
                  rw [← HPE.out] at hce
                  obtain ⟨bp, op, rfl, -, c1⟩ := slI_cell3 HP.out hkp
                  rw [hce] at c1
                  have hin : ((sg r ts.length ci : Nat) : Int) ∈ QQ := by
                    rw [HQE.out]
                    exact fN_in (sg_lt (by omega)) ((show (possT L.reverse (turnT L.length r ts)) (sg r ts.length ci) = (possT L ts) ci from by have i := ci; have hi := hci; exact turn_poss HV.out.1 hrl hci).trans hcg)
                  have HIN := Lib.hid (hasN_all hin)
                  have hto := to_any x1 ts.length ci w3.heap.size (w.heap.size + 1) w13 (by omega) h1x (by omega) HB.out H9.out
                  rw [← HRE.out, Int.toNat_natCast] at hto
                  obtain ⟨j0, hj0⟩ : ∃ j0, j0 = sg r ts.length ci := ⟨_, rfl⟩
                  rw [← hj0] at hto HIN
                  have HTO := Lib.hid hto
                  clear hkp2 hcg hce hin hto hj0
                  go_wp2
                  go_loop [30, 178] (fun f i => ∃ j : Nat, j ≤ QQ.length ∧ i = .int .i64 j ∧ f = .bool (hasN QQ j0 j)) (fun _ i => QQ.length - (intOf i).toNat)
                  case atStart => exact ⟨0, Nat.zero_le _, rfl, rfl⟩
                  case round =>
                    obtain ⟨j, hj, rfl, rfl⟩ := hrel
                    by_cases hjd : j < QQ.length
                    · obtain ⟨bq, oq, rfl, -, c2⟩ := slI_cell3 HQ.out hjd
                      have hsu := hasN_succ (x := (j0 : Int)) hjd
                      generalize at0 QQ j = x at *
                      have HSV := Lib.hid hsu
                      clear hsu
                      cases hf : hasN QQ j0 j
                      all_goals
                        have HF2 := Lib.hid hf
                        clear hf
                        go_wp2_with (go_at_call 38; refine HTO.out.mono ?_; rintro e w14 ⟨rfl, rfl⟩)
                        go_round
                        case rel => exact ⟨j + 1, by omega, by go_num, by rw [HSV.out, HF2.out]; simp⟩
                        case measure => simp [intOf]; omega
                    · have hjx : j = QQ.length := by omega
                      have hh : hasN QQ j0 j = true := by rw [hjx]; exact HIN.out
                      rw [hh]
                      subst hjx
                      clear hjd hj hh
                      go_wp2
                      go_round
                      case rel => exact ⟨k + 1, by omega, by go_num⟩
                      case measure => simp [intOf]; omega
                · have hkx : k = PP.length := by omega
                  subst hkx
                  clear hk
                  go_wp2
                  go_roundw
                  case rel => exact ⟨1, by omega, by go_num, HBB.out⟩
                  case measure => simp [intOf]
            · as_aux_lemma =>
              go_wp2_with fail
              refine (y23 HV.out _ HL.out HT.out).mono ?_
              rintro e w12 ⟨vp, rfl, hp, hb2⟩
              have HM := Lib.hid (HM.out.below hb2 (Nat.le_refl _))
              have HU := Lib.hid (HU.out.below hb2 (Nat.le_refl _))
              have HB := Lib.hid (blk_below HB.out hb2 (lt_blk HB.out))
              have H9 := Lib.hid (blk_below H9.out hb2 (lt_blk H9.out))
              have f0 := (hb2.cell (p := ⟨bf, 0, none⟩) hfl).trans f0
              have f1 := (hb2.cell (p := ⟨bf, 1, none⟩) hfl).trans f1
              have hfl2 : bf < w12.heap.size := Nat.lt_of_lt_of_le hfl hb2.size
              have HP := Lib.hid (show SlI w12 vp (fN (gdT L ts) ts.length) from hp)
              replace hb := btr hb hb2 (Nat.le_refl _)
              clear hb2 hp
              go_wp2_with fail
              refine (y23 HVU.out _ HM.out HU.out).mono ?_
              rintro e w13 ⟨vq, rfl, hq, hb2⟩
              have HB := Lib.hid (blk_below HB.out hb2 (lt_blk HB.out))
              have H9 := Lib.hid (blk_below H9.out hb2 (lt_blk H9.out))
              have HP := Lib.hid (HP.out.below hb2 (Nat.le_refl _))
              have HQ0 : SlI w13 vq (fN (gdT L.reverse (turnT L.length r ts)) (turnT L.length r ts).length) := hq
              rw [turnT_len] at HQ0
              obtain ⟨PP, hPP⟩ : ∃ PP, PP = fN (gdT L ts) ts.length := ⟨_, rfl⟩
              obtain ⟨QQ, hQQ⟩ : ∃ QQ, QQ = fN (gdT L.reverse (turnT L.length r ts)) ts.length := ⟨_, rfl⟩
              have hlen : QQ.length = PP.length := by rw [hPP, hQQ]; exact len_sg hrl _ _ (fun i hi => turn_good HV.out hrl hi)
              have HQ := Lib.hid (show SlI w13 vq QQ by rw [hQQ]; exact HQ0)
              replace HP := Lib.hid (show SlI w13 vp PP by rw [hPP]; exact HP.out)
              have HPE := Lib.hid hPP
              have HQE := Lib.hid hQQ
              have e3 : ((PP.length : Int) != (QQ.length : Int)) = false := by rw [hlen]; simp
              replace hb := btr hb hb2 (Nat.le_refl _)
              have HBB := Lib.hid hb
              clear hb2 hq HQ0 hPP hQQ hlen f0 f1 hb
              obtain ⟨adp, capp, rfl, hmp, -⟩ := HP.out
              obtain ⟨adq, capq, rfl, hmq, -⟩ := HQ.out
              go_wp2
              go_loop [172] (fun i => ∃ k : Nat, k ≤ PP.length ∧ i = .int .i64 k) (fun i => PP.length - (intOf i).toNat)
              case atStart => exact ⟨0, Nat.zero_le _, rfl⟩
              case round =>
                obtain ⟨k, hk, rfl⟩ := hrel
                by_cases hkp : k < PP.length
                · have hkp2 : k < (fN (gdT L ts) ts.length).length := by rw [← HPE.out]; exact hkp
                  obtain ⟨ci, hci, hcg, hce⟩ := fN_mem hkp2
                  rw [← HPE.out] at hce
                  obtain ⟨bp, op, rfl, -, c1⟩ := slI_cell3 HP.out hkp
                  rw [hce] at c1
                  have hin : ((sg r ts.length ci : Nat) : Int) ∈ QQ := by
                    rw [HQE.out]
                    exact fN_in (sg_lt (by omega)) ((show (gdT L.reverse (turnT L.length r ts)) (sg r ts.length ci) = (gdT L ts) ci from by have i := ci; have hi := hci; exact turn_good HV.out hrl hci).trans hcg)
                  have HIN := Lib.hid (hasN_all hin)
                  have hto := to_any x1 ts.length ci w3.heap.size (w.heap.size + 1) w13 (by omega) h1x (by omega) HB.out H9.out
                  rw [← HRE.out, Int.toNat_natCast] at hto
                  obtain ⟨j0, hj0⟩ : ∃ j0, j0 = sg r ts.length ci := ⟨_, rfl⟩
                  rw [← hj0] at hto HIN
                  have HTO := Lib.hid hto
                  clear hkp2 hcg hce hin hto hj0
                  go_wp2
                  go_loop [30, 178] (fun f i => ∃ j : Nat, j ≤ QQ.length ∧ i = .int .i64 j ∧ f = .bool (hasN QQ j0 j)) (fun _ i => QQ.length - (intOf i).toNat)
                  case atStart => exact ⟨0, Nat.zero_le _, rfl, rfl⟩
                  case round =>
                    obtain ⟨j, hj, rfl, rfl⟩ := hrel
                    by_cases hjd : j < QQ.length
                    · obtain ⟨bq, oq, rfl, -, c2⟩ := slI_cell3 HQ.out hjd
                      have hsu := hasN_succ (x := (j0 : Int)) hjd
                      generalize at0 QQ j = x at *
                      have HSV := Lib.hid hsu
                      clear hsu
                      cases hf : hasN QQ j0 j
                      all_goals
                        have HF2 := Lib.hid hf
                        clear hf
                        go_wp2_with (go_at_call 38; refine HTO.out.mono ?_; rintro e w14 ⟨rfl, rfl⟩)
                        go_round
                        case rel => exact ⟨j + 1, by omega, by go_num, by rw [HSV.out, HF2.out]; simp⟩
                        case measure => simp [intOf]; omega
                    · have hjx : j = QQ.length := by omega
                      have hh : hasN QQ j0 j = true := by rw [hjx]; exact HIN.out
                      rw [hh]
                      subst hjx
                      clear hjd hj hh
                      go_wp2
                      go_round
                      case rel => exact ⟨k + 1, by omega, by go_num⟩
                      case measure => simp [intOf]; omega
                · have hkx : k = PP.length := by omega
                  subst hkx
                  clear hk
                  go_wp2
                  go_roundw
                  case rel => exact ⟨2, by omega, by go_num, HBB.out⟩
                  case measure => simp [intOf]
end Yteijenefhoconaa
end Go.Proofs
