/- The reference's Runs returns what the program's runs say. -/
import Derived.Test.YteileadcmekkoaaTq
import Derived.Test.YteileadcmekkoaaRc
open Go Go.RowKit Go.YteileadcmekkoaaIt
namespace Go.Proofs
namespace Yteileadcmekkoaa
open PanPlain (upd upd_same upd_ne)
def PR (Y1 Y2 : Tim) : Rows := fun k v => (Y1 k v, Y2 k v)
def loT (ws : List Wa) : Nat → Nat → Int := fun _ i => (at_ ws i).lo
def hiT (ws : List Wa) : Nat → Nat → Int := fun _ i => (at_ ws i).hi
theorem made_repP (n : Nat) : (madeCells (Value.agg #[.int .i64 0, .int .i64 0]).cells (n * 2)).toList = List.replicate (n * 2) (.int .i64 0) := made_pairs n
set_option maxRecDepth 100000 in
set_option maxHeartbeats 2000000 in
theorem rruns_err (n : Int) (v : Value) (ws : List Wa) (st : Int) (w : World) (hv : SlA w v ws) (he : runsE n ws st ≠ 0) :
    Calls Try.prog 34 #[.agg #[.int .i64 n, v], .int .i64 st] w fun e w' => e = .returned (.tuple #[.slice none 0 0, .int .i64 (runsE n ws st)]) ∧ Below w.heap.size w w' := by
  have HV := Lib.hid hv
  obtain ⟨ad, cap, rfl, -, -, -⟩ := hv
  obtain ⟨E0, hE0⟩ : ∃ E0, E0 = chkE n ws := ⟨_, rfl⟩
  obtain ⟨q, hq⟩ : ∃ q, q = btw 0 st 200 := ⟨_, rfl⟩
  have hRE : runsE n ws st = if E0 ≠ 0 then E0 else if q = false then 2 else 0 := by rw [hE0, hq]; rfl
  have h61 := fun W => is_any st 0 200 W
  rw [← hq] at h61
  clear hq
  rw [hRE] at he ⊢
  have HE0 := Lib.hid hE0
  clear hRE hE0
  go_enter Try.func34, Try.ntmps34
  refine wp_seq_k (fun K hK => ?_)
  have HK := Lib.hid hK; clear hK
  go_wp2
  refine HK.out _ _ ?_; clear HK K
  generalize hw1 : World.alloc _ _ = w1
  obtain ⟨b1, hB1, hs1⟩ := blk1 hw1
  clear hw1
  have HV1 := Lib.hid (HV.out.below hB1 (Nat.le_refl _))
  refine wp_seq_k (fun K hK => ?_)
  have HK := Lib.hid hK; clear hK
  go_wp2_with (first | (refine wpList_load_blk rfl 31 _ rfl _ rfl b1 Try.underlying31 rfl size31 rfl ?_) | (go_at_call 23; refine (rcheck_any _ _ ws _ HV1.out).mono ?_; rintro e w4 ⟨rfl, hb⟩; rw [← HE0.out]))
  refine HK.out _ _ ?_; clear HK K
  have B := btr hB1 hb (Nat.le_refl _)
  clear HE0
  by_cases h0 : E0 = 0
  · have hq : q = false := by
      cases q with
      | false => rfl
      | true => exact absurd (by rw [if_neg (by simpa using h0)]; simp) he
    subst hq h0
    go_wp2_with (go_at_call 61; refine (h61 _).mono ?_; rintro e w5 ⟨rfl, rfl⟩)
    go_ret2
    exact ⟨by simp [], B⟩
  · have h0b : (E0 != 0) = true := by rw [bne_iff_ne]; exact h0
    rw [if_pos h0]
    go_wp2
    go_ret2
    exact ⟨by simp [], B⟩
set_option maxRecDepth 100000 in
set_option maxHeartbeats 16000000 in
theorem rruns_ok (m N : Nat) (v : Value) (ws : List Wa) (R : Rows) (w : World) (hv : SlA w v ws) (hval : Val m ws) (hns : NS ws) (hN : N ≤ 200) (hR : RunEq m ws N R) (hp : ∀ k v, 0 ≤ (R k v).1 ∧ (R k v).1 ≤ (R k v).2 ∧ (k < N → (R k v).2 ≤ 100000 * ((k : Int) + 1))) :
    Calls Try.prog 34 #[.agg #[.int .i64 m, v], .int .i64 N] w fun e w' => (∃ ov, e = .returned (.tuple #[ov, .int .i64 0]) ∧ SlPP w' ov ((List.range N).map fun k => (List.range m).map (R k))) ∧ Below w.heap.size w w' := by
  have HV := Lib.hid hv
  obtain ⟨ad, cap, rfl, -, -, -⟩ := hv
  have hm10 := (val_mem.1 hval).1
  have hl40 := (val_mem.1 hval).2.1
  have hp2 : ∀ k v, 0 ≤ (R k v).1 ∧ (R k v).1 ≤ (R k v).2 := fun k v => ⟨(hp k v).1, (hp k v).2.1⟩
  have hU2 := (hR.truth hval hns hp2 (tk := hiT ws) (fun k i _ hi => ⟨((val_mem.1 hval).2.2 _ (by rw [at_lt hi]; exact List.getElem_mem hi)).2.2.1.2, Int.le_refl _⟩)).1
  have hU1 : Ub ws (loT ws) N (fun k v => (R k v).2) := (hR.truth hval hns hp2 (tk := loT ws) (fun k i _ hi => ⟨Int.le_refl _, ((val_mem.1 hval).2.2 _ (by rw [at_lt hi]; exact List.getElem_mem hi)).2.2.1.2⟩)).1
  have hS : ∀ k v, k < N → (R k v).2 ≤ 100000000 := fun k v hk => by have := (hp k v).2.2 hk; omega
  have hfin : ∀ k v, k < N → v < m → PR (tim ws (loT ws) m N) (tim ws (hiT ws) m N) k v = R k v := fun k v hk hvm => Prod.ext (hR.lows hval hns hp2 k v hk hvm) (hR.highs hval hns hp2 k v hk hvm)
  have hchk : chkE m ws = 0 := by rw [chk_of hval, if_pos hns]
  have hbt : btw 0 (N : Int) 200 = true := btw_true.2 ⟨by omega, by omega⟩
  have h61 := fun W => is_any (N : Int) 0 200 W
  rw [hbt] at h61
  have HP := Lib.hid (And.intro hval (And.intro hU1 (And.intro hU2 (And.intro hS hfin))))
  have HCH := Lib.hid hchk
  clear hval hU1 hU2 hS hfin hchk hbt hp hp2 hR hns
  obtain ⟨i61, hi61, hz1, hz2, hz3⟩ := info_parts info61
  have HI := Lib.hid (And.intro hi61 (And.intro hz1 (And.intro hz2 hz3)))
  clear hi61 hz1 hz2 hz3
  obtain ⟨i80, hi80, hz1, hz2, hz3⟩ := info_parts info80
  have HI3 := Lib.hid (And.intro hi80 (And.intro hz1 (And.intro hz2 hz3)))
  clear hi80 hz1 hz2 hz3
  go_enter Try.func34, Try.ntmps34
  refine wp_seq_k (fun K hK => ?_)
  have HK := Lib.hid hK; clear hK
  go_wp2
  refine HK.out _ _ ?_; clear HK K
  generalize hw1 : World.alloc _ _ = w0
  obtain ⟨b1, hB1, hs1⟩ := blk1 hw1
  clear hw1
  have HV1 := Lib.hid (HV.out.below hB1 (Nat.le_refl _))
  refine wp_seq_k (fun K hK => ?_)
  have HK := Lib.hid hK; clear hK
  go_wp2_with (first | (refine wpList_load_blk rfl 31 _ rfl _ rfl b1 Try.underlying31 rfl size31 rfl ?_) | (go_at_call 23; refine (rcheck_any _ _ ws _ HV1.out).mono ?_; rintro e w1 ⟨rfl, hb⟩; rw [HCH.out]))
  refine HK.out _ _ ?_; clear HK K
  replace hB1 := btr hB1 hb (Nat.le_refl _)
  replace b1 := blk_keep b1 hb
  clear hb HV1
  refine wp_seq_k (fun K hK => ?_)
  have HK := Lib.hid hK; clear hK
  go_wp2
  refine HK.out _ _ ?_; clear HK K
  refine wp_seq_k (fun K hK => ?_)
  have HK := Lib.hid hK; clear hK
  go_wp2_with (go_at_call 61; refine (h61 _).mono ?_; rintro e w5 ⟨rfl, rfl⟩)
  refine HK.out _ _ ?_; clear HK K h61
  have l1 := lt_blk b1
  go_wp2
  go_loopw [7, 8] (fun o i wr => ∃ (k : Nat) (gs : Nat → Nat), k ≤ N ∧ i = .int .i64 k ∧ wr.heap[w.heap.size]? = some (.cells #[.int .i64 m, .slice ad ws.length cap] 31 (0, 0)) ∧ TP w1 w1.heap.size m gs (PR (tim ws (loT ws) m k) (tim ws (hiT ws) m k)) k o wr) (fun _ i _ => N - (intOf i).toNat)
  case atStart => exact ⟨0, fun _ => 0, Nat.zero_le _, rfl, b1, fun k hk => by omega, fun k k' hk => by omega, fun k hk => by omega, World.ownsRow_nil _ _ _ _, Below.refl _ _⟩
  case round =>
    clear b1
    obtain ⟨k, gs, hk, rfl, b1, hT⟩ := hrel
    by_cases hkN : k < N
    · have hki : (k : Int) < (N : Int) := by omega
      have ro := hT.out
      obtain ⟨ao, co, rfl⟩ := form_of ro
      have c10 := cell_blk (i := 0) b1
      have c11 := cell_blk (i := 1) b1
      simp only [List.getElem?_toArray, List.getElem?_cons_zero, List.getElem?_cons_succ] at c10 c11
      have HT := Lib.hid hT
      clear hT
      go_wp2_with (first | (at_make; refine wpList_make_full wr rfl (.tmp 29) (.tmp 29) 61 rfl w1.heap.size 80 i80 (.agg #[.int .i64 0, .int .i64 0]) 2 Try.underlying61 HI3.out.1 HI3.out.2.1 HI3.out.2.2.1 .i64 .i64 _ _ m rfl rfl rfl rfl (by rw [HI3.out.2.2.2]; omega) (Nat.le_trans (by omega : m ≤ 100) (by decide)) HT.out.b.size ?_; intro w5 q1 q2; rw [made_repP] at q1; have hb5 : Below wr.heap.size wr w5 := ⟨q2.os, q2.tape, q2.output, q2.size, fun k hk => q2.block k hk (by simp)⟩; have q3 := row_fullG q1; have ro5 := row_below ro hb5; have hs5 := lt_blk q3) | (at_builtin; refine wpList_append_own _ rfl _ _ 56 rfl w1.heap.size 61 i61 (.slice none 0 0) 1 24 Try.underlying56 HI.out.1 HI.out.2.1 HI.out.2.2.1 HI.out.2.2.2 rfl (by decide) _ _ _ rfl (ro5.alloc _) ⟨w5.heap.size, 0, none⟩ 1 1 [slN wr.heap.size m] rfl rfl (cell_newL rfl) (by intro u hu; simp at hu; subst hu; rfl) (Nat.le_trans (by omega : k + 1 ≤ 300) (by decide)) (by omega) (by rw [World.size_alloc]; have := HT.out.b.size; have := hb5.size; omega) ?_; intro v' w6 r1 r2 _; obtain ⟨a6, c6, rfl⟩ := form_of r1))
      have hT6 : TP w1 w1.heap.size m (upd gs k wr.heap.size) (PR (relN ws (loT ws) k (tim ws (loT ws) m k) 0) (relN ws (hiT ws) k (tim ws (hiT ws) m k) 0)) (k + 1) (.slice a6 (k + 1) c6) w6 := by
        refine HT.out.begin (Wa := w5.alloc (.cells #[slN wr.heap.size m] 61)) (Nat.le_refl _) (hb5.trans ((Below.refl _ w5).alloc (Nat.le_refl _) _ |>.mono hb5.size)) ?_ r1 r2
        have e : rowC m (PR (tim ws (loT ws) m k) (tim ws (hiT ws) m k) k) = List.replicate (m * 2) (.int .i64 0) := by
          rw [← rowC_zero]
          exact rowC_same fun v _ => Prod.ext (tim_zero ws (loT ws) m k (Nat.le_refl _)) (tim_zero ws (hiT ws) m k (Nat.le_refl _))
        show (w5.alloc _).heap[wr.heap.size]? = some (.cells (rowC m (PR (tim ws (loT ws) m k) (tim ws (hiT ws) m k) k)).toArray 80 (0, 0))
        rw [e]
        exact (heap_oldI hs5).trans q3
      have b16 := (r2.block w.heap.size (by rw [World.size_alloc]; have := lt_blk b1; have := hb5.size; omega) (fun e => own_ne ro b1 (by decide) e.symm)).trans ((heap_oldI (by have := lt_blk b1; have := hb5.size; omega)).trans (blk_keep b1 hb5))
      clear q1 q2 q3 r1 r2 hb5 ro5 hs5 c10 c11 HT ro
      rename_i xx1 xx2
      clear xx2
      obtain ⟨gs', hgs⟩ : ∃ gs', gs' = upd gs k wr.heap.size := ⟨_, rfl⟩
      rw [← hgs] at hT6
      clear hgs
      go_loopw [9] (fun i wx => ∃ r : Nat, r ≤ m ∧ i = .int .i64 r ∧ wx.heap[w.heap.size]? = some (.cells #[.int .i64 m, .slice ad ws.length cap] 31 (0, 0)) ∧ TP w1 w1.heap.size m gs' (PR (relN ws (loT ws) k (tim ws (loT ws) m k) r) (relN ws (hiT ws) k (tim ws (hiT ws) m k) r)) (k + 1) (.slice a6 (k + 1) c6) wx) (fun i _ => m - (intOf i).toNat)
      case atStart => exact ⟨0, Nat.zero_le _, rfl, b16, hT6⟩
      case round =>
        obtain ⟨r, hr, rfl, b17, hT7⟩ := hrel
        have c10 := cell_blk (i := 0) b17
        have c11 := cell_blk (i := 1) b17
        simp only [List.getElem?_toArray, List.getElem?_cons_zero, List.getElem?_cons_succ] at c10 c11
        have HT7 := Lib.hid hT7
        clear hT7 hT6
        by_cases hrm : r < m
        · have hri : (r : Int) < (m : Int) := by omega
          go_wp2
          go_loopw [10] (fun i wx => ∃ j : Nat, j ≤ ws.length ∧ i = .int .i64 j ∧ wx.heap[w.heap.size]? = some (.cells #[.int .i64 m, .slice ad ws.length cap] 31 (0, 0)) ∧ TP w1 w1.heap.size m gs' (PR (relR ws (loT ws) k (relN ws (loT ws) k (tim ws (loT ws) m k) r) j) (relR ws (hiT ws) k (relN ws (hiT ws) k (tim ws (hiT ws) m k) r) j)) (k + 1) (.slice a6 (k + 1) c6) wx) (fun i _ => ws.length - (intOf i).toNat)
          case atStart => exact ⟨0, Nat.zero_le _, rfl, b17, HT7.out⟩
          case round =>
            clear b17 c10 c11 HT7
            obtain ⟨j, hj, rfl, b18, hT8⟩ := hrel
            have HT8 := Lib.hid hT8
            clear hT8
            have c11 := cell_blk (i := 1) b18
            simp only [List.getElem?_toArray, List.getElem?_cons_zero, List.getElem?_cons_succ] at c11
            by_cases hjl : j < ws.length
            · have hji : (j : Int) < (ws.length : Int) := by omega
              obtain ⟨g, cc, eov, hgl, hcg, hcr⟩ := HT8.out.cells (by omega)
              injection eov with ea6 _ ec6
              subst ea6 ec6
              have hV30 := HV.out
              obtain ⟨ad0, cap0, e0, -, -, hcc⟩ := hV30
              injection e0 with e1 _ e3
              subst e1 e3
              obtain ⟨bv, ov, rfl, hlt, hcell⟩ := hcc (by omega)
              obtain ⟨q0, q1, q2, q3, q4⟩ := a_cells hcell (i := j) (n := j) hjl rfl
              have hBw : Below w.heap.size w wr := hB1.trans (HT8.out.b.mono hB1.size)
              replace q0 := (hBw.cell (p := ⟨bv, ov + j * 5, none⟩) hlt).trans q0
              replace q1 := (hBw.cell (p := ⟨bv, ov + j * 5 + 1, none⟩) hlt).trans q1
              replace q2 := (hBw.cell (p := ⟨bv, ov + j * 5 + 2, none⟩) hlt).trans q2
              replace q3 := (hBw.cell (p := ⟨bv, ov + j * 5 + 3, none⟩) hlt).trans q3
              replace q4 := (hBw.cell (p := ⟨bv, ov + j * 5 + 4, none⟩) hlt).trans q4
              obtain ⟨⟨hf0, hf1⟩, ⟨ht0, ht1⟩, ⟨hx0, hx1⟩, hx2, hb0, hb4⟩ := (val_mem.1 HP.out.1).2.2 (at_ ws j) (by rw [at_lt hjl]; exact List.getElem_mem hjl)
              have hrel1 := relR_succ ws (loT ws) k (relN ws (loT ws) k (tim ws (loT ws) m k) r) j
              have hrel2 := relR_succ ws (hiT ws) k (relN ws (hiT ws) k (tim ws (hiT ws) m k) r) j
              have hUR1 := HP.out.2.1.relR (HP.out.2.1.relN (HP.out.2.1.tim m k (by omega)) hkN r) hkN j hj
              have hUR2 := HP.out.2.2.1.relR (HP.out.2.2.1.relN (HP.out.2.2.1.tim m k (by omega)) hkN r) hkN j hj
              have hnn1 : ∀ q v, 0 ≤ relR ws (loT ws) k (relN ws (loT ws) k (tim ws (loT ws) m k) r) j q v := fun q v => Int.le_trans (tim_nn ws (loT ws) m k q v) (Int.le_trans (relN_up ..) (relR_up ..))
              have hnn2 : ∀ q v, 0 ≤ relR ws (hiT ws) k (relN ws (hiT ws) k (tim ws (hiT ws) m k) r) j q v := fun q v => Int.le_trans (tim_nn ws (hiT ws) m k q v) (Int.le_trans (relN_up ..) (relR_up ..))
              have hSS := HP.out.2.2.2.1
              obtain ⟨Y, hY⟩ : ∃ Y, Y = relR ws (loT ws) k (relN ws (loT ws) k (tim ws (loT ws) m k) r) j := ⟨_, rfl⟩
              obtain ⟨Z, hZ⟩ : ∃ Z, Z = relR ws (hiT ws) k (relN ws (hiT ws) k (tim ws (hiT ws) m k) r) j := ⟨_, rfl⟩
              rw [← hY] at hrel1 hUR1 hnn1 hcr
              rw [← hZ] at hrel2 hUR2 hnn2 hcr
              have HT9 : TP w1 w1.heap.size m gs' (PR Y Z) (k + 1) (.slice (some ⟨g, 0, none⟩) (k + 1) c6) wr := by rw [hY, hZ]; exact HT8.out
              clear hY hZ HT8 hcell hcc
              unfold relI at hrel1 hrel2
              have hloE : loT ws k j = (at_ ws j).lo := rfl
              have hhiE : hiT ws k j = (at_ ws j).hi := rfl
              rw [hloE] at hrel1
              rw [hhiE] at hrel2
              clear hloE hhiE
              obtain ⟨F, hF⟩ : ∃ F : Nat, (at_ ws j).f = (F : Int) := ⟨(at_ ws j).f.toNat, by omega⟩
              obtain ⟨T, hT⟩ : ∃ T : Nat, (at_ ws j).t = (T : Int) := ⟨(at_ ws j).t.toNat, by omega⟩
              obtain ⟨Bk, hBk⟩ : ∃ Bk : Nat, (at_ ws j).b = (Bk : Int) := ⟨(at_ ws j).b.toNat, by omega⟩
              rw [hF, hT, hBk, Int.toNat_natCast, Int.toNat_natCast, Int.toNat_natCast] at hrel1 hrel2
              rw [hF] at q0 hf1
              rw [hT] at q1 ht1
              rw [hBk] at q4
              have hFm : F < m := by omega
              have hTm : T < m := by omega
              have hFi : (F : Int) < (m : Int) := by omega
              have hTi : (T : Int) < (m : Int) := by omega
              generalize (at_ ws j).lo = xl at *
              generalize (at_ ws j).hi = xh at *
              clear hf0 hf1 ht0 ht1 hb0 hb4 hF hT hBk
              have HR := Lib.hid (And.intro hrel1 hrel2)
              have HT := Lib.hid HT9
              clear hrel1 hrel2 HT9
              have hBA : Below wr.heap.size wr (wr.alloc (.cells #[.int .i64 F, .int .i64 T, .int .i64 xl, .int .i64 xh, .int .i64 Bk] 91)) := (Below.refl _ wr).alloc (Nat.le_refl _) _
              have bX : (wr.alloc (.cells #[.int .i64 F, .int .i64 T, .int .i64 xl, .int .i64 xh, .int .i64 Bk] 91)).heap[wr.heap.size]? = _ := heap_newI rfl
              by_cases hbk : (k : Int) < (Bk : Int)
              · go_wp2
                go_roundw
                case rel =>
                  have e := HR.out
                  rw [if_neg (by omega), if_neg (by omega)] at e
                  exact ⟨j + 1, by omega, by go_num, blk_keep b18 hBA, by rw [e.1, e.2]; exact HT.out.below (Nat.le_refl _) hBA⟩
                case measure => simp [intOf]; omega
              · go_wp2
                rename_i KA hKA K0 hK0 _ _
                have HK0 := Lib.hid hK0
                clear hK0
                obtain ⟨kb, hkb⟩ : ∃ kb, kb = k - Bk := ⟨_, rfl⟩
                have hkbI : (k : Int) - (Bk : Int) = (kb : Int) := by omega
                have hwk : IntKind.i64.wrap (kb : Int) = (kb : Int) := by rw [IntKind.wrap_i64]; omega
                have hkbn : kb < k + 1 := by omega
                have hkbi : (kb : Int) < (k : Int) + 1 := by omega
                have hkki : (k : Int) < (k : Int) + 1 := by omega
                obtain ⟨y1, hy1⟩ : ∃ y1, y1 = Y k T := ⟨_, rfl⟩
                obtain ⟨z1, hz1⟩ : ∃ z1, z1 = Z k T := ⟨_, rfl⟩
                obtain ⟨y2, hy2⟩ : ∃ y2, y2 = Y kb F := ⟨_, rfl⟩
                obtain ⟨z2, hz2⟩ : ∃ z2, z2 = Z kb F := ⟨_, rfl⟩
                have hbn : (0 ≤ y1 ∧ y1 ≤ 100000000) ∧ (0 ≤ z1 ∧ z1 ≤ 100000000) ∧ (0 ≤ y2 ∧ y2 ≤ 100000000) ∧ (0 ≤ z2 ∧ z2 ≤ 100000000) := by
                  rw [hy1, hz1, hy2, hz2]
                  exact ⟨⟨hnn1 _ _, Int.le_trans (hUR1 _ _) (hSS _ _ (by omega))⟩, ⟨hnn2 _ _, Int.le_trans (hUR2 _ _) (hSS _ _ (by omega))⟩, ⟨hnn1 _ _, Int.le_trans (hUR1 _ _) (hSS _ _ (by omega))⟩, ⟨hnn2 _ _, Int.le_trans (hUR2 _ _) (hSS _ _ (by omega))⟩⟩
                have s1 := (hBA.cell (p := ⟨g, k, none⟩) hgl).trans (hcg k (by omega))
                have s2 := (hBA.cell (p := ⟨g, kb, none⟩) hgl).trans (hcg kb (by omega))
                have s3 := (hBA.cell (p := ⟨gs' k, T * 2, none⟩) (lt_blk (HT.out.rows k (by omega)))).trans (hcr k T (by omega) hTm).1
                have s4 := (hBA.cell (p := ⟨gs' k, T * 2 + 1, none⟩) (lt_blk (HT.out.rows k (by omega)))).trans (hcr k T (by omega) hTm).2
                have s5 := (hBA.cell (p := ⟨gs' kb, F * 2, none⟩) (lt_blk (HT.out.rows kb (by omega)))).trans (hcr kb F (by omega) hFm).1
                have s6 := (hBA.cell (p := ⟨gs' kb, F * 2 + 1, none⟩) (lt_blk (HT.out.rows kb (by omega)))).trans (hcr kb F (by omega) hFm).2
                simp only [PR] at s3 s4 s5 s6
                rw [← hy1] at s3
                rw [← hz1] at s4
                rw [← hy2] at s5
                rw [← hz2] at s6
                have b19 := blk_keep b18 hBA
                have HT2 := Lib.hid (HT.out.below (Nat.le_refl _) hBA)
                have hnl : ∀ q, q < k + 1 → gs' q < wr.heap.size := fun q hq => lt_blk (HT.out.rows q hq)
                have hlg : g < wr.heap.size := hgl
                have hnx : wr.heap.size < (wr.alloc (.cells #[.int .i64 F, .int .i64 T, .int .i64 xl, .int .i64 xh, .int .i64 Bk] 91)).heap.size := lt_blk bX
                have HY := Lib.hid (And.intro (And.intro hy1 hz1) (And.intro (And.intro hy2 hz2) hkb))
                clear hy1 hy2 hz1 hz2 hkb hnn1 hnn2 hUR1 hUR2 hSS hcg hcr hgl q0 q1 q2 q3 q4 b18 c11
                generalize wr.alloc (.cells #[.int .i64 F, .int .i64 T, .int .i64 xl, .int .i64 xh, .int .i64 Bk] 91) = wz at *
                generalize wr.heap.size = nx at *
                have hS0 : wz.drew.heap[nx]? = some (.cells #[.int .i64 F, .int .i64 T, .int .i64 xl, .int .i64 xh, .int .i64 Bk] 91 (0, 0)) ∧ wz.drew.cell? ⟨g, k, none⟩ = some (.slice (some ⟨gs' k, 0, none⟩) m m) ∧ wz.drew.cell? ⟨g, kb, none⟩ = some (.slice (some ⟨gs' kb, 0, none⟩) m m) ∧ wz.drew.cell? ⟨gs' k, T * 2, none⟩ = some (.int .i64 y1) ∧ wz.drew.cell? ⟨gs' k, T * 2 + 1, none⟩ = some (.int .i64 z1) ∧ wz.drew.cell? ⟨gs' kb, F * 2, none⟩ = some (.int .i64 y2) ∧ wz.drew.cell? ⟨gs' kb, F * 2 + 1, none⟩ = some (.int .i64 z2) := ⟨bX, s1, s2, s3, s4, s5, s6⟩
                replace b19 : wz.drew.heap[w.heap.size]? = _ := b19
                have hT3 : TP w1 w1.heap.size m gs' (PR Y Z) (k + 1) (.slice (some ⟨g, 0, none⟩) (k + 1) c6) wz.drew := ⟨HT2.out.rows, HT2.out.inj, HT2.out.lo, HT2.out.out, HT2.out.b.drew⟩
                have HT3 := Lib.hid hT3
                replace hnx : nx < wz.drew.heap.size := hnx
                clear s1 s2 s3 s4 s5 s6 bX HT2 HT hT3 hBA hBw
                refine wp_region_z (z := 22) (S := fun U => U.heap[nx]? = some (.cells #[.int .i64 F, .int .i64 T, .int .i64 xl, .int .i64 xh, .int .i64 Bk] 91 (0, 0)) ∧ U.cell? ⟨g, k, none⟩ = some (.slice (some ⟨gs' k, 0, none⟩) m m) ∧ U.cell? ⟨g, kb, none⟩ = some (.slice (some ⟨gs' kb, 0, none⟩) m m) ∧ U.cell? ⟨gs' k, T * 2, none⟩ = some (.int .i64 y1) ∧ U.cell? ⟨gs' k, T * 2 + 1, none⟩ = some (.int .i64 z1) ∧ U.cell? ⟨gs' kb, F * 2, none⟩ = some (.int .i64 y2) ∧ U.cell? ⟨gs' kb, F * 2 + 1, none⟩ = some (.int .i64 z2)) (by kernel_rfl) ?_
                change wpAnyZ _ _ _ _ _ _ _ _ _ (World.drew wz)
                generalize World.drew wz = wq at *
                clear wz
                refine wpAnyZ_take (i := 0) (oi := { dst := some 55, op := _, type := _, pos := _, after := _, guard := _ }) (v := ?_) rfl (by kernel_rfl) (by kernel_rfl) (by kernel_rfl) (fun _ _ _ h => h) (Or.inl ⟨by rfl, ?_⟩) hS0 ?_
                rotate_left
                · intro U hU
                  go_simp
                  all_goals with_reducible rfl
                simp only [Act.put, List.setIfInBounds_toArray, List.set_cons_zero, List.set_cons_succ]
                refine wpAnyZ_take (i := 1) (oi := { dst := some 56, op := _, type := _, pos := _, after := _, guard := _ }) (v := ?_) rfl (by kernel_rfl) (by kernel_rfl) (by kernel_rfl) (fun _ _ _ h => h) (Or.inl ⟨by rfl, ?_⟩) hS0 ?_
                rotate_left
                · intro U hU
                  go_simp
                  all_goals with_reducible rfl
                simp only [Act.put, List.setIfInBounds_toArray, List.set_cons_zero, List.set_cons_succ]
                refine wpAnyZ_take (i := 2) (oi := { dst := some 57, op := _, type := _, pos := _, after := _, guard := _ }) (v := ?_) rfl (by kernel_rfl) (by kernel_rfl) (by kernel_rfl) (fun _ _ _ h => h) (Or.inl ⟨by rfl, ?_⟩) hS0 ?_
                rotate_left
                · intro U hU
                  go_simp
                  all_goals with_reducible rfl
                simp only [Act.put, List.setIfInBounds_toArray, List.set_cons_zero, List.set_cons_succ]
                refine wpAnyZ_take (i := 3) (oi := { dst := some 58, op := _, type := _, pos := _, after := _, guard := _ }) (v := ?_) rfl (by kernel_rfl) (by kernel_rfl) (by kernel_rfl) (fun _ _ _ h => h) (Or.inl ⟨by rfl, ?_⟩) hS0 ?_
                rotate_left
                · intro U hU
                  have hU0 := cell_blk (i := 4) hU.1
                  simp only [List.getElem?_toArray, List.getElem?_cons_zero, List.getElem?_cons_succ] at hU0
                  go_simp
                  all_goals with_reducible rfl
                simp only [Act.put, List.setIfInBounds_toArray, List.set_cons_zero, List.set_cons_succ]
                refine wpAnyZ_take (i := 4) (oi := { dst := some 59, op := _, type := _, pos := _, after := _, guard := _ }) (v := ?_) rfl (by kernel_rfl) (by kernel_rfl) (by kernel_rfl) (fun _ _ _ h => h) (Or.inl ⟨by rfl, ?_⟩) hS0 ?_
                rotate_left
                · intro U hU
                  go_simp
                  all_goals with_reducible rfl
                simp only [Act.put, List.setIfInBounds_toArray, List.set_cons_zero, List.set_cons_succ]
                refine wpAnyZ_take (i := 5) (oi := { dst := some 60, op := _, type := _, pos := _, after := _, guard := _ }) (v := ?_) rfl (by kernel_rfl) (by kernel_rfl) (by kernel_rfl) (fun _ _ _ h => h) (Or.inl ⟨by rfl, ?_⟩) hS0 ?_
                rotate_left
                · intro U hU
                  go_simp
                  all_goals with_reducible rfl
                simp only [Act.put, List.setIfInBounds_toArray, List.set_cons_zero, List.set_cons_succ]
                refine wpAnyZ_take (i := 6) (oi := { dst := some 61, op := _, type := _, pos := _, after := _, guard := _ }) (v := ?_) rfl (by kernel_rfl) (by kernel_rfl) (by kernel_rfl) (fun _ _ _ h => h) (Or.inl ⟨by rfl, ?_⟩) hS0 ?_
                rotate_left
                · intro U hU
                  have hU0 := hU.2.2.1
                  go_simp
                  all_goals with_reducible rfl
                simp only [Act.put, List.setIfInBounds_toArray, List.set_cons_zero, List.set_cons_succ]
                refine wpAnyZ_take (i := 7) (oi := { dst := some 62, op := _, type := _, pos := _, after := _, guard := _ }) (v := ?_) rfl (by kernel_rfl) (by kernel_rfl) (by kernel_rfl) (fun _ _ _ h => h) (Or.inl ⟨by rfl, ?_⟩) hS0 ?_
                rotate_left
                · intro U hU
                  go_simp
                  all_goals with_reducible rfl
                simp only [Act.put, List.setIfInBounds_toArray, List.set_cons_zero, List.set_cons_succ]
                refine wpAnyZ_take (i := 8) (oi := { dst := some 63, op := _, type := _, pos := _, after := _, guard := _ }) (v := ?_) rfl (by kernel_rfl) (by kernel_rfl) (by kernel_rfl) (fun _ _ _ h => h) (Or.inl ⟨by rfl, ?_⟩) hS0 ?_
                rotate_left
                · intro U hU
                  have hU0 := cell_blk (i := 0) hU.1
                  simp only [List.getElem?_toArray, List.getElem?_cons_zero] at hU0
                  go_simp
                  all_goals with_reducible rfl
                simp only [Act.put, List.setIfInBounds_toArray, List.set_cons_zero, List.set_cons_succ]
                refine wpAnyZ_take (i := 9) (oi := { dst := some 64, op := _, type := _, pos := _, after := _, guard := _ }) (v := ?_) rfl (by kernel_rfl) (by kernel_rfl) (by kernel_rfl) (fun _ _ _ h => h) (Or.inl ⟨by rfl, ?_⟩) hS0 ?_
                rotate_left
                · intro U hU
                  go_simp
                  all_goals with_reducible rfl
                simp only [Act.put, List.setIfInBounds_toArray, List.set_cons_zero, List.set_cons_succ]
                refine wpAnyZ_take (i := 10) (oi := { dst := some 65, op := _, type := _, pos := _, after := _, guard := _ }) (v := ?_) rfl (by kernel_rfl) (by kernel_rfl) (by kernel_rfl) (fun _ _ _ h => h) (Or.inl ⟨by rfl, ?_⟩) hS0 ?_
                rotate_left
                · intro U hU
                  have hU0 := hU.2.2.2.2.2.1
                  have hU1 := hU.2.2.2.2.2.2
                  go_simp
                  all_goals with_reducible rfl
                simp only [Act.put, List.setIfInBounds_toArray, List.set_cons_zero, List.set_cons_succ]
                refine wpAnyZ_take (i := 11) (oi := { dst := some 66, op := _, type := _, pos := _, after := _, guard := _ }) (v := ?_) rfl (by kernel_rfl) (by kernel_rfl) (by kernel_rfl) (fun _ _ _ h => h) (Or.inl ⟨by rfl, ?_⟩) hS0 ?_
                rotate_left
                · intro U hU
                  go_simp
                  all_goals with_reducible rfl
                simp only [Act.put, List.setIfInBounds_toArray, List.set_cons_zero, List.set_cons_succ]
                refine wpAnyZ_take (i := 12) (oi := { dst := some 67, op := _, type := _, pos := _, after := _, guard := _ }) (v := ?_) rfl (by kernel_rfl) (by kernel_rfl) (by kernel_rfl) (fun _ _ _ h => h) (Or.inl ⟨by rfl, ?_⟩) hS0 ?_
                rotate_left
                · intro U hU
                  go_simp
                  all_goals with_reducible rfl
                simp only [Act.put, List.setIfInBounds_toArray, List.set_cons_zero, List.set_cons_succ]
                refine wpAnyZ_take (i := 13) (oi := { dst := some 68, op := _, type := _, pos := _, after := _, guard := _ }) (v := ?_) rfl (by kernel_rfl) (by kernel_rfl) (by kernel_rfl) (fun _ _ _ h => h) (Or.inl ⟨by rfl, ?_⟩) hS0 ?_
                rotate_left
                · intro U hU
                  go_simp
                  all_goals with_reducible rfl
                simp only [Act.put, List.setIfInBounds_toArray, List.set_cons_zero, List.set_cons_succ]
                refine wpAnyZ_take (i := 14) (oi := { dst := some 69, op := _, type := _, pos := _, after := _, guard := _ }) (v := ?_) rfl (by kernel_rfl) (by kernel_rfl) (by kernel_rfl) (fun _ _ _ h => h) (Or.inl ⟨by rfl, ?_⟩) hS0 ?_
                rotate_left
                · intro U hU
                  have hU0 := hU.2.1
                  go_simp
                  all_goals with_reducible rfl
                simp only [Act.put, List.setIfInBounds_toArray, List.set_cons_zero, List.set_cons_succ]
                refine wpAnyZ_take (i := 15) (oi := { dst := some 70, op := _, type := _, pos := _, after := _, guard := _ }) (v := ?_) rfl (by kernel_rfl) (by kernel_rfl) (by kernel_rfl) (fun _ _ _ h => h) (Or.inl ⟨by rfl, ?_⟩) hS0 ?_
                rotate_left
                · intro U hU
                  go_simp
                  all_goals with_reducible rfl
                simp only [Act.put, List.setIfInBounds_toArray, List.set_cons_zero, List.set_cons_succ]
                refine wpAnyZ_take (i := 16) (oi := { dst := some 71, op := _, type := _, pos := _, after := _, guard := _ }) (v := ?_) rfl (by kernel_rfl) (by kernel_rfl) (by kernel_rfl) (fun _ _ _ h => h) (Or.inl ⟨by rfl, ?_⟩) hS0 ?_
                rotate_left
                · intro U hU
                  have hU0 := cell_blk (i := 1) hU.1
                  simp only [List.getElem?_toArray, List.getElem?_cons_zero, List.getElem?_cons_succ] at hU0
                  go_simp
                  all_goals with_reducible rfl
                simp only [Act.put, List.setIfInBounds_toArray, List.set_cons_zero, List.set_cons_succ]
                refine wpAnyZ_take (i := 17) (oi := { dst := some 72, op := _, type := _, pos := _, after := _, guard := _ }) (v := ?_) rfl (by kernel_rfl) (by kernel_rfl) (by kernel_rfl) (fun _ _ _ h => h) (Or.inl ⟨by rfl, ?_⟩) hS0 ?_
                rotate_left
                · intro U hU
                  go_simp
                  all_goals with_reducible rfl
                simp only [Act.put, List.setIfInBounds_toArray, List.set_cons_zero, List.set_cons_succ]
                refine wpAnyZ_take (i := 18) (oi := { dst := some 73, op := _, type := _, pos := _, after := _, guard := _ }) (v := ?_) rfl (by kernel_rfl) (by kernel_rfl) (by kernel_rfl) (fun _ _ _ h => h) (Or.inl ⟨by rfl, ?_⟩) hS0 ?_
                rotate_left
                · intro U hU
                  have hU0 := hU.2.2.2.1
                  have hU1 := hU.2.2.2.2.1
                  go_simp
                  all_goals with_reducible rfl
                simp only [Act.put, List.setIfInBounds_toArray, List.set_cons_zero, List.set_cons_succ]
                have hSM : ∀ W', Below wq.heap.size wq W' → (fun U => U.heap[nx]? = some (.cells #[.int .i64 F, .int .i64 T, .int .i64 xl, .int .i64 xh, .int .i64 Bk] 91 (0, 0)) ∧ U.cell? ⟨g, k, none⟩ = some (.slice (some ⟨gs' k, 0, none⟩) m m) ∧ U.cell? ⟨g, kb, none⟩ = some (.slice (some ⟨gs' kb, 0, none⟩) m m) ∧ U.cell? ⟨gs' k, T * 2, none⟩ = some (.int .i64 y1) ∧ U.cell? ⟨gs' k, T * 2 + 1, none⟩ = some (.int .i64 z1) ∧ U.cell? ⟨gs' kb, F * 2, none⟩ = some (.int .i64 y2) ∧ U.cell? ⟨gs' kb, F * 2 + 1, none⟩ = some (.int .i64 z2)) W' := fun W' hb => ⟨blk_keep hS0.1 hb, (hb.cell (p := ⟨g, k, none⟩) (Nat.lt_trans hlg hnx)).trans hS0.2.1, (hb.cell (p := ⟨g, kb, none⟩) (Nat.lt_trans hlg hnx)).trans hS0.2.2.1, (hb.cell (p := ⟨gs' k, T * 2, none⟩) (Nat.lt_trans (hnl k (by omega)) hnx)).trans hS0.2.2.2.1, (hb.cell (p := ⟨gs' k, T * 2 + 1, none⟩) (Nat.lt_trans (hnl k (by omega)) hnx)).trans hS0.2.2.2.2.1, (hb.cell (p := ⟨gs' kb, F * 2, none⟩) (Nat.lt_trans (hnl kb hkbn) hnx)).trans hS0.2.2.2.2.2.1, (hb.cell (p := ⟨gs' kb, F * 2 + 1, none⟩) (Nat.lt_trans (hnl kb hkbn) hnx)).trans hS0.2.2.2.2.2.2⟩
                have hA1 : Below wq.heap.size wq (wq.alloc (.cells #[.int .i64 0, .int .i64 0] 80)) := (Below.refl _ wq).alloc (Nat.le_refl _) _
                have hA2 : Below wq.heap.size wq ((wq.alloc (.cells #[.int .i64 0, .int .i64 0] 80)).alloc (.cells #[.int .i64 0, .int .i64 0] 80)) := hA1.alloc hA1.size _
                obtain ⟨h0, h1, -, hss⟩ := blk2 (rfl : (wq.alloc (.cells #[.int .i64 0, .int .i64 0] 80)).alloc (.cells #[.int .i64 0, .int .i64 0] 80) = _)
                refine wpAnyZ_ready (rs := [19, 20]) (by kernel_rfl) (by simp) ?_
                refine AllReadyZ.cons (o := { dst := some 12, op := _, type := _, pos := _, after := _, guard := _ }) rfl (by rfl) (fun K1 hK1 => ?_) ?_
                · have HK1 := Lib.hid hK1; clear hK1
                  go_simp
                  refine HK1.out _ _ (fun _ => hSM _ hA1) ?_
                  clear HK1 K1
                  try simp only [Act.put, List.setIfInBounds_toArray, List.set_cons_zero, List.set_cons_succ]
                  refine wpAnyZ_one (i := 20) (o := { dst := some 13, op := _, type := _, pos := _, after := _, guard := _ }) (by kernel_rfl) rfl (by rfl) (fun K1 hK1 => ?_)
                  have HK1 := Lib.hid hK1; clear hK1
                  go_simp
                  refine HK1.out _ _ (fun _ => hSM _ hA2) ?_
                  clear HK1 K1
                  try simp only [Act.put, List.setIfInBounds_toArray, List.set_cons_zero, List.set_cons_succ]
                  have hP1 : Below wq.heap.size wq (((wq.alloc (.cells #[.int .i64 0, .int .i64 0] 80)).alloc (.cells #[.int .i64 0, .int .i64 0] 80)).putObj wq.heap.size (.cells #[.int .i64 y2, .int .i64 z2] 80 (0, 0))) := below_putObj hA2 (by omega)
                  have hP2 : Below wq.heap.size wq ((((wq.alloc (.cells #[.int .i64 0, .int .i64 0] 80)).alloc (.cells #[.int .i64 0, .int .i64 0] 80)).putObj wq.heap.size (.cells #[.int .i64 y2, .int .i64 z2] 80 (0, 0))).putObj (wq.heap.size + 1) (.cells #[.int .i64 y1, .int .i64 z1] 80 (0, 0))) := below_putObj hP1 (by omega)
                  have p13 := (World.putObj_heap_other (w := ((wq.alloc (.cells #[.int .i64 0, .int .i64 0] 80)).alloc (.cells #[.int .i64 0, .int .i64 0] 80))) (o := (.cells #[.int .i64 y2, .int .i64 z2] 80 (0, 0))) (show (wq.heap.size + 1) ≠ wq.heap.size by omega)).trans h1
                  have p12 := World.putObj_heap_same (w := ((wq.alloc (.cells #[.int .i64 0, .int .i64 0] 80)).alloc (.cells #[.int .i64 0, .int .i64 0] 80))) (o := (.cells #[.int .i64 y2, .int .i64 z2] 80 (0, 0))) (show wq.heap.size < ((wq.alloc (.cells #[.int .i64 0, .int .i64 0] 80)).alloc (.cells #[.int .i64 0, .int .i64 0] 80)).heap.size by omega)
                  have hsP : (((wq.alloc (.cells #[.int .i64 0, .int .i64 0] 80)).alloc (.cells #[.int .i64 0, .int .i64 0] 80)).putObj wq.heap.size (.cells #[.int .i64 y2, .int .i64 z2] 80 (0, 0))).heap.size = ((wq.alloc (.cells #[.int .i64 0, .int .i64 0] 80)).alloc (.cells #[.int .i64 0, .int .i64 0] 80)).heap.size := by simp
                  have r12 := (World.putObj_heap_other (w := (((wq.alloc (.cells #[.int .i64 0, .int .i64 0] 80)).alloc (.cells #[.int .i64 0, .int .i64 0] 80)).putObj wq.heap.size (.cells #[.int .i64 y2, .int .i64 z2] 80 (0, 0)))) (o := (.cells #[.int .i64 y1, .int .i64 z1] 80 (0, 0))) (show wq.heap.size ≠ (wq.heap.size + 1) by omega)).trans p12
                  have r13 := World.putObj_heap_same (w := (((wq.alloc (.cells #[.int .i64 0, .int .i64 0] 80)).alloc (.cells #[.int .i64 0, .int .i64 0] 80)).putObj wq.heap.size (.cells #[.int .i64 y2, .int .i64 z2] 80 (0, 0)))) (o := (.cells #[.int .i64 y1, .int .i64 z1] 80 (0, 0))) (show (wq.heap.size + 1) < (((wq.alloc (.cells #[.int .i64 0, .int .i64 0] 80)).alloc (.cells #[.int .i64 0, .int .i64 0] 80)).putObj wq.heap.size (.cells #[.int .i64 y2, .int .i64 z2] 80 (0, 0))).heap.size by omega)
                  refine wpAnyZ_one (i := 21) (o := { dst := none, op := _, type := _, pos := _, after := _, guard := _ }) (by kernel_rfl) rfl (by rfl) (fun K1 hK1 => ?_)
                  have HK1 := Lib.hid hK1; clear hK1
                  refine oper_store_blk 80 (.tmp 12) (.tmp 65) rfl wq.heap.size rfl (cells := #[.int .i64 y2, .int .i64 z2]) rfl h0 size80 rfl rfl (by simp [Value.oneCell']) ?_
                  refine HK1.out _ _ (fun _ => hSM _ hP1) ?_
                  clear HK1 K1
                  refine wpAnyZ_last (o := { dst := none, op := _, type := _, pos := _, after := _, guard := _ }) (by kernel_rfl) (by kernel_rfl) rfl (by rfl) (fun K1 hK1 => ?_)
                  have HK1 := Lib.hid hK1; clear hK1
                  refine oper_store_blk 80 (.tmp 13) (.tmp 73) rfl (wq.heap.size + 1) rfl (cells := #[.int .i64 y1, .int .i64 z1]) rfl p13 size80 rfl rfl (by simp [Value.oneCell']) ?_
                  refine HK1.out _ _ ?_
                  clear HK1 K1
                  simp only [Exit.then]
                  refine HK0.out _ _ ?_
                  clear HK0
                  have hS2 := hSM _ hP2
                  have b20 := blk_keep b19 hP2
                  have HT4 := Lib.hid (HT3.out.below (Nat.le_refl _) hP2)
                  have hgn : wq.heap.size < ((((wq.alloc (.cells #[.int .i64 0, .int .i64 0] 80)).alloc (.cells #[.int .i64 0, .int .i64 0] 80)).putObj wq.heap.size (.cells #[.int .i64 y2, .int .i64 z2] 80 (0, 0))).putObj (wq.heap.size + 1) (.cells #[.int .i64 y1, .int .i64 z1] 80 (0, 0))).heap.size := lt_blk r12
                  have hne12 : ∀ q, q < k + 1 → gs' q ≠ wq.heap.size ∧ gs' q ≠ (wq.heap.size + 1) := fun q hq => by have := hnl q hq; omega
                  clear hSM hA1 hA2 h0 h1 hss hP1 hP2 p13 p12 hsP HT3 b19 hS0
                  generalize ((((wq.alloc (.cells #[.int .i64 0, .int .i64 0] 80)).alloc (.cells #[.int .i64 0, .int .i64 0] 80)).putObj wq.heap.size (.cells #[.int .i64 y2, .int .i64 z2] 80 (0, 0))).putObj (wq.heap.size + 1) (.cells #[.int .i64 y1, .int .i64 z1] 80 (0, 0))) = wr2 at *
                  generalize wq.heap.size + 1 = g13 at *
                  generalize wq.heap.size = g12 at *
                  go_wp2
                  have hw1 : IntKind.i64.wrap (y2 + xl) = y2 + xl := by rw [IntKind.wrap_i64]; omega
                  have hw2 : IntKind.i64.wrap (z2 + xh) = z2 + xh := by rw [IntKind.wrap_i64]; omega
                  have hS0 : wr2.drew.heap[nx]? = some (.cells #[.int .i64 F, .int .i64 T, .int .i64 xl, .int .i64 xh, .int .i64 Bk] 91 (0, 0)) ∧ wr2.drew.cell? ⟨g, k, none⟩ = some (.slice (some ⟨gs' k, 0, none⟩) m m) ∧ wr2.drew.heap[g12]? = some (.cells #[.int .i64 y2, .int .i64 z2] 80 (0, 0)) ∧ wr2.drew.heap[g13]? = some (.cells #[.int .i64 y1, .int .i64 z1] 80 (0, 0)) := ⟨hS2.1, hS2.2.1, r12, r13⟩
                  have f1 : wr2.drew.cell? ⟨gs' k, T * 2, none⟩ = some (.int .i64 y1) := hS2.2.2.2.1
                  have f2 : wr2.drew.cell? ⟨gs' k, T * 2 + 1, none⟩ = some (.int .i64 z1) := hS2.2.2.2.2.1
                  replace b20 : wr2.drew.heap[w.heap.size]? = _ := b20
                  have hT5 : TP w1 w1.heap.size m gs' (PR Y Z) (k + 1) (.slice (some ⟨g, 0, none⟩) (k + 1) c6) wr2.drew := ⟨HT4.out.rows, HT4.out.inj, HT4.out.lo, HT4.out.out, HT4.out.b.drew⟩
                  have HT5 := Lib.hid hT5
                  clear hS2 r12 r13 HT4 hT5
                  refine wp_region_z (z := 26) (S := fun U => U.heap[nx]? = some (.cells #[.int .i64 F, .int .i64 T, .int .i64 xl, .int .i64 xh, .int .i64 Bk] 91 (0, 0)) ∧ U.cell? ⟨g, k, none⟩ = some (.slice (some ⟨gs' k, 0, none⟩) m m) ∧ U.heap[g12]? = some (.cells #[.int .i64 y2, .int .i64 z2] 80 (0, 0)) ∧ U.heap[g13]? = some (.cells #[.int .i64 y1, .int .i64 z1] 80 (0, 0))) (by kernel_rfl) ?_
                  change wpAnyZ _ _ _ _ _ _ _ _ _ (World.drew wr2)
                  generalize World.drew wr2 = wq at *
                  refine wpAnyZ_take (i := 0) (oi := { dst := some 74, op := _, type := _, pos := _, after := _, guard := _ }) (v := ?_) rfl (by kernel_rfl) (by kernel_rfl) (by kernel_rfl) (fun _ _ _ h => h) (Or.inl ⟨by rfl, ?_⟩) hS0 ?_
                  rotate_left
                  · intro U hU
                    go_simp
                    all_goals with_reducible rfl
                  simp only [Act.put, List.setIfInBounds_toArray, List.set_cons_zero, List.set_cons_succ]
                  refine wpAnyZ_take (i := 1) (oi := { dst := some 75, op := _, type := _, pos := _, after := _, guard := _ }) (v := ?_) rfl (by kernel_rfl) (by kernel_rfl) (by kernel_rfl) (fun _ _ _ h => h) (Or.inl ⟨by rfl, ?_⟩) hS0 ?_
                  rotate_left
                  · intro U hU
                    go_simp
                    all_goals with_reducible rfl
                  simp only [Act.put, List.setIfInBounds_toArray, List.set_cons_zero, List.set_cons_succ]
                  refine wpAnyZ_take (i := 2) (oi := { dst := some 76, op := _, type := _, pos := _, after := _, guard := _ }) (v := ?_) rfl (by kernel_rfl) (by kernel_rfl) (by kernel_rfl) (fun _ _ _ h => h) (Or.inl ⟨by rfl, ?_⟩) hS0 ?_
                  rotate_left
                  · intro U hU
                    go_simp
                    all_goals with_reducible rfl
                  simp only [Act.put, List.setIfInBounds_toArray, List.set_cons_zero, List.set_cons_succ]
                  refine wpAnyZ_take (i := 3) (oi := { dst := some 77, op := _, type := _, pos := _, after := _, guard := _ }) (v := ?_) rfl (by kernel_rfl) (by kernel_rfl) (by kernel_rfl) (fun _ _ _ h => h) (Or.inl ⟨by rfl, ?_⟩) hS0 ?_
                  rotate_left
                  · intro U hU
                    have hU0 := hU.2.1
                    go_simp
                    all_goals with_reducible rfl
                  simp only [Act.put, List.setIfInBounds_toArray, List.set_cons_zero, List.set_cons_succ]
                  refine wpAnyZ_take (i := 4) (oi := { dst := some 78, op := _, type := _, pos := _, after := _, guard := _ }) (v := ?_) rfl (by kernel_rfl) (by kernel_rfl) (by kernel_rfl) (fun _ _ _ h => h) (Or.inl ⟨by rfl, ?_⟩) hS0 ?_
                  rotate_left
                  · intro U hU
                    go_simp
                    all_goals with_reducible rfl
                  simp only [Act.put, List.setIfInBounds_toArray, List.set_cons_zero, List.set_cons_succ]
                  refine wpAnyZ_take (i := 5) (oi := { dst := some 79, op := _, type := _, pos := _, after := _, guard := _ }) (v := ?_) rfl (by kernel_rfl) (by kernel_rfl) (by kernel_rfl) (fun _ _ _ h => h) (Or.inl ⟨by rfl, ?_⟩) hS0 ?_
                  rotate_left
                  · intro U hU
                    have hU0 := cell_blk (i := 1) hU.1
                    simp only [List.getElem?_toArray, List.getElem?_cons_zero, List.getElem?_cons_succ] at hU0
                    go_simp
                    all_goals with_reducible rfl
                  simp only [Act.put, List.setIfInBounds_toArray, List.set_cons_zero, List.set_cons_succ]
                  refine wpAnyZ_take (i := 6) (oi := { dst := some 80, op := _, type := _, pos := _, after := _, guard := _ }) (v := ?_) rfl (by kernel_rfl) (by kernel_rfl) (by kernel_rfl) (fun _ _ _ h => h) (Or.inl ⟨by rfl, ?_⟩) hS0 ?_
                  rotate_left
                  · intro U hU
                    go_simp
                    all_goals with_reducible rfl
                  simp only [Act.put, List.setIfInBounds_toArray, List.set_cons_zero, List.set_cons_succ]
                  refine wpAnyZ_take (i := 7) (oi := { dst := some 81, op := _, type := _, pos := _, after := _, guard := _ }) (v := ?_) rfl (by kernel_rfl) (by kernel_rfl) (by kernel_rfl) (fun _ _ _ h => h) (Or.inl ⟨by rfl, ?_⟩) hS0 ?_
                  rotate_left
                  · intro U hU
                    have hU0 := cell_blk (i := 0) hU.2.2.2
                    simp only [List.getElem?_toArray, List.getElem?_cons_zero] at hU0
                    go_simp
                    all_goals with_reducible rfl
                  simp only [Act.put, List.setIfInBounds_toArray, List.set_cons_zero, List.set_cons_succ]
                  refine wpAnyZ_take (i := 8) (oi := { dst := some 82, op := _, type := _, pos := _, after := _, guard := _ }) (v := ?_) rfl (by kernel_rfl) (by kernel_rfl) (by kernel_rfl) (fun _ _ _ h => h) (Or.inl ⟨by rfl, ?_⟩) hS0 ?_
                  rotate_left
                  · intro U hU
                    go_simp
                    all_goals with_reducible rfl
                  simp only [Act.put, List.setIfInBounds_toArray, List.set_cons_zero, List.set_cons_succ]
                  refine wpAnyZ_take (i := 9) (oi := { dst := some 83, op := _, type := _, pos := _, after := _, guard := _ }) (v := ?_) rfl (by kernel_rfl) (by kernel_rfl) (by kernel_rfl) (fun _ _ _ h => h) (Or.inl ⟨by rfl, ?_⟩) hS0 ?_
                  rotate_left
                  · intro U hU
                    have hU0 := cell_blk (i := 0) hU.2.2.1
                    simp only [List.getElem?_toArray, List.getElem?_cons_zero] at hU0
                    go_simp
                    all_goals with_reducible rfl
                  simp only [Act.put, List.setIfInBounds_toArray, List.set_cons_zero, List.set_cons_succ]
                  refine wpAnyZ_take (i := 10) (oi := { dst := some 84, op := _, type := _, pos := _, after := _, guard := _ }) (v := ?_) rfl (by kernel_rfl) (by kernel_rfl) (by kernel_rfl) (fun _ _ _ h => h) (Or.inl ⟨by rfl, ?_⟩) hS0 ?_
                  rotate_left
                  · intro U hU
                    go_simp
                    all_goals with_reducible rfl
                  simp only [Act.put, List.setIfInBounds_toArray, List.set_cons_zero, List.set_cons_succ]
                  refine wpAnyZ_take (i := 11) (oi := { dst := some 85, op := _, type := _, pos := _, after := _, guard := _ }) (v := ?_) rfl (by kernel_rfl) (by kernel_rfl) (by kernel_rfl) (fun _ _ _ h => h) (Or.inl ⟨by rfl, ?_⟩) hS0 ?_
                  rotate_left
                  · intro U hU
                    go_simp
                    all_goals with_reducible rfl
                  simp only [Act.put, List.setIfInBounds_toArray, List.set_cons_zero, List.set_cons_succ]
                  refine wpAnyZ_take (i := 12) (oi := { dst := some 86, op := _, type := _, pos := _, after := _, guard := _ }) (v := ?_) rfl (by kernel_rfl) (by kernel_rfl) (by kernel_rfl) (fun _ _ _ h => h) (Or.inl ⟨by rfl, ?_⟩) hS0 ?_
                  rotate_left
                  · intro U hU
                    have hU0 := cell_blk (i := 2) hU.1
                    simp only [List.getElem?_toArray, List.getElem?_cons_zero, List.getElem?_cons_succ] at hU0
                    go_simp
                    all_goals with_reducible rfl
                  simp only [Act.put, List.setIfInBounds_toArray, List.set_cons_zero, List.set_cons_succ]
                  refine wpAnyZ_take (i := 13) (oi := { dst := some 87, op := _, type := _, pos := _, after := _, guard := _ }) (v := ?_) rfl (by kernel_rfl) (by kernel_rfl) (by kernel_rfl) (fun _ _ _ h => h) (Or.inl ⟨by rfl, ?_⟩) hS0 ?_
                  rotate_left
                  · intro U hU
                    go_simp
                    all_goals with_reducible rfl
                  simp only [Act.put, List.setIfInBounds_toArray, List.set_cons_zero, List.set_cons_succ]
                  refine wpAnyZ_take (i := 14) (oi := { dst := some 88, op := _, type := _, pos := _, after := _, guard := _ }) (v := .int .i64 (max y1 (y2 + xl))) rfl (by kernel_rfl) (by kernel_rfl) (by kernel_rfl) (fun _ _ _ h => h) (Or.inl ⟨by rfl, ?_⟩) hS0 ?_
                  · intro U hU
                    unfold execOp
                    simp only [resolve, invoke, builtin, Sem.run_bind, Sem.run_pure, Result.andThen_ok, List.map_toArray, List.map_cons, List.map_nil]
                    have e : (if y1 < y2 + xl then y2 + xl else y1) = max y1 (y2 + xl) := by rw [Int.max_def]; split <;> split <;> omega
                    simp [Builtin.max_, Builtin.max2, go_sem, e, Act.eval]
                  simp only [Act.put, List.setIfInBounds_toArray, List.set_cons_zero, List.set_cons_succ]
                  refine wpAnyZ_take (i := 15) (oi := { dst := some 89, op := _, type := _, pos := _, after := _, guard := _ }) (v := ?_) rfl (by kernel_rfl) (by kernel_rfl) (by kernel_rfl) (fun _ _ _ h => h) (Or.inl ⟨by rfl, ?_⟩) hS0 ?_
                  rotate_left
                  · intro U hU
                    go_simp
                    all_goals with_reducible rfl
                  simp only [Act.put, List.setIfInBounds_toArray, List.set_cons_zero, List.set_cons_succ]
                  refine wpAnyZ_take (i := 16) (oi := { dst := some 90, op := _, type := _, pos := _, after := _, guard := _ }) (v := ?_) rfl (by kernel_rfl) (by kernel_rfl) (by kernel_rfl) (fun _ _ _ h => h) (Or.inl ⟨by rfl, ?_⟩) hS0 ?_
                  rotate_left
                  · intro U hU
                    have hU0 := cell_blk (i := 1) hU.2.2.2
                    simp only [List.getElem?_toArray, List.getElem?_cons_zero, List.getElem?_cons_succ] at hU0
                    go_simp
                    all_goals with_reducible rfl
                  simp only [Act.put, List.setIfInBounds_toArray, List.set_cons_zero, List.set_cons_succ]
                  refine wpAnyZ_take (i := 17) (oi := { dst := some 91, op := _, type := _, pos := _, after := _, guard := _ }) (v := ?_) rfl (by kernel_rfl) (by kernel_rfl) (by kernel_rfl) (fun _ _ _ h => h) (Or.inl ⟨by rfl, ?_⟩) hS0 ?_
                  rotate_left
                  · intro U hU
                    go_simp
                    all_goals with_reducible rfl
                  simp only [Act.put, List.setIfInBounds_toArray, List.set_cons_zero, List.set_cons_succ]
                  refine wpAnyZ_take (i := 18) (oi := { dst := some 92, op := _, type := _, pos := _, after := _, guard := _ }) (v := ?_) rfl (by kernel_rfl) (by kernel_rfl) (by kernel_rfl) (fun _ _ _ h => h) (Or.inl ⟨by rfl, ?_⟩) hS0 ?_
                  rotate_left
                  · intro U hU
                    have hU0 := cell_blk (i := 1) hU.2.2.1
                    simp only [List.getElem?_toArray, List.getElem?_cons_zero, List.getElem?_cons_succ] at hU0
                    go_simp
                    all_goals with_reducible rfl
                  simp only [Act.put, List.setIfInBounds_toArray, List.set_cons_zero, List.set_cons_succ]
                  refine wpAnyZ_take (i := 19) (oi := { dst := some 93, op := _, type := _, pos := _, after := _, guard := _ }) (v := ?_) rfl (by kernel_rfl) (by kernel_rfl) (by kernel_rfl) (fun _ _ _ h => h) (Or.inl ⟨by rfl, ?_⟩) hS0 ?_
                  rotate_left
                  · intro U hU
                    go_simp
                    all_goals with_reducible rfl
                  simp only [Act.put, List.setIfInBounds_toArray, List.set_cons_zero, List.set_cons_succ]
                  refine wpAnyZ_take (i := 20) (oi := { dst := some 94, op := _, type := _, pos := _, after := _, guard := _ }) (v := ?_) rfl (by kernel_rfl) (by kernel_rfl) (by kernel_rfl) (fun _ _ _ h => h) (Or.inl ⟨by rfl, ?_⟩) hS0 ?_
                  rotate_left
                  · intro U hU
                    go_simp
                    all_goals with_reducible rfl
                  simp only [Act.put, List.setIfInBounds_toArray, List.set_cons_zero, List.set_cons_succ]
                  refine wpAnyZ_take (i := 21) (oi := { dst := some 95, op := _, type := _, pos := _, after := _, guard := _ }) (v := ?_) rfl (by kernel_rfl) (by kernel_rfl) (by kernel_rfl) (fun _ _ _ h => h) (Or.inl ⟨by rfl, ?_⟩) hS0 ?_
                  rotate_left
                  · intro U hU
                    have hU0 := cell_blk (i := 3) hU.1
                    simp only [List.getElem?_toArray, List.getElem?_cons_zero, List.getElem?_cons_succ] at hU0
                    go_simp
                    all_goals with_reducible rfl
                  simp only [Act.put, List.setIfInBounds_toArray, List.set_cons_zero, List.set_cons_succ]
                  refine wpAnyZ_take (i := 22) (oi := { dst := some 96, op := _, type := _, pos := _, after := _, guard := _ }) (v := ?_) rfl (by kernel_rfl) (by kernel_rfl) (by kernel_rfl) (fun _ _ _ h => h) (Or.inl ⟨by rfl, ?_⟩) hS0 ?_
                  rotate_left
                  · intro U hU
                    go_simp
                    all_goals with_reducible rfl
                  simp only [Act.put, List.setIfInBounds_toArray, List.set_cons_zero, List.set_cons_succ]
                  refine wpAnyZ_take (i := 23) (oi := { dst := some 97, op := _, type := _, pos := _, after := _, guard := _ }) (v := .int .i64 (max z1 (z2 + xh))) rfl (by kernel_rfl) (by kernel_rfl) (by kernel_rfl) (fun _ _ _ h => h) (Or.inl ⟨by rfl, ?_⟩) hS0 ?_
                  · intro U hU
                    unfold execOp
                    simp only [resolve, invoke, builtin, Sem.run_bind, Sem.run_pure, Result.andThen_ok, List.map_toArray, List.map_cons, List.map_nil]
                    have e : (if z1 < z2 + xh then z2 + xh else z1) = max z1 (z2 + xh) := by rw [Int.max_def]; split <;> split <;> omega
                    simp [Builtin.max_, Builtin.max2, go_sem, e, Act.eval]
                  simp only [Act.put, List.setIfInBounds_toArray, List.set_cons_zero, List.set_cons_succ]
                  refine wpAnyZ_take (i := 24) (oi := { dst := some 98, op := _, type := _, pos := _, after := _, guard := _ }) (v := ?_) rfl (by kernel_rfl) (by kernel_rfl) (by kernel_rfl) (fun _ _ _ h => h) (Or.inl ⟨by rfl, ?_⟩) hS0 ?_
                  rotate_left
                  · intro U hU
                    go_simp
                    all_goals with_reducible rfl
                  simp only [Act.put, List.setIfInBounds_toArray, List.set_cons_zero, List.set_cons_succ]
                  refine wpAnyZ_take (i := 25) (oi := { dst := some 99, op := _, type := _, pos := _, after := _, guard := _ }) (v := ?_) rfl (by kernel_rfl) (by kernel_rfl) (by kernel_rfl) (fun _ _ _ h => h) (Or.inl ⟨by rfl, ?_⟩) hS0 ?_
                  rotate_left
                  · intro U hU
                    go_simp
                    all_goals with_reducible rfl
                  simp only [Act.put, List.setIfInBounds_toArray, List.set_cons_zero, List.set_cons_succ]
                  refine wpAnyZ_last (o := { dst := none, op := _, type := _, pos := _, after := _, guard := _ }) (by kernel_rfl) (by kernel_rfl) rfl (by rfl) (fun K1 hK1 => ?_)
                  have HK1 := Lib.hid hK1; clear hK1
                  have ef := free_blk (i := T * 2) (HT5.out.rows k (by omega))
                  have eg := free_blk (i := T * 2 + 1) (HT5.out.rows k (by omega))
                  go_simp
                  refine HK1.out _ _ ?_
                  clear HK1 K1
                  simp only [Exit.then, Exit.inBlock]
                  refine hKA _ _ ?_
                  have hTS : TP w1 w1.heap.size m gs' (PR (relR ws (loT ws) k (relN ws (loT ws) k (tim ws (loT ws) m k) r) (j + 1)) (relR ws (hiT ws) k (relN ws (hiT ws) k (tim ws (hiT ws) m k) r) (j + 1))) (k + 1) (.slice (some ⟨g, 0, none⟩) (k + 1) c6) ((wq.setCell ⟨gs' k, T * 2, none⟩ (.int .i64 (max y1 (y2 + xl)))).setCell ⟨gs' k, T * 2 + 1, none⟩ (.int .i64 (max z1 (z2 + xh)))) := by
                    refine HT5.out.set (k := k) (by omega) (x := (max y1 (y2 + xl), max z1 (z2 + xh))) (fun q v => ?_)
                    have e := HR.out
                    rw [if_pos (by omega), if_pos (by omega), ← HY.out.2.2, ← HY.out.1.1, ← HY.out.1.2, ← HY.out.2.1.1, ← HY.out.2.1.2] at e
                    simp only [PR]
                    rw [e.1, e.2]
                    by_cases hq : q = k ∧ v = T
                    · simp only [if_pos hq]
                    · simp only [if_neg hq]
                  have hgw : w.heap.size ≠ gs' k := by have := HT5.out.lo k (by omega); omega
                  have b21 := (heap_set_other (W := wq.setCell ⟨gs' k, T * 2, none⟩ (.int .i64 (max y1 (y2 + xl)))) (v := (.int .i64 (max z1 (z2 + xh)))) (b' := gs' k) (i := T * 2 + 1) hgw).trans ((heap_set_other (W := wq) (v := (.int .i64 (max y1 (y2 + xl)))) (b' := gs' k) (i := T * 2) hgw).trans b20)
                  clear HT5 b20 f1 f2 ef eg hS0
                  generalize World.setCell _ _ _ = w9 at *
                  go_wp2
                  go_roundw
                  case rel => exact ⟨j + 1, by omega, by go_num, b21, hTS⟩
                  case measure => simp [intOf]; omega
                refine AllReadyZ.cons (o := { dst := some 13, op := _, type := _, pos := _, after := _, guard := _ }) rfl (by rfl) (fun K1 hK1 => ?_) ?_
                · have HK1 := Lib.hid hK1; clear hK1
                  go_simp
                  refine HK1.out _ _ (fun _ => hSM _ hA1) ?_
                  clear HK1 K1
                  try simp only [Act.put, List.setIfInBounds_toArray, List.set_cons_zero, List.set_cons_succ]
                  refine wpAnyZ_one (i := 19) (o := { dst := some 12, op := _, type := _, pos := _, after := _, guard := _ }) (by kernel_rfl) rfl (by rfl) (fun K1 hK1 => ?_)
                  have HK1 := Lib.hid hK1; clear hK1
                  go_simp
                  refine HK1.out _ _ (fun _ => hSM _ hA2) ?_
                  clear HK1 K1
                  try simp only [Act.put, List.setIfInBounds_toArray, List.set_cons_zero, List.set_cons_succ]
                  have hP1 : Below wq.heap.size wq (((wq.alloc (.cells #[.int .i64 0, .int .i64 0] 80)).alloc (.cells #[.int .i64 0, .int .i64 0] 80)).putObj (wq.heap.size + 1) (.cells #[.int .i64 y2, .int .i64 z2] 80 (0, 0))) := below_putObj hA2 (by omega)
                  have hP2 : Below wq.heap.size wq ((((wq.alloc (.cells #[.int .i64 0, .int .i64 0] 80)).alloc (.cells #[.int .i64 0, .int .i64 0] 80)).putObj (wq.heap.size + 1) (.cells #[.int .i64 y2, .int .i64 z2] 80 (0, 0))).putObj wq.heap.size (.cells #[.int .i64 y1, .int .i64 z1] 80 (0, 0))) := below_putObj hP1 (by omega)
                  have p13 := (World.putObj_heap_other (w := ((wq.alloc (.cells #[.int .i64 0, .int .i64 0] 80)).alloc (.cells #[.int .i64 0, .int .i64 0] 80))) (o := (.cells #[.int .i64 y2, .int .i64 z2] 80 (0, 0))) (show wq.heap.size ≠ (wq.heap.size + 1) by omega)).trans h0
                  have p12 := World.putObj_heap_same (w := ((wq.alloc (.cells #[.int .i64 0, .int .i64 0] 80)).alloc (.cells #[.int .i64 0, .int .i64 0] 80))) (o := (.cells #[.int .i64 y2, .int .i64 z2] 80 (0, 0))) (show (wq.heap.size + 1) < ((wq.alloc (.cells #[.int .i64 0, .int .i64 0] 80)).alloc (.cells #[.int .i64 0, .int .i64 0] 80)).heap.size by omega)
                  have hsP : (((wq.alloc (.cells #[.int .i64 0, .int .i64 0] 80)).alloc (.cells #[.int .i64 0, .int .i64 0] 80)).putObj (wq.heap.size + 1) (.cells #[.int .i64 y2, .int .i64 z2] 80 (0, 0))).heap.size = ((wq.alloc (.cells #[.int .i64 0, .int .i64 0] 80)).alloc (.cells #[.int .i64 0, .int .i64 0] 80)).heap.size := by simp
                  have r12 := (World.putObj_heap_other (w := (((wq.alloc (.cells #[.int .i64 0, .int .i64 0] 80)).alloc (.cells #[.int .i64 0, .int .i64 0] 80)).putObj (wq.heap.size + 1) (.cells #[.int .i64 y2, .int .i64 z2] 80 (0, 0)))) (o := (.cells #[.int .i64 y1, .int .i64 z1] 80 (0, 0))) (show (wq.heap.size + 1) ≠ wq.heap.size by omega)).trans p12
                  have r13 := World.putObj_heap_same (w := (((wq.alloc (.cells #[.int .i64 0, .int .i64 0] 80)).alloc (.cells #[.int .i64 0, .int .i64 0] 80)).putObj (wq.heap.size + 1) (.cells #[.int .i64 y2, .int .i64 z2] 80 (0, 0)))) (o := (.cells #[.int .i64 y1, .int .i64 z1] 80 (0, 0))) (show wq.heap.size < (((wq.alloc (.cells #[.int .i64 0, .int .i64 0] 80)).alloc (.cells #[.int .i64 0, .int .i64 0] 80)).putObj (wq.heap.size + 1) (.cells #[.int .i64 y2, .int .i64 z2] 80 (0, 0))).heap.size by omega)
                  refine wpAnyZ_one (i := 21) (o := { dst := none, op := _, type := _, pos := _, after := _, guard := _ }) (by kernel_rfl) rfl (by rfl) (fun K1 hK1 => ?_)
                  have HK1 := Lib.hid hK1; clear hK1
                  refine oper_store_blk 80 (.tmp 12) (.tmp 65) rfl (wq.heap.size + 1) rfl (cells := #[.int .i64 y2, .int .i64 z2]) rfl h1 size80 rfl rfl (by simp [Value.oneCell']) ?_
                  refine HK1.out _ _ (fun _ => hSM _ hP1) ?_
                  clear HK1 K1
                  refine wpAnyZ_last (o := { dst := none, op := _, type := _, pos := _, after := _, guard := _ }) (by kernel_rfl) (by kernel_rfl) rfl (by rfl) (fun K1 hK1 => ?_)
                  have HK1 := Lib.hid hK1; clear hK1
                  refine oper_store_blk 80 (.tmp 13) (.tmp 73) rfl wq.heap.size rfl (cells := #[.int .i64 y1, .int .i64 z1]) rfl p13 size80 rfl rfl (by simp [Value.oneCell']) ?_
                  refine HK1.out _ _ ?_
                  clear HK1 K1
                  simp only [Exit.then]
                  refine HK0.out _ _ ?_
                  clear HK0
                  have hS2 := hSM _ hP2
                  have b20 := blk_keep b19 hP2
                  have HT4 := Lib.hid (HT3.out.below (Nat.le_refl _) hP2)
                  have hgn : (wq.heap.size + 1) < ((((wq.alloc (.cells #[.int .i64 0, .int .i64 0] 80)).alloc (.cells #[.int .i64 0, .int .i64 0] 80)).putObj (wq.heap.size + 1) (.cells #[.int .i64 y2, .int .i64 z2] 80 (0, 0))).putObj wq.heap.size (.cells #[.int .i64 y1, .int .i64 z1] 80 (0, 0))).heap.size := lt_blk r12
                  have hne12 : ∀ q, q < k + 1 → gs' q ≠ (wq.heap.size + 1) ∧ gs' q ≠ wq.heap.size := fun q hq => by have := hnl q hq; omega
                  clear hSM hA1 hA2 h0 h1 hss hP1 hP2 p13 p12 hsP HT3 b19 hS0
                  generalize ((((wq.alloc (.cells #[.int .i64 0, .int .i64 0] 80)).alloc (.cells #[.int .i64 0, .int .i64 0] 80)).putObj (wq.heap.size + 1) (.cells #[.int .i64 y2, .int .i64 z2] 80 (0, 0))).putObj wq.heap.size (.cells #[.int .i64 y1, .int .i64 z1] 80 (0, 0))) = wr2 at *
                  generalize wq.heap.size + 1 = g12 at *
                  generalize wq.heap.size = g13 at *
                  go_wp2
                  have hw1 : IntKind.i64.wrap (y2 + xl) = y2 + xl := by rw [IntKind.wrap_i64]; omega
                  have hw2 : IntKind.i64.wrap (z2 + xh) = z2 + xh := by rw [IntKind.wrap_i64]; omega
                  have hS0 : wr2.drew.heap[nx]? = some (.cells #[.int .i64 F, .int .i64 T, .int .i64 xl, .int .i64 xh, .int .i64 Bk] 91 (0, 0)) ∧ wr2.drew.cell? ⟨g, k, none⟩ = some (.slice (some ⟨gs' k, 0, none⟩) m m) ∧ wr2.drew.heap[g12]? = some (.cells #[.int .i64 y2, .int .i64 z2] 80 (0, 0)) ∧ wr2.drew.heap[g13]? = some (.cells #[.int .i64 y1, .int .i64 z1] 80 (0, 0)) := ⟨hS2.1, hS2.2.1, r12, r13⟩
                  have f1 : wr2.drew.cell? ⟨gs' k, T * 2, none⟩ = some (.int .i64 y1) := hS2.2.2.2.1
                  have f2 : wr2.drew.cell? ⟨gs' k, T * 2 + 1, none⟩ = some (.int .i64 z1) := hS2.2.2.2.2.1
                  replace b20 : wr2.drew.heap[w.heap.size]? = _ := b20
                  have hT5 : TP w1 w1.heap.size m gs' (PR Y Z) (k + 1) (.slice (some ⟨g, 0, none⟩) (k + 1) c6) wr2.drew := ⟨HT4.out.rows, HT4.out.inj, HT4.out.lo, HT4.out.out, HT4.out.b.drew⟩
                  have HT5 := Lib.hid hT5
                  clear hS2 r12 r13 HT4 hT5
                  refine wp_region_z (z := 26) (S := fun U => U.heap[nx]? = some (.cells #[.int .i64 F, .int .i64 T, .int .i64 xl, .int .i64 xh, .int .i64 Bk] 91 (0, 0)) ∧ U.cell? ⟨g, k, none⟩ = some (.slice (some ⟨gs' k, 0, none⟩) m m) ∧ U.heap[g12]? = some (.cells #[.int .i64 y2, .int .i64 z2] 80 (0, 0)) ∧ U.heap[g13]? = some (.cells #[.int .i64 y1, .int .i64 z1] 80 (0, 0))) (by kernel_rfl) ?_
                  change wpAnyZ _ _ _ _ _ _ _ _ _ (World.drew wr2)
                  generalize World.drew wr2 = wq at *
                  refine wpAnyZ_take (i := 0) (oi := { dst := some 74, op := _, type := _, pos := _, after := _, guard := _ }) (v := ?_) rfl (by kernel_rfl) (by kernel_rfl) (by kernel_rfl) (fun _ _ _ h => h) (Or.inl ⟨by rfl, ?_⟩) hS0 ?_
                  rotate_left
                  · intro U hU
                    go_simp
                    all_goals with_reducible rfl
                  simp only [Act.put, List.setIfInBounds_toArray, List.set_cons_zero, List.set_cons_succ]
                  refine wpAnyZ_take (i := 1) (oi := { dst := some 75, op := _, type := _, pos := _, after := _, guard := _ }) (v := ?_) rfl (by kernel_rfl) (by kernel_rfl) (by kernel_rfl) (fun _ _ _ h => h) (Or.inl ⟨by rfl, ?_⟩) hS0 ?_
                  rotate_left
                  · intro U hU
                    go_simp
                    all_goals with_reducible rfl
                  simp only [Act.put, List.setIfInBounds_toArray, List.set_cons_zero, List.set_cons_succ]
                  refine wpAnyZ_take (i := 2) (oi := { dst := some 76, op := _, type := _, pos := _, after := _, guard := _ }) (v := ?_) rfl (by kernel_rfl) (by kernel_rfl) (by kernel_rfl) (fun _ _ _ h => h) (Or.inl ⟨by rfl, ?_⟩) hS0 ?_
                  rotate_left
                  · intro U hU
                    go_simp
                    all_goals with_reducible rfl
                  simp only [Act.put, List.setIfInBounds_toArray, List.set_cons_zero, List.set_cons_succ]
                  refine wpAnyZ_take (i := 3) (oi := { dst := some 77, op := _, type := _, pos := _, after := _, guard := _ }) (v := ?_) rfl (by kernel_rfl) (by kernel_rfl) (by kernel_rfl) (fun _ _ _ h => h) (Or.inl ⟨by rfl, ?_⟩) hS0 ?_
                  rotate_left
                  · intro U hU
                    have hU0 := hU.2.1
                    go_simp
                    all_goals with_reducible rfl
                  simp only [Act.put, List.setIfInBounds_toArray, List.set_cons_zero, List.set_cons_succ]
                  refine wpAnyZ_take (i := 4) (oi := { dst := some 78, op := _, type := _, pos := _, after := _, guard := _ }) (v := ?_) rfl (by kernel_rfl) (by kernel_rfl) (by kernel_rfl) (fun _ _ _ h => h) (Or.inl ⟨by rfl, ?_⟩) hS0 ?_
                  rotate_left
                  · intro U hU
                    go_simp
                    all_goals with_reducible rfl
                  simp only [Act.put, List.setIfInBounds_toArray, List.set_cons_zero, List.set_cons_succ]
                  refine wpAnyZ_take (i := 5) (oi := { dst := some 79, op := _, type := _, pos := _, after := _, guard := _ }) (v := ?_) rfl (by kernel_rfl) (by kernel_rfl) (by kernel_rfl) (fun _ _ _ h => h) (Or.inl ⟨by rfl, ?_⟩) hS0 ?_
                  rotate_left
                  · intro U hU
                    have hU0 := cell_blk (i := 1) hU.1
                    simp only [List.getElem?_toArray, List.getElem?_cons_zero, List.getElem?_cons_succ] at hU0
                    go_simp
                    all_goals with_reducible rfl
                  simp only [Act.put, List.setIfInBounds_toArray, List.set_cons_zero, List.set_cons_succ]
                  refine wpAnyZ_take (i := 6) (oi := { dst := some 80, op := _, type := _, pos := _, after := _, guard := _ }) (v := ?_) rfl (by kernel_rfl) (by kernel_rfl) (by kernel_rfl) (fun _ _ _ h => h) (Or.inl ⟨by rfl, ?_⟩) hS0 ?_
                  rotate_left
                  · intro U hU
                    go_simp
                    all_goals with_reducible rfl
                  simp only [Act.put, List.setIfInBounds_toArray, List.set_cons_zero, List.set_cons_succ]
                  refine wpAnyZ_take (i := 7) (oi := { dst := some 81, op := _, type := _, pos := _, after := _, guard := _ }) (v := ?_) rfl (by kernel_rfl) (by kernel_rfl) (by kernel_rfl) (fun _ _ _ h => h) (Or.inl ⟨by rfl, ?_⟩) hS0 ?_
                  rotate_left
                  · intro U hU
                    have hU0 := cell_blk (i := 0) hU.2.2.2
                    simp only [List.getElem?_toArray, List.getElem?_cons_zero] at hU0
                    go_simp
                    all_goals with_reducible rfl
                  simp only [Act.put, List.setIfInBounds_toArray, List.set_cons_zero, List.set_cons_succ]
                  refine wpAnyZ_take (i := 8) (oi := { dst := some 82, op := _, type := _, pos := _, after := _, guard := _ }) (v := ?_) rfl (by kernel_rfl) (by kernel_rfl) (by kernel_rfl) (fun _ _ _ h => h) (Or.inl ⟨by rfl, ?_⟩) hS0 ?_
                  rotate_left
                  · intro U hU
                    go_simp
                    all_goals with_reducible rfl
                  simp only [Act.put, List.setIfInBounds_toArray, List.set_cons_zero, List.set_cons_succ]
                  refine wpAnyZ_take (i := 9) (oi := { dst := some 83, op := _, type := _, pos := _, after := _, guard := _ }) (v := ?_) rfl (by kernel_rfl) (by kernel_rfl) (by kernel_rfl) (fun _ _ _ h => h) (Or.inl ⟨by rfl, ?_⟩) hS0 ?_
                  rotate_left
                  · intro U hU
                    have hU0 := cell_blk (i := 0) hU.2.2.1
                    simp only [List.getElem?_toArray, List.getElem?_cons_zero] at hU0
                    go_simp
                    all_goals with_reducible rfl
                  simp only [Act.put, List.setIfInBounds_toArray, List.set_cons_zero, List.set_cons_succ]
                  refine wpAnyZ_take (i := 10) (oi := { dst := some 84, op := _, type := _, pos := _, after := _, guard := _ }) (v := ?_) rfl (by kernel_rfl) (by kernel_rfl) (by kernel_rfl) (fun _ _ _ h => h) (Or.inl ⟨by rfl, ?_⟩) hS0 ?_
                  rotate_left
                  · intro U hU
                    go_simp
                    all_goals with_reducible rfl
                  simp only [Act.put, List.setIfInBounds_toArray, List.set_cons_zero, List.set_cons_succ]
                  refine wpAnyZ_take (i := 11) (oi := { dst := some 85, op := _, type := _, pos := _, after := _, guard := _ }) (v := ?_) rfl (by kernel_rfl) (by kernel_rfl) (by kernel_rfl) (fun _ _ _ h => h) (Or.inl ⟨by rfl, ?_⟩) hS0 ?_
                  rotate_left
                  · intro U hU
                    go_simp
                    all_goals with_reducible rfl
                  simp only [Act.put, List.setIfInBounds_toArray, List.set_cons_zero, List.set_cons_succ]
                  refine wpAnyZ_take (i := 12) (oi := { dst := some 86, op := _, type := _, pos := _, after := _, guard := _ }) (v := ?_) rfl (by kernel_rfl) (by kernel_rfl) (by kernel_rfl) (fun _ _ _ h => h) (Or.inl ⟨by rfl, ?_⟩) hS0 ?_
                  rotate_left
                  · intro U hU
                    have hU0 := cell_blk (i := 2) hU.1
                    simp only [List.getElem?_toArray, List.getElem?_cons_zero, List.getElem?_cons_succ] at hU0
                    go_simp
                    all_goals with_reducible rfl
                  simp only [Act.put, List.setIfInBounds_toArray, List.set_cons_zero, List.set_cons_succ]
                  refine wpAnyZ_take (i := 13) (oi := { dst := some 87, op := _, type := _, pos := _, after := _, guard := _ }) (v := ?_) rfl (by kernel_rfl) (by kernel_rfl) (by kernel_rfl) (fun _ _ _ h => h) (Or.inl ⟨by rfl, ?_⟩) hS0 ?_
                  rotate_left
                  · intro U hU
                    go_simp
                    all_goals with_reducible rfl
                  simp only [Act.put, List.setIfInBounds_toArray, List.set_cons_zero, List.set_cons_succ]
                  refine wpAnyZ_take (i := 14) (oi := { dst := some 88, op := _, type := _, pos := _, after := _, guard := _ }) (v := .int .i64 (max y1 (y2 + xl))) rfl (by kernel_rfl) (by kernel_rfl) (by kernel_rfl) (fun _ _ _ h => h) (Or.inl ⟨by rfl, ?_⟩) hS0 ?_
                  · intro U hU
                    unfold execOp
                    simp only [resolve, invoke, builtin, Sem.run_bind, Sem.run_pure, Result.andThen_ok, List.map_toArray, List.map_cons, List.map_nil]
                    have e : (if y1 < y2 + xl then y2 + xl else y1) = max y1 (y2 + xl) := by rw [Int.max_def]; split <;> split <;> omega
                    simp [Builtin.max_, Builtin.max2, go_sem, e, Act.eval]
                  simp only [Act.put, List.setIfInBounds_toArray, List.set_cons_zero, List.set_cons_succ]
                  refine wpAnyZ_take (i := 15) (oi := { dst := some 89, op := _, type := _, pos := _, after := _, guard := _ }) (v := ?_) rfl (by kernel_rfl) (by kernel_rfl) (by kernel_rfl) (fun _ _ _ h => h) (Or.inl ⟨by rfl, ?_⟩) hS0 ?_
                  rotate_left
                  · intro U hU
                    go_simp
                    all_goals with_reducible rfl
                  simp only [Act.put, List.setIfInBounds_toArray, List.set_cons_zero, List.set_cons_succ]
                  refine wpAnyZ_take (i := 16) (oi := { dst := some 90, op := _, type := _, pos := _, after := _, guard := _ }) (v := ?_) rfl (by kernel_rfl) (by kernel_rfl) (by kernel_rfl) (fun _ _ _ h => h) (Or.inl ⟨by rfl, ?_⟩) hS0 ?_
                  rotate_left
                  · intro U hU
                    have hU0 := cell_blk (i := 1) hU.2.2.2
                    simp only [List.getElem?_toArray, List.getElem?_cons_zero, List.getElem?_cons_succ] at hU0
                    go_simp
                    all_goals with_reducible rfl
                  simp only [Act.put, List.setIfInBounds_toArray, List.set_cons_zero, List.set_cons_succ]
                  refine wpAnyZ_take (i := 17) (oi := { dst := some 91, op := _, type := _, pos := _, after := _, guard := _ }) (v := ?_) rfl (by kernel_rfl) (by kernel_rfl) (by kernel_rfl) (fun _ _ _ h => h) (Or.inl ⟨by rfl, ?_⟩) hS0 ?_
                  rotate_left
                  · intro U hU
                    go_simp
                    all_goals with_reducible rfl
                  simp only [Act.put, List.setIfInBounds_toArray, List.set_cons_zero, List.set_cons_succ]
                  refine wpAnyZ_take (i := 18) (oi := { dst := some 92, op := _, type := _, pos := _, after := _, guard := _ }) (v := ?_) rfl (by kernel_rfl) (by kernel_rfl) (by kernel_rfl) (fun _ _ _ h => h) (Or.inl ⟨by rfl, ?_⟩) hS0 ?_
                  rotate_left
                  · intro U hU
                    have hU0 := cell_blk (i := 1) hU.2.2.1
                    simp only [List.getElem?_toArray, List.getElem?_cons_zero, List.getElem?_cons_succ] at hU0
                    go_simp
                    all_goals with_reducible rfl
                  simp only [Act.put, List.setIfInBounds_toArray, List.set_cons_zero, List.set_cons_succ]
                  refine wpAnyZ_take (i := 19) (oi := { dst := some 93, op := _, type := _, pos := _, after := _, guard := _ }) (v := ?_) rfl (by kernel_rfl) (by kernel_rfl) (by kernel_rfl) (fun _ _ _ h => h) (Or.inl ⟨by rfl, ?_⟩) hS0 ?_
                  rotate_left
                  · intro U hU
                    go_simp
                    all_goals with_reducible rfl
                  simp only [Act.put, List.setIfInBounds_toArray, List.set_cons_zero, List.set_cons_succ]
                  refine wpAnyZ_take (i := 20) (oi := { dst := some 94, op := _, type := _, pos := _, after := _, guard := _ }) (v := ?_) rfl (by kernel_rfl) (by kernel_rfl) (by kernel_rfl) (fun _ _ _ h => h) (Or.inl ⟨by rfl, ?_⟩) hS0 ?_
                  rotate_left
                  · intro U hU
                    go_simp
                    all_goals with_reducible rfl
                  simp only [Act.put, List.setIfInBounds_toArray, List.set_cons_zero, List.set_cons_succ]
                  refine wpAnyZ_take (i := 21) (oi := { dst := some 95, op := _, type := _, pos := _, after := _, guard := _ }) (v := ?_) rfl (by kernel_rfl) (by kernel_rfl) (by kernel_rfl) (fun _ _ _ h => h) (Or.inl ⟨by rfl, ?_⟩) hS0 ?_
                  rotate_left
                  · intro U hU
                    have hU0 := cell_blk (i := 3) hU.1
                    simp only [List.getElem?_toArray, List.getElem?_cons_zero, List.getElem?_cons_succ] at hU0
                    go_simp
                    all_goals with_reducible rfl
                  simp only [Act.put, List.setIfInBounds_toArray, List.set_cons_zero, List.set_cons_succ]
                  refine wpAnyZ_take (i := 22) (oi := { dst := some 96, op := _, type := _, pos := _, after := _, guard := _ }) (v := ?_) rfl (by kernel_rfl) (by kernel_rfl) (by kernel_rfl) (fun _ _ _ h => h) (Or.inl ⟨by rfl, ?_⟩) hS0 ?_
                  rotate_left
                  · intro U hU
                    go_simp
                    all_goals with_reducible rfl
                  simp only [Act.put, List.setIfInBounds_toArray, List.set_cons_zero, List.set_cons_succ]
                  refine wpAnyZ_take (i := 23) (oi := { dst := some 97, op := _, type := _, pos := _, after := _, guard := _ }) (v := .int .i64 (max z1 (z2 + xh))) rfl (by kernel_rfl) (by kernel_rfl) (by kernel_rfl) (fun _ _ _ h => h) (Or.inl ⟨by rfl, ?_⟩) hS0 ?_
                  · intro U hU
                    unfold execOp
                    simp only [resolve, invoke, builtin, Sem.run_bind, Sem.run_pure, Result.andThen_ok, List.map_toArray, List.map_cons, List.map_nil]
                    have e : (if z1 < z2 + xh then z2 + xh else z1) = max z1 (z2 + xh) := by rw [Int.max_def]; split <;> split <;> omega
                    simp [Builtin.max_, Builtin.max2, go_sem, e, Act.eval]
                  simp only [Act.put, List.setIfInBounds_toArray, List.set_cons_zero, List.set_cons_succ]
                  refine wpAnyZ_take (i := 24) (oi := { dst := some 98, op := _, type := _, pos := _, after := _, guard := _ }) (v := ?_) rfl (by kernel_rfl) (by kernel_rfl) (by kernel_rfl) (fun _ _ _ h => h) (Or.inl ⟨by rfl, ?_⟩) hS0 ?_
                  rotate_left
                  · intro U hU
                    go_simp
                    all_goals with_reducible rfl
                  simp only [Act.put, List.setIfInBounds_toArray, List.set_cons_zero, List.set_cons_succ]
                  refine wpAnyZ_take (i := 25) (oi := { dst := some 99, op := _, type := _, pos := _, after := _, guard := _ }) (v := ?_) rfl (by kernel_rfl) (by kernel_rfl) (by kernel_rfl) (fun _ _ _ h => h) (Or.inl ⟨by rfl, ?_⟩) hS0 ?_
                  rotate_left
                  · intro U hU
                    go_simp
                    all_goals with_reducible rfl
                  simp only [Act.put, List.setIfInBounds_toArray, List.set_cons_zero, List.set_cons_succ]
                  refine wpAnyZ_last (o := { dst := none, op := _, type := _, pos := _, after := _, guard := _ }) (by kernel_rfl) (by kernel_rfl) rfl (by rfl) (fun K1 hK1 => ?_)
                  have HK1 := Lib.hid hK1; clear hK1
                  have ef := free_blk (i := T * 2) (HT5.out.rows k (by omega))
                  have eg := free_blk (i := T * 2 + 1) (HT5.out.rows k (by omega))
                  go_simp
                  refine HK1.out _ _ ?_
                  clear HK1 K1
                  simp only [Exit.then, Exit.inBlock]
                  refine hKA _ _ ?_
                  have hTS : TP w1 w1.heap.size m gs' (PR (relR ws (loT ws) k (relN ws (loT ws) k (tim ws (loT ws) m k) r) (j + 1)) (relR ws (hiT ws) k (relN ws (hiT ws) k (tim ws (hiT ws) m k) r) (j + 1))) (k + 1) (.slice (some ⟨g, 0, none⟩) (k + 1) c6) ((wq.setCell ⟨gs' k, T * 2, none⟩ (.int .i64 (max y1 (y2 + xl)))).setCell ⟨gs' k, T * 2 + 1, none⟩ (.int .i64 (max z1 (z2 + xh)))) := by
                    refine HT5.out.set (k := k) (by omega) (x := (max y1 (y2 + xl), max z1 (z2 + xh))) (fun q v => ?_)
                    have e := HR.out
                    rw [if_pos (by omega), if_pos (by omega), ← HY.out.2.2, ← HY.out.1.1, ← HY.out.1.2, ← HY.out.2.1.1, ← HY.out.2.1.2] at e
                    simp only [PR]
                    rw [e.1, e.2]
                    by_cases hq : q = k ∧ v = T
                    · simp only [if_pos hq]
                    · simp only [if_neg hq]
                  have hgw : w.heap.size ≠ gs' k := by have := HT5.out.lo k (by omega); omega
                  have b21 := (heap_set_other (W := wq.setCell ⟨gs' k, T * 2, none⟩ (.int .i64 (max y1 (y2 + xl)))) (v := (.int .i64 (max z1 (z2 + xh)))) (b' := gs' k) (i := T * 2 + 1) hgw).trans ((heap_set_other (W := wq) (v := (.int .i64 (max y1 (y2 + xl)))) (b' := gs' k) (i := T * 2) hgw).trans b20)
                  clear HT5 b20 f1 f2 ef eg hS0
                  generalize World.setCell _ _ _ = w9 at *
                  go_wp2
                  go_roundw
                  case rel => exact ⟨j + 1, by omega, by go_num, b21, hTS⟩
                  case measure => simp [intOf]; omega
                exact AllReadyZ.nil
            · have hjl2 : j = ws.length := by omega
              have hji : ¬ ((j : Int) < (ws.length : Int)) := by omega
              rw [hjl2] at HT8
              go_wp2
              go_roundw
              case rel => exact ⟨r + 1, by omega, by go_num, b18, HT8.out⟩
              case measure => simp [intOf]; omega
        · have hrm2 : r = m := by omega
          have hri : ¬ ((r : Int) < (m : Int)) := by omega
          rw [hrm2] at HT7
          go_wp2
          go_roundw
          case rel => exact ⟨k + 1, gs', by omega, by go_num, b17, HT7.out⟩
          case measure => simp [intOf]; omega
    · have hkk : k = N := by omega
      subst hkk
      have hki : ¬ ((k : Int) < (k : Int)) := by omega
      have hTf := hT.congr (Y' := R) (fun q v hq hvm => HP.out.2.2.2.2 q v hq hvm)
      clear hT
      go_wp2
      go_ret2
      exact ⟨⟨_, rfl, hTf.slPP (by omega) (by omega)⟩, hB1.trans (hTf.b.mono hB1.size)⟩
end Yteileadcmekkoaa
end Go.Proofs
