/- For each work and what waits take, the call of times returns the rows. -/
import Derived.Test.YteileadcmekkoaaTm
open Go Go.RowKit Go.YteileadcmekkoaaIt
namespace Go.Proofs
namespace Yteileadcmekkoaa
open PanPlain (upd upd_same upd_ne)
theorem info45 : (Try.prog.info? 45).map (fun i => (i.zero, i.size, i.bytes)) = some (some (.slice none 0 0), 1, 24) := by kernel_rfl
set_option maxRecDepth 100000 in
set_option maxHeartbeats 8000000 in
theorem times_any (f : Nat) (lb : Array Value) (m N : Nat) (v : Value) (ws : List Wa) (tk : Nat → Nat → Int) (S : Tim) (w : World) (hv : SlA w v ws) (hval : Val m ws) (hN : N ≤ 100) (hU : Ub ws tk N S) (hS : ∀ k v, k < N → S k v ≤ 100000000)
    (htk : ∀ k i, k < N → i < ws.length → 0 ≤ tk k i ∧ tk k i ≤ 100000) (eg : ∀ args w, (callFunc f args).run Try.prog w = .ok (.enter f args) w)
    (HF : ∀ W, Below w.heap.size w W → ∀ k i : Nat, k < N → i < ws.length → Calls Try.prog f (#[.int .i64 k, .int .i64 i] ++ lb) W fun e W' => e = .returned (.int .i64 (tk k i)) ∧ Below W.heap.size W W') :
    Calls Try.prog 41 #[.agg #[.int .i64 m, v], .int .i64 N, .func (.func f) #[] lb] w fun e w' => (∃ ov, e = .returned ov ∧ SlII w' ov ((List.range N).map fun k => (List.range m).map (tim ws tk m N k))) ∧ Below w.heap.size w w' := by
  have HV := Lib.hid hv
  obtain ⟨ad, cap, rfl, -, -, -⟩ := hv
  have hm10 := (val_mem.1 hval).1
  have hl40 := (val_mem.1 hval).2.1
  have HP := Lib.hid (And.intro hval (And.intro hU (And.intro hS htk)))
  have HFF := Lib.hid HF
  have HEG := Lib.hid eg
  clear hval hU hS htk HF eg
  obtain ⟨i45, hi45, hz1, hz2, hz3⟩ := info_parts info45
  have HI := Lib.hid (And.intro hi45 (And.intro hz1 (And.intro hz2 hz3)))
  clear hi45 hz1 hz2 hz3
  obtain ⟨i3, hi3, hz1, hz2, hz3⟩ := info_parts info3
  have HI3 := Lib.hid (And.intro hi3 (And.intro hz1 (And.intro hz2 hz3)))
  clear hi3 hz1 hz2 hz3
  go_enter Try.func41, Try.ntmps41
  refine wp_seq_k (fun K hK => ?_)
  have HK := Lib.hid hK; clear hK
  go_wp2
  refine HK.out _ _ ?_; clear HK K
  generalize hw1 : World.alloc _ _ = w1
  obtain ⟨b1, hB1, hs1⟩ := blk1 hw1
  clear hw1
  have l1 := lt_blk b1
  go_wp2
  go_loopw [7, 8] (fun o i wr => ∃ (k : Nat) (gs : Nat → Nat), k ≤ N ∧ i = .int .i64 k ∧ wr.heap[w.heap.size]? = some (.cells #[.int .i64 m, .slice ad ws.length cap] 24 (0, 0)) ∧ TM w1 w1.heap.size m gs (tim ws tk m k) k o wr) (fun _ i _ => N - (intOf i).toNat)
  case atStart => exact ⟨0, fun _ => 0, Nat.zero_le _, rfl, b1, fun k hk => by omega, fun k k' hk => by omega, fun k hk => by omega, World.ownsRow_nil _ _ _ _, Below.refl _ _⟩
  case round =>
    clear b1
    obtain ⟨k, gs, hk, rfl, b1, hT⟩ := hrel
    by_cases hkN : k < N
    · have hki : (k : Int) < (N : Int) := by omega
      have ro := hT.out
      obtain ⟨ao, co, rfl⟩ := form_of ro
      have c10 := cell_blk (i := 0) b1
      have c11 := cell_blk (i := 1) b1
      simp only [List.getElem?_toArray, List.getElem?_cons_zero, List.getElem?_cons_succ] at c10 c11
      have HT := Lib.hid hT
      clear hT
      go_wp2_with (first | (at_make; refine wpList_make_full wr rfl (.tmp 19) (.tmp 19) 45 rfl w1.heap.size 3 i3 (.int .i64 0) 1 Try.underlying45 HI3.out.1 HI3.out.2.1 HI3.out.2.2.1 .i64 .i64 _ _ m rfl rfl rfl rfl (by rw [HI3.out.2.2.2]; omega) (Nat.le_trans (by omega : m ≤ 100) (by decide)) HT.out.b.size ?_; intro w5 q1 q2; rw [made_rep _ rfl] at q1; have hb5 : Below wr.heap.size wr w5 := ⟨q2.os, q2.tape, q2.output, q2.size, fun k hk => q2.block k hk (by simp)⟩; have q3 := row_full q1; have ro5 := row_below ro hb5; have hs5 := lt_blk q3) | (at_builtin; refine wpList_append_own _ rfl _ _ 67 rfl w1.heap.size 45 i45 (.slice none 0 0) 1 24 Try.underlying67 HI.out.1 HI.out.2.1 HI.out.2.2.1 HI.out.2.2.2 rfl (by decide) _ _ _ rfl (ro5.alloc _) ⟨w5.heap.size, 0, none⟩ 1 1 [slN wr.heap.size m] rfl rfl (cell_newL rfl) (by intro u hu; simp at hu; subst hu; rfl) (Nat.le_trans (by omega : k + 1 ≤ 200) (by decide)) (by omega) (by rw [World.size_alloc]; have := HT.out.b.size; have := hb5.size; omega) ?_; intro v' w6 r1 r2 _; obtain ⟨a6, c6, rfl⟩ := form_of r1))
      have hT6 : TM w1 w1.heap.size m (upd gs k wr.heap.size) (relN ws tk k (tim ws tk m k) 0) (k + 1) (.slice a6 (k + 1) c6) w6 := by
        refine HT.out.begin (Wa := w5.alloc (.cells #[slN wr.heap.size m] 45)) (Nat.le_refl _) (hb5.trans ((Below.refl _ w5).alloc (Nat.le_refl _) _ |>.mono hb5.size)) ?_ r1 r2
        have e : rowX m (tim ws tk m k k) = List.replicate m (.int .i64 0) := by
          rw [← rowX_zero]
          exact rowX_same fun v _ => tim_zero ws tk m k (Nat.le_refl _)
        show (w5.alloc _).heap[wr.heap.size]? = some (.cells (rowX m (tim ws tk m k k)).toArray 3 (0, 0))
        rw [e]
        exact (heap_oldI hs5).trans q3
      have b16 := (r2.block w.heap.size (by rw [World.size_alloc]; have := lt_blk b1; have := hb5.size; omega) (fun e => own_ne ro b1 (by decide) e.symm)).trans ((heap_oldI (by have := lt_blk b1; have := hb5.size; omega)).trans (blk_keep b1 hb5))
      clear q1 q2 q3 r1 r2 hb5 ro5 hs5 c10 c11 HT ro
      rename_i xx1 xx2
      clear xx2
      obtain ⟨gs', hgs⟩ : ∃ gs', gs' = upd gs k wr.heap.size := ⟨_, rfl⟩
      rw [← hgs] at hT6
      clear hgs
      go_loopw [9] (fun i wx => ∃ r : Nat, r ≤ m ∧ i = .int .i64 r ∧ wx.heap[w.heap.size]? = some (.cells #[.int .i64 m, .slice ad ws.length cap] 24 (0, 0)) ∧ TM w1 w1.heap.size m gs' (relN ws tk k (tim ws tk m k) r) (k + 1) (.slice a6 (k + 1) c6) wx) (fun i _ => m - (intOf i).toNat)
      case atStart => exact ⟨0, Nat.zero_le _, rfl, b16, hT6⟩
      case round =>
        obtain ⟨r, hr, rfl, b17, hT7⟩ := hrel
        have c10 := cell_blk (i := 0) b17
        have c11 := cell_blk (i := 1) b17
        simp only [List.getElem?_toArray, List.getElem?_cons_zero, List.getElem?_cons_succ] at c10 c11
        have HT7 := Lib.hid hT7
        clear hT7 hT6
        by_cases hrm : r < m
        · have hri : (r : Int) < (m : Int) := by omega
          go_wp2
          go_loopw [32] (fun i wx => ∃ j : Nat, j ≤ ws.length ∧ i = .int .i64 j ∧ wx.heap[w.heap.size]? = some (.cells #[.int .i64 m, .slice ad ws.length cap] 24 (0, 0)) ∧ TM w1 w1.heap.size m gs' (relR ws tk k (relN ws tk k (tim ws tk m k) r) j) (k + 1) (.slice a6 (k + 1) c6) wx) (fun i _ => ws.length - (intOf i).toNat)
          case atStart => exact ⟨0, Nat.zero_le _, rfl, b17, HT7.out⟩
          case round =>
            clear b17 c10 c11 HT7
            obtain ⟨j, hj, rfl, b18, hT8⟩ := hrel
            have HT8 := Lib.hid hT8
            clear hT8
            by_cases hjl : j < ws.length
            · have hji : (j : Int) < (ws.length : Int) := by omega
              obtain ⟨g, cc, eov, hgl, hcg, hcr⟩ := HT8.out.cells (by omega)
              injection eov with ea6 _ ec6
              subst ea6 ec6
              have hV30 := HV.out
              obtain ⟨ad0, cap0, e0, -, -, hcc⟩ := hV30
              injection e0 with e1 _ e3
              subst e1 e3
              obtain ⟨bv, ov, rfl, hlt, hcell⟩ := hcc (by omega)
              obtain ⟨q0, q1, q2, q3, q4⟩ := a_cells hcell (i := j) (n := j) hjl rfl
              have hBw : Below w.heap.size w wr := hB1.trans (HT8.out.b.mono hB1.size)
              replace q0 := (hBw.cell (p := ⟨bv, ov + j * 5, none⟩) hlt).trans q0
              replace q1 := (hBw.cell (p := ⟨bv, ov + j * 5 + 1, none⟩) hlt).trans q1
              replace q2 := (hBw.cell (p := ⟨bv, ov + j * 5 + 2, none⟩) hlt).trans q2
              replace q3 := (hBw.cell (p := ⟨bv, ov + j * 5 + 3, none⟩) hlt).trans q3
              replace q4 := (hBw.cell (p := ⟨bv, ov + j * 5 + 4, none⟩) hlt).trans q4
              obtain ⟨⟨hf0, hf1⟩, ⟨ht0, ht1⟩, -, -, hb0, hb4⟩ := (val_mem.1 HP.out.1).2.2 (at_ ws j) (by rw [at_lt hjl]; exact List.getElem_mem hjl)
              have hrel := relR_succ ws tk k (relN ws tk k (tim ws tk m k) r) j
              have hUR := HP.out.2.1.relR (HP.out.2.1.relN (HP.out.2.1.tim m k (by omega)) hkN r) hkN j hj
              have hnn : ∀ q v, 0 ≤ relR ws tk k (relN ws tk k (tim ws tk m k) r) j q v := fun q v => Int.le_trans (tim_nn ws tk m k q v) (Int.le_trans (relN_up ..) (relR_up ..))
              have hSS := HP.out.2.2.1
              have htk := HP.out.2.2.2 k j hkN hjl
              obtain ⟨Y, hY⟩ : ∃ Y, Y = relR ws tk k (relN ws tk k (tim ws tk m k) r) j := ⟨_, rfl⟩
              rw [← hY] at hrel hUR hnn hcr
              have HT9 : TM w1 w1.heap.size m gs' Y (k + 1) (.slice (some ⟨g, 0, none⟩) (k + 1) c6) wr := by rw [hY]; exact HT8.out
              clear hY HT8 hcell hcc
              unfold relI at hrel
              obtain ⟨F, hF⟩ : ∃ F : Nat, (at_ ws j).f = (F : Int) := ⟨(at_ ws j).f.toNat, by omega⟩
              obtain ⟨T, hT⟩ : ∃ T : Nat, (at_ ws j).t = (T : Int) := ⟨(at_ ws j).t.toNat, by omega⟩
              obtain ⟨Bk, hBk⟩ : ∃ Bk : Nat, (at_ ws j).b = (Bk : Int) := ⟨(at_ ws j).b.toNat, by omega⟩
              rw [hF, hT, hBk, Int.toNat_natCast, Int.toNat_natCast, Int.toNat_natCast] at hrel
              rw [hF] at q0 hf1
              rw [hT] at q1 ht1
              rw [hBk] at q4
              have hFm : F < m := by omega
              have hTm : T < m := by omega
              generalize (at_ ws j).lo = xl at *
              generalize (at_ ws j).hi = xh at *
              clear hf0 hf1 ht0 ht1 hb0 hb4 hF hT hBk
              have HR := Lib.hid hrel
              have HT := Lib.hid HT9
              clear hrel HT9
              have hBA : Below wr.heap.size wr (wr.alloc (.cells #[.int .i64 F, .int .i64 T, .int .i64 xl, .int .i64 xh, .int .i64 Bk] 82)) := (Below.refl _ wr).alloc (Nat.le_refl _) _
              have bX : (wr.alloc (.cells #[.int .i64 F, .int .i64 T, .int .i64 xl, .int .i64 xh, .int .i64 Bk] 82)).heap[wr.heap.size]? = _ := heap_newI rfl
              by_cases hbk : (Bk : Int) ≤ (k : Int)
              · go_wp2
                rename_i K0 hK0 _ _
                have HK0 := Lib.hid hK0
                clear hK0
                obtain ⟨kb, hkb⟩ : ∃ kb, kb = k - Bk := ⟨_, rfl⟩
                have hkbI : (k : Int) - (Bk : Int) = (kb : Int) := by omega
                have hwk : IntKind.i64.wrap (kb : Int) = (kb : Int) := by rw [IntKind.wrap_i64]; omega
                have hkbn : kb < k + 1 := by omega
                have hkbi : (kb : Int) < (k : Int) + 1 := by omega
                have hkki : (k : Int) < (k : Int) + 1 := by omega
                obtain ⟨y1, hy1⟩ : ∃ y1, y1 = Y k T := ⟨_, rfl⟩
                obtain ⟨y2, hy2⟩ : ∃ y2, y2 = Y kb F := ⟨_, rfl⟩
                have hb1 : 0 ≤ y1 ∧ y1 ≤ 100000000 := by rw [hy1]; exact ⟨hnn _ _, Int.le_trans (hUR _ _) (hSS _ _ (by omega))⟩
                have hb2 : 0 ≤ y2 ∧ y2 ≤ 100000000 := by rw [hy2]; exact ⟨hnn _ _, Int.le_trans (hUR _ _) (hSS _ _ (by omega))⟩
                have s1 := (hBA.cell (p := ⟨g, k, none⟩) hgl).trans (hcg k (by omega))
                have s2 := (hBA.cell (p := ⟨g, kb, none⟩) hgl).trans (hcg kb (by omega))
                have s3 := (hBA.cell (p := ⟨gs' k, T, none⟩) (lt_blk (HT.out.rows k (by omega)))).trans (hcr k T (by omega) hTm)
                have s4 := (hBA.cell (p := ⟨gs' kb, F, none⟩) (lt_blk (HT.out.rows kb (by omega)))).trans (hcr kb F (by omega) hFm)
                rw [← hy1] at s3
                rw [← hy2] at s4
                have b19 := blk_keep b18 hBA
                have HT2 := Lib.hid (HT.out.below (Nat.le_refl _) hBA)
                have hnl : ∀ q, q < k + 1 → gs' q < wr.heap.size := fun q hq => lt_blk (HT.out.rows q hq)
                have hlg : g < wr.heap.size := hgl
                have hnx : wr.heap.size < (wr.alloc (.cells #[.int .i64 F, .int .i64 T, .int .i64 xl, .int .i64 xh, .int .i64 Bk] 82)).heap.size := lt_blk bX
                have HY := Lib.hid (And.intro hy1 (And.intro hy2 hkb))
                clear hy1 hy2 hkb hnn hUR hSS hcg hcr hgl q0 q1 q2 q3 q4 b18
                generalize wr.alloc (.cells #[.int .i64 F, .int .i64 T, .int .i64 xl, .int .i64 xh, .int .i64 Bk] 82) = wz at *
                generalize wr.heap.size = nx at *
                have hS0 : wz.drew.heap[nx]? = some (.cells #[.int .i64 F, .int .i64 T, .int .i64 xl, .int .i64 xh, .int .i64 Bk] 82 (0, 0)) ∧ wz.drew.cell? ⟨g, k, none⟩ = some (.slice (some ⟨gs' k, 0, none⟩) m m) ∧ wz.drew.cell? ⟨g, kb, none⟩ = some (.slice (some ⟨gs' kb, 0, none⟩) m m) ∧ wz.drew.cell? ⟨gs' k, T, none⟩ = some (.int .i64 y1) ∧ wz.drew.cell? ⟨gs' kb, F, none⟩ = some (.int .i64 y2) := ⟨bX, s1, s2, s3, s4⟩
                replace b19 : wz.drew.heap[w.heap.size]? = _ := b19
                have hT3 : TM w1 w1.heap.size m gs' Y (k + 1) (.slice (some ⟨g, 0, none⟩) (k + 1) c6) wz.drew := ⟨HT2.out.rows, HT2.out.inj, HT2.out.lo, HT2.out.out, HT2.out.b.drew⟩
                have HT3 := Lib.hid hT3
                replace hnx : nx < wz.drew.heap.size := hnx
                clear s1 s2 s3 s4 bX HT2 HT hT3 hBA hBw
                refine wp_region_z (z := 32) (S := fun U => U.heap[nx]? = some (.cells #[.int .i64 F, .int .i64 T, .int .i64 xl, .int .i64 xh, .int .i64 Bk] 82 (0, 0)) ∧ U.cell? ⟨g, k, none⟩ = some (.slice (some ⟨gs' k, 0, none⟩) m m) ∧ U.cell? ⟨g, kb, none⟩ = some (.slice (some ⟨gs' kb, 0, none⟩) m m) ∧ U.cell? ⟨gs' k, T, none⟩ = some (.int .i64 y1) ∧ U.cell? ⟨gs' kb, F, none⟩ = some (.int .i64 y2)) (by kernel_rfl) ?_
                change wpAnyZ _ _ _ _ _ _ _ _ _ (World.drew wz)
                generalize World.drew wz = wq at *
                clear wz
                refine wpAnyZ_take (i := 0) (oi := { dst := some 41, op := _, type := _, pos := _, after := _, guard := _ }) (v := ?_) rfl (by kernel_rfl) (by kernel_rfl) (by kernel_rfl) (fun _ _ _ h => h) (Or.inl ⟨by rfl, ?_⟩) hS0 ?_
                rotate_left
                · intro U hU
                  go_simp
                  all_goals with_reducible rfl
                simp only [Act.put, List.setIfInBounds_toArray, List.set_cons_zero, List.set_cons_succ]
                refine wpAnyZ_take (i := 1) (oi := { dst := some 42, op := _, type := _, pos := _, after := _, guard := _ }) (v := ?_) rfl (by kernel_rfl) (by kernel_rfl) (by kernel_rfl) (fun _ _ _ h => h) (Or.inl ⟨by rfl, ?_⟩) hS0 ?_
                rotate_left
                · intro U hU
                  go_simp
                  all_goals with_reducible rfl
                simp only [Act.put, List.setIfInBounds_toArray, List.set_cons_zero, List.set_cons_succ]
                refine wpAnyZ_take (i := 2) (oi := { dst := some 43, op := _, type := _, pos := _, after := _, guard := _ }) (v := ?_) rfl (by kernel_rfl) (by kernel_rfl) (by kernel_rfl) (fun _ _ _ h => h) (Or.inl ⟨by rfl, ?_⟩) hS0 ?_
                rotate_left
                · intro U hU
                  go_simp
                  all_goals with_reducible rfl
                simp only [Act.put, List.setIfInBounds_toArray, List.set_cons_zero, List.set_cons_succ]
                refine wpAnyZ_take (i := 3) (oi := { dst := some 44, op := _, type := _, pos := _, after := _, guard := _ }) (v := ?_) rfl (by kernel_rfl) (by kernel_rfl) (by kernel_rfl) (fun _ _ _ h => h) (Or.inl ⟨by rfl, ?_⟩) hS0 ?_
                rotate_left
                · intro U hU
                  have hU0 := hU.2.1
                  go_simp
                  all_goals with_reducible rfl
                simp only [Act.put, List.setIfInBounds_toArray, List.set_cons_zero, List.set_cons_succ]
                refine wpAnyZ_take (i := 4) (oi := { dst := some 45, op := _, type := _, pos := _, after := _, guard := _ }) (v := ?_) rfl (by kernel_rfl) (by kernel_rfl) (by kernel_rfl) (fun _ _ _ h => h) (Or.inl ⟨by rfl, ?_⟩) hS0 ?_
                rotate_left
                · intro U hU
                  go_simp
                  all_goals with_reducible rfl
                simp only [Act.put, List.setIfInBounds_toArray, List.set_cons_zero, List.set_cons_succ]
                refine wpAnyZ_take (i := 5) (oi := { dst := some 46, op := _, type := _, pos := _, after := _, guard := _ }) (v := ?_) rfl (by kernel_rfl) (by kernel_rfl) (by kernel_rfl) (fun _ _ _ h => h) (Or.inl ⟨by rfl, ?_⟩) hS0 ?_
                rotate_left
                · intro U hU
                  have hU0 := cell_blk (i := 1) hU.1
                  simp only [List.getElem?_toArray, List.getElem?_cons_zero, List.getElem?_cons_succ] at hU0
                  go_simp
                  all_goals with_reducible rfl
                simp only [Act.put, List.setIfInBounds_toArray, List.set_cons_zero, List.set_cons_succ]
                refine wpAnyZ_take (i := 6) (oi := { dst := some 47, op := _, type := _, pos := _, after := _, guard := _ }) (v := ?_) rfl (by kernel_rfl) (by kernel_rfl) (by kernel_rfl) (fun _ _ _ h => h) (Or.inl ⟨by rfl, ?_⟩) hS0 ?_
                rotate_left
                · intro U hU
                  go_simp
                  all_goals with_reducible rfl
                simp only [Act.put, List.setIfInBounds_toArray, List.set_cons_zero, List.set_cons_succ]
                refine wpAnyZ_take (i := 7) (oi := { dst := some 48, op := _, type := _, pos := _, after := _, guard := _ }) (v := ?_) rfl (by kernel_rfl) (by kernel_rfl) (by kernel_rfl) (fun _ _ _ h => h) (Or.inl ⟨by rfl, ?_⟩) hS0 ?_
                rotate_left
                · intro U hU
                  go_simp
                  all_goals with_reducible rfl
                simp only [Act.put, List.setIfInBounds_toArray, List.set_cons_zero, List.set_cons_succ]
                refine wpAnyZ_take (i := 8) (oi := { dst := some 49, op := _, type := _, pos := _, after := _, guard := _ }) (v := ?_) rfl (by kernel_rfl) (by kernel_rfl) (by kernel_rfl) (fun _ _ _ h => h) (Or.inl ⟨by rfl, ?_⟩) hS0 ?_
                rotate_left
                · intro U hU
                  go_simp
                  all_goals with_reducible rfl
                simp only [Act.put, List.setIfInBounds_toArray, List.set_cons_zero, List.set_cons_succ]
                refine wpAnyZ_take (i := 9) (oi := { dst := some 50, op := _, type := _, pos := _, after := _, guard := _ }) (v := ?_) rfl (by kernel_rfl) (by kernel_rfl) (by kernel_rfl) (fun _ _ _ h => h) (Or.inl ⟨by rfl, ?_⟩) hS0 ?_
                rotate_left
                · intro U hU
                  have hU0 := hU.2.1
                  go_simp
                  all_goals with_reducible rfl
                simp only [Act.put, List.setIfInBounds_toArray, List.set_cons_zero, List.set_cons_succ]
                refine wpAnyZ_take (i := 10) (oi := { dst := some 51, op := _, type := _, pos := _, after := _, guard := _ }) (v := ?_) rfl (by kernel_rfl) (by kernel_rfl) (by kernel_rfl) (fun _ _ _ h => h) (Or.inl ⟨by rfl, ?_⟩) hS0 ?_
                rotate_left
                · intro U hU
                  go_simp
                  all_goals with_reducible rfl
                simp only [Act.put, List.setIfInBounds_toArray, List.set_cons_zero, List.set_cons_succ]
                refine wpAnyZ_take (i := 11) (oi := { dst := some 52, op := _, type := _, pos := _, after := _, guard := _ }) (v := ?_) rfl (by kernel_rfl) (by kernel_rfl) (by kernel_rfl) (fun _ _ _ h => h) (Or.inl ⟨by rfl, ?_⟩) hS0 ?_
                rotate_left
                · intro U hU
                  have hU0 := cell_blk (i := 1) hU.1
                  simp only [List.getElem?_toArray, List.getElem?_cons_zero, List.getElem?_cons_succ] at hU0
                  go_simp
                  all_goals with_reducible rfl
                simp only [Act.put, List.setIfInBounds_toArray, List.set_cons_zero, List.set_cons_succ]
                refine wpAnyZ_take (i := 12) (oi := { dst := some 53, op := _, type := _, pos := _, after := _, guard := _ }) (v := ?_) rfl (by kernel_rfl) (by kernel_rfl) (by kernel_rfl) (fun _ _ _ h => h) (Or.inl ⟨by rfl, ?_⟩) hS0 ?_
                rotate_left
                · intro U hU
                  go_simp
                  all_goals with_reducible rfl
                simp only [Act.put, List.setIfInBounds_toArray, List.set_cons_zero, List.set_cons_succ]
                refine wpAnyZ_take (i := 13) (oi := { dst := some 54, op := _, type := _, pos := _, after := _, guard := _ }) (v := ?_) rfl (by kernel_rfl) (by kernel_rfl) (by kernel_rfl) (fun _ _ _ h => h) (Or.inl ⟨by rfl, ?_⟩) hS0 ?_
                rotate_left
                · intro U hU
                  have hU0 := hU.2.2.2.1
                  go_simp
                  all_goals with_reducible rfl
                simp only [Act.put, List.setIfInBounds_toArray, List.set_cons_zero, List.set_cons_succ]
                refine wpAnyZ_take (i := 14) (oi := { dst := some 55, op := _, type := _, pos := _, after := _, guard := _ }) (v := ?_) rfl (by kernel_rfl) (by kernel_rfl) (by kernel_rfl) (fun _ _ _ h => h) (Or.inl ⟨by rfl, ?_⟩) hS0 ?_
                rotate_left
                · intro U hU
                  go_simp
                  all_goals with_reducible rfl
                simp only [Act.put, List.setIfInBounds_toArray, List.set_cons_zero, List.set_cons_succ]
                refine wpAnyZ_take (i := 15) (oi := { dst := some 56, op := _, type := _, pos := _, after := _, guard := _ }) (v := ?_) rfl (by kernel_rfl) (by kernel_rfl) (by kernel_rfl) (fun _ _ _ h => h) (Or.inl ⟨by rfl, ?_⟩) hS0 ?_
                rotate_left
                · intro U hU
                  go_simp
                  all_goals with_reducible rfl
                simp only [Act.put, List.setIfInBounds_toArray, List.set_cons_zero, List.set_cons_succ]
                refine wpAnyZ_take (i := 16) (oi := { dst := some 57, op := _, type := _, pos := _, after := _, guard := _ }) (v := ?_) rfl (by kernel_rfl) (by kernel_rfl) (by kernel_rfl) (fun _ _ _ h => h) (Or.inl ⟨by rfl, ?_⟩) hS0 ?_
                rotate_left
                · intro U hU
                  go_simp
                  all_goals with_reducible rfl
                simp only [Act.put, List.setIfInBounds_toArray, List.set_cons_zero, List.set_cons_succ]
                refine wpAnyZ_take (i := 17) (oi := { dst := some 58, op := _, type := _, pos := _, after := _, guard := _ }) (v := ?_) rfl (by kernel_rfl) (by kernel_rfl) (by kernel_rfl) (fun _ _ _ h => h) (Or.inl ⟨by rfl, ?_⟩) hS0 ?_
                rotate_left
                · intro U hU
                  have hU0 := cell_blk (i := 4) hU.1
                  simp only [List.getElem?_toArray, List.getElem?_cons_zero, List.getElem?_cons_succ] at hU0
                  go_simp
                  all_goals with_reducible rfl
                simp only [Act.put, List.setIfInBounds_toArray, List.set_cons_zero, List.set_cons_succ]
                refine wpAnyZ_take (i := 18) (oi := { dst := some 59, op := _, type := _, pos := _, after := _, guard := _ }) (v := ?_) rfl (by kernel_rfl) (by kernel_rfl) (by kernel_rfl) (fun _ _ _ h => h) (Or.inl ⟨by rfl, ?_⟩) hS0 ?_
                rotate_left
                · intro U hU
                  go_simp
                  all_goals with_reducible rfl
                simp only [Act.put, List.setIfInBounds_toArray, List.set_cons_zero, List.set_cons_succ]
                refine wpAnyZ_take (i := 19) (oi := { dst := some 60, op := _, type := _, pos := _, after := _, guard := _ }) (v := ?_) rfl (by kernel_rfl) (by kernel_rfl) (by kernel_rfl) (fun _ _ _ h => h) (Or.inl ⟨by rfl, ?_⟩) hS0 ?_
                rotate_left
                · intro U hU
                  go_simp
                  all_goals with_reducible rfl
                simp only [Act.put, List.setIfInBounds_toArray, List.set_cons_zero, List.set_cons_succ]
                refine wpAnyZ_take (i := 20) (oi := { dst := some 61, op := _, type := _, pos := _, after := _, guard := _ }) (v := ?_) rfl (by kernel_rfl) (by kernel_rfl) (by kernel_rfl) (fun _ _ _ h => h) (Or.inl ⟨by rfl, ?_⟩) hS0 ?_
                rotate_left
                · intro U hU
                  have hU0 := hU.2.2.1
                  go_simp
                  all_goals with_reducible rfl
                simp only [Act.put, List.setIfInBounds_toArray, List.set_cons_zero, List.set_cons_succ]
                refine wpAnyZ_take (i := 21) (oi := { dst := some 62, op := _, type := _, pos := _, after := _, guard := _ }) (v := ?_) rfl (by kernel_rfl) (by kernel_rfl) (by kernel_rfl) (fun _ _ _ h => h) (Or.inl ⟨by rfl, ?_⟩) hS0 ?_
                rotate_left
                · intro U hU
                  go_simp
                  all_goals with_reducible rfl
                simp only [Act.put, List.setIfInBounds_toArray, List.set_cons_zero, List.set_cons_succ]
                refine wpAnyZ_take (i := 22) (oi := { dst := some 63, op := _, type := _, pos := _, after := _, guard := _ }) (v := ?_) rfl (by kernel_rfl) (by kernel_rfl) (by kernel_rfl) (fun _ _ _ h => h) (Or.inl ⟨by rfl, ?_⟩) hS0 ?_
                rotate_left
                · intro U hU
                  have hU0 := cell_blk (i := 0) hU.1
                  simp only [List.getElem?_toArray, List.getElem?_cons_zero] at hU0
                  go_simp
                  all_goals with_reducible rfl
                simp only [Act.put, List.setIfInBounds_toArray, List.set_cons_zero, List.set_cons_succ]
                refine wpAnyZ_take (i := 23) (oi := { dst := some 64, op := _, type := _, pos := _, after := _, guard := _ }) (v := ?_) rfl (by kernel_rfl) (by kernel_rfl) (by kernel_rfl) (fun _ _ _ h => h) (Or.inl ⟨by rfl, ?_⟩) hS0 ?_
                rotate_left
                · intro U hU
                  go_simp
                  all_goals with_reducible rfl
                simp only [Act.put, List.setIfInBounds_toArray, List.set_cons_zero, List.set_cons_succ]
                refine wpAnyZ_take (i := 24) (oi := { dst := some 65, op := _, type := _, pos := _, after := _, guard := _ }) (v := ?_) rfl (by kernel_rfl) (by kernel_rfl) (by kernel_rfl) (fun _ _ _ h => h) (Or.inl ⟨by rfl, ?_⟩) hS0 ?_
                rotate_left
                · intro U hU
                  have hU0 := hU.2.2.2.2
                  go_simp
                  all_goals with_reducible rfl
                simp only [Act.put, List.setIfInBounds_toArray, List.set_cons_zero, List.set_cons_succ]
                refine wpAnyZ_take (i := 25) (oi := { dst := some 66, op := _, type := _, pos := _, after := _, guard := _ }) (v := ?_) rfl (by kernel_rfl) (by kernel_rfl) (by kernel_rfl) (fun _ _ _ h => h) (Or.inl ⟨by rfl, ?_⟩) hS0 ?_
                rotate_left
                · intro U hU
                  go_simp
                  all_goals with_reducible rfl
                simp only [Act.put, List.setIfInBounds_toArray, List.set_cons_zero, List.set_cons_succ]
                refine wpAnyZ_take (i := 26) (oi := { dst := some 67, op := _, type := _, pos := _, after := _, guard := _ }) (v := ?_) rfl (by kernel_rfl) (by kernel_rfl) (by kernel_rfl) (fun _ _ _ h => h) (Or.inl ⟨by rfl, ?_⟩) hS0 ?_
                rotate_left
                · intro U hU
                  go_simp
                  all_goals with_reducible rfl
                simp only [Act.put, List.setIfInBounds_toArray, List.set_cons_zero, List.set_cons_succ]
                refine wpAnyZ_take (i := 27) (oi := { dst := some 68, op := _, type := _, pos := _, after := _, guard := _ }) (v := ?_) rfl (by kernel_rfl) (by kernel_rfl) (by kernel_rfl) (fun _ _ _ h => h) (Or.inl ⟨by rfl, ?_⟩) hS0 ?_
                rotate_left
                · intro U hU
                  go_simp
                  all_goals with_reducible rfl
                simp only [Act.put, List.setIfInBounds_toArray, List.set_cons_zero, List.set_cons_succ]
                refine wpAnyZ_one (i := 28) (o := { dst := some 69, op := _, type := _, pos := _, after := _, guard := _ }) (by kernel_rfl) rfl (by rfl) (fun K1 hK1 => ?_)
                have HK1 := Lib.hid hK1; clear hK1
                refine oper_callg (f := f) (lb := lb) rfl rfl HEG.out (args := [.int .i64 (k : Int), .int .i64 (j : Int)]) rfl (R := fun v w' => v = .int .i64 (tk k j) ∧ Below wq.heap.size wq w') ((HFF.out wq (hB1.trans (HT3.out.b.mono hB1.size)) k j hkN hjl).mono ?_) ?_
                · rintro e w' ⟨rfl, hb⟩
                  exact ⟨_, rfl, rfl, hb⟩
                rintro v w' ⟨rfl, hb⟩
                have hS1 := And.intro (blk_keep hS0.1 hb) (And.intro ((hb.cell (p := ⟨g, k, none⟩) (Nat.lt_trans hlg hnx)).trans hS0.2.1) (And.intro ((hb.cell (p := ⟨g, kb, none⟩) (Nat.lt_trans hlg hnx)).trans hS0.2.2.1) (And.intro ((hb.cell (p := ⟨gs' k, T, none⟩) (Nat.lt_trans (hnl k (by omega)) hnx)).trans hS0.2.2.2.1) ((hb.cell (p := ⟨gs' kb, F, none⟩) (Nat.lt_trans (hnl kb hkbn) hnx)).trans hS0.2.2.2.2))))
                refine HK1.out _ _ (fun _ => hS1) ?_
                clear HK1 K1 hS0
                have hS0 := hS1
                clear hS1
                replace b19 := blk_keep b19 hb
                have HT4 := Lib.hid (HT3.out.below (Nat.le_refl _) hb)
                clear HT3 hb hnx
                try simp only [Act.put, List.setIfInBounds_toArray, List.set_cons_zero, List.set_cons_succ]
                obtain ⟨z, hz⟩ : ∃ z, z = tk k j := ⟨_, rfl⟩
                rw [← hz] at htk
                rw [← hz]
                have HZ := Lib.hid hz
                clear hz
                have hwz : IntKind.i64.wrap (y2 + z) = y2 + z := by rw [IntKind.wrap_i64]; omega
                refine wpAnyZ_take (i := 29) (oi := { dst := some 70, op := _, type := _, pos := _, after := _, guard := _ }) (v := ?_) rfl (by kernel_rfl) (by kernel_rfl) (by kernel_rfl) (fun _ _ _ h => h) (Or.inl ⟨by rfl, ?_⟩) hS0 ?_
                rotate_left
                · intro U hU
                  go_simp
                  all_goals with_reducible rfl
                simp only [Act.put, List.setIfInBounds_toArray, List.set_cons_zero, List.set_cons_succ]
                refine wpAnyZ_take (i := 30) (oi := { dst := some 71, op := _, type := _, pos := _, after := _, guard := _ }) (v := .int .i64 (max y1 (y2 + z))) rfl (by kernel_rfl) (by kernel_rfl) (by kernel_rfl) (fun _ _ _ h => h) (Or.inl ⟨by rfl, ?_⟩) hS0 ?_
                · intro U hU
                  unfold execOp
                  simp only [resolve, invoke, builtin, Sem.run_bind, Sem.run_pure, Result.andThen_ok, List.map_toArray, List.map_cons, List.map_nil]
                  have e : (if y1 < y2 + z then y2 + z else y1) = max y1 (y2 + z) := by rw [Int.max_def]; split <;> split <;> omega
                  simp [Builtin.max_, Builtin.max2, go_sem, e, Act.eval]
                simp only [Act.put, List.setIfInBounds_toArray, List.set_cons_zero, List.set_cons_succ]
                refine wpAnyZ_take (i := 31) (oi := { dst := some 72, op := _, type := _, pos := _, after := _, guard := _ }) (v := ?_) rfl (by kernel_rfl) (by kernel_rfl) (by kernel_rfl) (fun _ _ _ h => h) (Or.inl ⟨by rfl, ?_⟩) hS0 ?_
                rotate_left
                · intro U hU
                  go_simp
                  all_goals with_reducible rfl
                simp only [Act.put, List.setIfInBounds_toArray, List.set_cons_zero, List.set_cons_succ]
                refine wpAnyZ_last (o := { dst := none, op := _, type := _, pos := _, after := _, guard := _ }) (by kernel_rfl) (by kernel_rfl) rfl (by rfl) (fun K1 hK1 => ?_)
                have HK1 := Lib.hid hK1; clear hK1
                have e1 := hS0.2.2.2.1
                have ef := free_blk (i := T) (HT4.out.rows k (by omega))
                go_simp
                refine HK1.out _ _ ?_
                clear HK1 K1
                simp only [Exit.then, Exit.inBlock]
                refine HK0.out _ _ ?_
                clear HK0
                have hTS : TM w1 w1.heap.size m gs' (relR ws tk k (relN ws tk k (tim ws tk m k) r) (j + 1)) (k + 1) (.slice (some ⟨g, 0, none⟩) (k + 1) c6) (w'.setCell ⟨gs' k, T, none⟩ (.int .i64 (max y1 (y2 + z)))) := by
                  refine HT4.out.set (k := k) (by omega) (fun q v => ?_)
                  have e := HR.out
                  rw [if_pos hbk, ← HY.out.2.2, ← HY.out.1, ← HY.out.2.1, ← HZ.out] at e
                  rw [e]
                have b20 := (heap_set_other (W := w') (v := (.int .i64 (max y1 (y2 + z)))) (b' := gs' k) (i := T) (show w.heap.size ≠ gs' k by have := HT4.out.lo k (by omega); omega)).trans b19
                clear HT4 b19 e1 ef hS0
                generalize World.setCell _ _ _ = w9 at *
                go_wp2
                go_roundw
                case rel => exact ⟨j + 1, by omega, by go_num, b20, hTS⟩
                case measure => simp [intOf]; omega
              · go_wp2
                go_roundw
                case rel =>
                  have e := HR.out
                  rw [if_neg hbk] at e
                  exact ⟨j + 1, by omega, by go_num, blk_keep b18 hBA, by rw [e]; exact HT.out.below (Nat.le_refl _) hBA⟩
                case measure => simp [intOf]; omega
            · have hjl2 : j = ws.length := by omega
              subst hjl2
              have hji : ¬ ((ws.length : Int) < (ws.length : Int)) := by omega
              go_wp2
              go_roundw
              case rel => exact ⟨r + 1, by omega, by go_num, b18, HT8.out⟩
              case measure => simp [intOf]; omega
        · have hrm2 : r = m := by omega
          subst hrm2
          have hri : ¬ ((r : Int) < (r : Int)) := by omega
          go_wp2
          go_roundw
          case rel => exact ⟨k + 1, gs', by omega, by go_num, b17, HT7.out⟩
          case measure => simp [intOf]; omega
    · have hkk : k = N := by omega
      subst hkk
      have hki : ¬ ((k : Int) < (k : Int)) := by omega
      go_wp2
      go_ret
      exact ⟨⟨_, rfl, hT.slII (by omega) (by omega)⟩, hB1.trans (hT.b.mono hB1.size)⟩
end Yteileadcmekkoaa
end Go.Proofs
