/- Pans: the reference's Verify. -/
import Derived.Test.YteileadcmekkoaaRc
open Go Go.RowKit Go.YteileadcmekkoaaIt
namespace Go.Proofs
namespace Yteileadcmekkoaa
theorem size91 : (Try.prog.info? 91).map (·.size) = some 5 := by kernel_rfl
theorem ab_cellR {w : World} {p : Addr} {v : Value} (h : w.cell? p = some v) (X : Ab w.heap.size w) : X.val.cell? p = some v := (X.ok.cell (p := p) (World.block_lt_of_cell? w p h)).trans h
set_option maxRecDepth 100000 in
set_option maxHeartbeats 8000000 in
theorem rverify_any (n : Int) (v vt : Value) (ws : List Wa) (num den : Int) (tab : List Int) (w : World) (hv : SlA w v ws) (ht : SlI w vt tab) :
    Calls Try.prog 32 #[.agg #[.int .i64 n, v], .agg #[.int .i64 num, .int .i64 den], vt] w fun e w' => e = .returned (.int .i64 (verE n ws num den tab)) ∧ Below w.heap.size w w' := by
  have HV := Lib.hid (And.intro hv ht)
  obtain ⟨ad, cap, rfl, -, -, -⟩ := hv
  obtain ⟨at_', ct, rfl, hmt, -, -⟩ := ht
  go_enter Try.func32, Try.ntmps32
  refine wp_seq_k (fun K hK => ?_)
  have HK := Lib.hid hK; clear hK
  go_wp2
  refine HK.out _ _ ?_; clear HK K
  generalize hw1 : World.alloc _ _ = w1
  obtain ⟨b1, b2, hB, hs1⟩ := blk2 hw1
  clear hw1
  have h23 := rcheck_any n _ ws w1 (HV.out.1.below hB (Nat.le_refl _))
  obtain ⟨E, hE⟩ : ∃ E, E = chkE n ws := ⟨_, rfl⟩
  rw [← hE] at h23
  unfold verE
  rw [← hE]
  have HE := Lib.hid hE
  clear hE
  by_cases h0 : E = 0
  · obtain ⟨m, rfl, hV, -⟩ := chk_ok (HE.out.symm.trans h0)
    subst h0
    rw [if_neg (by simp : ¬ ((0 : Int) ≠ 0))]
    refine wp_seq_k (fun K hK => ?_)
    have HK := Lib.hid hK; clear hK
    go_wp2_with (first | (refine wpList_load_blk rfl 31 _ rfl _ rfl b1 Try.underlying31 rfl size31 rfl ?_) | (go_at_call 23; refine h23.mono ?_; rintro e w2 ⟨rfl, hb2⟩))
    refine HK.out _ _ ?_; clear HK K h23
    replace b1 := blk_keep b1 hb2
    replace b2 := blk_keep b2 hb2
    replace hB := btr hB hb2 (Nat.le_refl _)
    clear hb2
    have h56 := fun W => pgood6_any num den W
    obtain ⟨G, hG⟩ : ∃ G, G = goodP num den := ⟨_, rfl⟩
    rw [← hG] at h56 ⊢
    have HG := Lib.hid hG
    clear hG
    cases G
    · rw [if_pos rfl]
      go_wp2_with (first | (refine wpList_load_blk rfl 36 _ rfl _ rfl b2 Try.underlying36 rfl size36 rfl ?_) | (go_at_call 56; refine (h56 _).mono ?_; rintro e w4 ⟨rfl, hb4⟩))
      go_ret
      exact ⟨rfl, btr hB hb4 (Nat.le_refl _)⟩
    · rw [if_neg (by simp)]
      have hg := HG.out.symm
      unfold goodP at hg
      rw [Bool.and_eq_true, btw_true, btw_true] at hg
      obtain ⟨⟨g1, g2⟩, g3, g4⟩ := hg
      refine wp_seq_k (fun K hK => ?_)
      have HK := Lib.hid hK; clear hK
      go_wp2
      refine HK.out _ _ ?_; clear HK K
      refine wp_seq_k (fun K hK => ?_)
      have HK := Lib.hid hK; clear hK
      go_wp2_with (first | (refine wpList_load_blk rfl 36 _ rfl _ rfl b2 Try.underlying36 rfl size36 rfl ?_) | (go_at_call 56; refine (h56 _).mono ?_; rintro e w4 ⟨rfl, hb4⟩))
      refine HK.out _ _ ?_; clear HK K h56
      replace b1 := blk_keep b1 hb4
      replace b2 := blk_keep b2 hb4
      replace hB := btr hB hb4 (Nat.le_refl _)
      clear hb4
      have c10 := cell_blk (i := 0) b1
      simp only [List.getElem?_toArray, List.getElem?_cons_zero] at c10
      by_cases hl : (tab.length : Int) = m
      · rw [if_neg (by simpa using hl)]
        have hlb : ((tab.length : Int) != (m : Int)) = false := by simpa using hl
        have HL := Lib.hid hl
        clear hl
        refine wp_seq_k (fun K hK => ?_)
        have HK := Lib.hid hK; clear hK
        go_wp2
        refine HK.out _ _ ?_; clear HK K
        obtain ⟨R0, hR0⟩ : ∃ R0 : Int, R0 = if (tab.any fun x => !btw 0 x 1000000000) = true then 2 else if (ws.any (lateB num den tab)) = true then 11 else 0 := ⟨_, rfl⟩
        rw [← hR0]
        have HR0 := Lib.hid hR0
        clear hR0 hlb c10
        refine wp_seq_k (fun K hK => ?_)
        have HK := Lib.hid hK; clear hK
        go_wp2
        go_loopw [8] (fun i wr => ∃ k : Nat, i = .int .i64 k ∧ k ≤ tab.length ∧ ((tab.take k).any fun x => !btw 0 x 1000000000) = false ∧ wr.heap[w.heap.size]? = some (.cells #[.int .i64 m, .slice ad ws.length cap] 31 (0, 0)) ∧ wr.heap[w.heap.size + 1]? = some (.cells #[.int .i64 num, .int .i64 den] 36 (0, 0)) ∧ Below w.heap.size w wr) (fun i _ => tab.length - (intOf i).toNat)
        case atStart => exact ⟨0, rfl, Nat.zero_le _, rfl, b1, b2, hB⟩
        case round =>
          clear b1 b2 hB
          obtain ⟨k, rfl, hk, hno, b1, b2, hB⟩ := hrel
          by_cases hkl : k < tab.length
          · have htk : ((tab.take (k + 1)).any fun x => !btw 0 x 1000000000) = (((tab.take k).any fun x => !btw 0 x 1000000000) || !btw 0 (at0 tab k) 1000000000) := by
              rw [List.take_succ_eq_append_getElem hkl, List.any_append, at0_lt hkl]; simp
            have hmem : btw 0 (at0 tab k) 1000000000 = false → R0 = 2 := fun h => by
              rw [HR0.out, if_pos]
              rw [List.any_eq_true]
              exact ⟨at0 tab k, by rw [at0_lt hkl]; exact List.getElem_mem hkl, by rw [h]; rfl⟩
            rw [hno, Bool.false_or] at htk
            have HTK := Lib.hid (And.intro htk hmem)
            clear htk hmem hno
            obtain ⟨a2, c2, ha2, -, -, hcc⟩ := HV.out.2
            obtain ⟨bc, oc, rfl, hlc, hcell⟩ := hcc (by omega)
            injection ha2 with ha3 ha4 ha5
            subst ha3
            have d0 := (hB.cell (p := ⟨bc, oc + k, none⟩) hlc).trans (hcell k hkl)
            have hki : (k : Int) < (tab.length : Int) := by omega
            obtain ⟨q1, hq1⟩ : ∃ q, q = btw 0 (at0 tab k) 1000000000 := ⟨_, rfl⟩
            have h61 := is_any (at0 tab k) 0 1000000000 wr
            rw [← hq1] at h61 HTK
            have H61 := Lib.hid h61
            clear hcell hcc ha4 ha5 hq1 h61
            generalize at0 tab k = x at *
            cases q1
            · have hR2 := HTK.out.2 rfl
              clear HR0 HTK
              subst hR2
              go_wp2_with (go_at_call 61; refine H61.out.mono ?_; rintro e w3 ⟨rfl, hw3⟩; subst hw3)
              go_ret
              exact ⟨rfl, hB⟩
            · have hnx := HTK.out.1
              have HNX := Lib.hid hnx
              clear hnx HTK
              go_wp2_with (go_at_call 61; refine H61.out.mono ?_; rintro e w3 ⟨rfl, hw3⟩; subst hw3)
              go_roundw
              case rel => exact ⟨k + 1, by go_num, by omega, by rw [HNX.out]; rfl, b1, b2, hB⟩
              case measure => simp [intOf]; omega
          · have hke : k = tab.length := by omega
            rw [hke, List.take_length] at hno
            have hR1 : R0 = if (ws.any (lateB num den tab)) = true then 11 else 0 := by rw [HR0.out, hno]; simp
            have HR := Lib.hid hR1
            have hbig : ∀ x ∈ tab, 0 ≤ x ∧ x ≤ 1000000000 := fun x hx => by
              have h := List.any_eq_false.1 hno x hx
              have h2 : btw 0 x 1000000000 = true := by simpa using h
              exact btw_true.1 h2
            have HBIG := Lib.hid hbig
            clear hbig hR1 hno hke HR0
            go_wp2
            refine HK.out _ _ ?_; clear HK
            go_wp2_with (refine wp_seq_k (fun K hK => ?_); fail)
            go_loopw [9] (fun i wr => ∃ k : Nat, i = .int .i64 k ∧ k ≤ ws.length ∧ (ws.take k).any (lateB num den tab) = false ∧ wr.heap[w.heap.size]? = some (.cells #[.int .i64 m, .slice ad ws.length cap] 31 (0, 0)) ∧ wr.heap[w.heap.size + 1]? = some (.cells #[.int .i64 num, .int .i64 den] 36 (0, 0)) ∧ Below w.heap.size w wr) (fun i _ => ws.length - (intOf i).toNat)
            case atStart => exact ⟨0, rfl, Nat.zero_le _, rfl, b1, b2, hB⟩
            case round =>
              clear b1 b2 hB
              obtain ⟨k, rfl, hk, hno, b1, b2, hB⟩ := hrel
              have e1 := cell_blk (i := 1) b1
              simp only [List.getElem?_toArray, List.getElem?_cons_zero, List.getElem?_cons_succ] at e1
              by_cases hkl : k < ws.length
              · have hva := hV.ok k hkl
                have hlen := hV.len
                have htk : (ws.take (k + 1)).any (lateB num den tab) = ((ws.take k).any (lateB num den tab) || lateB num den tab (at_ ws k)) := by
                  rw [List.take_succ_eq_append_getElem hkl, List.any_append, at_lt hkl]; simp
                have hmem : lateB num den tab (at_ ws k) = true → R0 = 11 := fun h => by
                  rw [HR.out, if_pos]
                  rw [List.any_eq_true]
                  exact ⟨at_ ws k, by rw [at_lt hkl]; exact List.getElem_mem hkl, h⟩
                have HTK := Lib.hid (And.intro htk (And.intro hmem hno))
                clear htk hmem hno
                obtain ⟨aw, cw, hw, -, -, hww⟩ := HV.out.1
                obtain ⟨bw, ow, rfl, hlw, hcw⟩ := hww (by omega)
                injection hw with hw1 hw2 hw3
                subst hw1
                obtain ⟨q0, q1, q2, q3, q4⟩ := a_cells hcw (n := k) hkl rfl
                have r0 := (hB.cell (p := ⟨bw, ow + k * 5, none⟩) hlw).trans q0
                have r1 := (hB.cell (p := ⟨bw, ow + k * 5 + 1, none⟩) hlw).trans q1
                have r2 := (hB.cell (p := ⟨bw, ow + k * 5 + 2, none⟩) hlw).trans q2
                have r3 := (hB.cell (p := ⟨bw, ow + k * 5 + 3, none⟩) hlw).trans q3
                have r4 := (hB.cell (p := ⟨bw, ow + k * 5 + 4, none⟩) hlw).trans q4
                clear hcw q0 q1 q2 q3 q4 hww hw2 hw3
                generalize at_ ws k = x at *
                obtain ⟨x0, x1, x2, x3, x4⟩ := x
                simp only at r0 r1 r2 r3 r4 hva
                obtain ⟨⟨f0, f1⟩, ⟨t0, t1⟩, ⟨l0, l1⟩, l2, ⟨bk0, bk1⟩⟩ := hva
                obtain ⟨fn, rfl⟩ := Int.eq_ofNat_of_zero_le f0
                obtain ⟨tn, rfl⟩ := Int.eq_ofNat_of_zero_le t0
                have htl := HL.out
                obtain ⟨a2, c2, ha2, -, -, hcc⟩ := HV.out.2
                obtain ⟨bc, oc, rfl, hlc, hcell⟩ := hcc (by omega)
                injection ha2 with ha3 ha4 ha5
                subst ha3
                have d0 := (hB.cell (p := ⟨bc, oc + fn, none⟩) hlc).trans (hcell fn (by omega))
                have d1 := (hB.cell (p := ⟨bc, oc + tn, none⟩) hlc).trans (hcell tn (by omega))
                have y0 := HBIG.out (at0 tab fn) (by rw [at0_lt (by omega : fn < tab.length)]; exact List.getElem_mem _)
                have y1 := HBIG.out (at0 tab tn) (by rw [at0_lt (by omega : tn < tab.length)]; exact List.getElem_mem _)
                have hlat : lateB num den tab ⟨fn, tn, x2, x3, x4⟩ = decide (at0 tab tn < at0 tab fn + x3 * den - x4 * num) := rfl
                clear hcell hcc ha4 ha5
                have zz0 : fn < tab.length := by omega
                have zz1 : tn < tab.length := by omega
                have zi0 : (fn : Int) < (tab.length : Int) := by omega
                have zi1 : (tn : Int) < (tab.length : Int) := by omega
                have hki : (k : Int) < (ws.length : Int) := by omega
                clear htl
                generalize hyf : at0 tab fn = yf at *
                generalize hyt : at0 tab tn = yt at *
                clear hyf hyt
                have p1 : 0 ≤ x3 * den := Int.mul_nonneg (by omega) (by omega)
                have p2 : x3 * den ≤ 10000 * 1000 := Int.mul_le_mul l2 g4 (by omega) (by omega)
                have p3 : 0 ≤ x4 * num := Int.mul_nonneg bk0 g1
                have p4 : x4 * num ≤ 4 * 1000000000 := Int.mul_le_mul bk1 g2 g1 (by omega)
                have s1 : IntKind.i64.wrap (x3 * den) = x3 * den := by rw [IntKind.wrap_i64]; omega
                have s2 : IntKind.i64.wrap (yf + x3 * den) = yf + x3 * den := by rw [IntKind.wrap_i64]; omega
                have s3 : IntKind.i64.wrap (x4 * num) = x4 * num := by rw [IntKind.wrap_i64]; omega
                have s4 : IntKind.i64.wrap (yf + x3 * den - x4 * num) = yf + x3 * den - x4 * num := by rw [IntKind.wrap_i64]; omega
                have h67 := fun W => after_any fn tn x2 x3 x4 num den yf W s1 s3 s2 s4
                have H67 := Lib.hid h67
                have HLAT := Lib.hid hlat
                have hlt : bw < wr.heap.size := Nat.lt_of_lt_of_le hlw hB.size
                have hlt2 : bc < wr.heap.size := Nat.lt_of_lt_of_le hlc hB.size
                clear p1 p2 p3 p4 hlat y0 y1 s1 s2 s3 s4 h67
                generalize hnn : yf + x3 * den - x4 * num = nn at *
                clear hnn
                have hE : Below wr.heap.size wr (wr.alloc (Obj.cells #[.int .i64 fn, .int .i64 tn, .int .i64 x2, .int .i64 x3, .int .i64 x4] 91)) := (Below.refl _ _).alloc (Nat.le_refl _) _
                have hB2 := btr hB hE (Nat.le_refl _)
                have b10 : (wr.alloc (Obj.cells #[.int .i64 fn, .int .i64 tn, .int .i64 x2, .int .i64 x3, .int .i64 x4] 91)).heap[wr.heap.size]? = _ := heap_newI rfl
                have b12 := blk_keep b1 hE
                have b22 := blk_keep b2 hE
                have d0E := (hE.cell (p := ⟨bc, oc + fn, none⟩) hlt2).trans d0
                have d1E := (hE.cell (p := ⟨bc, oc + tn, none⟩) hlt2).trans d1
                have g0 := cell_blk (i := 0) b10
                have g1 := cell_blk (i := 1) b10
                simp only [List.getElem?_toArray, List.getElem?_cons_zero, List.getElem?_cons_succ] at g0 g1
                have D0 := ab_cellR d0E
                have D1 := ab_cellR d1E
                have G0 := ab_cellR g0
                have G1 := ab_cellR g1
                have HE2 := Lib.hid (And.intro hB2 (And.intro b12 (And.intro b22 b10)))
                by_cases hlate : yt < nn
                · have hRv : R0 = 11 := HTK.out.2.1 (by rw [HLAT.out]; simpa using hlate)
                  subst hRv
                  clear HR
                  go_wp2
                  generalize hwE : World.alloc wr _ = wE at *
                  clear hwE
                  refine wp_region_ab wE.heap.size wE (by kernel_rfl) (by kernel_rfl) (Below.refl _ _) ?_
                  have B2 : ∀ W, AbC wE.heap.size wE W → W.heap[w.heap.size + 1]? = _ := fun W ⟨X, hX⟩ => hX ▸ blk_keep HE2.out.2.2.1 X.ok
                  have B10 : ∀ W, AbC wE.heap.size wE W → W.heap[wr.heap.size]? = _ := fun W ⟨X, hX⟩ => hX ▸ blk_keep HE2.out.2.2.2 X.ok
                  unfold AbC
                  repeat (first | (refine wpQuiet_load_blk rfl 91 _ rfl _ rfl B10 Try.underlying91 rfl size91 rfl ?_; simp only [Act.put, List.setIfInBounds_toArray, List.set_cons_succ, List.set_cons_zero]) | (refine wpQuiet_load_blk rfl 36 _ rfl _ rfl B2 Try.underlying36 rfl size36 rfl ?_; simp only [Act.put, List.setIfInBounds_toArray, List.set_cons_succ, List.set_cons_zero]) | go_big_quiet_step (first | (go_at_call 67; exact Calls.ab _ (Nat.le_refl _) (H67.out _))))
                  refine wpQuiet_nil ?_
                  rintro W' ⟨X0, rfl⟩
                  have hX := X0.ok
                  go_wp2
                  go_ret
                  exact ⟨rfl, btr HE2.out.1 hX (Nat.le_refl _)⟩
                · have hnx : (ws.take (k + 1)).any (lateB num den tab) = false := by rw [HTK.out.1, HTK.out.2.2, HLAT.out]; simpa using hlate
                  have HNX := Lib.hid hnx
                  clear hnx
                  go_wp2
                  generalize hwE : World.alloc wr _ = wE at *
                  clear hwE
                  refine wp_region_ab wE.heap.size wE (by kernel_rfl) (by kernel_rfl) (Below.refl _ _) ?_
                  have B2 : ∀ W, AbC wE.heap.size wE W → W.heap[w.heap.size + 1]? = _ := fun W ⟨X, hX⟩ => hX ▸ blk_keep HE2.out.2.2.1 X.ok
                  have B10 : ∀ W, AbC wE.heap.size wE W → W.heap[wr.heap.size]? = _ := fun W ⟨X, hX⟩ => hX ▸ blk_keep HE2.out.2.2.2 X.ok
                  unfold AbC
                  repeat (first | (refine wpQuiet_load_blk rfl 91 _ rfl _ rfl B10 Try.underlying91 rfl size91 rfl ?_; simp only [Act.put, List.setIfInBounds_toArray, List.set_cons_succ, List.set_cons_zero]) | (refine wpQuiet_load_blk rfl 36 _ rfl _ rfl B2 Try.underlying36 rfl size36 rfl ?_; simp only [Act.put, List.setIfInBounds_toArray, List.set_cons_succ, List.set_cons_zero]) | go_big_quiet_step (first | (go_at_call 67; exact Calls.ab _ (Nat.le_refl _) (H67.out _))))
                  refine wpQuiet_nil ?_
                  rintro W' ⟨X0, rfl⟩
                  have hX := X0.ok
                  go_wp2
                  go_roundw
                  case rel => exact ⟨k + 1, by go_num, by omega, HNX.out, blk_keep HE2.out.2.1 hX, blk_keep HE2.out.2.2.1 hX, btr HE2.out.1 hX (Nat.le_refl _)⟩
                  case measure => simp [intOf]; omega
              · have hke : k = ws.length := by omega
                have hki : ¬ ((k : Int) < (ws.length : Int)) := by omega
                have hRv : R0 = 0 := by
                  rw [HR.out, if_neg]
                  rw [hke, List.take_length] at hno
                  rw [hno]; simp
                subst hRv
                clear HR hno hke
                go_wp2
                go_ret
                exact ⟨rfl, hB⟩
      · rw [if_pos hl]
        have hlb : ((tab.length : Int) != (m : Int)) = true := by simpa using hl
        clear hl
        go_wp2
        go_ret
        exact ⟨rfl, hB⟩
  · have hne : (E != 0) = true := by simpa using h0
    have H23 := Lib.hid h23
    rw [if_pos h0]
    clear h23 h0
    go_wp2_with (first | (refine wpList_load_blk rfl 31 _ rfl _ rfl b1 Try.underlying31 rfl size31 rfl ?_) | (go_at_call 23; refine H23.out.mono ?_; rintro e w2 ⟨rfl, hb2⟩; have hB2 := btr hB hb2 (Nat.le_refl _)))
    go_ret
    exact ⟨rfl, hB2⟩
end Yteileadcmekkoaa
end Go.Proofs
