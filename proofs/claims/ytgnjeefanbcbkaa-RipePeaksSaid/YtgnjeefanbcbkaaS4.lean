/- Fields: the reference's Peaks. -/
import Derived.Test.YtgnjeefanbcbkaaS3
import Derived.Test.YtgnjeefanbcbkaaB10
open Go Go.RowKit Go.YtgnjeefanbcbkaaIt
namespace Go.Proofs
namespace Ytgnjeefanbcbkaa
theorem wpQuiet_val {P : Program} {ops : Array Oper} {C : World → Prop} {Q : Act → Prop} {a : Act} {o : Oper} {rest : List Oper} (v : Value) (hw : Region.wanted o (yielded ops a.tmps) = true)
    (hr : ∀ W, (execOp a.eval o).run P W = .ok (.value v) W) (h : wpQuiet P ops C Q rest (a.put o.dst v)) : wpQuiet P ops C Q (o :: rest) a := by
  refine wpQuiet_step fun K hK => ?_
  rw [if_pos hw]
  refine ⟨_, fun W hW => ?_, hK _ h⟩
  unfold Oper.quietAt
  rw [hr]
  exact ⟨rfl, rfl⟩
theorem wpQuiet_max {P : Program} {ops : Array Oper} {C : World → Prop} {Q : Act → Prop} {a : Act} {o : Oper} {rest : List Oper} (hw : Region.wanted o (yielded ops a.tmps) = true) (x y : Operand) (ats : Array TypeId)
    (ho : o.op = .call { callee := .builtin .max, args := #[x, y], argTypes := ats }) {k : IntKind} {m n : Int} (hx : a.eval x = .int k m) (hy : a.eval y = .int k n)
    (h : wpQuiet P ops C Q rest (a.put o.dst (.int k (max m n)))) : wpQuiet P ops C Q (o :: rest) a := by
  refine wpQuiet_val _ hw (fun w => ?_) h
  unfold execOp
  simp only [ho, resolve, invoke, builtin, Sem.run_bind, Sem.run_pure, Result.andThen_ok, List.map_toArray, List.map_cons, List.map_nil, hx, hy]
  have e : (if m < n then n else m) = max m n := by rw [Int.max_def]; split <;> split <;> omega
  simp [Builtin.max_, Builtin.max2, go_sem, e]
theorem wpQuiet_min {P : Program} {ops : Array Oper} {C : World → Prop} {Q : Act → Prop} {a : Act} {o : Oper} {rest : List Oper} (hw : Region.wanted o (yielded ops a.tmps) = true) (x y : Operand) (ats : Array TypeId)
    (ho : o.op = .call { callee := .builtin .min, args := #[x, y], argTypes := ats }) {k : IntKind} {m n : Int} (hx : a.eval x = .int k m) (hy : a.eval y = .int k n)
    (h : wpQuiet P ops C Q rest (a.put o.dst (.int k (min m n)))) : wpQuiet P ops C Q (o :: rest) a := by
  refine wpQuiet_val _ hw (fun w => ?_) h
  unfold execOp
  simp only [ho, resolve, invoke, builtin, Sem.run_bind, Sem.run_pure, Result.andThen_ok, List.map_toArray, List.map_cons, List.map_nil, hx, hy]
  have e : (if n < m then n else m) = min m n := by rw [Int.min_def]; split <;> split <;> omega
  simp [Builtin.min_, Builtin.min2, go_sem, e]
set_option maxRecDepth 100000 in
set_option maxHeartbeats 4000000 in
theorem at_any (y : Fr) (least : Int) (w : World) (hy : Big y) :
    Calls Try.prog 68 #[enc y, .int .i64 least] w fun e w' => e = .returned (.bool (!y.lt (whole (goalF least)))) ∧ Below w.heap.size w w' := by
  go_enter Try.func68, Try.ntmps68
  refine wp_seq_k (fun K hK => ?_)
  have HK := Lib.hid hK; clear hK
  go_wp2
  refine HK.out _ _ ?_; clear HK K
  generalize hw1 : World.alloc _ _ = w1
  obtain ⟨b2, hB, hs1⟩ := blk1 hw1
  clear hw1
  have h65 := fun (X : Ab w1.heap.size w1) => Calls.ab X (Nat.le_refl _) (rwhole_any (goalF least) X.val)
  have h64 := fun (X : Ab w1.heap.size w1) => Calls.ab X (Nat.le_refl _) (less_any y (whole (goalF least)) X.val hy (goal_big least))
  have hgd : min (max least (-1)) 30001 = goalF least := rfl
  have HGD := Lib.hid hgd
  clear hgd
  generalize y.lt (whole (goalF least)) = t at *
  generalize goalF least = g at *
  have H65 := Lib.hid h65
  have H64 := Lib.hid h64
  clear h65 h64
  refine wp_seq_k (fun K hK => ?_)
  have HK := Lib.hid hK; clear hK
  refine wp_region_ab w1.heap.size w1 (by kernel_rfl) (by kernel_rfl) (Below.refl _ _) ?_
  have B2 : ∀ W, AbC w1.heap.size w1 W → W.heap[w.heap.size]? = _ := fun W ⟨X, hX⟩ => hX ▸ blk_keep b2 X.ok
  unfold AbC
  repeat (first | (refine wpQuiet_max rfl (.tmp 6) (.const (.int .i64 (-1))) _ rfl rfl rfl ?_; simp only [Act.put, List.setIfInBounds_toArray, List.set_cons_succ, List.set_cons_zero]) | (refine wpQuiet_min rfl (.tmp 7) (.const (.int .i64 30001)) _ rfl rfl rfl ?_; rw [HGD.out]; simp only [Act.put, List.setIfInBounds_toArray, List.set_cons_succ, List.set_cons_zero]) | (refine wpQuiet_load_blk rfl 101 _ rfl _ rfl B2 Try.underlying101 rfl size101 rfl ?_; simp only [Act.put, List.setIfInBounds_toArray, List.set_cons_succ, List.set_cons_zero]) | go_big_quiet_step (first | (go_at_call 65; exact H65.out _) | (go_at_call 64; exact H64.out _)))
  refine wpQuiet_nil ?_
  rintro W' ⟨X0, rfl⟩
  have hX := X0.ok
  show K _ _
  refine HK.out _ _ ?_
  go_wp2
  go_ret
  exact ⟨rfl, btr hB hX (Nat.le_refl _)⟩
set_option maxRecDepth 100000 in
set_option maxHeartbeats 8000000 in
theorem rpeaks_any (n lo hi : Int) (v : Value) (ss : List Smp) (w : World) (hv : SlS w v ss) :
    Calls Try.prog 25 #[.agg #[.int .i64 n, .int .i64 lo, .int .i64 hi, v]] w fun e w' => ∃ p, e = .returned (.tuple #[p, .int .i64 (posE n lo hi ss)]) ∧ SlI w' p (peaksL n lo hi ss) ∧ Below w.heap.size w w' := by
  have HV := Lib.hid hv
  obtain ⟨ad, cap, rfl, -, -, -⟩ := hv
  obtain ⟨i3, hi3, hz1, hz2, hz3⟩ := info_parts info3
  have HI := Lib.hid (And.intro hi3 (And.intro hz1 (And.intro hz2 hz3)))
  clear hi3 hz1 hz2 hz3
  go_enter Try.func25, Try.ntmps25
  refine wp_seq_k (fun K hK => ?_)
  have HK := Lib.hid hK; clear hK
  go_wp2
  refine HK.out _ _ ?_; clear HK K
  generalize hw1 : World.alloc _ _ = w1
  obtain ⟨b1, hB, hs1⟩ := blk1 hw1
  clear hw1
  have h15 := rknown_any n lo hi _ ss w1 (HV.out.below hB (Nat.le_refl _))
  obtain ⟨E, hE⟩ : ∃ E, E = posE n lo hi ss := ⟨_, rfl⟩
  rw [← hE] at h15
  have HE := Lib.hid hE
  have H15 := Lib.hid h15
  clear hE h15
  by_cases h0 : E = 0
  · obtain ⟨m, rfl, hV, -⟩ := posE_zero (HE.out.symm.trans h0)
    subst h0
    have HVAL := Lib.hid hV
    have hn1 := hV.n1
    have hn30 := hV.n30
    have HB := Lib.hid hV.bds
    have hkl : peaksL m lo hi ss = chosenL (peakP (lowAt lo ss) (highAt hi ss) m) m := by unfold peaksL; rw [if_pos HE.out.symm]; rfl
    have HKL := Lib.hid hkl
    have h45 := fun W (hW : Below w.heap.size w W) => ends_any m lo hi (.slice ad ss.length cap) ss W HVAL.out (HV.out.below hW (Nat.le_refl _))
    have H45 := Lib.hid h45
    clear hkl hV h45 hs1
    refine wp_seq_k (fun K hK => ?_)
    have HK := Lib.hid hK; clear hK
    go_wp2_with (first | (refine wpList_load_blk rfl 35 _ rfl _ rfl b1 Try.underlying35 rfl size35 rfl ?_) | (go_at_call 15; refine H15.out.mono ?_; rintro e w2 ⟨p2, rfl, -, hb2⟩))
    refine HK.out _ _ ?_; clear HK K H15
    replace b1 := blk_keep b1 hb2
    replace hB := btr hB hb2 (Nat.le_refl _)
    have h45 := H45.out w2 hB
    clear H45
    refine wp_seq_k (fun K hK => ?_)
    have HK := Lib.hid hK; clear hK
    go_wp2
    refine HK.out _ _ ?_; clear HK K
    refine wp_seq_k (fun K hK => ?_)
    have HK := Lib.hid hK; clear hK
    go_wp2_with (first | (refine wpList_load_blk rfl 35 _ rfl _ rfl b1 Try.underlying35 rfl size35 rfl ?_) | (go_at_call 45; refine h45.mono ?_; rintro e w3 ⟨p, q, rfl, hp, hq, hb3⟩))
    refine HK.out _ _ ?_; clear HK K h45
    replace b1 := blk_keep b1 hb3
    replace hB := btr hB hb3 (Nat.le_refl _)
    have HP := Lib.hid hp
    have HQ := Lib.hid hq
    obtain ⟨bp, op, cp, rfl, hlp, hcp⟩ := slN_cells hp (by omega)
    have HCP := Lib.hid hcp
    have y0 := hcp 0 (by omega)
    rw [Nat.add_zero] at y0
    clear hp hq hb3 hb2 hcp
    have hm0 : (0 : Int) < (m : Int) := by omega
    have hm0' : 0 < m := hn1
    have c0 := cell_blk (i := 0) b1
    simp only [List.getElem?_toArray, List.getElem?_cons_zero] at c0
    go_wp2
    clear y0 c0
    go_loopw [8, 9] (fun z i wr => ∃ k : Nat, k < m ∧ z = .int .i64 (topF (lowAt lo ss) k) ∧ i = .int .i64 ((k + 1 : Nat) : Int) ∧ Below w3.heap.size w3 wr) (fun _ i _ => m - (intOf i).toNat)
    case atStart => exact ⟨0, hn1, rfl, rfl, Below.refl _ _⟩
    case round =>
      obtain ⟨k, hk, rfl, rfl, hBr⟩ := hrel
      have b1r := blk_keep b1 hBr
      have c0 := cell_blk (i := 0) b1r
      simp only [List.getElem?_toArray, List.getElem?_cons_zero] at c0
      by_cases hkn : k + 1 < m
      · have c1 := (hBr.cell (p := ⟨bp, op + (k + 1), none⟩) hlp).trans (HCP.out (k + 1) hkn)
        have hst : topF (lowAt lo ss) (k + 1) = max (topF (lowAt lo ss) k) (lowAt lo ss (k + 1)) := rfl
        have HST := Lib.hid hst
        clear hst
        generalize lowAt lo ss (k + 1) = x at *
        generalize topF (lowAt lo ss) k = m0 at *
        generalize hk1 : k + 1 = k1 at *
        have HK1 := Lib.hid hk1
        have hw1 : IntKind.i64.wrap ((k1 : Int) + 1) = ((k1 + 1 : Nat) : Int) := by rw [IntKind.wrap_i64]; omega
        have hki : (k1 : Int) < (m : Int) := by omega
        clear hk1
        go_wp2_with (refine wpList_max rfl _ _ _ rfl rfl rfl ?_)
        go_roundw
        case rel => exact ⟨k1, by omega, by rw [HST.out], by go_num, hBr⟩
        case measure => simp [intOf]; omega
      · have hke : k = m - 1 := by omega
        have hki : ¬ (((k + 1 : Nat) : Int) < (m : Int)) := by omega
        subst hke
        obtain ⟨wa, hwa⟩ : ∃ x, x = wr := ⟨_, rfl⟩
        subst hwa
        have htb := top_bd HB.out (show m - 1 < m by omega)
        have hpk : ∀ x, peakP (lowAt lo ss) (highAt hi ss) m x = !(upperF (lowAt lo ss) (highAt hi ss) m x).lt (whole (topF (lowAt lo ss) (m - 1))) := fun x => rfl
        generalize topF (lowAt lo ss) (m - 1) = T at *
        have hT : Big (whole T) := toBig (whole_bd htb)
        obtain ⟨pk, hpe⟩ : ∃ pk, pk = peakP (lowAt lo ss) (highAt hi ss) m := ⟨_, rfl⟩
        rw [← hpe] at hpk HKL
        have HPK := Lib.hid hpk
        have HPT := Lib.hid hT
        clear hpk hpe htb hT
        go_wp2
        clear c0
        go_loopw [10, 11] (fun q i w5 => ∃ k : Nat, k ≤ m ∧ i = .int .i64 k ∧ w5.ownsRow wa.heap.size 3 1 q (chosenL pk k).length ((chosenL pk k).map (.int .i64)) ∧ Below wa.heap.size wa w5) (fun _ i _ => m - (intOf i).toNat)
        case atStart => exact ⟨0, Nat.zero_le _, rfl, World.ownsRow_nil _ _ _ _, Below.refl _ _⟩
        case round =>
          obtain ⟨k, hk, rfl, ro, hB5⟩ := hrel
          have b15 := blk_keep b1r hB5
          have c5 := cell_blk (i := 0) b15
          simp only [List.getElem?_toArray, List.getElem?_cons_zero] at c5
          have hlen := chosen_len pk k
          have hcs := chosen_succ pk k
          have hend : Hid (k = m → chosenL pk m = chosenL pk k) := Lib.hid fun h => by rw [h]
          generalize chosenL pk k = l at *
          obtain ⟨aq, cq, rfl⟩ := form_of ro
          by_cases hkn : k < m
          · have hki : (k : Int) < (m : Int) := by omega
            have h50 := rupper_any HB.out hkn ((HP.out.below hBr (Nat.le_refl _)).below hB5 (Nat.le_refl _)) ((HQ.out.below hBr (Nat.le_refl _)).below hB5 (Nat.le_refl _))
            have hub := toBig (upper_bd HB.out hkn)
            have hpx := HPK.out k
            generalize upperF (lowAt lo ss) (highAt hi ss) m k = u at *
            have h65 := fun W => rwhole_any T W
            have h64 := fun W => less_any u (whole T) W hub HPT.out
            generalize u.lt (whole T) = tl at *
            rw [hpx] at hcs
            have HCS := Lib.hid hcs
            have H50 := Lib.hid h50
            have H65 := Lib.hid h65
            have H64 := Lib.hid h64
            have hq1 : IntKind.i64.wrap ((k : Int) + 1) = ((k + 1 : Nat) : Int) := by rw [IntKind.wrap_i64]; omega
            clear hcs hpx h50 h65 h64 hub
            cases tl
            · have hl : chosenL pk (k + 1) = l ++ [(k : Int)] := by rw [HCS.out]; simp
              have HL := Lib.hid hl
              clear hl HCS
              go_wp2_with (first | (go_at_call 50; refine H50.out.mono ?_; rintro e w6 ⟨rfl, hb6⟩; have hB6 := btr hB5 hb6 (Nat.le_refl _)) | (go_at_call 65; refine (H65.out _).mono ?_; rintro e w7 ⟨rfl, hb7⟩; have hB7 := btr hB6 hb7 (Nat.le_refl _)) | (go_at_call 64; refine (H64.out _).mono ?_; rintro e w8 ⟨rfl, hb8⟩; have hB8 := btr hB7 hb8 (Nat.le_refl _); have hbr := hb6.trans ((hb7.mono hb6.size).trans (hb8.mono (Nat.le_trans hb6.size hb7.size))); have ro8 := row_below ro hbr; have hz8 := hB8.size) |
                (at_builtin; refine wpList_append_own _ rfl _ _ 41 rfl wa.heap.size 3 i3 (.int .i64 0) 1 8 Try.underlying41 HI.out.1 HI.out.2.1 HI.out.2.2.1 HI.out.2.2.2 rfl (by decide) _ _ _ rfl (ro8.alloc _) ⟨w8.heap.size, 0, none⟩ 1 1 [.int .i64 (k : Int)] rfl rfl (cell_newL rfl) (by intro u hu; simp at hu; subst hu; rfl) (Nat.le_trans (by omega : l.length + 1 ≤ 200) (by decide)) (by omega) (by rw [World.size_alloc]; omega) ?_; intro v' w9 r1 r2 _))
              obtain ⟨hk7, hs7, ee1, ee2, ee3⟩ := append_same1 ro8 r2
              have hB9 : Below wa.heap.size wa w9 := ⟨ee1.trans hB8.os, ee2.trans hB8.tape, ee3.trans hB8.output, by omega, fun b hb => (hk7 b (by omega) (fun e => by have := (ro8.lt _ e).1; omega)).trans (hB8.block b hb)⟩
              have r11 : w9.ownsRow wa.heap.size 3 1 v' (chosenL pk (k + 1)).length ((chosenL pk (k + 1)).map (.int .i64)) := by
                rw [HL.out, List.length_append, List.map_append]; exact r1
              clear r1 r2 hk7 hs7 ee1 ee2 ee3 HL ro8 hB8 c5
              go_wp2
              go_roundw
              case rel => exact ⟨k + 1, by omega, by go_num, r11, hB9⟩
              case measure => simp [intOf]; omega
            · have hl : chosenL pk (k + 1) = l := by rw [HCS.out]; simp
              have HL := Lib.hid hl
              clear hl HCS
              go_wp2_with (first | (go_at_call 50; refine H50.out.mono ?_; rintro e w6 ⟨rfl, hb6⟩; have hB6 := btr hB5 hb6 (Nat.le_refl _)) | (go_at_call 65; refine (H65.out _).mono ?_; rintro e w7 ⟨rfl, hb7⟩; have hB7 := btr hB6 hb7 (Nat.le_refl _)) | (go_at_call 64; refine (H64.out _).mono ?_; rintro e w8 ⟨rfl, hb8⟩; have hB8 := btr hB7 hb8 (Nat.le_refl _); have hbr := hb6.trans ((hb7.mono hb6.size).trans (hb8.mono (Nat.le_trans hb6.size hb7.size))); have ro8 := row_below ro hbr))
              go_roundw
              case rel => exact ⟨k + 1, by omega, by go_num, by rw [HL.out]; exact ro8, hB8⟩
              case measure => simp [intOf]; omega
          · have hki : ¬ ((k : Int) < (m : Int)) := by omega
            have hso := slI_own ro (by simp) (by omega)
            have hll : peaksL m lo hi ss = l := by rw [HKL.out, hend.out (by omega)]
            have HLL := Lib.hid hll
            have HSO := Lib.hid hso
            clear hso hcs ro hll
            go_wp2
            go_ret2
            exact ⟨_, by rw [← HE.out]; rfl, by rw [HLL.out]; exact HSO.out, btr (btr hB hBr (Nat.le_refl _)) hB5 (Nat.le_refl _)⟩
  · have hne : (E != 0) = true := by simpa using h0
    have hkl : peaksL n lo hi ss = [] := by unfold peaksL; rw [if_neg (by rw [← HE.out]; exact h0)]
    have HKL := Lib.hid hkl
    clear hkl h0
    go_wp2_with (first | (refine wpList_load_blk rfl 35 _ rfl _ rfl b1 Try.underlying35 rfl size35 rfl ?_) | (go_at_call 15; refine H15.out.mono ?_; rintro e w2 ⟨p2, rfl, -, hb2⟩))
    go_ret2
    exact ⟨_, by rw [HE.out]; rfl, by rw [HKL.out]; exact slI_nil _, btr hB hb2 (Nat.le_refl _)⟩
end Ytgnjeefanbcbkaa
end Go.Proofs
