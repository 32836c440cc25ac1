/- For each work and period the law PanWorks returns true. -/
import Derived.Test.YteileadcmekkoaaRs
import Derived.Test.YteileadcmekkoaaGv
import Derived.Test.YteileadcmekkoaaQ25
open Go Go.RowKit Go.YteileadcmekkoaaIt
namespace Go.Proofs
namespace Yteileadcmekkoaa
def largeB (l : Nat) : Bool := (decide (16 < l) && decide (l ≤ 40)) || decide (80 < l)
theorem large_any (n : Int) (v : Value) (ws : List Wa) (w : World) (hv : SlA w v ws) :
    Calls Try.prog 15 #[.agg #[.int .i64 n, v]] w fun e w' => e = .returned (.bool (largeB ws.length)) ∧ Below w.heap.size w w' := by
  obtain ⟨ad, cap, rfl, -, -, -⟩ := hv
  obtain ⟨N, hN⟩ : ∃ N, N = ws.length := ⟨_, rfl⟩
  rw [← hN]
  clear hN
  have hB : ∀ o, Below w.heap.size w (w.alloc o) := fun o => (Below.refl _ _).alloc (Nat.le_refl _) o
  unfold largeB
  by_cases h1 : 16 < N
  · by_cases h2 : N ≤ 40
    · have h3 : (N : Int) > 16 := by omega
      have h4 : (N : Int) ≤ 40 := by omega
      go_enter Try.func15, Try.ntmps15
      go_wp2
      go_ret
      exact ⟨by simp [h1, h2], hB _⟩
    · have h3 : (N : Int) > 16 := by omega
      have h4 : ¬ (N : Int) ≤ 40 := by omega
      by_cases h5 : 80 < N
      · have h6 : (N : Int) > 80 := by omega
        go_enter Try.func15, Try.ntmps15
        go_wp2
        go_ret
        exact ⟨by simp [], hB _⟩
      · have h6 : ¬ (N : Int) > 80 := by omega
        go_enter Try.func15, Try.ntmps15
        go_wp2
        go_ret
        exact ⟨by simp [], hB _⟩
  · have h3 : ¬ (N : Int) > 16 := by omega
    have h6 : ¬ (N : Int) > 80 := by omega
    have h5 : ¬ 80 < N := by omega
    go_enter Try.func15, Try.ntmps15
    go_wp2
    go_ret
    exact ⟨by simp [], hB _⟩
theorem eqi36 (a1 a2 b1 b2 : Int) (W : World) : (Op.equalIn 10000 36 (.agg #[.int .i64 a1, .int .i64 a2]) (.agg #[.int .i64 b1, .int .i64 b2])).run Try.prog W = .ok (decide (a1 = b1 ∧ a2 = b2)) W := by
  rw [run_equalIn_agg W 9999 36 _ _ (by kernel_rfl) (by kernel_rfl)]
  simp [Program.fieldsOf, Try.underlying36, Op.eqFields, go_sem]
  by_cases h1 : a1 = b1 <;> by_cases h2 : a2 = b2 <;> simp [h1, h2]
theorem wpQuiet_val {P : Program} {ops : Array Oper} {C : World → Prop} {Q : Act → Prop} {a : Act} {o : Oper} {rest : List Oper} (v : Value) (hw : Region.wanted o (yielded ops a.tmps) = true)
    (hr : ∀ W, (execOp a.eval o).run P W = .ok (.value v) W) (h : wpQuiet P ops C Q rest (a.put o.dst v)) : wpQuiet P ops C Q (o :: rest) a := by
  refine wpQuiet_step fun K hK => ?_
  rw [if_pos hw]
  refine ⟨_, fun W hW => ?_, hK _ h⟩
  unfold Oper.quietAt
  rw [hr]
  exact ⟨rfl, rfl⟩
theorem exec_eql36 {o : Oper} {a : Act} {x y : Operand} {A D : Int} (ho : o.op = .binOp .eql 36 x y 36) (hx : a.eval x = .agg #[.int .i64 A, .int .i64 D]) (hy : a.eval y = .agg #[.int .i64 A, .int .i64 D]) (W : World) :
    (execOp a.eval o).run Try.prog W = .ok (.value (.bool true)) W := by
  have h1 := eqi36 A D A D W
  have h2 : Try.prog.eqGuardType Try.prog.depth 36 = false := by kernel_rfl
  unfold execOp
  simp only [ho, hx, hy, Sem.run_bind, run_eqGuard_agg W .eql 36 x y _ _ h2, Result.andThen_ok, run_eql_struct, h1, Sem.run_pure, decide_true, and_self]
set_option maxRecDepth 100000 in
set_option maxHeartbeats 8000000 in
theorem panworks_any (n num den : Int) (v : Value) (ws : List Wa) (w : World) (hv : SlA w v ws) :
    Calls Try.prog 3 #[.agg #[.int .i64 n, v], .agg #[.int .i64 num, .int .i64 den]] w fun e w' => e = .returned (.bool true) ∧ Below w.heap.size w w' := by
  have HV := Lib.hid hv
  obtain ⟨ad, cap, rfl, -, -, -⟩ := hv
  go_enter Try.func3, Try.ntmps3
  refine wp_seq_k (fun K hK => ?_)
  have HK := Lib.hid hK; clear hK
  go_wp2
  refine HK.out _ _ ?_; clear HK K
  generalize hw1 : World.alloc _ _ = w1
  obtain ⟨b2, b3, B, hs1⟩ := blk2 hw1
  clear hw1
  replace HV := Lib.hid (HV.out.below B (Nat.le_refl _))
  have h15 := large_any n _ ws w1 HV.out
  obtain ⟨lg, hlg⟩ : ∃ lg, lg = largeB ws.length := ⟨_, rfl⟩
  rw [← hlg] at h15
  have HLG := Lib.hid hlg
  have H15 := Lib.hid h15
  clear hlg h15
  cases lg
  · refine wp_seq_k (fun K hK => ?_)
    have HK := Lib.hid hK; clear hK
    go_wp2_with (first | (refine wpList_load_blk rfl 24 _ rfl _ rfl b2 Try.underlying24 rfl size24 rfl ?_) | (go_at_call 15; refine H15.out.mono ?_; rintro e w2 ⟨rfl, hb⟩))
    refine HK.out _ _ ?_; clear HK K H15
    have hl80 : ws.length ≤ 100 := by
      have h := HLG.out
      unfold largeB at h
      simp at h
      omega
    replace b2 := blk_keep b2 hb
    replace b3 := blk_keep b3 hb
    replace HV := Lib.hid (HV.out.below hb (Nat.le_refl _))
    replace B := btr B hb (Nat.le_refl _)
    clear hb HLG
    refine wp_seq_k (fun K hK => ?_)
    have HK := Lib.hid hK; clear hK
    go_wp2_with (first | (refine wpList_load_blk rfl 24 _ rfl _ rfl b2 Try.underlying24 rfl size24 rfl ?_) | (go_at_call 17; refine (given_any _ _ ws _ HV.out hl80).mono ?_; rintro e w3 ⟨⟨v3, rfl, hv3⟩, hb⟩; obtain ⟨ag, cg, hvg, -, -, -⟩ := id hv3; subst hvg))
    refine HK.out _ _ ?_; clear HK K
    replace b2 := blk_keep b2 hb
    replace b3 := blk_keep b3 hb
    replace HV := Lib.hid (HV.out.below hb (Nat.le_refl _))
    replace B := btr B hb (Nat.le_refl _)
    have HX := Lib.hid hv3
    clear hb hv3
    generalize hwn : World.alloc _ _ = wn
    obtain ⟨b5, hBn, hsn⟩ := blk1 hwn
    clear hwn
    replace b2 := blk_keep b2 hBn
    replace b3 := blk_keep b3 hBn
    replace HV := Lib.hid (HV.out.below hBn (Nat.le_refl _))
    replace HX := Lib.hid (HX.out.below hBn (Nat.le_refl _))
    replace B := btr B hBn (Nat.le_refl _)
    clear hBn hsn
    generalize w3.heap.size = g5 at *
    obtain ⟨A, hA⟩ : ∃ A, A = pnum n ws := ⟨_, rfl⟩
    obtain ⟨D, hD⟩ : ∃ D, D = pden n ws := ⟨_, rfl⟩
    obtain ⟨E, hE⟩ : ∃ E, E = chkE n ws := ⟨_, rfl⟩
    obtain ⟨M, hM⟩ : ∃ M, M = keptB n ws num den := ⟨_, rfl⟩
    obtain ⟨L, hL⟩ : ∃ L, L = keptE n ws num den := ⟨_, rfl⟩
    have h18 := fun W h => pace_any n (.slice ad ws.length cap) ws W h
    have h19 := fun W h => rpace_any n (.slice ag ws.length cg) ws W h
    have h20 := fun W h => kept_any n (.slice ad ws.length cap) ws num den W h
    have h21 := fun W h => rkept_any n (.slice ag ws.length cg) ws num den W h
    have h22 := fun W h => check_any n (.slice ad ws.length cap) ws W h
    have h23 := fun W h => rcheck_any n (.slice ag ws.length cg) ws W h
    rw [← hA, ← hD, ← hE] at h18 h19
    rw [← hM, ← hL] at h20 h21
    rw [← hE] at h22 h23
    have HC := Lib.hid (And.intro h18 (And.intro h19 (And.intro h20 (And.intro h21 (And.intro h22 h23)))))
    clear h18 h19 h20 h21 h22 h23 hA hD hE hM hL
    refine wp_seq_k (fun K hK => ?_)
    have HK := Lib.hid hK; clear hK
    go_wp2_with (first | (refine wpList_load_blk rfl 24 _ rfl _ rfl b2 Try.underlying24 rfl size24 rfl ?_) | (go_at_call 18; refine (HC.out.1 _ HV.out).mono ?_; rintro e w4 ⟨rfl, hb⟩))
    refine HK.out _ _ ?_; clear HK K
    replace b2 := blk_keep b2 hb
    replace b3 := blk_keep b3 hb
    replace b5 := blk_keep b5 hb
    replace HV := Lib.hid (HV.out.below hb (Nat.le_refl _))
    replace HX := Lib.hid (HX.out.below hb (Nat.le_refl _))
    replace B := btr B hb (Nat.le_refl _)
    clear hb
    generalize hwn : World.alloc _ _ = wn
    obtain ⟨b6, hBn, hsn⟩ := blk1 hwn
    clear hwn
    replace b2 := blk_keep b2 hBn
    replace b3 := blk_keep b3 hBn
    replace b5 := blk_keep b5 hBn
    replace HV := Lib.hid (HV.out.below hBn (Nat.le_refl _))
    replace HX := Lib.hid (HX.out.below hBn (Nat.le_refl _))
    replace B := btr B hBn (Nat.le_refl _)
    clear hBn hsn
    generalize w4.heap.size = g6 at *
    refine wp_seq_k (fun K hK => ?_)
    have HK := Lib.hid hK; clear hK
    go_wp2_with (first | (refine wpList_load_blk rfl 31 _ rfl _ rfl b5 Try.underlying31 rfl size31 rfl ?_) | (go_at_call 19; refine (HC.out.2.1 _ HX.out).mono ?_; rintro e w5 ⟨rfl, hb⟩))
    refine HK.out _ _ ?_; clear HK K
    replace b2 := blk_keep b2 hb
    replace b3 := blk_keep b3 hb
    replace b5 := blk_keep b5 hb
    replace b6 := blk_keep b6 hb
    replace HV := Lib.hid (HV.out.below hb (Nat.le_refl _))
    replace HX := Lib.hid (HX.out.below hb (Nat.le_refl _))
    replace B := btr B hb (Nat.le_refl _)
    clear hb
    generalize hwn : World.alloc _ _ = wn
    obtain ⟨b8, hBn, hsn⟩ := blk1 hwn
    clear hwn
    replace b2 := blk_keep b2 hBn
    replace b3 := blk_keep b3 hBn
    replace b5 := blk_keep b5 hBn
    replace b6 := blk_keep b6 hBn
    replace HV := Lib.hid (HV.out.below hBn (Nat.le_refl _))
    replace HX := Lib.hid (HX.out.below hBn (Nat.le_refl _))
    replace B := btr B hBn (Nat.le_refl _)
    clear hBn hsn
    generalize w5.heap.size = g8 at *
    refine wp_seq_k (fun K hK => ?_)
    have HK := Lib.hid hK; clear hK
    go_wp2_with (first | (refine wpList_load_blk rfl 24 _ rfl _ rfl b2 Try.underlying24 rfl size24 rfl ?_) | (refine wpList_load_blk rfl 26 _ rfl _ rfl b3 Try.underlying26 rfl size26 rfl ?_) | (go_at_call 20; refine (HC.out.2.2.1 _ HV.out).mono ?_; rintro e w6 ⟨rfl, hb⟩))
    refine HK.out _ _ ?_; clear HK K
    replace b2 := blk_keep b2 hb
    replace b3 := blk_keep b3 hb
    replace b5 := blk_keep b5 hb
    replace b6 := blk_keep b6 hb
    replace b8 := blk_keep b8 hb
    replace HV := Lib.hid (HV.out.below hb (Nat.le_refl _))
    replace HX := Lib.hid (HX.out.below hb (Nat.le_refl _))
    replace B := btr B hb (Nat.le_refl _)
    clear hb
    refine wp_seq_k (fun K hK => ?_)
    have HK := Lib.hid hK; clear hK
    go_wp2_with (first | (refine wpList_load_blk rfl 31 _ rfl _ rfl b5 Try.underlying31 rfl size31 rfl ?_) | (refine wpList_load_blk rfl 26 _ rfl _ rfl b3 Try.underlying26 rfl size26 rfl ?_) | (go_at_call 21; refine (HC.out.2.2.2.1 _ HX.out).mono ?_; rintro e w7 ⟨rfl, hb⟩))
    refine HK.out _ _ ?_; clear HK K
    replace b2 := blk_keep b2 hb
    replace b3 := blk_keep b3 hb
    replace b5 := blk_keep b5 hb
    replace b6 := blk_keep b6 hb
    replace b8 := blk_keep b8 hb
    replace HV := Lib.hid (HV.out.below hb (Nat.le_refl _))
    replace HX := Lib.hid (HX.out.below hb (Nat.le_refl _))
    replace B := btr B hb (Nat.le_refl _)
    clear hb
    go_wp2
    refine wp_region_ab w7.heap.size w7 (by kernel_rfl) (by kernel_rfl) (Below.refl _ _) ?_
    have hE22 := fun (X : Ab w7.heap.size w7) => HC.out.2.2.2.2.1 X.val (HV.out.below X.ok (Nat.le_refl _))
    have hE23 := fun (X : Ab w7.heap.size w7) => HC.out.2.2.2.2.2 X.val (HX.out.below X.ok (Nat.le_refl _))
    have B2 : ∀ W, AbC w7.heap.size w7 W → W.heap[w.heap.size]? = _ := fun W ⟨X, hX⟩ => hX ▸ blk_keep b2 X.ok
    have B5 : ∀ W, AbC w7.heap.size w7 W → W.heap[g5]? = _ := fun W ⟨X, hX⟩ => hX ▸ blk_keep b5 X.ok
    have B6 : ∀ W, AbC w7.heap.size w7 W → W.heap[g6]? = _ := fun W ⟨X, hX⟩ => hX ▸ blk_keep b6 X.ok
    have B8 : ∀ W, AbC w7.heap.size w7 W → W.heap[g8]? = _ := fun W ⟨X, hX⟩ => hX ▸ blk_keep b8 X.ok
    have HE22 := Lib.hid hE22
    have HE23 := Lib.hid hE23
    clear hE22 hE23
    refine wpQuiet_load_blk rfl 26 _ rfl _ rfl B6 Try.underlying26 rfl size26 rfl ?_
    simp only [Act.put, List.setIfInBounds_toArray, List.set_cons_succ, List.set_cons_zero]
    refine wpQuiet_load_blk rfl 36 _ rfl _ rfl B8 Try.underlying36 rfl size36 rfl ?_
    simp only [Act.put, List.setIfInBounds_toArray, List.set_cons_succ, List.set_cons_zero]
    refine wpQuiet_val (.bool true) rfl (exec_eql36 (x := .tmp 41) (y := .tmp 42) (A := (A : Int)) (D := (D : Int)) rfl rfl rfl) ?_
    simp only [Act.put, List.setIfInBounds_toArray, List.set_cons_succ, List.set_cons_zero]
    unfold AbC
    repeat (first | (refine wpQuiet_load_blk rfl 24 _ rfl _ rfl B2 Try.underlying24 rfl size24 rfl ?_; simp only [Act.put, List.setIfInBounds_toArray, List.set_cons_succ, List.set_cons_zero]) | (refine wpQuiet_load_blk rfl 31 _ rfl _ rfl B5 Try.underlying31 rfl size31 rfl ?_; simp only [Act.put, List.setIfInBounds_toArray, List.set_cons_succ, List.set_cons_zero]) | go_big_quiet_step (first | (go_at_call 22; exact Calls.ab _ (Nat.le_refl _) (HE22.out _)) | (go_at_call 23; exact Calls.ab _ (Nat.le_refl _) (HE23.out _)) | (go_at_call 16; exact Calls.ab _ (Nat.le_refl _) (works_any _))))
    refine wpQuiet_nil ?_
    rintro W' ⟨X0, rfl⟩
    have hX := X0.ok
    go_wp2
    go_ret
    exact ⟨rfl, btr B hX (Nat.le_refl _)⟩
  · go_wp2_with (first | (refine wpList_load_blk rfl 24 _ rfl _ rfl b2 Try.underlying24 rfl size24 rfl ?_) | (go_at_call 15; refine H15.out.mono ?_; rintro e w2 ⟨rfl, hb⟩) | (go_at_call 16; refine (works_any _).mono ?_; rintro e w9 ⟨rfl, hb9⟩))
    go_ret
    exact ⟨rfl, btr (btr B hb (Nat.le_refl _)) hb9 (Nat.le_refl _)⟩
end Yteileadcmekkoaa
end Go.Proofs
