/- For each work and list the law PanHolds returns true. -/
import Derived.Test.YteileadcmekkoaaRh
import Derived.Test.YteileadcmekkoaaLawWk
open Go Go.RowKit Go.YteileadcmekkoaaIt
namespace Go.Proofs
namespace Yteileadcmekkoaa
theorem exec_neq36 {o : Oper} {a : Act} {x y : Operand} {A D : Int} (ho : o.op = .binOp .neq 36 x y 36) (hx : a.eval x = .agg #[.int .i64 A, .int .i64 D]) (hy : a.eval y = .agg #[.int .i64 A, .int .i64 D]) (W : World) :
    (execOp a.eval o).run Try.prog W = .ok (.value (.bool false)) W := by
  have h1 := eqi36 A D A D W
  have h2 : Try.prog.eqGuardType Try.prog.depth 36 = false := by kernel_rfl
  unfold execOp
  simp only [ho, hx, hy, Sem.run_bind, run_eqGuard_agg W .neq 36 x y _ _ h2, Result.andThen_ok, run_neq_struct, h1, Sem.run_pure, decide_true, and_self, Bool.not_true]
/-- A value that an operation yields, whatever world. -/
theorem wpList_val {P : Program} {ops : Array Oper} {rest : List Oper} {o : Oper} {a : Act} {w : World} {Q : Exit → Act → World → Prop} (v : Value) (hw : Region.wanted o (yielded ops a.tmps) = true)
    (hr : ∀ W, (execOp a.eval o).run P W = .ok (.value v) W) (h : wpList P ops Q rest (a.put o.dst v) w) : wpList P ops Q (o :: rest) a w := by
  refine wpList_step fun K hK => ?_
  rw [if_pos hw]
  unfold Oper.wp
  rw [hr]
  exact hK _ _ h
theorem idxE_of {n : Nat} {l : List Nat} (hl : ∀ i ∈ l, i < n) (hn : l.Nodup) : ∀ k, k ≤ l.length → idxE n (l.map fun (i : Nat) => (i : Int)) k = 0
  | 0, _ => rfl
  | k + 1, hk => by
    have ih := idxE_of hl hn k (by omega)
    have hk2 : k < l.length := by omega
    have hat : at0 (l.map fun (i : Nat) => (i : Int)) k = (l[k] : Nat) := by rw [at0_lt (by rw [List.length_map]; exact hk2)]; simp
    have h1 : btw 0 (at0 (l.map fun (i : Nat) => (i : Int)) k) ((n : Int) - 1) = true := by
      rw [hat, btw_true]
      have := hl _ (List.getElem_mem hk2)
      omega
    have h2 : (((l.map fun (i : Nat) => (i : Int)).take k).any fun y => at0 (l.map fun (i : Nat) => (i : Int)) k == y) = false := by
      rw [List.any_eq_false]
      intro y hy
      rw [← List.map_take] at hy
      obtain ⟨z, hz, rfl⟩ := List.mem_map.1 hy
      obtain ⟨j, hj, rfl⟩ := List.mem_take_iff_getElem.1 hz
      have hjk : j < k := by omega
      have := List.pairwise_iff_getElem.1 hn j k (by omega) hk2 hjk
      rw [hat, beq_iff_eq]
      omega
    unfold idxE
    rw [if_neg (by rw [ih]; simp), if_neg (by rw [h1]; simp), if_neg (by rw [h2]; simp)]
theorem toNat_map (l : List Nat) : (l.map fun (i : Nat) => (i : Int)).map Int.toNat = l := by
  rw [List.map_map]
  conv => rhs; rw [← List.map_id l]
  rfl
theorem nodup_of_map {f : Nat → Nat} {l : List Nat} (h : (l.map f).Nodup) : l.Nodup := (List.pairwise_map.1 h).imp fun hne e => hne (by rw [e])
/-- The cycle that the program returns is one, with the pace. -/
theorem hold_per {n : Int} {ws : List Wa} {l : List Nat} (h : HoldL n ws l) (h0 : holdE n ws = 0) : holdsE n ws (l.map fun (i : Nat) => (i : Int)) = 0 ∧ perV n ws (l.map fun (i : Nat) => (i : Int)) = (pnum n ws, pden n ws) := by
  rcases h with ⟨_, h⟩ | ⟨m, rfl, hV, hns, hC, h1, h2⟩
  · exact absurd h0 h
  · obtain ⟨u, hu⟩ := hC.cyc
    have hlt := path_lt hu.path
    have hS := ShC.of hu
    have hnd : l.Nodup := nodup_of_map hS.nd
    have hz : holdsE (m : Int) ws (l.map fun (i : Nat) => (i : Int)) = 0 := by
      unfold holdsE
      rw [if_neg (by rw [h2]; simp), if_neg (fun e => hu.ne (List.map_eq_nil_iff.1 e)), if_neg (by rw [idxE_of hlt hnd _ (by rw [List.length_map]; exact Nat.le_refl _)]; simp), if_pos (by rw [toNat_map]; exact hS)]
    refine ⟨hz, ?_⟩
    obtain ⟨p, q, e1, e2, _, e4, e5⟩ := hC.per
    unfold perV
    rw [if_neg (by rw [hz]; simp), toNat_map, e1, e2, Int.toNat_natCast, Int.toNat_natCast, ← e4, ← e5]
theorem holdL_nil {n : Int} {ws : List Wa} {l : List Nat} (h : HoldL n ws l) (h0 : holdE n ws ≠ 0) : l = [] := by
  rcases h with ⟨h, _⟩ | ⟨m, rfl, _, _, _, h1, h2⟩
  · exact h
  · exact absurd (holdE_ok h2 h1) h0
set_option maxRecDepth 100000 in
set_option maxHeartbeats 8000000 in
theorem panholds_any (n : Int) (vc : Value) (c : List Int) (v : Value) (ws : List Wa) (w : World) (ht : SlI w vc c) (hv : SlA w v ws) :
    Calls Try.prog 4 #[.agg #[.int .i64 n, v], vc] w fun e w' => e = .returned (.bool true) ∧ Below w.heap.size w w' := by
  have HV := Lib.hid hv
  have HT := Lib.hid ht
  obtain ⟨ad, cap, rfl, -, -, -⟩ := hv
  obtain ⟨at_', ct, rfl, -, -, -⟩ := ht
  go_enter Try.func4, Try.ntmps4
  refine wp_seq_k (fun K hK => ?_)
  have HK := Lib.hid hK; clear hK
  go_wp2
  refine HK.out _ _ ?_; clear HK K
  generalize hw1 : World.alloc _ _ = w1
  obtain ⟨b2, B, hs1⟩ := blk1 hw1
  clear hw1
  replace HV := Lib.hid (HV.out.below B (Nat.le_refl _))
  replace HT := Lib.hid (HT.out.below B (Nat.le_refl _))
  have h15 := large_any n _ ws w1 HV.out
  obtain ⟨lg, hlg⟩ : ∃ lg, lg = largeB ws.length := ⟨_, rfl⟩
  rw [← hlg] at h15
  have HLG := Lib.hid hlg
  have H15 := Lib.hid h15
  clear hlg h15
  cases lg
  · by_cases h20 : (c.length : Int) > 20
    · go_wp2_with (first | (refine wpList_load_blk rfl 24 _ rfl _ rfl b2 Try.underlying24 rfl size24 rfl ?_) | (go_at_call 15; refine H15.out.mono ?_; rintro e w2 ⟨rfl, hb⟩) | (go_at_call 16; refine (works_any _).mono ?_; rintro e w9 ⟨rfl, hb9⟩))
      go_ret
      exact ⟨rfl, btr (btr B hb (Nat.le_refl _)) hb9 (Nat.le_refl _)⟩
    · refine wp_seq_k (fun K hK => ?_)
      have HK := Lib.hid hK; clear hK
      go_wp2_with (first | (refine wpList_load_blk rfl 24 _ rfl _ rfl b2 Try.underlying24 rfl size24 rfl ?_) | (go_at_call 15; refine H15.out.mono ?_; rintro e w2 ⟨rfl, hb⟩))
      refine HK.out _ _ ?_; clear HK K H15
      have hl80 : ws.length ≤ 100 := by
        have h := HLG.out
        unfold largeB at h
        simp at h
        omega
      clear HLG
      replace b2 := blk_keep b2 hb
      replace HV := Lib.hid (HV.out.below hb (Nat.le_refl _))
      replace HT := Lib.hid (HT.out.below hb (Nat.le_refl _))
      replace B := btr B hb (Nat.le_refl _)
      clear hb
      refine wp_seq_k (fun K hK => ?_)
      have HK := Lib.hid hK; clear hK
      go_wp2_with (first | (refine wpList_load_blk rfl 24 _ rfl _ rfl b2 Try.underlying24 rfl size24 rfl ?_) | (go_at_call 17; refine (given_any _ _ ws _ HV.out hl80).mono ?_; rintro e w3 ⟨⟨v3, rfl, hv3⟩, hb⟩; obtain ⟨ag, cg, hvg, -, -, -⟩ := id hv3; subst hvg))
      refine HK.out _ _ ?_; clear HK K
      replace b2 := blk_keep b2 hb
      replace HV := Lib.hid (HV.out.below hb (Nat.le_refl _))
      replace HT := Lib.hid (HT.out.below hb (Nat.le_refl _))
      replace B := btr B hb (Nat.le_refl _)
      clear hb
      have HX := Lib.hid hv3
      clear hv3
      generalize hwn : World.alloc _ _ = wn
      obtain ⟨b5, hBn, hsn⟩ := blk1 hwn
      clear hwn
      replace b2 := blk_keep b2 hBn
      replace HV := Lib.hid (HV.out.below hBn (Nat.le_refl _))
      replace HT := Lib.hid (HT.out.below hBn (Nat.le_refl _))
      replace HX := Lib.hid (HX.out.below hBn (Nat.le_refl _))
      replace B := btr B hBn (Nat.le_refl _)
      clear hBn hsn
      generalize w3.heap.size = g5 at *
      obtain ⟨H, hH⟩ : ∃ H, H = holdE n ws := ⟨_, rfl⟩
      obtain ⟨L, hL⟩ : ∃ L, L = holdsE n ws c := ⟨_, rfl⟩
      obtain ⟨PV, hPV⟩ : ∃ PV, PV = perV n ws c := ⟨_, rfl⟩
      obtain ⟨pa, pb⟩ := PV
      have h24 := fun W h => hold_any n (.slice ad ws.length cap) ws W h
      have h25 := fun W h => rhold_any n (.slice ag ws.length cg) ws W h
      have h26 := fun W h1 h2 => holds_any n (.slice ad ws.length cap) (.slice at_' c.length ct) ws c W h1 h2
      have h27 := fun W h1 h2 => rholds_any n (.slice ag ws.length cg) (.slice at_' c.length ct) ws c W h1 h2
      rw [← hH] at h24 h25
      rw [← hL, ← hPV] at h26 h27
      have HH := Lib.hid hH
      have HC := Lib.hid (And.intro h24 (And.intro h25 (And.intro h26 h27)))
      clear h24 h25 h26 h27 hH hL hPV
      refine wp_seq_k (fun K hK => ?_)
      have HK := Lib.hid hK; clear hK
      go_wp2_with (first | (refine wpList_load_blk rfl 24 _ rfl _ rfl b2 Try.underlying24 rfl size24 rfl ?_) | (go_at_call 24; refine (HC.out.1 _ HV.out).mono ?_; rintro e w4 ⟨⟨vl, l, rfl, hnl, hhl⟩, hb⟩; have hsl := hnl.1; clear hnl; obtain ⟨al, cl, hvl⟩ := slI_form hsl; rw [List.length_map] at hvl; subst hvl))
      refine HK.out _ _ ?_; clear HK K
      replace b2 := blk_keep b2 hb
      replace b5 := blk_keep b5 hb
      replace HV := Lib.hid (HV.out.below hb (Nat.le_refl _))
      replace HT := Lib.hid (HT.out.below hb (Nat.le_refl _))
      replace HX := Lib.hid (HX.out.below hb (Nat.le_refl _))
      replace B := btr B hb (Nat.le_refl _)
      clear hb
      have HL := Lib.hid hsl
      have HHL := Lib.hid hhl
      clear hsl hhl
      refine wp_seq_k (fun K hK => ?_)
      have HK := Lib.hid hK; clear hK
      go_wp2_with (first | (refine wpList_load_blk rfl 31 _ rfl _ rfl b5 Try.underlying31 rfl size31 rfl ?_) | (go_at_call 25; refine (HC.out.2.1 _ HX.out).mono ?_; rintro e w5 ⟨⟨vr, rfl⟩, hb⟩))
      refine HK.out _ _ ?_; clear HK K
      replace b2 := blk_keep b2 hb
      replace b5 := blk_keep b5 hb
      replace HV := Lib.hid (HV.out.below hb (Nat.le_refl _))
      replace HT := Lib.hid (HT.out.below hb (Nat.le_refl _))
      replace HX := Lib.hid (HX.out.below hb (Nat.le_refl _))
      replace HL := Lib.hid (HL.out.below hb (Nat.le_refl _))
      replace B := btr B hb (Nat.le_refl _)
      clear hb
      refine wp_seq_k (fun K hK => ?_)
      have HK := Lib.hid hK; clear hK
      go_wp2_with (first | (refine wpList_load_blk rfl 24 _ rfl _ rfl b2 Try.underlying24 rfl size24 rfl ?_) | (go_at_call 26; refine (HC.out.2.2.1 _ HV.out HT.out).mono ?_; rintro e w6 ⟨rfl, hb⟩))
      refine HK.out _ _ ?_; clear HK K
      replace b2 := blk_keep b2 hb
      replace b5 := blk_keep b5 hb
      replace HV := Lib.hid (HV.out.below hb (Nat.le_refl _))
      replace HT := Lib.hid (HT.out.below hb (Nat.le_refl _))
      replace HX := Lib.hid (HX.out.below hb (Nat.le_refl _))
      replace HL := Lib.hid (HL.out.below hb (Nat.le_refl _))
      replace B := btr B hb (Nat.le_refl _)
      clear hb
      generalize hwn : World.alloc _ _ = wn
      obtain ⟨b10, hBn, hsn⟩ := blk1 hwn
      clear hwn
      replace b2 := blk_keep b2 hBn
      replace b5 := blk_keep b5 hBn
      replace HV := Lib.hid (HV.out.below hBn (Nat.le_refl _))
      replace HT := Lib.hid (HT.out.below hBn (Nat.le_refl _))
      replace HX := Lib.hid (HX.out.below hBn (Nat.le_refl _))
      replace HL := Lib.hid (HL.out.below hBn (Nat.le_refl _))
      replace B := btr B hBn (Nat.le_refl _)
      clear hBn hsn
      generalize w6.heap.size = g10 at *
      refine wp_seq_k (fun K hK => ?_)
      have HK := Lib.hid hK; clear hK
      go_wp2_with (first | (refine wpList_load_blk rfl 31 _ rfl _ rfl b5 Try.underlying31 rfl size31 rfl ?_) | (go_at_call 27; refine (HC.out.2.2.2 _ HX.out HT.out).mono ?_; rintro e w7 ⟨rfl, hb⟩))
      refine HK.out _ _ ?_; clear HK K
      replace b2 := blk_keep b2 hb
      replace b5 := blk_keep b5 hb
      replace b10 := blk_keep b10 hb
      replace HV := Lib.hid (HV.out.below hb (Nat.le_refl _))
      replace HT := Lib.hid (HT.out.below hb (Nat.le_refl _))
      replace HX := Lib.hid (HX.out.below hb (Nat.le_refl _))
      replace HL := Lib.hid (HL.out.below hb (Nat.le_refl _))
      replace B := btr B hb (Nat.le_refl _)
      clear hb
      generalize hwn : World.alloc _ _ = wn
      obtain ⟨b12, hBn, hsn⟩ := blk1 hwn
      clear hwn
      replace b2 := blk_keep b2 hBn
      replace b5 := blk_keep b5 hBn
      replace b10 := blk_keep b10 hBn
      replace HV := Lib.hid (HV.out.below hBn (Nat.le_refl _))
      replace HT := Lib.hid (HT.out.below hBn (Nat.le_refl _))
      replace HX := Lib.hid (HX.out.below hBn (Nat.le_refl _))
      replace HL := Lib.hid (HL.out.below hBn (Nat.le_refl _))
      replace B := btr B hBn (Nat.le_refl _)
      clear hBn hsn
      generalize w7.heap.size = g12 at *
      refine wp_seq_k (fun K hK => ?_)
      have HK := Lib.hid hK; clear hK
      go_wp2_with (first | (refine wpList_load_blk rfl 26 _ rfl _ rfl b10 Try.underlying26 rfl size26 rfl ?_) | (refine wpList_load_blk rfl 36 _ rfl _ rfl b12 Try.underlying36 rfl size36 rfl ?_) | (refine wpList_val (.bool false) rfl (exec_neq36 (x := .tmp 53) (y := .tmp 54) (A := (pa : Int)) (D := (pb : Int)) rfl rfl rfl) ?_))
      refine HK.out _ _ ?_; clear HK K
      by_cases hH0 : H = 0
      · obtain ⟨p1, p2⟩ := hold_per HHL.out (by rw [← HH.out]; exact hH0)
        have hch : chkE n ws = 0 := Classical.byContradiction fun e => by have := holdE_err e; rw [← HH.out, hH0] at this; exact e this.symm
        obtain ⟨A, hA⟩ : ∃ A, A = pnum n ws := ⟨_, rfl⟩
        obtain ⟨D, hD⟩ : ∃ D, D = pden n ws := ⟨_, rfl⟩
        rw [← hA, ← hD] at p2
        have h27 := fun W h1 h2 => rholds_any n (.slice ag ws.length cg) (.slice al l.length cl) ws (l.map fun (i : Nat) => (i : Int)) W h1 h2
        rw [p1, p2] at h27
        have h19 := fun W h => rpace_any n (.slice ag ws.length cg) ws W h
        rw [← hA, ← hD, hch] at h19
        have H27 := Lib.hid h27
        have H19 := Lib.hid h19
        subst hH0
        clear h27 h19 hA hD p1 p2 hch HH HC
        refine wp_seq_k (fun K hK => ?_)
        have HK := Lib.hid hK; clear hK
        go_wp2
        refine HK.out _ _ ?_; clear HK K
        refine wp_seq_k (fun K hK => ?_)
        have HK := Lib.hid hK; clear hK
        go_wp2_with (first | (refine wpList_load_blk rfl 31 _ rfl _ rfl b5 Try.underlying31 rfl size31 rfl ?_) | (go_at_call 27; refine (H27.out _ HX.out HL.out).mono ?_; rintro e w8 ⟨rfl, hb⟩))
        refine HK.out _ _ ?_; clear HK K
        replace b2 := blk_keep b2 hb
        replace b5 := blk_keep b5 hb
        replace HV := Lib.hid (HV.out.below hb (Nat.le_refl _))
        replace HX := Lib.hid (HX.out.below hb (Nat.le_refl _))
        replace B := btr B hb (Nat.le_refl _)
        clear hb
        generalize hwn : World.alloc _ _ = wn
        obtain ⟨b14, hBn, hsn⟩ := blk1 hwn
        clear hwn
        replace b2 := blk_keep b2 hBn
        replace b5 := blk_keep b5 hBn
        replace HV := Lib.hid (HV.out.below hBn (Nat.le_refl _))
        replace HX := Lib.hid (HX.out.below hBn (Nat.le_refl _))
        replace B := btr B hBn (Nat.le_refl _)
        clear hBn hsn
        generalize w8.heap.size = g14 at *
        refine wp_seq_k (fun K hK => ?_)
        have HK := Lib.hid hK; clear hK
        go_wp2_with (first | (refine wpList_load_blk rfl 31 _ rfl _ rfl b5 Try.underlying31 rfl size31 rfl ?_) | (go_at_call 19; refine (H19.out _ HX.out).mono ?_; rintro e w9 ⟨rfl, hb⟩))
        refine HK.out _ _ ?_; clear HK K
        replace b14 := blk_keep b14 hb
        replace HV := Lib.hid (HV.out.below hb (Nat.le_refl _))
        replace B := btr B hb (Nat.le_refl _)
        clear hb
        generalize hwn : World.alloc _ _ = wn
        obtain ⟨b15, hBn, hsn⟩ := blk1 hwn
        clear hwn
        replace b14 := blk_keep b14 hBn
        replace HV := Lib.hid (HV.out.below hBn (Nat.le_refl _))
        replace B := btr B hBn (Nat.le_refl _)
        clear hBn hsn
        generalize w9.heap.size = g15 at *
        go_wp2_with (first | (refine wpList_load_blk rfl 36 _ rfl _ rfl b14 Try.underlying36 rfl size36 rfl ?_) | (refine wpList_load_blk rfl 36 _ rfl _ rfl b15 Try.underlying36 rfl size36 rfl ?_) | (refine wpList_val (.bool true) rfl (exec_eql36 (x := .tmp 84) (y := .tmp 85) (A := (A : Int)) (D := (D : Int)) rfl rfl rfl) ?_) | (go_at_call 16; refine (works_any _).mono ?_; rintro e w10 ⟨rfl, hb10⟩))
        go_ret
        exact ⟨rfl, btr B hb10 (Nat.le_refl _)⟩
      · have hl0 := holdL_nil HHL.out (by rw [← HH.out]; exact hH0)
        subst hl0
        have hHb : (H != 0) = true := by simpa using hH0
        clear hH0 HH HC HHL
        go_wp2_with (first | (go_at_call 16; refine (works_any _).mono ?_; rintro e w10 ⟨rfl, hb10⟩))
        go_ret
        exact ⟨rfl, btr B hb10 (Nat.le_refl _)⟩
  · go_wp2_with (first | (refine wpList_load_blk rfl 24 _ rfl _ rfl b2 Try.underlying24 rfl size24 rfl ?_) | (go_at_call 15; refine H15.out.mono ?_; rintro e w2 ⟨rfl, hb⟩) | (go_at_call 16; refine (works_any _).mono ?_; rintro e w9 ⟨rfl, hb9⟩))
    go_ret
    exact ⟨rfl, btr (btr B hb (Nat.le_refl _)) hb9 (Nat.le_refl _)⟩
end Yteileadcmekkoaa
end Go.Proofs
