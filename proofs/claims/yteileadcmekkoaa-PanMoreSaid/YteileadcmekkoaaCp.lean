/- Pans: the closures of PanMore: a work copied, and whether its pace is less. -/
import Derived.Test.YteileadcmekkoaaMo
import Derived.Test.YteileadcmekkoaaMd
import Derived.Test.YteileadcmekkoaaGenI
import Derived.Test.YteileadcmekkoaaGenH
import Derived.Test.YteileadcmekkoaaSu
import Derived.Test.YteileadcmekkoaaPa
import Derived.Test.YteileadcmekkoaaQ25
open Go Go.RowKit Go.YteileadcmekkoaaIt
namespace Go.Proofs
namespace Yteileadcmekkoaa
theorem row_lo {W : World} {base b0 : Nat} {e : TypeId} {sz n : Nat} {v : Value} {xs : List Value} (h : W.ownsRow base e sz v n xs) (hb : b0 ≤ base) : W.ownsRow b0 e sz v n xs := by
  refine ⟨h.1, ?_⟩
  rcases h.2 with h | ⟨g, cap, cur, rfl, hg, hh⟩
  · exact .inl h
  · exact .inr ⟨g, cap, cur, rfl, Nat.le_trans hb hg, hh⟩
theorem one_encA (ws : List Wa) : ∀ u ∈ ws.flatMap encA, u.oneCell' = true := by
  intro u hu
  obtain ⟨x, -, h⟩ := List.mem_flatMap.1 hu
  simp only [encA, List.mem_cons, List.not_mem_nil, or_false] at h
  rcases h with rfl | rfl | rfl | rfl | rfl <;> rfl
/-- append([]wait{}, ws...) -/
theorem oper_copyA {o : Oper} {a : Act} {K : Act → World → Prop} {Q : Exit → Act → World → Prop} (s x : Operand) (ho : o.op = .call { callee := .builtin .append, args := #[s, x], argTypes := #[22, 22] })
    {W w : World} {g : Nat} {vb : Value} {ws : List Wa} (hv : SlA w vb ws) (hl : ws.length ≤ 10000) (hs : a.eval s = .slice (some ⟨g, 0, none⟩) 0 0) (hx : a.eval x = vb)
    (hg : w.heap[g]? = some (Obj.cells #[] 82 (0, 0))) (hB : Below W.heap.size W w) (hBg : W.heap.size ≤ g)
    (h : ∀ v' w', w'.ownsRow W.heap.size 82 5 v' ws.length (ws.flatMap encA) → Below W.heap.size W w' → K (a.put o.dst v') w') : o.wp Try.prog a w K Q := by
  obtain ⟨ad, cap, rfl, hm, hc, hcc⟩ := hv
  obtain ⟨i82, hi82, hy1, hy2, hy3⟩ := info_parts info82
  have hown : w.ownsRow W.heap.size 82 5 (.slice (some ⟨g, 0, none⟩) 0 0) 0 [] := ⟨rfl, .inr ⟨g, 0, #[], rfl, hBg, hg, by decide, by decide, rfl, rfl⟩⟩
  have hrd := reads_of_slG encA_len (by decide) (⟨ad, cap, rfl, hm, hc, hcc⟩ : SlA w (.slice ad ws.length cap) ws)
  have hb := lt_blk hg
  refine wp_append_any w s x 22 ho W.heap.size 82 i82 (.agg #[.int .i64 0, .int .i64 0, .int .i64 0, .int .i64 0, .int .i64 0]) 5 40 Try.underlying22 hi82 hy1 hy2 hy3 rfl (by decide) _ 0 [] hs hown _ ad ws.length cap _ hx hrd (one_encA ws) (Nat.le_trans (by omega : 0 + ws.length ≤ 10000) (by decide)) (by omega) (by omega) ?_
  intro v' w' r1 r2 r3
  rw [Nat.zero_add, List.nil_append] at r1
  have hk : ∀ b, b < w.heap.size → b ≠ g → w'.heap[b]? = w.heap[b]? := fun b hb hne => r2.block b hb (fun e => hne (Option.some.inj e))
  exact h v' w' r1 ⟨r2.os.trans hB.os, r2.tape.trans hB.tape, r2.output.trans hB.output, Nat.le_trans hB.size r2.size, fun b hb => (hk b (Nat.lt_of_lt_of_le hb hB.size) (by omega)).trans (hB.block b hb)⟩
set_option maxRecDepth 100000 in
set_option maxHeartbeats 4000000 in
theorem copied_any (B5 : Nat) (m : Int) (v : Value) (ws : List Wa) (w : World) (h5 : w.heap[B5]? = some (.cells #[.int .i64 m, v] 24 (0, 0))) (hv : SlA w v ws) (hl : ws.length ≤ 50) :
    Calls Try.prog 46 #[.pointer (some ⟨B5, 0, none⟩)] w fun e w' => (∃ v', e = .returned (.agg #[.int .i64 m, v']) ∧ w'.ownsRow w.heap.size 82 5 v' ws.length (ws.flatMap encA)) ∧ Below w.heap.size w w' := by
  have HV := Lib.hid hv
  have HL := Lib.hid hl
  obtain ⟨av, cv, rfl, -, -, -⟩ := hv
  go_enter Try.func46, Try.ntmps46
  refine wp_seq_k (fun K hK => ?_)
  have HK := Lib.hid hK; clear hK
  go_wp2
  refine HK.out _ _ ?_; clear HK K
  generalize hw1 : World.alloc _ _ = w1
  obtain ⟨b1, hB, hs1⟩ := blk1 hw1
  clear hw1
  replace h5 := blk_keep h5 hB
  refine wp_seq_k (fun K hK => ?_)
  have HK := Lib.hid hK; clear hK
  refine wp_region_z (z := 7) (S := fun U : World => U.cell? ⟨B5, 0, none⟩ = some (.int .i64 m) ∧ U.cell? ⟨B5, 1, none⟩ = some (.slice av ws.length cv)) (by kernel_rfl) ?_
  change wpAnyZ _ _ _ _ _ _ _ _ _ (World.drew w1)
  replace b1 : (World.drew w1).heap[w.heap.size]? = _ := b1
  replace h5 : (World.drew w1).heap[B5]? = _ := h5
  replace hB := hB.drew
  replace hs1 : w.heap.size + 1 ≤ (World.drew w1).heap.size := hs1
  generalize World.drew w1 = wq at *
  have HVq := Lib.hid (HV.out.below hB (Nat.le_refl _))
  have c0 := cell_blk (i := 0) h5
  have c1 := cell_blk (i := 1) h5
  simp only [List.getElem?_toArray, List.getElem?_cons_zero, List.getElem?_cons_succ] at c0 c1
  have hS0 : wq.cell? ⟨B5, 0, none⟩ = some (.int .i64 m) ∧ wq.cell? ⟨B5, 1, none⟩ = some (.slice av ws.length cv) := ⟨c0, c1⟩
  have hSB : ∀ U : World, Below wq.heap.size wq U → U.cell? ⟨B5, 0, none⟩ = some (.int .i64 m) ∧ U.cell? ⟨B5, 1, none⟩ = some (.slice av ws.length cv) := fun U hU => ⟨(hU.cell (p := ⟨B5, 0, none⟩) (lt_blk h5)).trans c0, (hU.cell (p := ⟨B5, 1, none⟩) (lt_blk h5)).trans c1⟩
  have HSB := Lib.hid hSB
  clear hSB c0 c1
  refine wpAnyZ_take (i := 0) (oi := { dst := some 2, op := _, type := _, pos := _, after := _, guard := _ }) (v := ?_) rfl (by kernel_rfl) (by kernel_rfl) (by kernel_rfl) (fun _ _ _ h => h) (Or.inl ⟨by rfl, ?_⟩) hS0 ?_
  rotate_left
  · intro U hU
    have u0 := hU.1
    have u1 := hU.2
    go_simp
    all_goals with_reducible rfl
  simp only [Act.put, List.setIfInBounds_toArray, List.set_cons_zero, List.set_cons_succ]
  refine wpAnyZ_take (i := 1) (oi := { dst := some 3, op := _, type := _, pos := _, after := _, guard := _ }) (v := ?_) rfl (by kernel_rfl) (by kernel_rfl) (by kernel_rfl) (fun _ _ _ h => h) (Or.inl ⟨by rfl, ?_⟩) hS0 ?_
  rotate_left
  · intro U hU
    have u0 := hU.1
    have u1 := hU.2
    go_simp
    all_goals with_reducible rfl
  simp only [Act.put, List.setIfInBounds_toArray, List.set_cons_zero, List.set_cons_succ]
  refine wpAnyZ_take (i := 3) (oi := { dst := some 5, op := _, type := _, pos := _, after := _, guard := _ }) (v := ?_) rfl (by kernel_rfl) (by kernel_rfl) (by kernel_rfl) (fun _ _ _ h => h) (Or.inl ⟨by rfl, ?_⟩) hS0 ?_
  rotate_left
  · intro U hU
    have u0 := hU.1
    have u1 := hU.2
    go_simp
    all_goals with_reducible rfl
  simp only [Act.put, List.setIfInBounds_toArray, List.set_cons_zero, List.set_cons_succ]
  refine wpAnyZ_take (i := 4) (oi := { dst := some 6, op := _, type := _, pos := _, after := _, guard := _ }) (v := ?_) rfl (by kernel_rfl) (by kernel_rfl) (by kernel_rfl) (fun _ _ _ h => h) (Or.inl ⟨by rfl, ?_⟩) hS0 ?_
  rotate_left
  · intro U hU
    have u0 := hU.1
    have u1 := hU.2
    go_simp
    all_goals with_reducible rfl
  simp only [Act.put, List.setIfInBounds_toArray, List.set_cons_zero, List.set_cons_succ]
  refine wpAnyZ_one (i := 2) (o := { dst := some 4, op := _, type := _, pos := _, after := _, guard := _ }) (by kernel_rfl) rfl (by rfl) (fun K1 hK1 => ?_)
  have HK1 := Lib.hid hK1; clear hK1
  go_simp
  refine HK1.out _ _ (fun _ => HSB.out _ (((Below.refl _ wq).alloc (Nat.le_refl _) (Obj.cells #[] 82 (0, 0))))) ?_
  clear HK1 K1
  try simp only [Act.put, List.setIfInBounds_toArray, List.set_cons_zero, List.set_cons_succ]
  refine wpAnyZ_one (i := 5) (o := { dst := some 7, op := _, type := _, pos := _, after := _, guard := _ }) (by kernel_rfl) rfl (by rfl) (fun K1 hK1 => ?_)
  have HK1 := Lib.hid hK1; clear hK1
  refine oper_copyA (.tmp 4) (.tmp 6) rfl (W := wq) (w := wq.alloc (Obj.cells #[] 82 (0, 0))) (g := wq.heap.size) (ws := ws) (HVq.out.below ((Below.refl _ wq).alloc (Nat.le_refl _) (Obj.cells #[] 82 (0, 0))) (Nat.le_refl _)) (by have := HL.out; omega) rfl rfl (heap_newI rfl) ((Below.refl _ wq).alloc (Nat.le_refl _) (Obj.cells #[] 82 (0, 0))) (Nat.le_refl _) ?_
  intro v2 w2 r2 hb2
  obtain ⟨a2, c2, hv2⟩ := form_of r2
  subst hv2
  refine HK1.out _ _ (fun _ => HSB.out _ (hb2)) ?_
  clear HK1 K1
  try simp only [Act.put, List.setIfInBounds_toArray, List.set_cons_zero, List.set_cons_succ]
  have hS1 := HSB.out _ hb2
  refine wpAnyZ_take (i := 6) (oi := { dst := some 8, op := _, type := _, pos := _, after := _, guard := _ }) (v := ?_) rfl (by kernel_rfl) (by kernel_rfl) (by kernel_rfl) (fun _ _ _ h => h) (Or.inl ⟨by rfl, ?_⟩) hS1 ?_
  rotate_left
  · intro U hU
    have u0 := hU.1
    have u1 := hU.2
    go_simp
    all_goals with_reducible rfl
  simp only [Act.put, List.setIfInBounds_toArray, List.set_cons_zero, List.set_cons_succ]
  have b12 := blk_keep b1 hb2
  have hB2 := hB.trans (hb2.mono hB.size)
  refine wpAnyZ_last (o := { dst := none, op := _, type := _, pos := _, after := _, guard := _ }) (by kernel_rfl) (by kernel_rfl) rfl (by rfl) (fun K1 hK1 => ?_)
  have HK1 := Lib.hid hK1; clear hK1
  refine oper_store_blk 24 (.tmp 1) (.tmp 8) rfl w.heap.size rfl (cells := #[.int .i64 m, .slice a2 ws.length c2]) rfl b12 size24 rfl rfl (by simp [Value.oneCell']) ?_
  refine HK1.out _ _ ?_
  clear HK1 K1
  have hne := own_ne r2 b12 (by decide)
  have r3 := row_same (W' := w2.putObj w.heap.size (.cells #[.int .i64 m, .slice a2 ws.length c2] 24 (0, 0))) r2 (fun g hg => World.putObj_heap_other (fun e => hne (e ▸ hg)))
  have b3 := World.putObj_heap_same (w := w2) (o := .cells #[.int .i64 m, .slice a2 ws.length c2] 24 (0, 0)) (lt_blk b12)
  have hB3 := below_putObj (o := .cells #[.int .i64 m, .slice a2 ws.length c2] 24 (0, 0)) hB2 (show w.heap.size ≤ w.heap.size by omega)
  have r4 := row_lo r3 (show w.heap.size ≤ wq.heap.size by omega)
  clear b1 b12 hB hB2 r2 r3 hb2 hS0 hS1 h5
  generalize World.putObj _ _ _ = w6 at *
  refine HK.out _ _ ?_; clear HK K
  go_wp2
  exact bodyPost_ret (results_blk rfl _ _ w.heap.size rfl b3 Try.underlying24 rfl size24 rfl) rfl ⟨⟨_, rfl, r4⟩, hB3⟩
theorem hAD_bnd {m : Nat} {ws : List Wa} (hv : Val m ws) (hs : NS ws) : 1 ≤ pden m ws ∧ pden m ws ≤ 40 ∧ pnum m ws ≤ 100000 := by
  obtain ⟨l, h⟩ := paceP hv hs
  exact ⟨h.b.2.1, h.b.2.2, h.b.1⟩
set_option maxRecDepth 100000 in
set_option maxHeartbeats 4000000 in
theorem less_any (B12 : Nat) (m : Nat) (v : Value) (ws : List Wa) (A D : Nat) (w : World) (hval : Val m ws) (hAD : A ≤ 1000000 ∧ D ≤ 1000) (h5 : w.heap[B12]? = some (.cells #[.int .i64 (A : Int), .int .i64 (D : Int)] 26 (0, 0))) (hv : SlA w v ws)
    (hle : NS ws → A * pden m ws ≤ pnum m ws * D) :
    Calls Try.prog 47 #[.agg #[.int .i64 m, v], .pointer (some ⟨B12, 0, none⟩)] w fun e w' => e = .returned (.bool false) ∧ Below w.heap.size w w' := by
  have HV := Lib.hid hv
  have HL := Lib.hid hle
  clear hle
  obtain ⟨av, cv, rfl, -, -, -⟩ := hv
  have hch := chk_of hval
  obtain ⟨E, hE⟩ : ∃ E, E = chkE (m : Int) ws := ⟨_, rfl⟩
  obtain ⟨P, hP⟩ : ∃ P, P = pnum (m : Int) ws := ⟨_, rfl⟩
  obtain ⟨R, hR⟩ : ∃ R, R = pden (m : Int) ws := ⟨_, rfl⟩
  have h18 := fun W h => pace_any (m : Int) (.slice av ws.length cv) ws W h
  rw [← hE, ← hP, ← hR] at h18
  rw [← hE] at hch
  have H18 := Lib.hid h18
  have HE := Lib.hid (And.intro hP (And.intro hR (And.intro hch hval)))
  clear h18 hE hP hR hch hval
  go_enter Try.func47, Try.ntmps47
  refine wp_seq_k (fun K hK => ?_)
  have HK := Lib.hid hK; clear hK
  go_wp2
  refine HK.out _ _ ?_; clear HK K
  generalize hw1 : World.alloc _ _ = w1
  obtain ⟨b2, hB, hs1⟩ := blk1 hw1
  clear hw1 hs1
  replace h5 := blk_keep h5 hB
  replace HV := Lib.hid (HV.out.below hB (Nat.le_refl _))
  refine wp_seq_k (fun K hK => ?_)
  have HK := Lib.hid hK; clear hK
  go_wp2_with (first | (refine wpList_load_blk rfl 24 _ rfl _ rfl b2 Try.underlying24 rfl size24 rfl ?_) | (go_at_call 18; refine (H18.out _ HV.out).mono ?_; rintro e w4 ⟨rfl, hb⟩))
  refine HK.out _ _ ?_; clear HK K
  replace h5 := blk_keep h5 hb
  replace hB := btr hB hb (Nat.le_refl _)
  clear hb
  generalize hwn : World.alloc _ _ = wn
  obtain ⟨b4, hBn, hsn⟩ := blk1 hwn
  clear hwn
  replace h5 := blk_keep h5 hBn
  replace hB := btr hB hBn (Nat.le_refl _)
  clear hBn hsn b2
  generalize w4.heap.size = g4 at *
  have c50 := cell_blk (i := 0) h5
  have c51 := cell_blk (i := 1) h5
  have c40 := cell_blk (i := 0) b4
  have c41 := cell_blk (i := 1) b4
  simp only [List.getElem?_toArray, List.getElem?_cons_zero, List.getElem?_cons_succ] at c50 c51 c40 c41
  by_cases hns : NS ws
  · have hE0 : E = 0 := by rw [HE.out.2.2.1, if_pos hns]
    have hle := HL.out hns
    obtain ⟨d1, d2, d3⟩ := hAD_bnd HE.out.2.2.2 hns
    rw [← HE.out.1, ← HE.out.2.1] at *
    subst hE0
    clear hns HL
    have y0 : (0 : Int) ≤ (P : Int) * D := Int.mul_nonneg (by omega) (by omega)
    have y1 : (P : Int) * D ≤ 100000 * 1000 := Int.mul_le_mul (by omega) (by omega) (by omega) (by omega)
    have y2 : (0 : Int) ≤ (A : Int) * R := Int.mul_nonneg (by omega) (by omega)
    have y3 : (A : Int) * R ≤ 1000000 * 40 := Int.mul_le_mul (by omega) (by omega) (by omega) (by omega)
    have y4 : IntKind.i64.wrap ((P : Int) * D) = (P : Int) * D := by rw [IntKind.wrap_i64]; omega
    have y5 : IntKind.i64.wrap ((A : Int) * R) = (A : Int) * R := by rw [IntKind.wrap_i64]; omega
    have hR1 : ¬ ((R : Int) < 1) := by omega
    have hR2 : decide ((R : Int) < 1) = false := by rw [decide_eq_false_iff_not]; omega
    have hlI : decide ((P : Int) * D < (A : Int) * R) = false := by rw [decide_eq_false_iff_not]; have : (A : Int) * R ≤ (P : Int) * D := by exact_mod_cast hle
                                                                    omega
    clear y0 y1 y2 y3 hle d1 d2 d3
    go_wp2
    go_ret
    exact ⟨rfl, hB⟩
  · have hE16 : E = 16 := by rw [HE.out.2.2.1, if_neg hns]
    subst hE16
    clear hns HL
    go_wp2
    go_ret
    exact ⟨rfl, hB⟩
end Yteileadcmekkoaa
end Go.Proofs
