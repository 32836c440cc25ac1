/- For each house, wait, other wait and factor the law PanMore returns true: the walk. -/
import Derived.Test.YteileadcmekkoaaMd
import Derived.Test.YteileadcmekkoaaCp
import Derived.Test.YteileadcmekkoaaOa
import Derived.Test.YteileadcmekkoaaOm
import Derived.Test.YteileadcmekkoaaTp
import Derived.Test.YteileadcmekkoaaQ25
open Go Go.RowKit Go.YteileadcmekkoaaIt
namespace Go.Proofs
namespace Yteileadcmekkoaa
theorem size65 : (Try.prog.info? 65).map (·.size) = some 2 := by kernel_rfl
def frM (s a l q0 q1 q2 q3 f : Int) (vh vt : Value) (g0 g5 g8 g12 : Nat) (F : Nat → Value) : Act := ⟨#[.agg #[.int .u8 s, vh], .int .u8 a, .int .u8 l, .agg #[.int .u8 q0, .int .u8 q1, .int .u8 q2, .int .u8 q3], .int .u8 f, .pointer (some ⟨g0, 0, none⟩), undef, undef, .pointer (some ⟨g8, 0, none⟩), undef, .bool false, .pointer (some ⟨g5, 0, none⟩), .pointer (some ⟨g12, 0, none⟩), .int .i64 0, vt, .int .i64 0, .func (.func 46) #[] #[.pointer (some ⟨g5, 0, none⟩)], .func (.func 47) #[] #[.pointer (some ⟨g12, 0, none⟩)], F 18, F 19, F 20, F 21, F 22, F 23, F 24, F 25, F 26, F 27, F 28, F 29, F 30, F 31, F 32, F 33, F 34, F 35, F 36, F 37, F 38, F 39, F 40, F 41, F 42, F 43, F 44, F 45, F 46, F 47, F 48, F 49, F 50, F 51, F 52, F 53, F 54, F 55, F 56, F 57, F 58, F 59, F 60, F 61, F 62, F 63, F 64, F 65, F 66, F 67, F 68, F 69, F 70, F 71, F 72, F 73, F 74, F 75, F 76, F 77, F 78, F 79, F 80, F 81, F 82, F 83, F 84, F 85, F 86, F 87, F 88, F 89, F 90, F 91, F 92, F 93, F 94, F 95, F 96, F 97, F 98, F 99, F 100, F 101, F 102, F 103, F 104, F 105, F 106, F 107, F 108, F 109, F 110, F 111, F 112, F 113, F 114, F 115, F 116, F 117, F 118, F 119, F 120, F 121, F 122, F 123, F 124, F 125, F 126, F 127, F 128, F 129, F 130, F 131, F 132, F 133, F 134, F 135, F 136, F 137, F 138, F 139, F 140, F 141, F 142, F 143, F 144, F 145, F 146, F 147, F 148, F 149, F 150, F 151, F 152, F 153, F 154, F 155, F 156, F 157, F 158, F 159, F 160, F 161, F 162, F 163, F 164, F 165, F 166, F 167, F 168, F 169, F 170, F 171, F 172, F 173, F 174, F 175, F 176, F 177, F 178, F 179, F 180, F 181, F 182, F 183, F 184, F 185, F 186, F 187, F 188, F 189, F 190, F 191, F 192, F 193, F 194, F 195, F 196, F 197, F 198, F 199, F 200, F 201, F 202, F 203, F 204, F 205, F 206, F 207, F 208, F 209, F 210, F 211, F 212, F 213, F 214, F 215, F 216, F 217, F 218, F 219, F 220, F 221, F 222, F 223, F 224, F 225, F 226, F 227, F 228, F 229, F 230, F 231, F 232, F 233, F 234, F 235, F 236, F 237, F 238, F 239, F 240, F 241, F 242, F 243, F 244, F 245, F 246, F 247, F 248, F 249, F 250, F 251, F 252, F 253, F 254, F 255, F 256, F 257, F 258, F 259, F 260, F 261, F 262, F 263, F 264, F 265, F 266, F 267, F 268, F 269, F 270, F 271, F 272, F 273, F 274, F 275, F 276, F 277, F 278, F 279, F 280, F 281, F 282, F 283, F 284, F 285, F 286, F 287, F 288, F 289, F 290, F 291, F 292, F 293, F 294, F 295, F 296], []⟩
theorem wp_fr {P : Program} {c : Code} {Q : Exit → Act → World → Prop} {a : Act} {W : World} (fr : (Nat → Value) → Act) (h : a = fr (fun i => a.tmps.getD i undef)) (t : ∀ F, Code.wp P c Q (fr F) W) : Code.wp P c Q a W := by
  rw [h]; exact t _
theorem OwnA.ne {W : World} {g b : Nat} {ws : List Wa} {c : Array Value} {t : TypeId} {fr : Nat × Nat} (h : OwnA W g ws) (hb : W.heap[b]? = some (.cells c t fr)) (ht : t ≠ 82) : b ≠ g := by
  rintro rfl
  obtain ⟨r, h⟩ := h
  rw [h] at hb
  injection hb with hb
  injection hb with _ h2 _
  exact ht h2.symm
theorem all_succ {p : Wa → Bool} {ws : List Wa} {k : Nat} (hk : k < ws.length) : (ws.take (k + 1)).all p = ((ws.take k).all p && p (at_ ws k)) := by
  rw [List.take_succ_eq_append_getElem hk, List.all_append, at_lt hk]; simp
theorem mapTo_at1 (h : Wa → Wa) {k : Nat} {ws : List Wa} (hk : k < ws.length) : at_ (mapTo h (k + 1) ws) k = h (at_ ws k) := by
  rw [← mapTo_set h hk, at_lt (by rw [List.length_set, mapTo_len]; exact hk), List.getElem_set_self]
theorem k_fr {K : Act → World → Prop} {a : Act} {W : World} (fr : (Nat → Value) → Act) (h : a = fr (fun i => a.tmps.getD i undef)) (t : ∀ F, K (fr F) W) : K a W := by
  rw [h]; exact t _
theorem yields_max {P : Program} {S : World → Prop} {a : Act} {o : Oper} (x y : Operand) (ats : Array TypeId) (ho : o.op = .call { callee := .builtin .max, args := #[x, y], argTypes := ats }) {k : IntKind} {m n : Int} (hx : a.eval x = .int k m) (hy : a.eval y = .int k n) :
    ∀ w, S w → (execOp a.eval o).run P w = .ok (.value (.int k (max m n))) w := by
  intro w _
  unfold execOp
  simp only [ho, resolve, invoke, builtin, Sem.run_bind, Sem.run_pure, Result.andThen_ok, List.map_toArray, List.map_cons, List.map_nil, hx, hy]
  have e : (if m < n then n else m) = max m n := by rw [Int.max_def]; split <;> split <;> omega
  simp [Builtin.max_, Builtin.max2, go_sem, e]
set_option maxRecDepth 100000 in
set_option maxHeartbeats 8000000 in
theorem more_law (s a l q0 q1 q2 q3 f : Int) (u : Value) (qs : List Q4) (w : World) (hs : 0 ≤ s ∧ s < 256) (ha : 0 ≤ a ∧ a < 256) (hl : 0 ≤ l ∧ l < 256) (h4 : (0 ≤ q0 ∧ q0 < 256) ∧ (0 ≤ q1 ∧ q1 < 256) ∧ (0 ≤ q2 ∧ q2 < 256) ∧ (0 ≤ q3 ∧ q3 < 256)) (hf : 0 ≤ f ∧ f < 256) (hq : ∀ q ∈ qs, q.ok) (hu : SlQ w u qs) :
    Calls Try.prog 12 #[.agg #[.int .u8 s, u], .int .u8 a, .int .u8 l, .agg #[.int .u8 q0, .int .u8 q1, .int .u8 q2, .int .u8 q3], .int .u8 f] w fun e w' => e = .returned (.bool true) ∧ Below w.heap.size w w' := by
  have HU := Lib.hid hu
  have HQ := Lib.hid hq
  obtain ⟨ad, cap, rfl, -, -, -⟩ := hu
  clear hq
  go_enter Try.func12, Try.ntmps12
  refine wp_seq_k (fun K hK => ?_)
  have HK := Lib.hid hK; clear hK
  go_wp2
  refine HK.out _ _ ?_; clear HK K
  generalize hw1 : World.alloc _ _ = w1
  obtain ⟨b1, b8, hB0, hs1⟩ := blk2 hw1
  clear hw1
  have h36 := made_any s _ qs w1 hs HQ.out (HU.out.below hB0 (Nat.le_refl _))
  have H36 := Lib.hid h36
  clear h36 HU HQ
  refine wp_seq_k (fun K hK => ?_)
  have HK := Lib.hid hK; clear hK
  go_wp2_with (first | (refine wpList_load_blk rfl 65 _ rfl _ rfl b1 Try.underlying65 rfl size65 rfl ?_) | (go_at_call 36; refine H36.out.mono ?_; rintro e w2 ⟨n, v, ws, rfl, hv, hM, hb2⟩; have hv0 := hv; obtain ⟨av, cv, rfl, -, -, -⟩ := hv))
  refine HK.out _ _ ?_; clear HK K H36
  have hnb := And.intro hM.n1 hM.n5
  have hlen := hM.len
  have B := btr hB0 hb2 (Nat.le_refl _)
  replace b8 := blk_keep b8 hb2
  generalize hw3 : World.alloc _ _ = w3
  obtain ⟨b5, hB3, hs3⟩ := blk1 hw3
  clear hw3
  have HV := Lib.hid (hv0.below hB3 (Nat.le_refl _))
  replace B := btr B hB3 (Nat.le_refl _)
  replace b8 := blk_keep b8 hB3
  have HM := Lib.hid hM
  clear hv0 hb2 hB3 hB0 hM
  clear b1
  obtain ⟨g5, hg5⟩ : ∃ g, g = w2.heap.size := ⟨_, rfl⟩
  rw [← hg5] at b5 ⊢
  clear hg5
  obtain ⟨g8, hg8⟩ : ∃ g, g = w.heap.size + 1 := ⟨_, rfl⟩
  rw [← hg8] at b8 ⊢
  clear hg8
  obtain ⟨m, rfl⟩ : ∃ m : Nat, n = m := ⟨n.toNat, by omega⟩
  have hval : Val m ws := val_mem.2 ⟨⟨by omega, by omega⟩, by omega, fun x hx => by have := HM.out.ok x hx; unfold okM at this; unfold okV; omega⟩
  have hch := chk_of hval
  have HVL := Lib.hid hval
  have hm5 : m ≤ 5 := by omega
  obtain ⟨E, hE⟩ : ∃ E, E = chkE (m : Int) ws := ⟨_, rfl⟩
  obtain ⟨A, hA⟩ : ∃ A, A = pnum (m : Int) ws := ⟨_, rfl⟩
  obtain ⟨D, hD⟩ : ∃ D, D = pden (m : Int) ws := ⟨_, rfl⟩
  obtain ⟨tl, htl⟩ : ∃ tl, tl = tabL (m : Int) ws := ⟨_, rfl⟩
  have h18 := fun W h => pace_any (m : Int) (.slice av ws.length cv) ws W h
  have h28 := fun W h => table_any (m : Int) (.slice av ws.length cv) ws W h
  rw [← hE, ← hA, ← hD] at h18
  rw [← hE, ← htl] at h28
  rw [← hE] at hch
  have HE := Lib.hid (And.intro hE (And.intro hA (And.intro hD (And.intro hch htl))))
  have H18 := Lib.hid h18
  have H28 := Lib.hid h28
  clear hval hE hA hD hch h18 h28 htl
  refine wp_seq_k (fun K hK => ?_)
  have HK := Lib.hid hK; clear hK
  go_wp2_with (first | (refine wpList_load_blk rfl 24 _ rfl _ rfl b5 Try.underlying24 rfl size24 rfl ?_) | (go_at_call 18; refine (H18.out _ HV.out).mono ?_; rintro e w4 ⟨rfl, hb⟩))
  refine HK.out _ _ ?_; clear HK K
  replace b5 := blk_keep b5 hb
  replace b8 := blk_keep b8 hb
  replace HV := Lib.hid (HV.out.below hb (Nat.le_refl _))
  replace B := btr B hb (Nat.le_refl _)
  clear hb
  generalize hwn : World.alloc _ _ = wn
  obtain ⟨b12, hBn, hsn⟩ := blk1 hwn
  clear hwn
  replace b5 := blk_keep b5 hBn
  replace b8 := blk_keep b8 hBn
  replace HV := Lib.hid (HV.out.below hBn (Nat.le_refl _))
  replace B := btr B hBn (Nat.le_refl _)
  clear hBn hsn
  generalize w4.heap.size = g12 at *
  clear H18
  refine wp_seq_k (fun K hK => ?_)
  have HK := Lib.hid hK; clear hK
  go_wp2_with (first | (refine wpList_load_blk rfl 24 _ rfl _ rfl b5 Try.underlying24 rfl size24 rfl ?_) | (go_at_call 28; refine (H28.out _ HV.out).mono ?_; rintro e w5 ⟨⟨vt, rfl, hst⟩, hb⟩; obtain ⟨at_', ct, hvt⟩ := slI_form hst; subst hvt))
  refine HK.out _ _ ?_; clear HK K
  replace b5 := blk_keep b5 hb
  replace b8 := blk_keep b8 hb
  replace b12 := blk_keep b12 hb
  replace HV := Lib.hid (HV.out.below hb (Nat.le_refl _))
  replace B := btr B hb (Nat.le_refl _)
  clear hb
  have HT := Lib.hid hst
  clear hst H28
  by_cases hns : NS ws
  · have hE0 : E = 0 := by rw [HE.out.2.2.2.1, if_pos hns]
    obtain ⟨d1, d2, d3⟩ := hAD_bnd HVL.out hns
    have htl : tl.length = m := by rw [HE.out.2.2.2.2, tabL_ok (by rw [← HE.out.1, hE0])]; simp
    rw [← HE.out.2.2.1] at d1 d2
    rw [← HE.out.2.1] at d3
    have HNS := Lib.hid hns
    subst hE0
    clear hns
    have hD1 : ¬ ((D : Int) < 1) := by omega
    have hD2 : decide ((D : Int) < 1) = false := by rw [decide_eq_false_iff_not]; omega
    have hTL : (((tl.length : Nat) : Int) == (m : Int)) = true := by rw [htl]; simp
    have c50 := cell_blk (i := 0) b5
    have c51 := cell_blk (i := 1) b5
    have c121 := cell_blk (i := 1) b12
    simp only [List.getElem?_toArray, List.getElem?_cons_zero, List.getElem?_cons_succ] at c50 c51 c121
    have hTL2 : (((tl.length : Nat) : Int) != (m : Int)) = false := by rw [htl]; simp
    refine wp_seq_k (fun K hK => ?_)
    have HK := Lib.hid hK; clear hK
    go_wp2
    refine HK.out _ _ ?_; clear HK K
    refine wp_seq_k (fun K hK => ?_)
    have HK := Lib.hid hK; clear hK
    go_wp2
    refine HK.out _ _ ?_; clear HK K
    clear hTL hTL2 hD1 hD2
    have HTL := Lib.hid htl
    clear htl c121
    refine wp_seq_k (fun K hK => ?_)
    have HK := Lib.hid hK; clear hK
    go_wp2
    refine HK.out _ _ ?_; clear HK K
    refine wp_seq_k (fun K hK => ?_)
    have HK := Lib.hid hK; clear hK
    go_wp2
    refine HK.out _ _ ?_; clear HK K
    refine wp_seq_k (fun K hK => ?_)
    have HK := Lib.hid hK; clear hK
    have tail : ∀ (F : Nat → Value) (W : World), W.heap[g5]? = some (.cells #[.int .i64 (m : Int), .slice av ws.length cv] 24 (0, 0)) → W.heap[g8]? = some (.cells #[.int .u8 q0, .int .u8 q1, .int .u8 q2, .int .u8 q3] 87 (0, 0)) → W.heap[g12]? = some (.cells #[.int .i64 (A : Int), .int .i64 (D : Int)] 26 (0, 0)) → SlA W (.slice av ws.length cv) ws → SlI W (.slice at_' m ct) tl → Below w.heap.size w W → K (frM s a l q0 q1 q2 q3 f (.slice ad qs.length cap) (.slice at_' m ct) w.heap.size g5 g8 g12 F) W := by
      clear b5 b8 b12 HV HT B c50 c51
      intro F W b5 b8 b12 hV hT B
      have HV := Lib.hid hV
      have HT := Lib.hid hT
      refine HK.out _ _ ?_
      clear HK hV hT
      have l5 := lt_blk b5
      have l8 := lt_blk b8
      have l12 := lt_blk b12
      unfold frM
      refine wp_seq_k (fun K hK => ?_)
      have HK := Lib.hid hK; clear hK
      go_wp2_with (first | (go_at_call 46; refine (copied_any g5 (m : Int) (.slice av ws.length cv) ws _ b5 HV.out (by omega)).mono ?_; rintro e wc ⟨⟨vc, rfl, hrc⟩, hb⟩; obtain ⟨ac, cc, hvc⟩ := form_of hrc; subst hvc))
      refine HK.out _ _ ?_; clear HK K
      replace b5 := blk_keep b5 hb
      replace b8 := blk_keep b8 hb
      replace b12 := blk_keep b12 hb
      have C := hb
      generalize hwn : World.alloc _ _ = wn
      obtain ⟨b21, hBn, hsn⟩ := blk1 hwn
      clear hwn
      replace hrc := row_below hrc hBn
      have hW21 : W.heap.size ≤ wc.heap.size := hb.size
      replace b5 := blk_keep b5 hBn
      replace b8 := blk_keep b8 hBn
      replace b12 := blk_keep b12 hBn
      replace C := btr C hBn (Nat.le_refl _)
      clear hb hBn hsn
      generalize wc.heap.size = g21 at *
      refine wp_seq_k (fun K hK => ?_)
      have HK := Lib.hid hK; clear hK
      refine wp_region_z (z := 26) (S := fun U : World => U.cell? ⟨g5, 0, none⟩ = some (.int .i64 (m : Int)) ∧ U.cell? ⟨g8, 0, none⟩ = some (.int .u8 q0) ∧ U.cell? ⟨g8, 1, none⟩ = some (.int .u8 q1) ∧ U.cell? ⟨g8, 2, none⟩ = some (.int .u8 q2) ∧ U.cell? ⟨g8, 3, none⟩ = some (.int .u8 q3) ∧ U.cell? ⟨g21, 1, none⟩ = some (.slice ac ws.length cc)) (by kernel_rfl) ?_
      change wpAnyZ _ _ _ _ _ _ _ _ _ (World.drew wn)
      replace b5 : (World.drew wn).heap[g5]? = _ := b5
      replace b8 : (World.drew wn).heap[g8]? = _ := b8
      replace b12 : (World.drew wn).heap[g12]? = _ := b12
      replace b21 : (World.drew wn).heap[g21]? = _ := b21
      replace hrc := row_below hrc ((Below.refl wn.heap.size wn).drew)
      replace C := C.drew
      generalize World.drew wn = wq at *
      clear wn
      have z50 := cell_blk (i := 0) b5
      have z80 := cell_blk (i := 0) b8
      have z81 := cell_blk (i := 1) b8
      have z82 := cell_blk (i := 2) b8
      have z83 := cell_blk (i := 3) b8
      have z21 := cell_blk (i := 1) b21
      simp only [List.getElem?_toArray, List.getElem?_cons_zero, List.getElem?_cons_succ] at z50 z80 z81 z82 z83 z21
      have hS0 : wq.cell? ⟨g5, 0, none⟩ = some (.int .i64 (m : Int)) ∧ wq.cell? ⟨g8, 0, none⟩ = some (.int .u8 q0) ∧ wq.cell? ⟨g8, 1, none⟩ = some (.int .u8 q1) ∧ wq.cell? ⟨g8, 2, none⟩ = some (.int .u8 q2) ∧ wq.cell? ⟨g8, 3, none⟩ = some (.int .u8 q3) ∧ wq.cell? ⟨g21, 1, none⟩ = some (.slice ac ws.length cc) := ⟨z50, z80, z81, z82, z83, z21⟩
      have hSB : ∀ U : World, Below wq.heap.size wq U → U.cell? ⟨g5, 0, none⟩ = some (.int .i64 (m : Int)) ∧ U.cell? ⟨g8, 0, none⟩ = some (.int .u8 q0) ∧ U.cell? ⟨g8, 1, none⟩ = some (.int .u8 q1) ∧ U.cell? ⟨g8, 2, none⟩ = some (.int .u8 q2) ∧ U.cell? ⟨g8, 3, none⟩ = some (.int .u8 q3) ∧ U.cell? ⟨g21, 1, none⟩ = some (.slice ac ws.length cc) := fun U hU => ⟨(hU.cell (p := ⟨g5, 0, none⟩) (lt_blk b5)).trans z50, (hU.cell (p := ⟨g8, 0, none⟩) (lt_blk b8)).trans z80, (hU.cell (p := ⟨g8, 1, none⟩) (lt_blk b8)).trans z81, (hU.cell (p := ⟨g8, 2, none⟩) (lt_blk b8)).trans z82, (hU.cell (p := ⟨g8, 3, none⟩) (lt_blk b8)).trans z83, (hU.cell (p := ⟨g21, 1, none⟩) (lt_blk b21)).trans z21⟩
      have HSB := Lib.hid hSB
      clear hSB z50 z80 z81 z82 z83 z21
      have hm0 : ¬ (m = 0) := by omega
      refine wpAnyZ_take (i := 0) (oi := { dst := some 112, op := _, type := _, pos := _, after := _, guard := _ }) (v := ?_) rfl (by kernel_rfl) (by kernel_rfl) (by kernel_rfl) (fun _ _ _ h => h) (Or.inl ⟨by rfl, ?_⟩) hS0 ?_
      rotate_left
      · intro U hU
        obtain ⟨u0, u1, u2, u3, u4, u5⟩ := hU
        go_simp
        all_goals with_reducible rfl
      simp only [Act.put, List.setIfInBounds_toArray, List.set_cons_zero, List.set_cons_succ]
      refine wpAnyZ_take (i := 1) (oi := { dst := some 113, op := _, type := _, pos := _, after := _, guard := _ }) (v := ?_) rfl (by kernel_rfl) (by kernel_rfl) (by kernel_rfl) (fun _ _ _ h => h) (Or.inl ⟨by rfl, ?_⟩) hS0 ?_
      rotate_left
      · intro U hU
        obtain ⟨u0, u1, u2, u3, u4, u5⟩ := hU
        go_simp
        all_goals with_reducible rfl
      simp only [Act.put, List.setIfInBounds_toArray, List.set_cons_zero, List.set_cons_succ]
      refine wpAnyZ_take (i := 2) (oi := { dst := some 114, op := _, type := _, pos := _, after := _, guard := _ }) (v := ?_) rfl (by kernel_rfl) (by kernel_rfl) (by kernel_rfl) (fun _ _ _ h => h) (Or.inl ⟨by rfl, ?_⟩) hS0 ?_
      rotate_left
      · intro U hU
        obtain ⟨u0, u1, u2, u3, u4, u5⟩ := hU
        go_simp
        all_goals with_reducible rfl
      simp only [Act.put, List.setIfInBounds_toArray, List.set_cons_zero, List.set_cons_succ]
      refine wpAnyZ_take (i := 3) (oi := { dst := some 115, op := _, type := _, pos := _, after := _, guard := _ }) (v := ?_) rfl (by kernel_rfl) (by kernel_rfl) (by kernel_rfl) (fun _ _ _ h => h) (Or.inl ⟨by rfl, ?_⟩) hS0 ?_
      rotate_left
      · intro U hU
        obtain ⟨u0, u1, u2, u3, u4, u5⟩ := hU
        go_simp
        all_goals with_reducible rfl
      simp only [Act.put, List.setIfInBounds_toArray, List.set_cons_zero, List.set_cons_succ]
      refine wpAnyZ_take (i := 4) (oi := { dst := some 116, op := _, type := _, pos := _, after := _, guard := _ }) (v := ?_) rfl (by kernel_rfl) (by kernel_rfl) (by kernel_rfl) (fun _ _ _ h => h) (Or.inl ⟨by rfl, ?_⟩) hS0 ?_
      rotate_left
      · intro U hU
        obtain ⟨u0, u1, u2, u3, u4, u5⟩ := hU
        go_simp
        all_goals with_reducible rfl
      simp only [Act.put, List.setIfInBounds_toArray, List.set_cons_zero, List.set_cons_succ]
      refine wpAnyZ_take (i := 5) (oi := { dst := some 117, op := _, type := _, pos := _, after := _, guard := _ }) (v := ?_) rfl (by kernel_rfl) (by kernel_rfl) (by kernel_rfl) (fun _ _ _ h => h) (Or.inl ⟨by rfl, ?_⟩) hS0 ?_
      rotate_left
      · intro U hU
        obtain ⟨u0, u1, u2, u3, u4, u5⟩ := hU
        go_simp
        all_goals with_reducible rfl
      simp only [Act.put, List.setIfInBounds_toArray, List.set_cons_zero, List.set_cons_succ]
      refine wpAnyZ_take (i := 6) (oi := { dst := some 118, op := _, type := _, pos := _, after := _, guard := _ }) (v := ?_) rfl (by kernel_rfl) (by kernel_rfl) (by kernel_rfl) (fun _ _ _ h => h) (Or.inl ⟨by rfl, ?_⟩) hS0 ?_
      rotate_left
      · intro U hU
        obtain ⟨u0, u1, u2, u3, u4, u5⟩ := hU
        go_simp
        all_goals with_reducible rfl
      simp only [Act.put, List.setIfInBounds_toArray, List.set_cons_zero, List.set_cons_succ]
      refine wpAnyZ_take (i := 7) (oi := { dst := some 119, op := _, type := _, pos := _, after := _, guard := _ }) (v := ?_) rfl (by kernel_rfl) (by kernel_rfl) (by kernel_rfl) (fun _ _ _ h => h) (Or.inl ⟨by rfl, ?_⟩) hS0 ?_
      rotate_left
      · intro U hU
        obtain ⟨u0, u1, u2, u3, u4, u5⟩ := hU
        go_simp
        all_goals with_reducible rfl
      simp only [Act.put, List.setIfInBounds_toArray, List.set_cons_zero, List.set_cons_succ]
      refine wpAnyZ_take (i := 8) (oi := { dst := some 120, op := _, type := _, pos := _, after := _, guard := _ }) (v := ?_) rfl (by kernel_rfl) (by kernel_rfl) (by kernel_rfl) (fun _ _ _ h => h) (Or.inl ⟨by rfl, ?_⟩) hS0 ?_
      rotate_left
      · intro U hU
        obtain ⟨u0, u1, u2, u3, u4, u5⟩ := hU
        go_simp
        all_goals with_reducible rfl
      simp only [Act.put, List.setIfInBounds_toArray, List.set_cons_zero, List.set_cons_succ]
      refine wpAnyZ_take (i := 9) (oi := { dst := some 121, op := _, type := _, pos := _, after := _, guard := _ }) (v := ?_) rfl (by kernel_rfl) (by kernel_rfl) (by kernel_rfl) (fun _ _ _ h => h) (Or.inl ⟨by rfl, ?_⟩) hS0 ?_
      rotate_left
      · intro U hU
        obtain ⟨u0, u1, u2, u3, u4, u5⟩ := hU
        go_simp
        all_goals with_reducible rfl
      simp only [Act.put, List.setIfInBounds_toArray, List.set_cons_zero, List.set_cons_succ]
      refine wpAnyZ_take (i := 10) (oi := { dst := some 122, op := _, type := _, pos := _, after := _, guard := _ }) (v := ?_) rfl (by kernel_rfl) (by kernel_rfl) (by kernel_rfl) (fun _ _ _ h => h) (Or.inl ⟨by rfl, ?_⟩) hS0 ?_
      rotate_left
      · intro U hU
        obtain ⟨u0, u1, u2, u3, u4, u5⟩ := hU
        go_simp
        all_goals with_reducible rfl
      simp only [Act.put, List.setIfInBounds_toArray, List.set_cons_zero, List.set_cons_succ]
      refine wpAnyZ_take (i := 11) (oi := { dst := some 123, op := _, type := _, pos := _, after := _, guard := _ }) (v := ?_) rfl (by kernel_rfl) (by kernel_rfl) (by kernel_rfl) (fun _ _ _ h => h) (Or.inl ⟨by rfl, ?_⟩) hS0 ?_
      rotate_left
      · intro U hU
        obtain ⟨u0, u1, u2, u3, u4, u5⟩ := hU
        go_simp
        all_goals with_reducible rfl
      simp only [Act.put, List.setIfInBounds_toArray, List.set_cons_zero, List.set_cons_succ]
      refine wpAnyZ_take (i := 12) (oi := { dst := some 124, op := _, type := _, pos := _, after := _, guard := _ }) (v := ?_) rfl (by kernel_rfl) (by kernel_rfl) (by kernel_rfl) (fun _ _ _ h => h) (Or.inl ⟨by rfl, ?_⟩) hS0 ?_
      rotate_left
      · intro U hU
        obtain ⟨u0, u1, u2, u3, u4, u5⟩ := hU
        go_simp
        all_goals with_reducible rfl
      simp only [Act.put, List.setIfInBounds_toArray, List.set_cons_zero, List.set_cons_succ]
      refine wpAnyZ_take (i := 13) (oi := { dst := some 125, op := _, type := _, pos := _, after := _, guard := _ }) (v := ?_) rfl (by kernel_rfl) (by kernel_rfl) (by kernel_rfl) (fun _ _ _ h => h) (Or.inl ⟨by rfl, ?_⟩) hS0 ?_
      rotate_left
      · intro U hU
        obtain ⟨u0, u1, u2, u3, u4, u5⟩ := hU
        go_simp
        all_goals with_reducible rfl
      simp only [Act.put, List.setIfInBounds_toArray, List.set_cons_zero, List.set_cons_succ]
      refine wpAnyZ_take (i := 14) (oi := { dst := some 126, op := _, type := _, pos := _, after := _, guard := _ }) (v := ?_) rfl (by kernel_rfl) (by kernel_rfl) (by kernel_rfl) (fun _ _ _ h => h) (Or.inl ⟨by rfl, ?_⟩) hS0 ?_
      rotate_left
      · intro U hU
        obtain ⟨u0, u1, u2, u3, u4, u5⟩ := hU
        go_simp
        all_goals with_reducible rfl
      simp only [Act.put, List.setIfInBounds_toArray, List.set_cons_zero, List.set_cons_succ]
      refine wpAnyZ_take (i := 15) (oi := { dst := some 127, op := _, type := _, pos := _, after := _, guard := _ }) (v := ?_) rfl (by kernel_rfl) (by kernel_rfl) (by kernel_rfl) (fun _ _ _ h => h) (Or.inl ⟨by rfl, ?_⟩) hS0 ?_
      rotate_left
      · intro U hU
        obtain ⟨u0, u1, u2, u3, u4, u5⟩ := hU
        go_simp
        all_goals with_reducible rfl
      simp only [Act.put, List.setIfInBounds_toArray, List.set_cons_zero, List.set_cons_succ]
      refine wpAnyZ_take (i := 16) (oi := { dst := some 128, op := _, type := _, pos := _, after := _, guard := _ }) (v := ?_) rfl (by kernel_rfl) (by kernel_rfl) (by kernel_rfl) (fun _ _ _ h => h) (Or.inl ⟨by rfl, ?_⟩) hS0 ?_
      rotate_left
      · intro U hU
        obtain ⟨u0, u1, u2, u3, u4, u5⟩ := hU
        go_simp
        all_goals with_reducible rfl
      simp only [Act.put, List.setIfInBounds_toArray, List.set_cons_zero, List.set_cons_succ]
      refine wpAnyZ_take (i := 18) (oi := { dst := some 130, op := _, type := _, pos := _, after := _, guard := _ }) (v := ?_) rfl (by kernel_rfl) (by kernel_rfl) (by kernel_rfl) (fun _ _ _ h => h) (Or.inl ⟨by rfl, ?_⟩) hS0 ?_
      rotate_left
      · intro U hU
        obtain ⟨u0, u1, u2, u3, u4, u5⟩ := hU
        go_simp
        all_goals with_reducible rfl
      simp only [Act.put, List.setIfInBounds_toArray, List.set_cons_zero, List.set_cons_succ]
      refine wpAnyZ_take (i := 19) (oi := { dst := some 131, op := _, type := _, pos := _, after := _, guard := _ }) (v := ?_) rfl (by kernel_rfl) (by kernel_rfl) (by kernel_rfl) (fun _ _ _ h => h) (Or.inl ⟨by rfl, ?_⟩) hS0 ?_
      rotate_left
      · intro U hU
        obtain ⟨u0, u1, u2, u3, u4, u5⟩ := hU
        go_simp
        all_goals with_reducible rfl
      simp only [Act.put, List.setIfInBounds_toArray, List.set_cons_zero, List.set_cons_succ]
      refine wpAnyZ_take (i := 20) (oi := { dst := some 132, op := _, type := _, pos := _, after := _, guard := _ }) (v := ?_) rfl (by kernel_rfl) (by kernel_rfl) (by kernel_rfl) (fun _ _ _ h => h) (Or.inl ⟨by rfl, ?_⟩) hS0 ?_
      rotate_left
      · intro U hU
        obtain ⟨u0, u1, u2, u3, u4, u5⟩ := hU
        go_simp
        all_goals with_reducible rfl
      simp only [Act.put, List.setIfInBounds_toArray, List.set_cons_zero, List.set_cons_succ]
      refine wpAnyZ_take (i := 21) (oi := { dst := some 133, op := _, type := _, pos := _, after := _, guard := _ }) (v := ?_) rfl (by kernel_rfl) (by kernel_rfl) (by kernel_rfl) (fun _ _ _ h => h) (Or.inl ⟨by rfl, ?_⟩) hS0 ?_
      rotate_left
      · intro U hU
        obtain ⟨u0, u1, u2, u3, u4, u5⟩ := hU
        go_simp
        all_goals with_reducible rfl
      simp only [Act.put, List.setIfInBounds_toArray, List.set_cons_zero, List.set_cons_succ]
      obtain ⟨x0, hx0⟩ : ∃ x, x = (IntKind.i64.wrap q0).tmod (m : Int) := ⟨_, rfl⟩
      obtain ⟨x1, hx1⟩ : ∃ x, x = (IntKind.i64.wrap q1).tmod (m : Int) := ⟨_, rfl⟩
      obtain ⟨x3, hx3⟩ : ∃ x, x = IntKind.i64.wrap q2 := ⟨_, rfl⟩
      obtain ⟨x4, hx4⟩ : ∃ x, x = (IntKind.i64.wrap q3).tmod 5 := ⟨_, rfl⟩
      rw [← hx0, ← hx1, ← hx3, ← hx4]
      have HX := Lib.hid (And.intro hx0 (And.intro hx1 (And.intro hx3 hx4)))
      clear hx0 hx1 hx3 hx4
      refine wpAnyZ_one (i := 17) (o := { dst := some 129, op := _, type := _, pos := _, after := _, guard := _ }) (by kernel_rfl) rfl (by rfl) (fun K1 hK1 => ?_)
      have HK1 := Lib.hid hK1; clear hK1
      go_simp
      refine (span_any _ _ _).mono ?_
      rintro e wp ⟨rfl, hb⟩
      have hS1 := HSB.out _ hb
      refine HK1.out _ _ (fun _ => hS1) ?_
      clear HK1 K1
      try simp only [Act.put, List.setIfInBounds_toArray, List.set_cons_zero, List.set_cons_succ]
      replace b5 := blk_keep b5 hb
      replace b8 := blk_keep b8 hb
      replace b12 := blk_keep b12 hb
      replace b21 := blk_keep b21 hb
      replace hrc := row_below hrc hb
      replace C := btr C hb (Nat.le_refl _)
      clear hS0 hb HSB
      refine wpAnyZ_take (i := 22) (oi := { dst := some 134, op := _, type := _, pos := _, after := _, guard := _ }) (v := ?_) rfl (by kernel_rfl) (by kernel_rfl) (by kernel_rfl) (fun _ _ _ h => h) (Or.inl ⟨by rfl, ?_⟩) hS1 ?_
      rotate_left
      · intro U hU
        obtain ⟨u0, u1, u2, u3, u4, u5⟩ := hU
        go_simp
        all_goals with_reducible rfl
      simp only [Act.put, List.setIfInBounds_toArray, List.set_cons_zero, List.set_cons_succ]
      refine wpAnyZ_one (i := 23) (o := { dst := some 135, op := _, type := _, pos := _, after := _, guard := _ }) (by kernel_rfl) rfl (by rfl) (fun K1 hK1 => ?_)
      have HK1 := Lib.hid hK1; clear hK1
      go_simp
      have hb := (Below.refl _ wp).alloc (Nat.le_refl _) (Obj.cells #[.int .i64 x0, .int .i64 x1, .int .i64 0, .int .i64 x3, .int .i64 x4] 82 (0, 0))
      replace b5 := blk_keep b5 hb
      replace b8 := blk_keep b8 hb
      replace b12 := blk_keep b12 hb
      replace b21 := blk_keep b21 hb
      replace hrc := row_below hrc hb
      replace C := btr C hb (Nat.le_refl _)
      have bx : (wp.alloc (Obj.cells #[.int .i64 x0, .int .i64 x1, .int .i64 0, .int .i64 x3, .int .i64 x4] 82 (0, 0))).heap[wp.heap.size]? = some (Obj.cells #[.int .i64 x0, .int .i64 x1, .int .i64 0, .int .i64 x3, .int .i64 x4] 82 (0, 0)) := heap_newI rfl
      have z50 := cell_blk (i := 0) b5
      have z80 := cell_blk (i := 0) b8
      have z81 := cell_blk (i := 1) b8
      have z82 := cell_blk (i := 2) b8
      have z83 := cell_blk (i := 3) b8
      have z21 := cell_blk (i := 1) b21
      simp only [List.getElem?_toArray, List.getElem?_cons_zero, List.getElem?_cons_succ] at z50 z80 z81 z82 z83 z21
      have hS2 : (wp.alloc (Obj.cells #[.int .i64 x0, .int .i64 x1, .int .i64 0, .int .i64 x3, .int .i64 x4] 82 (0, 0))).cell? ⟨g5, 0, none⟩ = some (.int .i64 (m : Int)) ∧ (wp.alloc (Obj.cells #[.int .i64 x0, .int .i64 x1, .int .i64 0, .int .i64 x3, .int .i64 x4] 82 (0, 0))).cell? ⟨g8, 0, none⟩ = some (.int .u8 q0) ∧ (wp.alloc (Obj.cells #[.int .i64 x0, .int .i64 x1, .int .i64 0, .int .i64 x3, .int .i64 x4] 82 (0, 0))).cell? ⟨g8, 1, none⟩ = some (.int .u8 q1) ∧ (wp.alloc (Obj.cells #[.int .i64 x0, .int .i64 x1, .int .i64 0, .int .i64 x3, .int .i64 x4] 82 (0, 0))).cell? ⟨g8, 2, none⟩ = some (.int .u8 q2) ∧ (wp.alloc (Obj.cells #[.int .i64 x0, .int .i64 x1, .int .i64 0, .int .i64 x3, .int .i64 x4] 82 (0, 0))).cell? ⟨g8, 3, none⟩ = some (.int .u8 q3) ∧ (wp.alloc (Obj.cells #[.int .i64 x0, .int .i64 x1, .int .i64 0, .int .i64 x3, .int .i64 x4] 82 (0, 0))).cell? ⟨g21, 1, none⟩ = some (.slice ac ws.length cc) := ⟨z50, z80, z81, z82, z83, z21⟩
      refine HK1.out _ _ (fun _ => hS2) ?_
      clear HK1 K1
      try simp only [Act.put, List.setIfInBounds_toArray, List.set_cons_zero, List.set_cons_succ]
      clear hS1 hb z50 z80 z81 z82 z83 z21
      generalize wp.alloc _ = wr at *
      obtain ⟨gx, hgx⟩ : ∃ g, g = wp.heap.size := ⟨_, rfl⟩
      rw [← hgx] at bx ⊢
      clear hgx
      have hWr : W.heap.size ≤ wr.heap.size := by have := lt_blk b21; omega
      refine wpAnyZ_one (i := 24) (o := { dst := some 136, op := _, type := _, pos := _, after := _, guard := _ }) (by kernel_rfl) rfl (by rfl) (fun K1 hK1 => ?_)
      have HK1 := Lib.hid hK1; clear hK1
      refine oper_pushA (.tmp 113) (.tmp 135) rfl (⟨x0, x1, 0, x3, x4⟩ : Wa) hrc (by omega) rfl rfl bx hWr ?_
      intro v8 w8 r8 hb8 hk8
      obtain ⟨a8, c8, hv8⟩ := form_of r8
      subst hv8
      replace b5 := hk8 _ _ _ _ b5 (by decide)
      replace b8 := hk8 _ _ _ _ b8 (by decide)
      replace b12 := hk8 _ _ _ _ b12 (by decide)
      replace b21 := hk8 _ _ _ _ b21 (by decide)
      have z50 := cell_blk (i := 0) b5
      have z80 := cell_blk (i := 0) b8
      have z81 := cell_blk (i := 1) b8
      have z82 := cell_blk (i := 2) b8
      have z83 := cell_blk (i := 3) b8
      have z21 := cell_blk (i := 1) b21
      simp only [List.getElem?_toArray, List.getElem?_cons_zero, List.getElem?_cons_succ] at z50 z80 z81 z82 z83 z21
      have hS3 : w8.cell? ⟨g5, 0, none⟩ = some (.int .i64 (m : Int)) ∧ w8.cell? ⟨g8, 0, none⟩ = some (.int .u8 q0) ∧ w8.cell? ⟨g8, 1, none⟩ = some (.int .u8 q1) ∧ w8.cell? ⟨g8, 2, none⟩ = some (.int .u8 q2) ∧ w8.cell? ⟨g8, 3, none⟩ = some (.int .u8 q3) ∧ w8.cell? ⟨g21, 1, none⟩ = some (.slice ac ws.length cc) := ⟨z50, z80, z81, z82, z83, z21⟩
      refine HK1.out _ _ (fun _ => hS3) ?_
      clear HK1 K1
      try simp only [Act.put, List.setIfInBounds_toArray, List.set_cons_zero, List.set_cons_succ]
      clear hS2 hrc z50 z80 z81 z82 z83 z21 bx
      refine wpAnyZ_take (i := 25) (oi := { dst := some 137, op := _, type := _, pos := _, after := _, guard := _ }) (v := ?_) rfl (by kernel_rfl) (by kernel_rfl) (by kernel_rfl) (fun _ _ _ h => h) (Or.inl ⟨by rfl, ?_⟩) hS3 ?_
      rotate_left
      · intro U hU
        obtain ⟨u0, u1, u2, u3, u4, u5⟩ := hU
        go_simp
        all_goals with_reducible rfl
      simp only [Act.put, List.setIfInBounds_toArray, List.set_cons_zero, List.set_cons_succ]
      refine wpAnyZ_last (o := { dst := none, op := _, type := _, pos := _, after := _, guard := _ }) (by kernel_rfl) (by kernel_rfl) rfl (by rfl) (fun K1 hK1 => ?_)
      have HK1 := Lib.hid hK1; clear hK1
      have e21f := free_blk (i := 1) b21
      have e21 := cell_blk (i := 1) b21
      simp only [List.getElem?_toArray, List.getElem?_cons_zero, List.getElem?_cons_succ] at e21
      go_simp
      have n21 : (w8.setCell ⟨g21, 1, none⟩ (.slice a8 (ws.length + 1) c8)).heap[g21]? = some (.cells #[.int .i64 (m : Int), .slice a8 (ws.length + 1) c8] 24 (0, 0)) := (heap_set_blk b21).trans rfl
      have n5 := (heap_set_other (v := (.slice a8 (ws.length + 1) c8)) (b' := g21) (i := 1) (show g5 ≠ g21 by omega)).trans b5
      have n8 := (heap_set_other (v := (.slice a8 (ws.length + 1) c8)) (b' := g21) (i := 1) (show g8 ≠ g21 by omega)).trans b8
      have n12 := (heap_set_other (v := (.slice a8 (ws.length + 1) c8)) (b' := g21) (i := 1) (show g12 ≠ g21 by omega)).trans b12
      have nr := row_set_other (b := g21) (i := 1) (x := (.slice a8 (ws.length + 1) c8)) r8 (own_ne r8 b21 (by decide))
      have nC := (C.trans hb8).setCell (p := ⟨g21, 1, none⟩) hW21 (.slice a8 (ws.length + 1) c8)
      refine HK1.out _ _ ?_
      clear HK1 K1 b5 b8 b12 b21 C r8 hb8 hk8 e21f e21 hS3 hWr
      generalize World.setCell _ _ _ = w9 at *
      simp only [Exit.then]
      refine HK.out _ _ ?_; clear HK K
      have HV9 := Lib.hid (HV.out.below nC (Nat.le_refl _))
      have HT9 := Lib.hid (HT.out.below nC (Nat.le_refl _))
      have B9 := btr B nC (Nat.le_refl _)
      replace HX := HX.out
      have v8 : Val m (ws ++ [(⟨x0, x1, 0, x3, x4⟩ : Wa)]) := by
        have hv0 := val_mem.1 HVL.out
        refine val_mem.2 ⟨hv0.1, by rw [List.length_append]; simp only [List.length_cons, List.length_nil]; omega, fun x hx => ?_⟩
        rcases List.mem_append.1 hx with hx | hx
        · exact hv0.2.2 x hx
        · rw [List.mem_singleton.1 hx]
          obtain ⟨e0, e1, e3, e4⟩ := HX
          rw [mdw (by omega), Int.tmod_eq_emod_of_nonneg h4.1.1] at e0
          rw [mdw (by omega), Int.tmod_eq_emod_of_nonneg h4.2.1.1] at e1
          rw [mdw (by omega)] at e3
          rw [mdw (by omega), Int.tmod_eq_emod_of_nonneg h4.2.2.2.1] at e4
          have k1 := Int.emod_nonneg q0 (show (m : Int) ≠ 0 by omega)
          have k2 := Int.emod_lt_of_pos q0 (show 0 < (m : Int) by omega)
          have k3 := Int.emod_nonneg q1 (show (m : Int) ≠ 0 by omega)
          have k4 := Int.emod_lt_of_pos q1 (show 0 < (m : Int) by omega)
          unfold okV
          simp only
          omega
      have s8 : SlA w9 (.slice a8 (ws.length + 1) c8) (ws ++ [(⟨x0, x1, 0, x3, x4⟩ : Wa)]) := slG_own encA_len nr (by simp) (by simp; omega)
      have le8 : NS (ws ++ [(⟨x0, x1, 0, x3, x4⟩ : Wa)]) → A * pden m (ws ++ [(⟨x0, x1, 0, x3, x4⟩ : Wa)]) ≤ pnum m (ws ++ [(⟨x0, x1, 0, x3, x4⟩ : Wa)]) * D := fun h => by
        have := pace_more HVL.out HNS.out v8 h (fun a b Y k => keeps_app k)
        rw [← HE.out.2.1, ← HE.out.2.2.1] at this
        exact this
      have H47 := Lib.hid (less_any g12 m (.slice a8 (ws.length + 1) c8) _ A D w9 v8 (by omega) n12 s8 le8)
      clear v8 s8 le8 HX nr HV HT B hm0
      refine wp_seq_k (fun K hK => ?_)
      have HK := Lib.hid hK; clear hK
      go_wp2_with (first | (refine wpList_load_blk rfl 24 _ rfl _ rfl n21 Try.underlying24 rfl size24 rfl ?_) | (go_at_call 47; refine H47.out.mono ?_; rintro e wd ⟨rfl, hb⟩))
      refine HK.out _ _ ?_; clear HK K H47 n21
      replace b5 := blk_keep n5 hb
      replace b12 := blk_keep n12 hb
      have HV := Lib.hid (HV9.out.below hb (Nat.le_refl _))
      have HT := Lib.hid (HT9.out.below hb (Nat.le_refl _))
      have B := btr B9 hb (Nat.le_refl _)
      clear hb n5 n8 n12 HV9 HT9 B9 nC l5 l8 l12 hW21 h4
      refine wp_fr (frM s a l q0 q1 q2 q3 f (.slice ad qs.length cap) (.slice at_' m ct) w.heap.size g5 g8 g12) rfl (fun F => ?_)
      unfold frM
      have MK := Lib.hid trivial
      have HV0 := Lib.hid HV.out
      have HT0 := Lib.hid HT.out
      have B0 := B
      have b50 := b5
      have b120 := b12
      refine wp_seq_k (fun K hK => ?_)
      have HK := Lib.hid hK; clear hK
      go_wp2_with (first | (go_at_call 46; clear MK; refine (copied_any g5 (m : Int) (.slice av ws.length cv) ws _ b5 HV.out (by omega)).mono ?_; rintro e we ⟨⟨vd, rfl, hrd⟩, hb⟩; have hs_we := hb.size; have HLD := Lib.hid hrd.lt; have C := hb; obtain ⟨ap, h_ap⟩ := form_of hrd; obtain ⟨c_ap, h_ap⟩ := h_ap; subst h_ap; replace b5 := blk_keep b5 hb; replace b12 := blk_keep b12 hb; replace HV := Lib.hid (HV.out.below hb (Nat.le_refl _)); replace HT := Lib.hid (HT.out.below hb (Nat.le_refl _)); replace B := btr B hb (Nat.le_refl _); clear hb) | (go_at_call 46; refine (copied_any g5 (m : Int) (.slice av ws.length cv) ws _ b5 HV.out (by omega)).mono ?_; rintro e wf ⟨⟨ve, rfl, hre⟩, hb⟩; have hs_wf := hb.size; replace C := btr C hb (Nat.le_refl _); obtain ⟨aq, h_aq⟩ := form_of hre; obtain ⟨c_aq, h_aq⟩ := h_aq; subst h_aq; replace b5 := blk_keep b5 hb; replace b12 := blk_keep b12 hb; replace HV := Lib.hid (HV.out.below hb (Nat.le_refl _)); replace HT := Lib.hid (HT.out.below hb (Nat.le_refl _)); replace B := btr B hb (Nat.le_refl _); replace hrd := row_below hrd hb; clear hb))
      refine HK.out _ _ ?_; clear HK K
      generalize hwn : World.alloc _ _ = wn
      obtain ⟨b22, b23, hBn, hsn⟩ := blk2 hwn
      clear hwn
      replace C := btr C hBn (Nat.le_refl _)
      replace hrd := row_below hrd hBn
      replace hre := row_below hre hBn
      obtain ⟨gd, hgd1, OD, -⟩ := ownV_row hrd rfl
      obtain ⟨ge, hge1, OE, -⟩ := ownV_row hre rfl
      have hgd2 : 0 < ws.length → gd < we.heap.size := fun h => (HLD.out gd (by rw [(OD.2.2 h).1]; rfl)).2
      clear b5 b12 HV HT B hBn HLD
      obtain ⟨g22, hg22⟩ : ∃ g, g = wf.heap.size := ⟨_, rfl⟩
      rw [← hg22] at b22 b23 ⊢
      obtain ⟨g23, hg23⟩ : ∃ g, g = g22 + 1 := ⟨_, rfl⟩
      rw [← hg23] at b23 ⊢
      obtain ⟨bs, hbs⟩ : ∃ b, b = wd.heap.size := ⟨_, rfl⟩
      have hg3 : bs ≤ g22 ∧ g23 = g22 + 1 ∧ bs ≤ gd ∧ bs ≤ ge := by omega
      have hde : 0 < ws.length → gd ≠ ge := fun h => by have := hgd2 h; omega
      rw [← hbs] at C
      have HDE := Lib.hid (And.intro hde hbs)
      clear hde hgd2 hbs hrd hre hg22 hg23 hgd1 hge1 hs_we hs_wf hsn
      obtain ⟨N, hN⟩ : ∃ N : Nat, (N : Int) = 1 + f % 4 := ⟨(1 + f % 4).toNat, by omega⟩
      have hN4 : 1 ≤ N ∧ N ≤ 4 := by omega
      have HG3 := Lib.hid hg3
      clear hg3
      have hfN : IntKind.i64.wrap (1 + (IntKind.i64.wrap f).tmod 4) = (N : Int) := by rw [mdw (q := f) (by omega), Int.tmod_eq_emod_of_nonneg hf.1, mdw (by omega), hN]
      have HN := Lib.hid hN
      clear hN
      refine wp_seq_k (fun K hK => ?_)
      have HK := Lib.hid hK; clear hK
      go_wp2
      refine HK.out _ _ ?_; clear HK K
      try rw [hfN]
      try rw [← HN.out]
      clear hfN
      refine wp_seq_k (fun K hK => ?_)
      have HK := Lib.hid hK; clear hK
      go_wp2
      refine HK.out _ _ ?_; clear HK K
      have c221 := cell_blk (i := 1) b22
      simp only [List.getElem?_toArray, List.getElem?_cons_zero, List.getElem?_cons_succ] at c221
      have hl24 : OwnV wn ap gd ws.length c_ap (mapTo (mulT N) 0 ws) := by rw [mapTo_zero]; exact OD
      have hl25 : OwnV wn aq ge ws.length c_aq (mapTo dblB 0 ws) := by rw [mapTo_zero]; exact OE
      have HIN := Lib.hid (And.intro hl24 hl25)
      clear hl24 hl25 OD OE
      refine wp_seq_k (fun K hK => ?_)
      have HK := Lib.hid hK; clear hK
      go_wp2_with (refine wp_seq_k (fun K hK => ?_); fail)
      clear c221
      go_loopw [25, 152] (fun v25 i wr => ∃ k : Nat, k ≤ ws.length ∧ v25 = .bool ((ws.take k).all (fun x => decide (x.b * 2 ≤ 4))) ∧ i = .int .i64 k ∧ wr.heap[g22]? = some (.cells #[.int .i64 (m : Int), .slice ap ws.length c_ap] 24 (0, 0)) ∧ wr.heap[g23]? = some (.cells #[.int .i64 (m : Int), .slice aq ws.length c_aq] 24 (0, 0)) ∧ OwnV wr ap gd ws.length c_ap (mapTo (mulT N) k ws) ∧ OwnV wr aq ge ws.length c_aq (mapTo dblB k ws) ∧ Below bs wd wr) (fun _ i _ => ws.length - (intOf i).toNat)
      case atStart => exact ⟨0, Nat.zero_le _, rfl, rfl, b22, b23, HIN.out.1, HIN.out.2, C⟩
      case round =>
        clear b22 b23 HIN C
        obtain ⟨k, hk, rfl, rfl, b22, b23, OD, OE, C⟩ := hrel
        by_cases hkn : k < ws.length
        · obtain ⟨hap, OD2⟩ := OD.2.2 (by omega)
          obtain ⟨haq, OE2⟩ := OE.2.2 (by omega)
          subst hap haq
          have hx := HM.out.ok _ (List.getElem_mem hkn)
          rw [← at_lt hkn] at hx
          have hk2 : k < (mapTo (mulT N) k ws).length := by rw [mapTo_len]; exact hkn
          have hk3 : k < (mapTo dblB k ws).length := by rw [mapTo_len]; exact hkn
          obtain ⟨-, -, d2, d3, -⟩ := OD2.cells hk2
          obtain ⟨-, -, -, -, e4⟩ := OE2.cells hk3
          rw [mapTo_at _ hkn] at d2 d3 e4
          obtain ⟨lo, hlo⟩ : ∃ x, x = (at_ ws k).lo := ⟨_, rfl⟩
          obtain ⟨hi, hhi⟩ : ∃ x, x = (at_ ws k).hi := ⟨_, rfl⟩
          obtain ⟨bk, hbk⟩ : ∃ x, x = (at_ ws k).b := ⟨_, rfl⟩
          rw [← hlo] at d2
          rw [← hhi] at d3
          rw [← hbk] at e4
          have hlb : 0 ≤ lo ∧ lo ≤ hi ∧ hi ≤ 84 ∧ 0 ≤ bk ∧ bk ≤ 3 := by unfold okM at hx; omega
          have c221 := cell_blk (i := 1) b22
          have c231 := cell_blk (i := 1) b23
          simp only [List.getElem?_toArray, List.getElem?_cons_zero, List.getElem?_cons_succ] at c221 c231
          have hne1 := OD2.ne b22 (by decide)
          have hne2 := OD2.ne b23 (by decide)
          have hne3 := OE2.ne b22 (by decide)
          have hne4 := OE2.ne b23 (by decide)
          have hde := HDE.out.1 (by omega)
          have hcp := OD.2.1
          have hcq := OE.2.1
          have HXX := Lib.hid (And.intro hlo (And.intro hhi hbk))
          clear hlo hhi hbk hx hk2 hk3 OD OE
          have p1 : 0 ≤ (N : Int) * lo := Int.mul_nonneg (by omega) (by omega)
          have p2 : (N : Int) * lo ≤ 4 * 84 := Int.mul_le_mul (by omega) (by omega) (by omega) (by omega)
          have p3 : 0 ≤ (N : Int) * hi := Int.mul_nonneg (by omega) (by omega)
          have p4 : (N : Int) * hi ≤ 4 * 84 := Int.mul_le_mul (by omega) (by omega) (by omega) (by omega)
          have y1 : IntKind.i64.wrap ((N : Int) * lo) = (N : Int) * lo := by rw [IntKind.wrap_i64]; omega
          have y2 : IntKind.i64.wrap ((N : Int) * hi) = (N : Int) * hi := by rw [IntKind.wrap_i64]; omega
          clear p1 p2 p3 p4
          have hkl : (k : Int) < (ws.length : Int) := by omega
          obtain ⟨db, hdb⟩ : ∃ db, db = (ws.take k).all (fun x => decide (x.b * 2 ≤ 4)) := ⟨_, rfl⟩
          rw [← hdb]
          have HDB := Lib.hid hdb
          clear hdb
          go_wp2
          rename_i K hK
          have HK := Lib.hid hK; clear hK
          refine wp_region_z (z := 24) (S := fun U : World => U.cell? ⟨g22, 1, none⟩ = some (.slice (some ⟨gd, 0, none⟩) ws.length c_ap) ∧ U.cell? ⟨gd, k * 5 + 2, none⟩ = some (.int .i64 lo) ∧ U.cell? ⟨gd, k * 5 + 3, none⟩ = some (.int .i64 hi)) (by kernel_rfl) ?_
          change wpAnyZ _ _ _ _ _ _ _ _ _ (World.drew wr)
          replace b22 : (World.drew wr).heap[g22]? = _ := b22
          replace b23 : (World.drew wr).heap[g23]? = _ := b23
          replace C := C.drew
          replace OD2 := OD2.below ((Below.refl wr.heap.size wr).drew) (Nat.le_refl _)
          replace OE2 := OE2.below ((Below.refl wr.heap.size wr).drew) (Nat.le_refl _)
          replace c221 : (World.drew wr).cell? _ = _ := c221
          replace c231 : (World.drew wr).cell? _ = _ := c231
          replace d2 : (World.drew wr).cell? _ = _ := d2
          replace d3 : (World.drew wr).cell? _ = _ := d3
          replace e4 : (World.drew wr).cell? _ = _ := e4
          generalize World.drew wr = wq at *
          clear wr
          have hS0 : wq.cell? ⟨g22, 1, none⟩ = some (.slice (some ⟨gd, 0, none⟩) ws.length c_ap) ∧ wq.cell? ⟨gd, k * 5 + 2, none⟩ = some (.int .i64 lo) ∧ wq.cell? ⟨gd, k * 5 + 3, none⟩ = some (.int .i64 hi) := ⟨c221, d2, d3⟩
          refine wpAnyZ_take (i := 0) (oi := { dst := some 155, op := _, type := _, pos := _, after := _, guard := _ }) (v := ?_) rfl (by kernel_rfl) (by kernel_rfl) (by kernel_rfl) (fun _ _ _ h => h) (Or.inl ⟨by rfl, ?_⟩) hS0 ?_
          rotate_left
          · intro U hU
            obtain ⟨u0, u1, u2⟩ := hU
            go_simp
            all_goals with_reducible rfl
          simp only [Act.put, List.setIfInBounds_toArray, List.set_cons_zero, List.set_cons_succ]
          refine wpAnyZ_take (i := 1) (oi := { dst := some 156, op := _, type := _, pos := _, after := _, guard := _ }) (v := ?_) rfl (by kernel_rfl) (by kernel_rfl) (by kernel_rfl) (fun _ _ _ h => h) (Or.inl ⟨by rfl, ?_⟩) hS0 ?_
          rotate_left
          · intro U hU
            obtain ⟨u0, u1, u2⟩ := hU
            go_simp
            all_goals with_reducible rfl
          simp only [Act.put, List.setIfInBounds_toArray, List.set_cons_zero, List.set_cons_succ]
          refine wpAnyZ_take (i := 2) (oi := { dst := some 157, op := _, type := _, pos := _, after := _, guard := _ }) (v := ?_) rfl (by kernel_rfl) (by kernel_rfl) (by kernel_rfl) (fun _ _ _ h => h) (Or.inl ⟨by rfl, ?_⟩) hS0 ?_
          rotate_left
          · intro U hU
            obtain ⟨u0, u1, u2⟩ := hU
            go_simp
            all_goals with_reducible rfl
          simp only [Act.put, List.setIfInBounds_toArray, List.set_cons_zero, List.set_cons_succ]
          refine wpAnyZ_take (i := 3) (oi := { dst := some 158, op := _, type := _, pos := _, after := _, guard := _ }) (v := ?_) rfl (by kernel_rfl) (by kernel_rfl) (by kernel_rfl) (fun _ _ _ h => h) (Or.inl ⟨by rfl, ?_⟩) hS0 ?_
          rotate_left
          · intro U hU
            obtain ⟨u0, u1, u2⟩ := hU
            go_simp
            all_goals with_reducible rfl
          simp only [Act.put, List.setIfInBounds_toArray, List.set_cons_zero, List.set_cons_succ]
          refine wpAnyZ_take (i := 4) (oi := { dst := some 159, op := _, type := _, pos := _, after := _, guard := _ }) (v := ?_) rfl (by kernel_rfl) (by kernel_rfl) (by kernel_rfl) (fun _ _ _ h => h) (Or.inl ⟨by rfl, ?_⟩) hS0 ?_
          rotate_left
          · intro U hU
            obtain ⟨u0, u1, u2⟩ := hU
            go_simp
            all_goals with_reducible rfl
          simp only [Act.put, List.setIfInBounds_toArray, List.set_cons_zero, List.set_cons_succ]
          refine wpAnyZ_take (i := 5) (oi := { dst := some 160, op := _, type := _, pos := _, after := _, guard := _ }) (v := ?_) rfl (by kernel_rfl) (by kernel_rfl) (by kernel_rfl) (fun _ _ _ h => h) (Or.inl ⟨by rfl, ?_⟩) hS0 ?_
          rotate_left
          · intro U hU
            obtain ⟨u0, u1, u2⟩ := hU
            go_simp
            all_goals with_reducible rfl
          simp only [Act.put, List.setIfInBounds_toArray, List.set_cons_zero, List.set_cons_succ]
          refine wpAnyZ_take (i := 6) (oi := { dst := some 161, op := _, type := _, pos := _, after := _, guard := _ }) (v := ?_) rfl (by kernel_rfl) (by kernel_rfl) (by kernel_rfl) (fun _ _ _ h => h) (Or.inl ⟨by rfl, ?_⟩) hS0 ?_
          rotate_left
          · intro U hU
            obtain ⟨u0, u1, u2⟩ := hU
            go_simp
            all_goals with_reducible rfl
          simp only [Act.put, List.setIfInBounds_toArray, List.set_cons_zero, List.set_cons_succ]
          refine wpAnyZ_take (i := 7) (oi := { dst := some 162, op := _, type := _, pos := _, after := _, guard := _ }) (v := ?_) rfl (by kernel_rfl) (by kernel_rfl) (by kernel_rfl) (fun _ _ _ h => h) (Or.inl ⟨by rfl, ?_⟩) hS0 ?_
          rotate_left
          · intro U hU
            obtain ⟨u0, u1, u2⟩ := hU
            go_simp
            all_goals with_reducible rfl
          simp only [Act.put, List.setIfInBounds_toArray, List.set_cons_zero, List.set_cons_succ]
          refine wpAnyZ_take (i := 8) (oi := { dst := some 163, op := _, type := _, pos := _, after := _, guard := _ }) (v := ?_) rfl (by kernel_rfl) (by kernel_rfl) (by kernel_rfl) (fun _ _ _ h => h) (Or.inl ⟨by rfl, ?_⟩) hS0 ?_
          rotate_left
          · intro U hU
            obtain ⟨u0, u1, u2⟩ := hU
            go_simp
            all_goals with_reducible rfl
          simp only [Act.put, List.setIfInBounds_toArray, List.set_cons_zero, List.set_cons_succ]
          refine wpAnyZ_take (i := 9) (oi := { dst := some 164, op := _, type := _, pos := _, after := _, guard := _ }) (v := ?_) rfl (by kernel_rfl) (by kernel_rfl) (by kernel_rfl) (fun _ _ _ h => h) (Or.inl ⟨by rfl, ?_⟩) hS0 ?_
          rotate_left
          · intro U hU
            obtain ⟨u0, u1, u2⟩ := hU
            go_simp
            all_goals with_reducible rfl
          simp only [Act.put, List.setIfInBounds_toArray, List.set_cons_zero, List.set_cons_succ]
          refine wpAnyZ_take (i := 10) (oi := { dst := some 165, op := _, type := _, pos := _, after := _, guard := _ }) (v := ?_) rfl (by kernel_rfl) (by kernel_rfl) (by kernel_rfl) (fun _ _ _ h => h) (Or.inl ⟨by rfl, ?_⟩) hS0 ?_
          rotate_left
          · intro U hU
            obtain ⟨u0, u1, u2⟩ := hU
            go_simp
            all_goals with_reducible rfl
          simp only [Act.put, List.setIfInBounds_toArray, List.set_cons_zero, List.set_cons_succ]
          refine wpAnyZ_take (i := 11) (oi := { dst := some 166, op := _, type := _, pos := _, after := _, guard := _ }) (v := ?_) rfl (by kernel_rfl) (by kernel_rfl) (by kernel_rfl) (fun _ _ _ h => h) (Or.inl ⟨by rfl, ?_⟩) hS0 ?_
          rotate_left
          · intro U hU
            obtain ⟨u0, u1, u2⟩ := hU
            go_simp
            all_goals with_reducible rfl
          simp only [Act.put, List.setIfInBounds_toArray, List.set_cons_zero, List.set_cons_succ]
          refine wpAnyZ_take (i := 12) (oi := { dst := some 167, op := _, type := _, pos := _, after := _, guard := _ }) (v := ?_) rfl (by kernel_rfl) (by kernel_rfl) (by kernel_rfl) (fun _ _ _ h => h) (Or.inl ⟨by rfl, ?_⟩) hS0 ?_
          rotate_left
          · intro U hU
            obtain ⟨u0, u1, u2⟩ := hU
            go_simp
            all_goals with_reducible rfl
          simp only [Act.put, List.setIfInBounds_toArray, List.set_cons_zero, List.set_cons_succ]
          refine wpAnyZ_take (i := 13) (oi := { dst := some 168, op := _, type := _, pos := _, after := _, guard := _ }) (v := ?_) rfl (by kernel_rfl) (by kernel_rfl) (by kernel_rfl) (fun _ _ _ h => h) (Or.inl ⟨by rfl, ?_⟩) hS0 ?_
          rotate_left
          · intro U hU
            obtain ⟨u0, u1, u2⟩ := hU
            go_simp
            all_goals with_reducible rfl
          simp only [Act.put, List.setIfInBounds_toArray, List.set_cons_zero, List.set_cons_succ]
          refine wpAnyZ_take (i := 14) (oi := { dst := some 169, op := _, type := _, pos := _, after := _, guard := _ }) (v := ?_) rfl (by kernel_rfl) (by kernel_rfl) (by kernel_rfl) (fun _ _ _ h => h) (Or.inl ⟨by rfl, ?_⟩) hS0 ?_
          rotate_left
          · intro U hU
            obtain ⟨u0, u1, u2⟩ := hU
            go_simp
            all_goals with_reducible rfl
          simp only [Act.put, List.setIfInBounds_toArray, List.set_cons_zero, List.set_cons_succ]
          refine wpAnyZ_take (i := 15) (oi := { dst := some 170, op := _, type := _, pos := _, after := _, guard := _ }) (v := ?_) rfl (by kernel_rfl) (by kernel_rfl) (by kernel_rfl) (fun _ _ _ h => h) (Or.inl ⟨by rfl, ?_⟩) hS0 ?_
          rotate_left
          · intro U hU
            obtain ⟨u0, u1, u2⟩ := hU
            go_simp
            all_goals with_reducible rfl
          simp only [Act.put, List.setIfInBounds_toArray, List.set_cons_zero, List.set_cons_succ]
          refine wpAnyZ_take (i := 16) (oi := { dst := some 171, op := _, type := _, pos := _, after := _, guard := _ }) (v := ?_) rfl (by kernel_rfl) (by kernel_rfl) (by kernel_rfl) (fun _ _ _ h => h) (Or.inl ⟨by rfl, ?_⟩) hS0 ?_
          rotate_left
          · intro U hU
            obtain ⟨u0, u1, u2⟩ := hU
            go_simp
            all_goals with_reducible rfl
          simp only [Act.put, List.setIfInBounds_toArray, List.set_cons_zero, List.set_cons_succ]
          refine wpAnyZ_take (i := 17) (oi := { dst := some 172, op := _, type := _, pos := _, after := _, guard := _ }) (v := ?_) rfl (by kernel_rfl) (by kernel_rfl) (by kernel_rfl) (fun _ _ _ h => h) (Or.inl ⟨by rfl, ?_⟩) hS0 ?_
          rotate_left
          · intro U hU
            obtain ⟨u0, u1, u2⟩ := hU
            go_simp
            all_goals with_reducible rfl
          simp only [Act.put, List.setIfInBounds_toArray, List.set_cons_zero, List.set_cons_succ]
          refine wpAnyZ_take (i := 18) (oi := { dst := some 173, op := _, type := _, pos := _, after := _, guard := _ }) (v := ?_) rfl (by kernel_rfl) (by kernel_rfl) (by kernel_rfl) (fun _ _ _ h => h) (Or.inl ⟨by rfl, ?_⟩) hS0 ?_
          rotate_left
          · intro U hU
            obtain ⟨u0, u1, u2⟩ := hU
            go_simp
            all_goals with_reducible rfl
          simp only [Act.put, List.setIfInBounds_toArray, List.set_cons_zero, List.set_cons_succ]
          refine wpAnyZ_take (i := 19) (oi := { dst := some 174, op := _, type := _, pos := _, after := _, guard := _ }) (v := ?_) rfl (by kernel_rfl) (by kernel_rfl) (by kernel_rfl) (fun _ _ _ h => h) (Or.inl ⟨by rfl, ?_⟩) hS0 ?_
          rotate_left
          · intro U hU
            obtain ⟨u0, u1, u2⟩ := hU
            go_simp
            all_goals with_reducible rfl
          simp only [Act.put, List.setIfInBounds_toArray, List.set_cons_zero, List.set_cons_succ]
          refine wpAnyZ_take (i := 20) (oi := { dst := some 175, op := _, type := _, pos := _, after := _, guard := _ }) (v := ?_) rfl (by kernel_rfl) (by kernel_rfl) (by kernel_rfl) (fun _ _ _ h => h) (Or.inl ⟨by rfl, ?_⟩) hS0 ?_
          rotate_left
          · intro U hU
            obtain ⟨u0, u1, u2⟩ := hU
            go_simp
            all_goals with_reducible rfl
          simp only [Act.put, List.setIfInBounds_toArray, List.set_cons_zero, List.set_cons_succ]
          refine wpAnyZ_one (i := 21) (o := { dst := some 176, op := _, type := _, pos := _, after := _, guard := _ }) (by kernel_rfl) rfl (by rfl) (fun K1 hK1 => ?_)
          have HK1 := Lib.hid hK1; clear hK1
          go_simp
          refine (span_any _ _ _).mono ?_
          rintro e wp ⟨rfl, hb⟩
          have lgd := OD2.lt
          have lge := OE2.lt
          have hS1 : wp.cell? ⟨g22, 1, none⟩ = some (.slice (some ⟨gd, 0, none⟩) ws.length c_ap) ∧ wp.cell? ⟨gd, k * 5 + 2, none⟩ = some (.int .i64 lo) ∧ wp.cell? ⟨gd, k * 5 + 3, none⟩ = some (.int .i64 hi) := ⟨(hb.cell (p := ⟨g22, 1, none⟩) (lt_blk b22)).trans c221, (hb.cell (p := ⟨gd, k * 5 + 2, none⟩) lgd).trans d2, (hb.cell (p := ⟨gd, k * 5 + 3, none⟩) lgd).trans d3⟩
          replace c231 := (hb.cell (p := ⟨g23, 1, none⟩) (lt_blk b23)).trans c231
          replace e4 := (hb.cell (p := ⟨ge, k * 5 + 4, none⟩) lge).trans e4
          refine HK1.out _ _ (fun _ => hS1) ?_
          clear HK1 K1
          try simp only [Act.put, List.setIfInBounds_toArray, List.set_cons_zero, List.set_cons_succ]
          clear hS0 c221 d2 d3
          replace b22 := blk_keep b22 hb
          replace b23 := blk_keep b23 hb
          replace OD2 := OD2.below hb (Nat.le_refl _)
          replace OE2 := OE2.below hb (Nat.le_refl _)
          replace C := btr C hb (Nat.le_of_eq HDE.out.2)
          clear hb lgd lge
          refine wpAnyZ_one (i := 22) (o := { dst := some 177, op := _, type := _, pos := _, after := _, guard := _ }) (by kernel_rfl) rfl (by rfl) (fun K1 hK1 => ?_)
          have HK1 := Lib.hid hK1; clear hK1
          go_simp
          refine HK1.out _ _ (fun _ => hS1) ?_
          clear HK1 K1
          try simp only [Act.put, List.setIfInBounds_toArray, List.set_cons_zero, List.set_cons_succ]
          refine wpAnyZ_take (i := 23) (oi := { dst := some 178, op := _, type := _, pos := _, after := _, guard := _ }) (v := ?_) rfl (by kernel_rfl) (by kernel_rfl) (by kernel_rfl) (fun _ _ _ h => h) (Or.inl ⟨by rfl, ?_⟩) hS1 ?_
          rotate_left
          · intro U hU
            obtain ⟨u0, u1, u2⟩ := hU
            go_simp
            all_goals with_reducible rfl
          simp only [Act.put, List.setIfInBounds_toArray, List.set_cons_zero, List.set_cons_succ]
          refine wpAnyZ_last (o := { dst := none, op := _, type := _, pos := _, after := _, guard := _ }) (by kernel_rfl) (by kernel_rfl) rfl (by rfl) (fun K1 hK1 => ?_)
          have HK1 := Lib.hid hK1; clear hK1
          have hk2 : k < (mapTo (mulT N) k ws).length := by rw [mapTo_len]; exact hkn
          refine wp_store_mid 80 (.tmp 178) (.tmp 176) rfl gd (k * 5 + 2) #[.int .i64 ((N : Int) * lo), .int .i64 ((N : Int) * hi)] rfl rfl (there_own OD2 hk2 (by omega)) size80 (by simp [Value.oneCell']) ?_
          change K1 _ (wp.setCells gd (k * 5 + 2) [.int .i64 ((N : Int) * lo), .int .i64 ((N : Int) * hi)])
          refine HK1.out _ _ ?_
          clear HK1 K1
          have n22 := (heap_sets_other hne1 [.int .i64 ((N : Int) * lo), .int .i64 ((N : Int) * hi)] (k * 5 + 2)).trans b22
          have n23 := (heap_sets_other hne2 [.int .i64 ((N : Int) * lo), .int .i64 ((N : Int) * hi)] (k * 5 + 2)).trans b23
          have nD := OD2.mul hkn (lo := (N : Int) * lo) (hi := (N : Int) * hi) (by rw [HXX.out.1]) (by rw [HXX.out.2.1])
          have nE := OwnA.others [.int .i64 ((N : Int) * lo), .int .i64 ((N : Int) * hi)] (k * 5 + 2) OE2 (Ne.symm hde)
          have nC := below_sets HG3.out.2.2.1 [.int .i64 ((N : Int) * lo), .int .i64 ((N : Int) * hi)] (k * 5 + 2) C
          clear b22 b23 OD2 OE2 C hS1 hk2 c231 e4 y1 y2
          generalize World.setCells _ _ _ _ = w6 at *
          simp only [Exit.then]
          refine HK.out _ _ ?_; clear HK K
          have c231 := cell_blk (i := 1) n23
          simp only [List.getElem?_toArray, List.getElem?_cons_zero, List.getElem?_cons_succ] at c231
          have hk3 : k < (mapTo dblB k ws).length := by rw [mapTo_len]; exact hkn
          obtain ⟨-, -, -, -, e4⟩ := nE.cells hk3
          rw [mapTo_at _ hkn, ← HXX.out.2.2] at e4
          have ef : w6.frozen? ⟨ge, k * 5 + 4, none⟩ = false := nE.free
          have y3 : IntKind.i64.wrap (bk * 2) = bk * 2 := by rw [IntKind.wrap_i64]; omega
          clear hk3
          refine wp_seq_k (fun K hK => ?_)
          have HK := Lib.hid hK; clear hK
          go_wp2
          refine HK.out _ _ ?_; clear HK K
          have f22 := (heap_set_other (v := .int .i64 (bk * 2)) (b' := ge) (i := k * 5 + 4) hne3).trans n22
          have f23 := (heap_set_other (v := .int .i64 (bk * 2)) (b' := ge) (i := k * 5 + 4) hne4).trans n23
          have fE := nE.dbl hkn (b := bk * 2) (by rw [HXX.out.2.2])
          have fD := nD.other (v := .int .i64 (bk * 2)) (b := ge) (i := k * 5 + 4) hde
          have fC := nC.setCell (p := ⟨ge, k * 5 + 4, none⟩) HG3.out.2.2.2 (.int .i64 (bk * 2))
          clear n22 n23 nD nE nC c231 e4 ef y3
          generalize World.setCell _ _ _ = w7 at *
          have c231 := cell_blk (i := 1) f23
          simp only [List.getElem?_toArray, List.getElem?_cons_zero, List.getElem?_cons_succ] at c231
          have hk4 : k < (mapTo dblB (k + 1) ws).length := by rw [mapTo_len]; exact hkn
          obtain ⟨-, -, -, -, e4⟩ := fE.cells hk4
          rw [mapTo_at1 _ hkn] at e4
          replace e4 : w7.cell? ⟨ge, k * 5 + 4, none⟩ = some (.int .i64 (bk * 2)) := by rw [HXX.out.2.2]; exact e4
          clear hk4
          cases db
          · go_wp2
            go_roundw
            case rel => exact ⟨k + 1, by omega, by rw [all_succ hkn, ← HDB.out]; rfl, by go_num, f22, f23, ⟨by rw [mapTo_len], hcp, fun _ => ⟨rfl, fD⟩⟩, ⟨by rw [mapTo_len], hcq, fun _ => ⟨rfl, fE⟩⟩, fC⟩
            case measure => simp [intOf]; omega
          · go_wp2
            go_roundw
            case rel => exact ⟨k + 1, by omega, by rw [all_succ hkn, ← HDB.out, ← HXX.out.2.2]; rfl, by go_num, f22, f23, ⟨by rw [mapTo_len], hcp, fun _ => ⟨rfl, fD⟩⟩, ⟨by rw [mapTo_len], hcq, fun _ => ⟨rfl, fE⟩⟩, fC⟩
            case measure => simp [intOf]; omega
        · have hke : k = ws.length := by omega
          subst hke
          rw [mapTo_all] at OD OE
          rw [List.take_length]
          rw [HDE.out.2] at C
          have b12 := blk_keep b120 C
          have HT := Lib.hid (HT0.out.below C (Nat.le_refl _))
          have B := btr B0 C (Nat.le_refl _)
          obtain ⟨db, hdb⟩ : ∃ db, db = ws.all (fun x => decide (x.b * 2 ≤ 4)) := ⟨_, rfl⟩
          rw [← hdb]
          have HDB := Lib.hid hdb
          have hvD : Val m (ws.map (mulT N)) := val_mul HVL.out (by omega) (fun x hx => by
            have h1 := HM.out.ok x hx
            unfold okM at h1
            have h2 : (N : Int) * x.hi ≤ 4 * 84 := Int.mul_le_mul (by omega) (by omega) (by omega) (by omega)
            omega)
          have hnD : NS (ws.map (mulT N)) := (ns_mul _).2 HNS.out
          have hcD : chkE (m : Int) (ws.map (mulT N)) = 0 := by rw [chk_of hvD, if_pos hnD]
          have hpm := pace_mul HVL.out HNS.out hvD
          have htm := tab_mul HVL.out HNS.out hN4.1 hvD
          have hulm : (tabL (m : Int) (ws.map (mulT N))).length = m := by rw [tabL_ok hcD]; simp
          obtain ⟨dd1, dd2, dd3⟩ := hAD_bnd hvD hnD
          obtain ⟨lD, hSD⟩ := paceP hvD hnD
          obtain ⟨l0, hS0⟩ := paceP HVL.out HNS.out
          have h18d := fun W h => pace_any (m : Int) (.slice ap ws.length c_ap) (ws.map (mulT N)) W h
          have h28d := fun W h => table_any (m : Int) (.slice ap ws.length c_ap) (ws.map (mulT N)) W h
          obtain ⟨P, hP⟩ : ∃ P, P = pnum (m : Int) (ws.map (mulT N)) := ⟨_, rfl⟩
          obtain ⟨R, hR⟩ : ∃ R, R = pden (m : Int) (ws.map (mulT N)) := ⟨_, rfl⟩
          obtain ⟨ul, hul⟩ : ∃ ul, ul = tabL (m : Int) (ws.map (mulT N)) := ⟨_, rfl⟩
          have htt : ∀ j, j < m → (0 ≤ at0 ul j ∧ at0 ul j ≤ 160000000) ∧ (0 ≤ at0 tl j ∧ at0 tl j ≤ 160000000) ∧ at0 ul j * (D : Int) = N * at0 tl j * (R : Int) := fun j hj => by
            have e1 : at0 ul j = ptab (m : Int) (ws.map (mulT N)) j := by rw [hul]; exact tab_at hcD hj
            have e2 : at0 tl j = ptab (m : Int) ws j := by rw [HE.out.2.2.2.2]; exact tab_at HE.out.1.symm hj
            rw [e1, e2, hR, HE.out.2.2.1]
            exact ⟨⟨hSD.nn j, hSD.hi j⟩, ⟨hS0.nn j, hS0.hi j⟩, htm j⟩
          rw [hcD, ← hP, ← hR] at h18d
          rw [hcD, ← hul] at h28d
          rw [← hP, ← hR, ← HE.out.2.1, ← HE.out.2.2.1] at hpm
          rw [← hR] at dd1 dd2
          rw [← hP] at dd3
          rw [← hul] at hulm
          have H18d := Lib.hid h18d
          have H28d := Lib.hid h28d
          have HTT := Lib.hid htt
          have HPM := Lib.hid hpm
          have HUL := Lib.hid hulm
          have SD := Lib.hid (OD.slA (by omega))
          have SE := Lib.hid (OE.slA (by omega))
          have hm1 : 1 ≤ m := by omega
          clear hvD hnD hcD hpm htm hulm hSD hS0 h18d h28d hP hR hul htt hdb OD OE C HDE b120 B0 HT0 hkn hk
          have hkn2 : ¬ ((ws.length : Int) < (ws.length : Int)) := by omega
          have c221 := cell_blk (i := 1) b22
          simp only [List.getElem?_toArray, List.getElem?_cons_zero, List.getElem?_cons_succ] at c221
          go_wp2
          refine HK.out _ _ ?_; clear HK
          refine wp_seq_k (fun K hK => ?_)
          have HK := Lib.hid hK; clear hK
          go_wp2_with (first | (refine wpList_load_blk rfl 24 _ rfl _ rfl b22 Try.underlying24 rfl size24 rfl ?_) | (go_at_call 18; refine (H18d.out _ SD.out).mono ?_; rintro e wg ⟨rfl, hb⟩))
          refine HK.out _ _ ?_; clear HK K
          replace b22 := blk_keep b22 hb
          replace b23 := blk_keep b23 hb
          replace b12 := blk_keep b12 hb
          replace SD := Lib.hid (SD.out.below hb (Nat.le_refl _))
          replace SE := Lib.hid (SE.out.below hb (Nat.le_refl _))
          replace HT := Lib.hid (HT.out.below hb (Nat.le_refl _))
          replace B := btr B hb (Nat.le_refl _)
          clear hb
          have hl27 := lt_blk b12
          have hB27 := B.size
          generalize hwn : World.alloc _ _ = wn
          obtain ⟨b27, hBn, hsn⟩ := blk1 hwn
          clear hwn
          replace b22 := blk_keep b22 hBn
          replace b23 := blk_keep b23 hBn
          replace b12 := blk_keep b12 hBn
          replace SD := Lib.hid (SD.out.below hBn (Nat.le_refl _))
          replace SE := Lib.hid (SE.out.below hBn (Nat.le_refl _))
          replace HT := Lib.hid (HT.out.below hBn (Nat.le_refl _))
          replace B := btr B hBn (Nat.le_refl _)
          clear hBn hsn
          generalize wg.heap.size = g27 at *
          clear H18d
          refine wp_seq_k (fun K hK => ?_)
          have HK := Lib.hid hK; clear hK
          go_wp2_with (first | (refine wpList_load_blk rfl 24 _ rfl _ rfl b22 Try.underlying24 rfl size24 rfl ?_) | (go_at_call 28; refine (H28d.out _ SD.out).mono ?_; rintro e wh ⟨⟨vu, rfl, hsu⟩, hb⟩; obtain ⟨au, cu, hvu⟩ := slI_form hsu; rw [HUL.out] at hvu; subst hvu))
          refine HK.out _ _ ?_; clear HK K
          replace b22 := blk_keep b22 hb
          replace b23 := blk_keep b23 hb
          replace b12 := blk_keep b12 hb
          replace b27 := blk_keep b27 hb
          replace SD := Lib.hid (SD.out.below hb (Nat.le_refl _))
          replace SE := Lib.hid (SE.out.below hb (Nat.le_refl _))
          replace HT := Lib.hid (HT.out.below hb (Nat.le_refl _))
          replace B := btr B hb (Nat.le_refl _)
          clear hb
          have HSU := Lib.hid hsu
          clear hsu H28d SD
          have c120 := cell_blk (i := 0) b12
          have c121 := cell_blk (i := 1) b12
          have c270 := cell_blk (i := 0) b27
          have c271 := cell_blk (i := 1) b27
          simp only [List.getElem?_toArray, List.getElem?_cons_zero, List.getElem?_cons_succ] at c120 c121 c270 c271
          have hR1 : ¬ ((R : Int) < 1) := by omega
          have hR2 : decide ((R : Int) < 1) = false := by rw [decide_eq_false_iff_not]; omega
          have x0 : 0 ≤ (N : Int) * A := Int.mul_nonneg (by omega) (by omega)
          have x1 : (N : Int) * A ≤ 4 * 100000 := Int.mul_le_mul (by omega) (by omega) (by omega) (by omega)
          have x2 : 0 ≤ (N : Int) * A * R := Int.mul_nonneg (by omega) (by omega)
          have x3 : (N : Int) * A * R ≤ 400000 * 40 := Int.mul_le_mul (by omega) (by omega) (by omega) (by omega)
          have x4 : (P : Int) * D = (N : Int) * A * R := by exact_mod_cast HPM.out
          have y1 : IntKind.i64.wrap ((N : Int) * A) = (N : Int) * A := by rw [IntKind.wrap_i64]; omega
          have y2 : IntKind.i64.wrap ((N : Int) * A * R) = (N : Int) * A * R := by rw [IntKind.wrap_i64]; omega
          have y3 : IntKind.i64.wrap ((P : Int) * D) = (N : Int) * A * R := by rw [x4]; exact y2
          clear x0 x1 x2 x3 x4
          refine wp_seq_k (fun K hK => ?_)
          have HK := Lib.hid hK; clear hK
          go_wp2
          refine HK.out _ _ ?_; clear HK K
          clear y1 y2 y3 hR1 hR2 c120 c121 c270 c271 c221
          have hcu : ∃ bu ou, au = some ⟨bu, ou, none⟩ ∧ bu < wh.heap.size ∧ ∀ j, j < m → wh.cell? ⟨bu, ou + j, none⟩ = some (.int .i64 (at0 ul j)) := by
            obtain ⟨_, _, e, -, -, hc⟩ := HSU.out
            injection e with e1 _ _
            subst e1
            obtain ⟨bu, ou, e2, h1, h2⟩ := hc (by rw [HUL.out]; omega)
            exact ⟨bu, ou, e2, h1, fun j hj => h2 j (by rw [HUL.out]; exact hj)⟩
          have hct : ∃ bt ot, at_' = some ⟨bt, ot, none⟩ ∧ bt < wh.heap.size ∧ ∀ j, j < m → wh.cell? ⟨bt, ot + j, none⟩ = some (.int .i64 (at0 tl j)) := by
            obtain ⟨_, _, e, -, -, hc⟩ := HT.out
            injection e with e1 _ _
            subst e1
            obtain ⟨bt, ot, e2, h1, h2⟩ := hc (by rw [HTL.out]; omega)
            exact ⟨bt, ot, e2, h1, fun j hj => h2 j (by rw [HTL.out]; exact hj)⟩
          obtain ⟨bu, ou, hau, hlu, hcu⟩ := hcu
          obtain ⟨bt, ot, hat, hlt, hct⟩ := hct
          subst hau hat
          have HCU := Lib.hid (And.intro hcu hct)
          clear hcu hct HSU HT
          have c121 := cell_blk (i := 1) b12
          have c271 := cell_blk (i := 1) b27
          simp only [List.getElem?_toArray, List.getElem?_cons_zero, List.getElem?_cons_succ] at c121 c271
          have l12 := lt_blk b12
          have l27 := lt_blk b27
          refine wp_seq_k (fun K hK => ?_)
          have HK := Lib.hid hK; clear hK
          go_wp2_with (refine wp_seq_k (fun K hK => ?_); fail)
          go_loopw [244] (fun i wr => ∃ k : Nat, k ≤ m ∧ i = .int .i64 k ∧ Below wh.heap.size wh wr) (fun i _ => m - (intOf i).toNat)
          case atStart => exact ⟨0, Nat.zero_le _, rfl, Below.refl _ _⟩
          case round =>
            obtain ⟨k, hk, rfl, C⟩ := hrel
            by_cases hkm : k < m
            · have u1 := (C.cell (p := ⟨bu, ou + k, none⟩) hlu).trans (HCU.out.1 k hkm)
              have u2 := (C.cell (p := ⟨bt, ot + k, none⟩) hlt).trans (HCU.out.2 k hkm)
              have u3 := (C.cell (p := ⟨g12, 1, none⟩) l12).trans c121
              have u4 := (C.cell (p := ⟨g27, 1, none⟩) l27).trans c271
              obtain ⟨⟨t0, t1⟩, ⟨t2, t3⟩, t4⟩ := HTT.out k hkm
              obtain ⟨uk, huk⟩ : ∃ x, x = at0 ul k := ⟨_, rfl⟩
              obtain ⟨tk, htk⟩ : ∃ x, x = at0 tl k := ⟨_, rfl⟩
              rw [← huk] at u1 t0 t1 t4
              rw [← htk] at u2 t2 t3 t4
              clear huk htk
              have x0 : 0 ≤ (N : Int) * tk := Int.mul_nonneg (by omega) (by omega)
              have x1 : (N : Int) * tk ≤ 4 * 160000000 := Int.mul_le_mul (by omega) (by omega) (by omega) (by omega)
              have x2 : 0 ≤ (N : Int) * tk * R := Int.mul_nonneg (by omega) (by omega)
              have x3 : (N : Int) * tk * R ≤ 640000000 * 40 := Int.mul_le_mul (by omega) (by omega) (by omega) (by omega)
              have y1 : IntKind.i64.wrap ((N : Int) * tk) = (N : Int) * tk := by rw [IntKind.wrap_i64]; omega
              have y2 : IntKind.i64.wrap ((N : Int) * tk * R) = (N : Int) * tk * R := by rw [IntKind.wrap_i64]; omega
              have y3 : IntKind.i64.wrap (uk * (D : Int)) = (N : Int) * tk * R := by rw [t4]; exact y2
              clear x0 x1 x2 x3 t0 t1 t2 t3 t4
              have hkl : (k : Int) < (m : Int) := by omega
              clear c121 c271
              go_wp2
              go_quiet (fail)
              go_wp2
              go_roundw
              case rel => exact ⟨k + 1, by omega, by go_num, below_drewN C _⟩
              case measure => simp [intOf]; omega
            · have hkl : ¬ ((k : Int) < (m : Int)) := by omega
              clear c121 c271
              go_wp2
              refine HK.out _ _ ?_; clear HK
              replace b12 := blk_keep b12 C
              replace b23 := blk_keep b23 C
              replace b27 := blk_keep b27 C
              replace SE := Lib.hid (SE.out.below C (Nat.le_refl _))
              replace B := btr B C (Nat.le_refl _)
              clear C hkl hkm
              cases db
              · go_wp2_with (first | (go_at_call 16; refine (works_any _).mono ?_; rintro e w99 ⟨rfl, hb99⟩))
                go_ret
                exact ⟨rfl, btr B hb99 (Nat.le_refl _)⟩
              · have hvE : Val m (ws.map dblB) := val_dbl HVL.out (fun x hx => of_decide_eq_true (List.all_eq_true.1 HDB.out.symm x hx))
                have hnE : NS (ws.map dblB) := ns_dbl.2 HNS.out
                have hcE : chkE (m : Int) (ws.map dblB) = 0 := by rw [chk_of hvE, if_pos hnE]
                have hpe := pace_dbl HVL.out HNS.out hvE
                obtain ⟨ee1, ee2, ee3⟩ := hAD_bnd hvE hnE
                have h18e := fun W h => pace_any (m : Int) (.slice aq ws.length c_aq) (ws.map dblB) W h
                obtain ⟨QQ, hQ⟩ : ∃ Q, Q = pnum (m : Int) (ws.map dblB) := ⟨_, rfl⟩
                obtain ⟨SS, hS⟩ : ∃ Q, Q = pden (m : Int) (ws.map dblB) := ⟨_, rfl⟩
                rw [hcE, ← hQ, ← hS] at h18e
                rw [← hQ, ← hS, ← HE.out.2.1, ← HE.out.2.2.1] at hpe
                rw [← hS] at ee1 ee2
                rw [← hQ] at ee3
                have H18e := Lib.hid h18e
                have HPE := Lib.hid hpe
                clear hvE hnE hcE hpe h18e hQ hS
                refine wp_seq_k (fun K hK => ?_)
                have HK := Lib.hid hK; clear hK
                go_wp2
                refine HK.out _ _ ?_; clear HK K
                refine wp_seq_k (fun K hK => ?_)
                have HK := Lib.hid hK; clear hK
                go_wp2_with (first | (refine wpList_load_blk rfl 24 _ rfl _ rfl b23 Try.underlying24 rfl size24 rfl ?_) | (go_at_call 18; refine (H18e.out _ SE.out).mono ?_; rintro e wk ⟨rfl, hb⟩; replace b12 := blk_keep b12 hb; replace b27 := blk_keep b27 hb; replace B := btr B hb (Nat.le_refl _); clear hb) | (refine wpList_store_blk (by rfl) 26 _ _ rfl g27 rfl rfl b27 size26 rfl rfl (by simp [Value.oneCell']) ?_))
                refine HK.out _ _ ?_; clear HK K
                have hl27b := lt_blk b27
                have b27n : (wk.putObj g27 (.cells #[.int .i64 (QQ : Int), .int .i64 (SS : Int)] 26 (0, 0))).heap[g27]? = some (.cells #[.int .i64 (QQ : Int), .int .i64 (SS : Int)] 26 (0, 0)) := World.putObj_heap_same hl27b
                have b12n := (World.putObj_heap_other (w := wk) (o := (.cells #[.int .i64 (QQ : Int), .int .i64 (SS : Int)] 26 (0, 0))) (show g12 ≠ g27 by omega)).trans b12
                have Bn := below_putObj (o := (.cells #[.int .i64 (QQ : Int), .int .i64 (SS : Int)] 26 (0, 0))) B hB27
                clear b12 b27 B b22 b23
                generalize World.putObj _ _ _ = wl at *
                have c120 := cell_blk (i := 0) b12n
                have c121 := cell_blk (i := 1) b12n
                have c270 := cell_blk (i := 0) b27n
                have c271 := cell_blk (i := 1) b27n
                simp only [List.getElem?_toArray, List.getElem?_cons_zero, List.getElem?_cons_succ] at c120 c121 c270 c271
                have hS1 : (0 : Int) < (SS : Int) := by omega
                have hS2 : decide ((SS : Int) > 0) = true := by rw [decide_eq_true_eq]; omega
                have x0 : 0 ≤ 2 * (QQ : Int) * D := Int.mul_nonneg (by omega) (by omega)
                have x1 : 2 * (QQ : Int) * D ≤ 200000 * 40 := Int.mul_le_mul (by omega) (by omega) (by omega) (by omega)
                have x2 : 2 * (QQ : Int) * D = (A : Int) * SS := by exact_mod_cast HPE.out
                have y1 : IntKind.i64.wrap (2 * (QQ : Int)) = 2 * (QQ : Int) := by rw [IntKind.wrap_i64]; omega
                have y2 : IntKind.i64.wrap (2 * (QQ : Int) * D) = (A : Int) * SS := by rw [IntKind.wrap_i64]; omega
                have y3 : IntKind.i64.wrap ((A : Int) * SS) = (A : Int) * SS := by rw [IntKind.wrap_i64]; omega
                clear x0 x1 x2
                go_wp2_with (first | (go_at_call 16; refine (works_any _).mono ?_; rintro e w99 ⟨rfl, hb99⟩))
                go_ret
                exact ⟨rfl, btr Bn hb99 (Nat.le_refl _)⟩
    by_cases hN0 : ws.length = 0
    · have hN1 : ¬ (0 < ws.length) := by omega
      have hN2 : decide ((ws.length : Int) > 0) = false := by rw [decide_eq_false_iff_not]; omega
      clear hN0
      go_wp2
      exact k_fr (frM s a l q0 q1 q2 q3 f (.slice ad qs.length cap) (.slice at_' m ct) w.heap.size g5 g8 g12) rfl (fun F => tail F _ b5 b8 b12 HV.out (by have h := HT.out; rw [HTL.out] at h; exact h) B)
    · have hN1 : 0 < ws.length := by omega
      have hN2 : decide ((ws.length : Int) > 0) = true := by rw [decide_eq_true_eq]; omega
      have HTAIL := Lib.hid tail
      clear tail HK
      refine wp_seq_k (fun K hK => ?_)
      have HK := Lib.hid hK; clear hK
      go_wp2
      refine HK.out _ _ ?_; clear HK K
      refine wp_cond_true rfl ?_
      clear hN2
      obtain ⟨k, hk⟩ : ∃ k : Nat, (k : Int) = a % (ws.length : Int) := ⟨(a % (ws.length : Int)).toNat, Int.toNat_of_nonneg (Int.emod_nonneg _ (by omega))⟩
      have hkn : k < ws.length := by have := Int.emod_lt_of_pos a (show 0 < (ws.length : Int) by omega); omega
      have hak : (IntKind.i64.wrap a).tmod (ws.length : Int) = (k : Int) := by rw [mdw (by omega), Int.tmod_eq_emod_of_nonneg ha.1, hk]
      have HAK := Lib.hid (And.intro hak hk)
      clear hk
      have hn0 : ¬ (ws.length = 0) := by omega
      refine wp_seq_k (fun K hK => ?_)
      have HK := Lib.hid hK; clear hK
      go_wp2
      refine HK.out _ _ ?_; clear HK K
      try rw [hak]
      try rw [← HAK.out.2]
      clear hak hn0
      have MK := Lib.hid trivial
      have b5c := b5
      have HVc := Lib.hid HV.out
      refine wp_seq_k (fun K hK => ?_)
      have HK := Lib.hid hK; clear hK
      go_wp2_with (first | (go_at_call 46; clear MK; refine (copied_any g5 (m : Int) (.slice av ws.length cv) ws _ b5c HVc.out (by omega)).mono ?_; rintro e wa ⟨⟨va, rfl, hra⟩, hb⟩; obtain ⟨gA, c_gA, h_gA, hc_gA, hb_gA, O_gA⟩ := ownA_row hra (by omega); subst h_gA; have hs_wa := hb.size; replace b5c := blk_keep b5c hb; replace HVc := Lib.hid (HVc.out.below hb (Nat.le_refl _)); have CC := hb; clear hb) | (go_at_call 46; refine (copied_any g5 (m : Int) (.slice av ws.length cv) ws _ b5c HVc.out (by omega)).mono ?_; rintro e wb ⟨⟨vb, rfl, hrb⟩, hb⟩; obtain ⟨gB, c_gB, h_gB, hc_gB, hb_gB, O_gB⟩ := ownA_row hrb (by omega); subst h_gB; have hs_wb := hb.size; replace b5c := blk_keep b5c hb; replace HVc := Lib.hid (HVc.out.below hb (Nat.le_refl _)); replace CC := btr CC hb (Nat.le_refl _); replace O_gA := O_gA.below hb (Nat.le_refl _); clear hb))
      refine HK.out _ _ ?_; clear HK K
      generalize hwn : World.alloc _ _ = wn
      obtain ⟨b19, b20, hBn, hsn⟩ := blk2 hwn
      clear hwn
      have hgab : gA ≠ gB := by have := (hra.lt gA rfl).2; omega
      clear hra hrb b5c HVc
      obtain ⟨g19, hg19⟩ : ∃ g, g = wb.heap.size := ⟨_, rfl⟩
      rw [← hg19] at b19 b20 ⊢
      obtain ⟨g20, hg20⟩ : ∃ g, g = g19 + 1 := ⟨_, rfl⟩
      rw [← hg20] at b20 ⊢
      replace O_gA := O_gA.below hBn (Nat.le_refl _)
      replace O_gB := O_gB.below hBn (Nat.le_refl _)
      replace CC := btr CC hBn (Nat.le_refl _)
      have hlo : w5.heap.size ≤ g19 ∧ w5.heap.size ≤ g20 ∧ w5.heap.size ≤ gA ∧ w5.heap.size ≤ gB ∧ g19 ≠ g20 := by omega
      have HLO := Lib.hid hlo
      have HGAB := Lib.hid hgab
      clear hBn hsn hg19 hg20 hs_wa hs_wb hb_gA hb_gB hlo hgab
      have hx := HM.out.ok _ (List.getElem_mem hkn)
      rw [← at_lt hkn] at hx
      obtain ⟨-, -, -, d3, -⟩ := O_gA.cells hkn
      obtain ⟨-, -, -, -, e4⟩ := O_gB.cells hkn
      obtain ⟨hi, hhi⟩ : ∃ x, x = (at_ ws k).hi := ⟨_, rfl⟩
      obtain ⟨bk, hbk⟩ : ∃ x, x = (at_ ws k).b := ⟨_, rfl⟩
      rw [← hhi] at d3
      rw [← hbk] at e4
      have hlb : 0 ≤ hi ∧ hi ≤ 84 ∧ 0 ≤ bk ∧ bk ≤ 3 := by unfold okM at hx; omega
      have HXX := Lib.hid (And.intro hhi (And.intro hbk hx))
      clear hhi hbk hx
      have c191 := cell_blk (i := 1) b19
      simp only [List.getElem?_toArray, List.getElem?_cons_zero, List.getElem?_cons_succ] at c191
      have ef : wn.frozen? ⟨gA, k * 5 + 3, none⟩ = false := O_gA.free
      have hne1 := O_gA.ne b19 (by decide)
      have hne2 := O_gA.ne b20 (by decide)
      have hne3 := O_gB.ne b19 (by decide)
      have hne4 := O_gB.ne b20 (by decide)
      have hkl : (k : Int) < (ws.length : Int) := by omega
      have y1 : IntKind.i64.wrap l = l := mdw (by omega)
      have y2 : IntKind.i64.wrap (hi + l) = hi + l := by rw [IntKind.wrap_i64]; omega
      refine wp_seq_k (fun K hK => ?_)
      have HK := Lib.hid hK; clear hK
      go_wp2
      refine HK.out _ _ ?_; clear HK K
      replace b19 := (heap_set_other (v := .int .i64 (hi + l)) (b' := gA) (i := k * 5 + 3) hne1).trans b19
      replace b20 := (heap_set_other (v := .int .i64 (hi + l)) (b' := gA) (i := k * 5 + 3) hne2).trans b20
      replace O_gA := O_gA.set (k := k) (f := 3) (v := .int .i64 (hi + l)) (x := (⟨(at_ ws k).f, (at_ ws k).t, (at_ ws k).lo, hi + l, (at_ ws k).b⟩ : Wa)) hkn (by omega) rfl
      replace O_gB := O_gB.other (v := .int .i64 (hi + l)) (b := gA) (i := k * 5 + 3) (Ne.symm HGAB.out)
      replace CC := CC.setCell (p := ⟨gA, k * 5 + 3, none⟩) HLO.out.2.2.1 (.int .i64 (hi + l))
      clear c191 d3 e4 ef y1 y2
      generalize World.setCell _ _ _ = wy at *
      obtain ⟨-, -, -, -, e4⟩ := O_gB.cells hkn
      rw [← HXX.out.2.1] at e4
      have c201 := cell_blk (i := 1) b20
      simp only [List.getElem?_toArray, List.getElem?_cons_zero, List.getElem?_cons_succ] at c201
      have y1 : IntKind.i64.wrap (bk - 1) = bk - 1 := by rw [IntKind.wrap_i64]; omega
      refine wp_seq_k (fun K hK => ?_)
      have HK := Lib.hid hK; clear hK
      refine wp_region_z (z := 13) (S := fun U : World => U.cell? ⟨g20, 1, none⟩ = some (.slice (some ⟨gB, 0, none⟩) ws.length c_gB) ∧ U.cell? ⟨gB, k * 5 + 4, none⟩ = some (.int .i64 bk)) (by kernel_rfl) ?_
      change wpAnyZ _ _ _ _ _ _ _ _ _ (World.drew wy)
      replace b19 : (World.drew wy).heap[g19]? = _ := b19
      replace b20 : (World.drew wy).heap[g20]? = _ := b20
      replace O_gA := O_gA.below ((Below.refl wy.heap.size wy).drew) (Nat.le_refl _)
      replace O_gB := O_gB.below ((Below.refl wy.heap.size wy).drew) (Nat.le_refl _)
      replace CC := CC.drew
      replace e4 : (World.drew wy).cell? _ = _ := e4
      replace c201 : (World.drew wy).cell? _ = _ := c201
      generalize World.drew wy = wq at *
      clear wy
      have hS0 : wq.cell? ⟨g20, 1, none⟩ = some (.slice (some ⟨gB, 0, none⟩) ws.length c_gB) ∧ wq.cell? ⟨gB, k * 5 + 4, none⟩ = some (.int .i64 bk) := ⟨c201, e4⟩
      clear e4
      refine wpAnyZ_take (i := 0) (oi := { dst := some 89, op := _, type := _, pos := _, after := _, guard := _ }) (v := ?_) rfl (by kernel_rfl) (by kernel_rfl) (by kernel_rfl) (fun _ _ _ h => h) (Or.inl ⟨by rfl, ?_⟩) hS0 ?_
      rotate_left
      · intro U hU
        obtain ⟨u0, u1⟩ := hU
        go_simp
        all_goals with_reducible rfl
      simp only [Act.put, List.setIfInBounds_toArray, List.set_cons_zero, List.set_cons_succ]
      refine wpAnyZ_take (i := 1) (oi := { dst := some 90, op := _, type := _, pos := _, after := _, guard := _ }) (v := ?_) rfl (by kernel_rfl) (by kernel_rfl) (by kernel_rfl) (fun _ _ _ h => h) (Or.inl ⟨by rfl, ?_⟩) hS0 ?_
      rotate_left
      · intro U hU
        obtain ⟨u0, u1⟩ := hU
        go_simp
        all_goals with_reducible rfl
      simp only [Act.put, List.setIfInBounds_toArray, List.set_cons_zero, List.set_cons_succ]
      refine wpAnyZ_take (i := 2) (oi := { dst := some 91, op := _, type := _, pos := _, after := _, guard := _ }) (v := ?_) rfl (by kernel_rfl) (by kernel_rfl) (by kernel_rfl) (fun _ _ _ h => h) (Or.inl ⟨by rfl, ?_⟩) hS0 ?_
      rotate_left
      · intro U hU
        obtain ⟨u0, u1⟩ := hU
        go_simp
        all_goals with_reducible rfl
      simp only [Act.put, List.setIfInBounds_toArray, List.set_cons_zero, List.set_cons_succ]
      refine wpAnyZ_take (i := 3) (oi := { dst := some 92, op := _, type := _, pos := _, after := _, guard := _ }) (v := ?_) rfl (by kernel_rfl) (by kernel_rfl) (by kernel_rfl) (fun _ _ _ h => h) (Or.inl ⟨by rfl, ?_⟩) hS0 ?_
      rotate_left
      · intro U hU
        obtain ⟨u0, u1⟩ := hU
        go_simp
        all_goals with_reducible rfl
      simp only [Act.put, List.setIfInBounds_toArray, List.set_cons_zero, List.set_cons_succ]
      refine wpAnyZ_take (i := 4) (oi := { dst := some 93, op := _, type := _, pos := _, after := _, guard := _ }) (v := ?_) rfl (by kernel_rfl) (by kernel_rfl) (by kernel_rfl) (fun _ _ _ h => h) (Or.inl ⟨by rfl, ?_⟩) hS0 ?_
      rotate_left
      · intro U hU
        obtain ⟨u0, u1⟩ := hU
        go_simp
        all_goals with_reducible rfl
      simp only [Act.put, List.setIfInBounds_toArray, List.set_cons_zero, List.set_cons_succ]
      refine wpAnyZ_take (i := 5) (oi := { dst := some 94, op := _, type := _, pos := _, after := _, guard := _ }) (v := ?_) rfl (by kernel_rfl) (by kernel_rfl) (by kernel_rfl) (fun _ _ _ h => h) (Or.inl ⟨by rfl, ?_⟩) hS0 ?_
      rotate_left
      · intro U hU
        obtain ⟨u0, u1⟩ := hU
        go_simp
        all_goals with_reducible rfl
      simp only [Act.put, List.setIfInBounds_toArray, List.set_cons_zero, List.set_cons_succ]
      refine wpAnyZ_take (i := 6) (oi := { dst := some 95, op := _, type := _, pos := _, after := _, guard := _ }) (v := ?_) rfl (by kernel_rfl) (by kernel_rfl) (by kernel_rfl) (fun _ _ _ h => h) (Or.inl ⟨by rfl, ?_⟩) hS0 ?_
      rotate_left
      · intro U hU
        obtain ⟨u0, u1⟩ := hU
        go_simp
        all_goals with_reducible rfl
      simp only [Act.put, List.setIfInBounds_toArray, List.set_cons_zero, List.set_cons_succ]
      refine wpAnyZ_take (i := 7) (oi := { dst := some 96, op := _, type := _, pos := _, after := _, guard := _ }) (v := ?_) rfl (by kernel_rfl) (by kernel_rfl) (by kernel_rfl) (fun _ _ _ h => h) (Or.inl ⟨by rfl, ?_⟩) hS0 ?_
      rotate_left
      · intro U hU
        obtain ⟨u0, u1⟩ := hU
        go_simp
        all_goals with_reducible rfl
      simp only [Act.put, List.setIfInBounds_toArray, List.set_cons_zero, List.set_cons_succ]
      refine wpAnyZ_take (i := 8) (oi := { dst := some 97, op := _, type := _, pos := _, after := _, guard := _ }) (v := ?_) rfl (by kernel_rfl) (by kernel_rfl) (by kernel_rfl) (fun _ _ _ h => h) (Or.inl ⟨by rfl, ?_⟩) hS0 ?_
      rotate_left
      · intro U hU
        obtain ⟨u0, u1⟩ := hU
        go_simp
        all_goals with_reducible rfl
      simp only [Act.put, List.setIfInBounds_toArray, List.set_cons_zero, List.set_cons_succ]
      refine wpAnyZ_take (i := 9) (oi := { dst := some 98, op := _, type := _, pos := _, after := _, guard := _ }) (v := ?_) rfl (by kernel_rfl) (by kernel_rfl) (by kernel_rfl) (fun _ _ _ h => h) (Or.inl ⟨by rfl, ?_⟩) hS0 ?_
      rotate_left
      · intro U hU
        obtain ⟨u0, u1⟩ := hU
        go_simp
        all_goals with_reducible rfl
      simp only [Act.put, List.setIfInBounds_toArray, List.set_cons_zero, List.set_cons_succ]
      refine wpAnyZ_take (i := 10) (oi := { dst := some 99, op := _, type := _, pos := _, after := _, guard := _ }) (v := .int .i64 (max 0 (bk - 1))) rfl (by kernel_rfl) (by kernel_rfl) (by kernel_rfl) (fun _ _ _ h => h) (Or.inl ⟨by rfl, yields_max (.const (.int .i64 0)) (.tmp 98) _ rfl rfl rfl⟩) hS0 ?_
      simp only [Act.put, List.setIfInBounds_toArray, List.set_cons_zero, List.set_cons_succ]
      refine wpAnyZ_one (i := 11) (o := { dst := some 100, op := _, type := _, pos := _, after := _, guard := _ }) (by kernel_rfl) rfl (by rfl) (fun K1 hK1 => ?_)
      have HK1 := Lib.hid hK1; clear hK1
      go_simp
      refine HK1.out _ _ (fun _ => hS0) ?_
      clear HK1 K1
      try simp only [Act.put, List.setIfInBounds_toArray, List.set_cons_zero, List.set_cons_succ]
      refine wpAnyZ_take (i := 12) (oi := { dst := some 101, op := _, type := _, pos := _, after := _, guard := _ }) (v := ?_) rfl (by kernel_rfl) (by kernel_rfl) (by kernel_rfl) (fun _ _ _ h => h) (Or.inl ⟨by rfl, ?_⟩) hS0 ?_
      rotate_left
      · intro U hU
        obtain ⟨u0, u1⟩ := hU
        go_simp
        all_goals with_reducible rfl
      simp only [Act.put, List.setIfInBounds_toArray, List.set_cons_zero, List.set_cons_succ]
      refine wpAnyZ_last (o := { dst := none, op := _, type := _, pos := _, after := _, guard := _ }) (by kernel_rfl) (by kernel_rfl) rfl (by rfl) (fun K1 hK1 => ?_)
      have HK1 := Lib.hid hK1; clear hK1
      have e4 := hS0.2
      have ef : wq.frozen? ⟨gB, k * 5 + 4, none⟩ = false := O_gB.free
      obtain ⟨bn, hbn⟩ : ∃ x, x = max 0 (bk - 1) := ⟨_, rfl⟩
      rw [← hbn]
      have HBN := Lib.hid hbn
      clear hbn
      go_simp
      refine HK1.out _ _ ?_
      clear HK1 K1
      replace b19 := (heap_set_other (v := .int .i64 bn) (b' := gB) (i := k * 5 + 4) hne3).trans b19
      replace b20 := (heap_set_other (v := .int .i64 bn) (b' := gB) (i := k * 5 + 4) hne4).trans b20
      replace O_gB := O_gB.set (k := k) (f := 4) (v := .int .i64 bn) (x := (⟨(at_ ws k).f, (at_ ws k).t, (at_ ws k).lo, (at_ ws k).hi, bn⟩ : Wa)) hkn (by omega) rfl
      replace O_gA := O_gA.other (v := .int .i64 bn) (b := gB) (i := k * 5 + 4) HGAB.out
      replace CC := CC.setCell (p := ⟨gB, k * 5 + 4, none⟩) HLO.out.2.2.2.1 (.int .i64 bn)
      clear e4 ef hS0 c201
      generalize World.setCell _ _ _ = wx at *
      simp only [Exit.then]
      refine HK.out _ _ ?_; clear HK K
      have hbn2 : 0 ≤ bn ∧ bn ≤ bk := by have := HBN.out; omega
      clear y1
      obtain ⟨wA, hwA⟩ : ∃ x, x = ws.set k (⟨(at_ ws k).f, (at_ ws k).t, (at_ ws k).lo, hi + l, (at_ ws k).b⟩ : Wa) := ⟨_, rfl⟩
      obtain ⟨wB, hwB⟩ : ∃ x, x = ws.set k (⟨(at_ ws k).f, (at_ ws k).t, (at_ ws k).lo, (at_ ws k).hi, bn⟩ : Wa) := ⟨_, rfl⟩
      rw [← hwA] at O_gA
      rw [← hwB] at O_gB
      have hlA : wA.length = ws.length := by rw [hwA, List.length_set]
      have hlB : wB.length = ws.length := by rw [hwB, List.length_set]
      have hv0 := val_mem.1 HVL.out
      have vA : Val m wA := by
        refine val_mem.2 ⟨hv0.1, by rw [hlA]; exact hv0.2.1, fun x hx => ?_⟩
        rw [hwA] at hx
        rcases List.mem_or_eq_of_mem_set hx with h | h
        · exact hv0.2.2 x h
        · have h1 := HXX.out.2.2
          have h2 := HXX.out.1
          rw [h]; unfold okM at h1; unfold okV; simp only; omega
      have vB : Val m wB := by
        refine val_mem.2 ⟨hv0.1, by rw [hlB]; exact hv0.2.1, fun x hx => ?_⟩
        rw [hwB] at hx
        rcases List.mem_or_eq_of_mem_set hx with h | h
        · exact hv0.2.2 x h
        · have h1 := HXX.out.2.2
          have h2 := HXX.out.2.1
          rw [h]; unfold okM at h1; unfold okV; simp only; omega
      have lA : NS wA → A * pden m wA ≤ pnum m wA * D := fun h => by
        have := pace_more HVL.out HNS.out vA h (fun a b Y k1 => by
          rw [hwA] at k1
          exact keeps_set hkn (by rw [← at_lt hkn]) (by rw [← at_lt hkn]) (by rw [← at_lt hkn, ← HXX.out.1]; simp only; omega) (by rw [← at_lt hkn]; exact Int.le_refl _) k1)
        rw [← HE.out.2.1, ← HE.out.2.2.1] at this
        exact this
      have lB : NS wB → A * pden m wB ≤ pnum m wB * D := fun h => by
        have := pace_more HVL.out HNS.out vB h (fun a b Y k1 => by
          rw [hwB] at k1
          exact keeps_set hkn (by rw [← at_lt hkn]) (by rw [← at_lt hkn]) (by rw [← at_lt hkn]; exact Int.le_refl _) (by rw [← at_lt hkn, ← HXX.out.2.1]; exact hbn2.2) k1)
        rw [← HE.out.2.1, ← HE.out.2.2.1] at this
        exact this
      have sA : SlA wx (.slice (some ⟨gA, 0, none⟩) ws.length c_gA) wA := by
        have h := O_gA.slA (c := c_gA) (by omega) (by omega)
        rw [hlA] at h; exact h
      have sB : SlA wx (.slice (some ⟨gB, 0, none⟩) ws.length c_gB) wB := by
        have h := O_gB.slA (c := c_gB) (by omega) (by omega)
        rw [hlB] at h; exact h
      have SA := Lib.hid sA
      have SB := Lib.hid sB
      have HLL := Lib.hid (And.intro (And.intro vA lA) (And.intro vB lB))
      clear sA sB vA vB lA lB hv0 hlA hlB hwA hwB O_gA O_gB
      have b12c := blk_keep b12 CC
      have MK := Lib.hid trivial
      go_wp2_with (first | (refine wpList_load_blk rfl 24 _ rfl _ rfl b19 Try.underlying24 rfl size24 rfl ?_) | (refine wpList_load_blk rfl 24 _ rfl _ rfl b20 Try.underlying24 rfl size24 rfl ?_) | (go_at_call 47; clear MK; refine (less_any g12 m _ wA A D _ HLL.out.1.1 (by omega) b12c SA.out HLL.out.1.2).mono ?_; rintro e we ⟨rfl, hb⟩; replace b12c := blk_keep b12c hb; replace b20 := blk_keep b20 hb; replace b19 := blk_keep b19 hb; replace SB := Lib.hid (SB.out.below hb (Nat.le_refl _)); replace CC := btr CC hb (Nat.le_refl _); clear hb) | (go_at_call 47; refine (less_any g12 m _ wB A D _ HLL.out.2.1 (by omega) b12c SB.out HLL.out.2.2).mono ?_; rintro e we ⟨rfl, hb⟩; replace CC := btr CC hb (Nat.le_refl _); clear hb))
      exact k_fr (frM s a l q0 q1 q2 q3 f (.slice ad qs.length cap) (.slice at_' m ct) w.heap.size g5 g8 g12) rfl (fun F => HTAIL.out F _ (blk_keep b5 CC) (blk_keep b8 CC) (blk_keep b12 CC) (HV.out.below CC (Nat.le_refl _)) (by have h := HT.out; rw [HTL.out] at h; exact h.below CC (Nat.le_refl _)) (btr B CC (Nat.le_refl _)))
  · have hE16 : E = 16 := by rw [HE.out.2.2.2.1, if_neg hns]
    subst hE16
    clear hns
    go_wp2_with (first | (go_at_call 16; refine (works_any _).mono ?_; rintro e w99 ⟨rfl, hb99⟩))
    go_ret
    exact ⟨rfl, btr B hb99 (Nat.le_refl _)⟩
end Yteileadcmekkoaa
end Go.Proofs
