/- Pans: the reference's search for slower cycles that begin with some waits. -/
import Derived.Test.YteileadcmekkoaaSe
import Derived.Test.YteileadcmekkoaaRc
import Derived.Test.YteileadcmekkoaaGenH
import Derived.Test.YteileadcmekkoaaGenI
open Go Go.RowKit Go.YteileadcmekkoaaIt
namespace Go.Proofs
namespace Yteileadcmekkoaa
open PanPlain (Ed Path Cyc frm)
theorem size95 : (Try.prog.info? 95).map (·.size) = some 3 := by kernel_rfl
abbrev toI (l : List Nat) : List Int := l.map fun (i : Nat) => (i : Int)
theorem FI.bnd {m : Nat} {ws : List Wa} (hv : Val m ws) {F : Fnd} (h : FI m ws F) : F.num ≤ 100000 ∧ 1 ≤ F.den ∧ F.den ≤ 40 := by
  have hn := hv.n1
  rcases h with rfl | ⟨h, _⟩
  · exact ⟨by simp [fst0], by simp [fst0], by simp [fst0]⟩
  · obtain ⟨p, q, h1, h2, h3, h4, h5⟩ := h.per
    obtain ⟨u, hc⟩ := h.cyc
    have hb := sums_bnd hv.bnd _ (path_lt hc.path)
    have hl := h.len
    obtain ⟨g1, g2, g3, g4⟩ := low_mul (p := p) (q := q) h3
    have e1 := Nat.div_le_self p (Nat.gcd p q)
    have e2 := Nat.div_le_self q (Nat.gcd p q)
    rw [← h4] at e1
    rw [← h5] at e2 g4
    omega
theorem frS_mono {B B' : Nat} {v : Value} (hb : B' ≤ B) (h : FrS B v) : FrS B' v := by
  obtain ⟨g, n, c, e, hg⟩ := h
  exact ⟨g, n, c, e, by omega⟩
theorem slI_putO3 {w w0 : World} {v vc : Value} {xs xs0 : List Int} {B b : Nat} {o' : Obj} (h : SlI w v xs) (hv : v = vc ∨ FrS B v) (h0 : SlI w0 vc xs0) (h1 : w0.heap.size ≤ b) (h2 : b < B) : SlI (w.putObj b o') v xs := by
  rcases hv with rfl | hf
  · obtain ⟨ad, cap, rfl, k1, k2, k3⟩ := h
    obtain ⟨ad', cap', e, -, -, j3⟩ := h0
    injection e with e1 e2 e3
    subst e1
    refine ⟨ad, cap, rfl, k1, k2, fun hl => ?_⟩
    obtain ⟨b1, o1, rfl, k4, k5⟩ := k3 hl
    obtain ⟨b2, o2, e, k6, -⟩ := j3 (by omega)
    injection e with e
    injection e with e4 e5
    subst e4
    have hne : b1 ≠ b := by omega
    exact ⟨b1, o1, rfl, by simpa using k4, fun i hi => (World.cell?_of_block (a := ⟨b1, o1 + i, none⟩) (World.putObj_heap_other hne)).trans (k5 i hi)⟩
  · exact slI_putO h hf h2
set_option maxRecDepth 100000 in
set_option maxHeartbeats 8000000 in
theorem search_any (m : Nat) (v : Value) (ws : List Wa) (hV : Val m ws) (hNS : NS ws) : ∀ (d : Nat) (beg : List Nat) (F : Fnd) (vb vc : Value) (w : World), beg.length + d = m + 1 → Beg m ws beg → FI m ws F → SlA w v ws → SlI w vb (toI beg) → SlI w vc (toI F.cyc) →
    Calls Try.prog 74 #[.agg #[.int .i64 m, v], vb, .agg #[.int .i64 F.num, .int .i64 F.den, vc]] w fun e w' => ∃ vr, e = .returned (.agg #[.int .i64 (sea ws d beg F).num, .int .i64 (sea ws d beg F).den, vr]) ∧ SlI w' vr (toI (sea ws d beg F).cyc) ∧ (vr = vc ∨ FrS w.heap.size vr) ∧ Below w.heap.size w w' := by
  intro d
  induction d with
  | zero => intro beg F vb vc w hd hb; have := hb.len hV; omega
  | succ d ih =>
  intro beg F vb vc w hd hb hF hv hvb hvc
  have IH := Lib.hid ih
  clear ih
  have hlen := hb.len hV
  have hm := hV.n1
  have hln := hV.len
  have hlp : 0 < beg.length := List.length_pos_iff.2 hb.ne
  have hFb := hF.bnd hV
  have HV := Lib.hid (And.intro hv (And.intro hvb hvc))
  obtain ⟨ad, cap, rfl, -, -, hcw⟩ := hv
  obtain ⟨ab, cb, rfl, -, -, hcb⟩ := hvb
  obtain ⟨ac, cc, rfl, -, -, -⟩ := hvc
  rw [List.length_map] at *
  have hfi := hb.lt (beg.getD 0 0) (by rw [List.getD_eq_getElem?_getD, List.getElem?_eq_getElem hlp]; exact List.getElem_mem _)
  obtain ⟨bw, ow, rfl, hlw, hcellw⟩ := hcw (by omega)
  obtain ⟨bb, ob, rfl, hlb, hcellb⟩ := hcb hlp
  have HW := Lib.hid hcellw
  have HBC := Lib.hid hcellb
  have HB := Lib.hid (And.intro hb (And.intro hF hd))
  clear hcw hcb hcellw hcellb hb hF hd
  obtain ⟨M, hM⟩ : ∃ M, M = (toI F.cyc).length := ⟨_, rfl⟩
  rw [← hM]
  have HM := Lib.hid hM
  clear hM
  obtain ⟨N, hN⟩ : ∃ N, N = beg.length := ⟨_, rfl⟩
  rw [← hN] at hlp hlen ⊢
  have HN := Lib.hid hN
  clear hN
  have hcw : ∀ W : World, Below w.heap.size w W → ∀ i, i < ws.length → W.cell? ⟨bw, ow + i * 5, none⟩ = some (.int .i64 (fN ws i : Nat)) ∧ W.cell? ⟨bw, ow + i * 5 + 1, none⟩ = some (.int .i64 (tN ws i : Nat)) ∧ W.cell? ⟨bw, ow + i * 5 + 3, none⟩ = some (.int .i64 (at_ ws i).hi) ∧ W.cell? ⟨bw, ow + i * 5 + 4, none⟩ = some (.int .i64 (at_ ws i).b) := fun W hW i hi => by
    obtain ⟨q0, q1, -, q3, q4⟩ := a_cells HW.out (i := i) (n := i) hi rfl
    obtain ⟨k1, k2, _⟩ := hV.ok i hi
    rw [show (at_ ws i).f = (fN ws i : Nat) by unfold fN; omega] at q0
    rw [show (at_ ws i).t = (tN ws i : Nat) by unfold tN; omega] at q1
    exact ⟨(hW.cell (p := ⟨bw, ow + i * 5, none⟩) hlw).trans q0, (hW.cell (p := ⟨bw, ow + i * 5 + 1, none⟩) hlw).trans q1, (hW.cell (p := ⟨bw, ow + i * 5 + 3, none⟩) hlw).trans q3, (hW.cell (p := ⟨bw, ow + i * 5 + 4, none⟩) hlw).trans q4⟩
  have hcb : ∀ W : World, Below w.heap.size w W → ∀ k, k < N → W.cell? ⟨bb, ob + k, none⟩ = some (.int .i64 (beg.getD k 0 : Nat)) ∧ beg.getD k 0 < ws.length := fun W hW k hk => by
    have hkb : k < beg.length := by rw [← HN.out]; exact hk
    have hat : at0 (toI beg) k = (beg.getD k 0 : Nat) := by rw [at0_lt (by rw [List.length_map]; exact hkb)]; simp [hkb]
    refine ⟨(hW.cell (p := ⟨bb, ob + k, none⟩) hlb).trans ?_, HB.out.1.lt _ (by rw [List.getD_eq_getElem?_getD, List.getElem?_eq_getElem hkb]; exact List.getElem_mem _)⟩
    rw [HBC.out k hkb, hat]
  have HCW := Lib.hid hcw
  have HCB := Lib.hid hcb
  clear hcw hcb HW HBC
  obtain ⟨R, hR⟩ : ∃ R, R = sea ws (d + 1) beg F := ⟨_, rfl⟩
  rw [← hR]
  have HR := Lib.hid hR
  clear hR
  go_enter Try.func74, Try.ntmps74
  refine wp_seq_k (fun K hK => ?_)
  have HK := Lib.hid hK; clear hK
  go_wp2
  refine HK.out _ _ ?_; clear HK K
  generalize hw1 : World.alloc _ _ = w1
  obtain ⟨b1, b2, b3, hB, hs1⟩ := blk3 hw1
  clear hw1
  refine wp_seq_k (fun K hK => ?_)
  have HK := Lib.hid hK; clear hK
  obtain ⟨e0, hi0⟩ := HCB.out w1 hB 0 hlp
  obtain ⟨eN, hiN⟩ := HCB.out w1 hB (N - 1) (by omega)
  obtain ⟨f0, -, -, -⟩ := HCW.out w1 hB _ hi0
  obtain ⟨-, tL, -, -⟩ := HCW.out w1 hB _ hiN
  have hS : fN ws (beg.getD 0 0) = fstN ws beg := rfl
  have hL : tN ws (beg.getD (N - 1) 0) = lstN ws beg := by unfold lstN; rw [← HN.out]
  rw [hS] at f0
  rw [hL] at tL
  clear hS hL
  generalize beg.getD 0 0 = i0 at *
  generalize beg.getD (N - 1) 0 = iN at *
  obtain ⟨S, hS⟩ : ∃ S, S = fstN ws beg := ⟨_, rfl⟩
  obtain ⟨L, hL⟩ : ∃ L, L = lstN ws beg := ⟨_, rfl⟩
  rw [← hS] at f0
  rw [← hL] at tL
  have HSL := Lib.hid (And.intro hS hL)
  clear hS hL
  rw [Nat.add_zero] at e0
  obtain ⟨N1, hN1⟩ : ∃ N1, N1 = N - 1 := ⟨_, rfl⟩
  have hw1 : IntKind.i64.wrap ((N : Int) - 1) = (N1 : Int) := by rw [IntKind.wrap_i64]; omega
  rw [← hN1] at eN
  have hN1l : (N1 : Int) < N := by omega
  have hN10 : (0 : Int) ≤ (N1 : Int) := by omega
  have HN1 := Lib.hid hN1
  clear hN1
  have c1 := cell_blk (i := 1) b1
  simp only [List.getElem?_toArray, List.getElem?_cons_zero, List.getElem?_cons_succ] at c1
  go_quiet (fail)
  refine HK.out _ _ ?_; clear HK K
  replace hB := below_drewN hB nq
  replace b1 : (w1.drewN nq).heap[w.heap.size]? = _ := b1
  replace b2 : (w1.drewN nq).heap[w.heap.size + 1]? = _ := b2
  replace b3 : (w1.drewN nq).heap[w.heap.size + 1 + 1]? = _ := b3
  replace hs1 : w.heap.size + 3 ≤ (w1.drewN nq).heap.size := hs1
  clear e0 eN f0 tL c1 hw1
  generalize World.drewN w1 nq = wq at *
  clear hN1l hN10 HN1 hi0 hiN hfi
  have b1' := b1
  by_cases hc : L = S
  ·
    subst hc
    have hRc : R = closeF ws beg F := by
      rw [HR.out]; unfold sea
      rw [if_pos (by rw [← HSL.out.1, ← HSL.out.2])]
    have HRC := Lib.hid hRc
    have hsum := sums_bnd hV.bnd beg HB.out.1.lt
    have HSM := Lib.hid hsum
    clear hRc HR hsum
    refine wp_seq_k (fun K hK => ?_)
    have HK := Lib.hid hK; clear hK
    go_wp2_with (refine wp_seq_k (fun K hK => ?_); fail)
    generalize hw5 : World.alloc _ _ = w5
    obtain ⟨b4, hB5, hs5⟩ := blk1 hw5
    clear hw5
    replace b1 := blk_keep b1 hB5
    replace b2 := blk_keep b2 hB5
    replace b3 := blk_keep b3 hB5
    replace hB := btr hB hB5 (Nat.le_refl _)
    generalize hp9 : wq.heap.size = p9 at *
    clear hB5 hp9
    go_loopw [10] (fun i wr => ∃ k : Nat, i = .int .i64 k ∧ k ≤ N ∧ wr.heap[p9]? = some (.cells #[.int .i64 (hiS ws (beg.take k)), .int .i64 (bkS ws (beg.take k))] 36 (0, 0)) ∧ wr.heap[w.heap.size]? = some (.cells #[.int .i64 m, .slice (some ⟨bw, ow, none⟩) ws.length cap] 31 (0, 0)) ∧ wr.heap[w.heap.size + 1]? = some (.cells #[.int .i64 F.num, .int .i64 F.den, .slice ac M cc] 95 (0, 0)) ∧ wr.heap[w.heap.size + 1 + 1]? = some (.cells #[.int .i64 0, .int .i64 0, .slice none 0 0] 95 (0, 0)) ∧ Below w.heap.size w wr) (fun i _ => N - (intOf i).toNat)
    case atStart => exact ⟨0, rfl, Nat.zero_le _, by simpa [hiS, bkS] using b4, b1, b2, b3, hB⟩
    case round =>
      clear b1 b2 b3 b4 hB
      obtain ⟨k, rfl, hk, b4, b1, b2, b3, hB⟩ := hrel
      by_cases hkN : k < N
      ·
        have hkb : k < beg.length := by rw [← HN.out]; exact hkN
        obtain ⟨e0, hi0⟩ := HCB.out wr hB k hkN
        obtain ⟨-, -, q3, q4⟩ := HCW.out wr hB _ hi0
        have hbk := sums_bnd hV.bnd (beg.take k) (fun i hi => HB.out.1.lt i (List.mem_of_mem_take hi))
        have hlk : (beg.take k).length ≤ 10 := by rw [List.length_take]; omega
        have hxb := hV.bnd _ hi0
        have hh := hiS_succ (ws := ws) hkb
        have hq := bkS_succ (ws := ws) hkb
        rw [show beg[k] = beg.getD k 0 by simp [hkb]] at hh hq
        have HH := Lib.hid (And.intro hh hq)
        clear hh hq
        generalize beg.getD k 0 = i0 at *
        generalize (at_ ws i0).hi = xh at *
        generalize (at_ ws i0).b = xb at *
        generalize hiS ws (beg.take k) = T at *
        generalize bkS ws (beg.take k) = Z at *
        have d0 := cell_blk (i := 0) b4
        have d1 := cell_blk (i := 1) b4
        have e1 := cell_blk (i := 1) b1
        simp only [List.getElem?_toArray, List.getElem?_cons_zero, List.getElem?_cons_succ] at d0 d1 e1
        have hkNi : (k : Int) < N := by omega
        go_wp2
        rename_i K hK
        have HK := Lib.hid hK; clear hK
        refine wp_region_still_tail 26 (by kernel_rfl) (by kernel_rfl) ?_
        simp only [List.take_succ_cons, List.take_zero, List.drop_succ_cons, List.drop_zero]
        change wpStill _ _ (World.drew wr) _ _ _
        have t1 : IntKind.i64.wrap (T + xh) = T + xh := by rw [IntKind.wrap_i64]; omega
        have t2 : IntKind.i64.wrap (Z + xb) = Z + xb := by rw [IntKind.wrap_i64]; omega
        repeat still_step
        refine wpStill_nil ?_
        change wpList _ _ _ _ _ (World.drew wr)
        replace b4 : (World.drew wr).heap[p9]? = _ := b4
        go_wp2_with (refine wpList_store_blk rfl 36 _ _ rfl _ rfl rfl b4 size36 rfl rfl (by simp [Value.oneCell']) ?_)
        refine HK.out _ _ ?_; clear HK K
        have b45 := World.putObj_heap_same (w := World.drew wr) (o := .cells #[.int .i64 (T + xh), .int .i64 (Z + xb)] 36) (lt_blk b4)
        have b15 := (World.putObj_heap_other (w := World.drew wr) (o := .cells #[.int .i64 (T + xh), .int .i64 (Z + xb)] 36) (show w.heap.size ≠ p9 by omega)).trans (show (World.drew wr).heap[w.heap.size]? = _ from b1)
        have b25 := (World.putObj_heap_other (w := World.drew wr) (o := .cells #[.int .i64 (T + xh), .int .i64 (Z + xb)] 36) (show w.heap.size + 1 ≠ p9 by omega)).trans (show (World.drew wr).heap[w.heap.size + 1]? = _ from b2)
        have b35 := (World.putObj_heap_other (w := World.drew wr) (o := .cells #[.int .i64 (T + xh), .int .i64 (Z + xb)] 36) (show w.heap.size + 1 + 1 ≠ p9 by omega)).trans (show (World.drew wr).heap[w.heap.size + 1 + 1]? = _ from b3)
        have hB5 := below_putObj (o := .cells #[.int .i64 (T + xh), .int .i64 (Z + xb)] 36) (hB.drew) (show w.heap.size ≤ p9 by omega)
        clear b1 b2 b3 b4 hB d0 d1 e1 e0 q3 q4
        generalize World.putObj _ _ _ = w5 at *
        go_wp2
        go_roundw
        case rel => exact ⟨k + 1, by go_num, by omega, by rw [HH.out.1, HH.out.2]; exact b45, b15, b25, b35, hB5⟩
        case measure => simp [intOf]; omega
      · have hkN2 : k = N := by omega
        subst hkN2
        have htk : beg.take k = beg := by rw [HN.out]; exact List.take_length
        rw [htk] at b4
        have hcy := beg_cyc HB.out.1 (by rw [← HSL.out.1, ← HSL.out.2])
        have hq1 := cyc_bk hV hNS hcy
        obtain ⟨s1, s2⟩ := sums_nat hV HB.out.1.lt
        rw [s1, s2] at b4
        have hsm := HSM.out
        rw [s1, s2] at hsm
        rw [s2] at hq1
        have hlen2 : beg.length ≤ 10 := by have := HB.out.1.len hV; omega
        obtain ⟨P, hP⟩ : ∃ P, P = hiN ws beg := ⟨_, rfl⟩
        obtain ⟨Q, hQ⟩ : ∃ Q, Q = bkN ws beg := ⟨_, rfl⟩
        rw [← hP, ← hQ] at b4 hsm
        rw [← hQ] at hq1
        have HPQ := Lib.hid (And.intro hP hQ)
        have hP1 : P ≤ 100000 := by omega
        have hQ1 : 1 ≤ Q ∧ Q ≤ 40 := by omega
        clear hP hQ s1 s2 hsm hq1 htk hcy HSM hlen2
        have o1 : IntKind.i64.wrap ((F.num : Int) * Q) = (F.num : Int) * Q := by
          rw [IntKind.wrap_i64]
          have := Int.mul_le_mul (show (F.num : Int) ≤ 100000 by omega) (show (Q : Int) ≤ 40 by omega) (by omega) (by omega)
          have := Int.mul_nonneg (Int.natCast_nonneg F.num) (Int.natCast_nonneg Q)
          omega
        have o2 : IntKind.i64.wrap ((P : Int) * F.den) = (P : Int) * F.den := by
          rw [IntKind.wrap_i64]
          have := Int.mul_le_mul (show (P : Int) ≤ 100000 by omega) (show (F.den : Int) ≤ 40 by omega) (by omega) (by omega)
          have := Int.mul_nonneg (Int.natCast_nonneg P) (Int.natCast_nonneg F.den)
          omega
        have h57 := fun W => pless6_any F.num F.den P Q W o1 o2
        have H57 := Lib.hid h57
        clear h57 o1 o2
        have l2 := lt_blk b2
        have l3 := lt_blk b3
        have l4 := lt_blk b4
        have c20 := cell_blk (i := 0) b2
        have c21 := cell_blk (i := 1) b2
        simp only [List.getElem?_toArray, List.getElem?_cons_zero, List.getElem?_cons_succ] at c20 c21
        by_cases ht : F.num * Q < P * F.den
        · have hR1 : R = ⟨P / Nat.gcd P Q, Q / Nat.gcd P Q, beg⟩ := by rw [HRC.out]; unfold closeF; rw [← HPQ.out.1, ← HPQ.out.2, if_pos ht]
          have htd : decide ((F.num : Int) * Q < (P : Int) * F.den) = true := by rw [decide_eq_true_eq]; exact_mod_cast ht
          rw [htd] at H57
          clear ht htd HRC
          have h66 := fun W => low6_any P Q W (by omega) (by omega)
          generalize P / Nat.gcd P Q = A at *
          generalize Q / Nat.gcd P Q = C at *
          have H66 := Lib.hid h66
          clear h66
          subst hR1
          have hSb : SlI wr (.slice (some ⟨bb, ob, none⟩) k cb) (toI beg) := by rw [HN.out]; exact HV.out.2.1.below hB (Nat.le_refl _)
          have hl10 : (toI beg).length ≤ 10000 := by rw [List.length_map, ← HN.out]; omega
          have HSB := Lib.hid (And.intro hSb hl10)
          clear hSb hl10
          go_wp2_with (first | (refine wpList_load_blk rfl 36 _ rfl _ rfl b4 Try.underlying36 rfl size36 rfl ?_) | (go_at_call 57; refine (H57.out _).mono ?_; rintro e w6 ⟨rfl, hb6⟩; have b46 := blk_keep b4 hb6; have b36 := blk_keep b3 hb6; have hB6 := btr hB hb6 (Nat.le_refl _)) | (refine wpList_load_blk rfl 36 _ rfl _ rfl b46 Try.underlying36 rfl size36 rfl ?_) | (go_at_call 66; refine (H66.out w6).mono ?_; rintro e w7 ⟨rfl, hb7⟩; have b37 := blk_keep b36 hb7; have hB7 := btr hB6 hb7 (Nat.le_refl _); have hA7 := (Below.refl _ w7).alloc (Nat.le_refl _) (.cells #[] 3); have hS7 := ((HSB.out.1.below hb6 (Nat.le_refl _)).below hb7 (Nat.le_refl _)).below hA7 (Nat.le_refl _)) | (at_builtin; refine wpList_copy rfl _ _ rfl (W := w7) hS7 HSB.out.2 rfl rfl (heap_newI rfl) hA7 (Nat.le_refl _) ?_; intro v8 w8 r8 hb8; obtain ⟨a8, c8, hv8⟩ := form_of r8; subst hv8; have b38 := blk_keep b37 hb8; have hB8 := btr hB7 hb8 (Nat.le_refl _); have l8 := hB7.size) | (refine wpList_store_blk rfl 95 _ _ rfl _ rfl rfl b38 size95 rfl rfl (by simp [Value.oneCell']) ?_))
          have l6 := hb6.size
          have l7 := hb7.size
          have r9 : w8.ownsRow w7.heap.size 3 1 (.slice a8 beg.length c8) beg.length ((toI beg).map (.int .i64)) := by have := r8; rwa [List.length_map] at this
          obtain ⟨g9, c9, hv9⟩ := own_formI r9 (by rw [← HN.out]; exact hlp)
          have h9 := r9.lt g9 (by rw [hv9]; rfl)
          exact bodyPost_ret (results_blk rfl _ _ (w.heap.size + 1 + 1) rfl (World.putObj_heap_same (lt_blk b38)) Try.underlying95 rfl size95 rfl) rfl ⟨_, rfl, slI_own (row_putO r9 (by omega)) (by rw [List.length_map]) (by have := HSB.out.2; omega), .inr ⟨g9, _, _, hv9, by omega⟩, below_putObj hB8 (by omega)⟩
        · have hR1 : R = F := by rw [HRC.out]; unfold closeF; rw [← HPQ.out.1, ← HPQ.out.2, if_neg ht]
          have htd : decide ((F.num : Int) * Q < (P : Int) * F.den) = false := by rw [decide_eq_false_iff_not]; exact_mod_cast ht
          rw [htd] at H57
          clear ht htd HRC
          subst hR1
          go_wp2_with (first | (refine wpList_load_blk rfl 36 _ rfl _ rfl b4 Try.underlying36 rfl size36 rfl ?_) | (go_at_call 57; refine (H57.out _).mono ?_; rintro e w6 ⟨rfl, hb6⟩; have b26 := blk_keep b2 hb6; have b36 := blk_keep b3 hb6; have hB6 := btr hB hb6 (Nat.le_refl _)) | (refine wpList_load_blk rfl 95 _ rfl _ rfl b26 Try.underlying95 rfl size95 rfl ?_) | (refine wpList_store_blk rfl 95 _ _ rfl _ rfl rfl b36 size95 rfl rfl (by simp [Value.oneCell']) ?_))
          exact bodyPost_ret (results_blk rfl _ _ (w.heap.size + 1 + 1) rfl (World.putObj_heap_same (lt_blk b36)) Try.underlying95 rfl size95 rfl) rfl ⟨_, rfl, by rw [HM.out]; exact HV.out.2.2.below (below_putObj hB6 (by omega)) (Nat.le_refl _), .inl rfl, below_putObj hB6 (by omega)⟩
  · have hcb : ((L : Int) == (S : Int)) = false := by rw [beq_eq_false_iff_ne]; omega
    have hRc : R = if metB ws beg = true then F else loopF (sea ws d) ws beg F ws.length := by
      rw [HR.out]; unfold sea
      rw [if_neg (by rw [← HSL.out.1, ← HSL.out.2]; exact hc)]
    have HRC := Lib.hid hRc
    clear hRc HR hc
    go_wp2_with (refine wp_seq_k (fun K hK => ?_); fail)
    clear hcb
    go_loopw [11] (fun i wr => ∃ k : Nat, i = .int .i64 k ∧ k ≤ N ∧ ((beg.take k).any fun i => fN ws i == lstN ws beg) = false ∧ wr.heap[w.heap.size]? = some (.cells #[.int .i64 m, .slice (some ⟨bw, ow, none⟩) ws.length cap] 31 (0, 0)) ∧ wr.heap[w.heap.size + 1]? = some (.cells #[.int .i64 F.num, .int .i64 F.den, .slice ac M cc] 95 (0, 0)) ∧ wr.heap[w.heap.size + 1 + 1]? = some (.cells #[.int .i64 0, .int .i64 0, .slice none 0 0] 95 (0, 0)) ∧ Below w.heap.size w wr) (fun i _ => N - (intOf i).toNat)
    case atStart => exact ⟨0, rfl, Nat.zero_le _, rfl, b1, b2, b3, hB⟩
    case round =>
      clear b1 b2 b3 hB b1'
      obtain ⟨k, rfl, hk, hno, b1, b2, b3, hB⟩ := hrel
      by_cases hkN : k < N
      ·
        have hkb : k < beg.length := by rw [← HN.out]; exact hkN
        obtain ⟨e0, hi0⟩ := HCB.out wr hB k hkN
        obtain ⟨q0, -, -, -⟩ := HCW.out wr hB _ hi0
        have htk : beg.take (k + 1) = beg.take k ++ [beg.getD k 0] := take_succ_getD hkb
        have HTK := Lib.hid (And.intro htk hno)
        clear htk hno
        generalize beg.getD k 0 = i0 at *
        obtain ⟨f0, hf0⟩ : ∃ f0, f0 = fN ws i0 := ⟨_, rfl⟩
        rw [← hf0] at q0
        have HF0 := Lib.hid hf0
        have e1 := cell_blk (i := 1) b1
        simp only [List.getElem?_toArray, List.getElem?_cons_zero, List.getElem?_cons_succ] at e1
        have hkNi : (k : Int) < N := by omega
        clear hf0
        by_cases hfL : f0 = L
        · have hRF : R = F := by
            rw [HRC.out, if_pos ?_]
            unfold metB
            rw [List.any_eq_true]
            refine ⟨i0, ?_, by rw [beq_iff_eq, ← HF0.out, hfL, HSL.out.2]⟩
            have : i0 ∈ beg.take (k + 1) := by rw [HTK.out.1]; simp
            exact List.mem_of_mem_take this
          clear HRC HF0 HTK
          subst hfL hRF
          go_wp2
          go_quiet (fail)
          have b1q : (wr.drewN nq).heap[w.heap.size]? = _ := b1
          have b2q : (wr.drewN nq).heap[w.heap.size + 1]? = _ := b2
          have b3q : (wr.drewN nq).heap[w.heap.size + 1 + 1]? = _ := b3
          have hBq := below_drewN hB nq
          go_wp2_with (first | (refine wpList_load_blk rfl 95 _ rfl _ rfl b2q Try.underlying95 rfl size95 rfl ?_) | (refine wpList_store_blk rfl 95 _ _ rfl _ rfl rfl b3q size95 rfl rfl (by simp [Value.oneCell']) ?_))
          exact bodyPost_ret (results_blk rfl _ _ (w.heap.size + 1 + 1) rfl (World.putObj_heap_same (lt_blk b3q)) Try.underlying95 rfl size95 rfl) rfl ⟨_, rfl, by rw [HM.out]; exact HV.out.2.2.below (below_putObj hBq (by omega)) (Nat.le_refl _), .inl rfl, below_putObj hBq (by omega)⟩
        · have hfb : ((f0 : Int) == (L : Int)) = false := by rw [beq_eq_false_iff_ne]; omega
          have hno2 : ((beg.take (k + 1)).any fun i => fN ws i == lstN ws beg) = false := by
            rw [HTK.out.1, List.any_append, HTK.out.2]
            simp only [List.any_cons, List.any_nil, Bool.or_false, Bool.false_or]
            rw [← HF0.out, ← HSL.out.2, beq_eq_false_iff_ne]; exact hfL
          have HNO := Lib.hid hno2
          clear hno2 hfL
          go_wp2
          go_quiet (fail)
          have hBq := below_drewN hB nq
          go_wp2
          go_roundw
          case rel => exact ⟨k + 1, by go_num, by omega, HNO.out, b1, b2, b3, hBq⟩
          case measure => simp [intOf]; omega
      · have hkN2 : k = N := by omega
        have htk : beg.take k = beg := by rw [hkN2, HN.out]; exact List.take_length
        rw [htk] at hno
        have hRL : R = loopF (sea ws d) ws beg F ws.length := by
          rw [HRC.out, if_neg (by unfold metB; rw [hno]; simp)]
        have HRL := Lib.hid (And.intro hRL hno)
        clear hRL hno htk HRC
        subst hkN2
        go_wp2_with (refine wp_seq_k (fun K hK => ?_); fail)
        obtain ⟨wl, hwl⟩ : ∃ wl, wl = wr.heap.size := ⟨_, rfl⟩
        have hw3 : w.heap.size + 3 ≤ wl := by have := lt_blk b3; omega
        go_loopw [12] (fun i wx => ∃ (j : Nat) (vG : Value), i = .int .i64 j ∧ j ≤ ws.length ∧ FI m ws (loopF (sea ws d) ws beg F j) ∧ SlI wx vG (toI (loopF (sea ws d) ws beg F j).cyc) ∧ wx.heap[w.heap.size]? = some (.cells #[.int .i64 m, .slice (some ⟨bw, ow, none⟩) ws.length cap] 31 (0, 0)) ∧ wx.heap[w.heap.size + 1]? = some (.cells #[.int .i64 (loopF (sea ws d) ws beg F j).num, .int .i64 (loopF (sea ws d) ws beg F j).den, vG] 95 (0, 0)) ∧ wx.heap[w.heap.size + 1 + 1]? = some (.cells #[.int .i64 0, .int .i64 0, .slice none 0 0] 95 (0, 0)) ∧ Below w.heap.size w wx ∧ (vG = .slice ac M cc ∨ FrS wl vG) ∧ wl ≤ wx.heap.size) (fun i _ => ws.length - (intOf i).toNat)
        case atStart => exact ⟨0, _, rfl, Nat.zero_le _, HB.out.2.1, by rw [HM.out]; exact HV.out.2.2.below hB (Nat.le_refl _), b1, b2, b3, hB, .inl rfl, Nat.le_of_eq hwl⟩
        case round =>
          clear b1 b2 b3 hB hwl
          obtain ⟨j, vG, rfl, hj, hFI, hvG, b1, b2, b3, hB, hvF, hwx⟩ := hrel
          obtain ⟨G, hG⟩ : ∃ G, G = loopF (sea ws d) ws beg F j := ⟨_, rfl⟩
          rw [← hG] at hFI hvG b2
          have HG := Lib.hid hG
          clear hG
          have HFI := Lib.hid (And.intro hFI hvG)
          have HVF := Lib.hid hvF
          clear hvF
          obtain ⟨aG, cG, rfl, -, -, -⟩ := hvG
          clear hFI
          obtain ⟨MG, hMG⟩ : ∃ MG, MG = (toI G.cyc).length := ⟨_, rfl⟩
          rw [← hMG] at b2
          have HMG := Lib.hid hMG
          clear hMG
          have e1 := cell_blk (i := 1) b1
          simp only [List.getElem?_toArray, List.getElem?_cons_zero, List.getElem?_cons_succ] at e1
          by_cases hjn : j < ws.length
          · obtain ⟨q0, q1, -, -⟩ := HCW.out wr hB j hjn
            obtain ⟨fj, hfj⟩ : ∃ fj, fj = fN ws j := ⟨_, rfl⟩
            obtain ⟨tj, htj⟩ : ∃ tj, tj = tN ws j := ⟨_, rfl⟩
            rw [← hfj] at q0
            rw [← htj] at q1
            have htake : takeI ws beg j = (decide (fj = L) && decide (S ≤ tj)) := by unfold takeI; rw [← hfj, ← htj, HSL.out.1, HSL.out.2]
            have HT := Lib.hid (And.intro htake (And.intro hfj htj))
            clear htake hfj htj
            have hjni : (j : Int) < ws.length := by omega
            have hskip : takeI ws beg j = false → loopF (sea ws d) ws beg F (j + 1) = G := fun h => by rw [loopF_succ, ← HG.out]; unfold stepF; rw [h]; rfl
            have hgo : takeI ws beg j = true → loopF (sea ws d) ws beg F (j + 1) = sea ws d (beg ++ [j]) G := fun h => by rw [loopF_succ, ← HG.out]; unfold stepF; rw [h]; rfl
            have HSG := Lib.hid (And.intro hskip hgo)
            clear hskip hgo
            by_cases hfL : fj = L
            · by_cases hge : S ≤ tj
              · have hgb : decide (S ≤ tj) = true := by rw [decide_eq_true_eq]; omega
                have hgo := HSG.out.2 (by rw [HT.out.1]; simp [hfL, hge])
                have HGO := Lib.hid hgo
                subst hfL
                clear hge hgo HSG
                go_wp2
                rename_i K hK
                have HK := Lib.hid hK; clear hK
                refine wp_region_z (z := 9) (S := fun U : World => U.heap[w.heap.size]? = some (Obj.cells #[.int .i64 m, .slice (some ⟨bw, ow, none⟩) ws.length cap] 31 (0, 0)) ∧ U.heap[w.heap.size + 1]? = some (Obj.cells #[.int .i64 G.num, .int .i64 G.den, .slice aG MG cG] 95 (0, 0))) (by kernel_rfl) ?_
                change wpAnyZ _ _ _ _ _ _ _ _ _ (World.drew wr)
                replace b1 : (World.drew wr).heap[w.heap.size]? = _ := b1
                replace b2 : (World.drew wr).heap[w.heap.size + 1]? = _ := b2
                replace b3 : (World.drew wr).heap[w.heap.size + 1 + 1]? = _ := b3
                replace hwx : wl ≤ (World.drew wr).heap.size := hwx
                replace hB := hB.drew
                have hSlG : SlI (World.drew wr) (.slice aG MG cG) (toI G.cyc) := by rw [HMG.out]; exact HFI.out.2.below ((Below.refl wr.heap.size wr).drew) (Nat.le_refl _)
                have HGS := Lib.hid hSlG
                have hSlB : SlI (World.drew wr) (.slice (some ⟨bb, ob, none⟩) k cb) (toI beg) := by rw [HN.out]; exact HV.out.2.1.below hB (Nat.le_refl _)
                have HBS := Lib.hid hSlB
                have hSlW : SlA (World.drew wr) (.slice (some ⟨bw, ow, none⟩) ws.length cap) ws := HV.out.1.below hB (Nat.le_refl _)
                have HWS := Lib.hid hSlW
                have hbl : (toI beg).length ≤ 10000 := by rw [List.length_map, ← HN.out]; omega
                have HBL := Lib.hid hbl
                clear hSlG hSlB hSlW hbl q0 q1 e1
                generalize World.drew wr = wq at *
                have hS0 : wq.heap[w.heap.size]? = some (Obj.cells #[.int .i64 m, .slice (some ⟨bw, ow, none⟩) ws.length cap] 31 (0, 0)) ∧ wq.heap[w.heap.size + 1]? = some (Obj.cells #[.int .i64 G.num, .int .i64 G.den, .slice aG MG cG] 95 (0, 0)) := ⟨b1, b2⟩
                have hSB : ∀ U : World, Below wq.heap.size wq U → U.heap[w.heap.size]? = some (Obj.cells #[.int .i64 m, .slice (some ⟨bw, ow, none⟩) ws.length cap] 31 (0, 0)) ∧ U.heap[w.heap.size + 1]? = some (Obj.cells #[.int .i64 G.num, .int .i64 G.den, .slice aG MG cG] 95 (0, 0)) := fun U hU => ⟨blk_keep b1 hU, blk_keep b2 hU⟩
                have HSB := Lib.hid hSB
                clear hSB
                refine wpAnyZ_take (i := 0) (oi := { dst := some 122, op := _, type := _, pos := _, after := _, guard := _ }) (v := .agg #[.int .i64 m, .slice (some ⟨bw, ow, none⟩) ws.length cap]) rfl (by kernel_rfl) (by kernel_rfl) (by kernel_rfl) (fun _ _ _ h => h) (Or.inl ⟨by rfl, yields_load_blk 31 (.tmp 3) rfl _ rfl (fun U hU => hU.1) Try.underlying31 rfl size31 rfl⟩) hS0 ?_
                simp only [Act.put, List.setIfInBounds_toArray, List.set_cons_zero, List.set_cons_succ]
                refine wpAnyZ_take (i := 2) (oi := { dst := some 124, op := _, type := _, pos := _, after := _, guard := _ }) (v := ?_) rfl (by kernel_rfl) (by kernel_rfl) (by kernel_rfl) (fun _ _ _ h => h) (Or.inl ⟨by rfl, ?_⟩) hS0 ?_
                rotate_left
                · intro U hU
                  go_simp
                  all_goals with_reducible rfl
                simp only [Act.put, List.setIfInBounds_toArray, List.set_cons_zero, List.set_cons_succ]
                refine wpAnyZ_take (i := 4) (oi := { dst := some 126, op := _, type := _, pos := _, after := _, guard := _ }) (v := ?_) rfl (by kernel_rfl) (by kernel_rfl) (by kernel_rfl) (fun _ _ _ h => h) (Or.inl ⟨by rfl, ?_⟩) hS0 ?_
                rotate_left
                · intro U hU
                  go_simp
                  all_goals with_reducible rfl
                simp only [Act.put, List.setIfInBounds_toArray, List.set_cons_zero, List.set_cons_succ]
                refine wpAnyZ_take (i := 7) (oi := { dst := some 129, op := _, type := _, pos := _, after := _, guard := _ }) (v := .agg #[.int .i64 G.num, .int .i64 G.den, .slice aG MG cG]) rfl (by kernel_rfl) (by kernel_rfl) (by kernel_rfl) (fun _ _ _ h => h) (Or.inl ⟨by rfl, yields_load_blk 95 (.tmp 5) rfl _ rfl (fun U hU => hU.2) Try.underlying95 rfl size95 rfl⟩) hS0 ?_
                simp only [Act.put, List.setIfInBounds_toArray, List.set_cons_zero, List.set_cons_succ]
                refine wpAnyZ_ready (rs := [1, 5]) (by kernel_rfl) (by simp) ?_
                refine AllReadyZ.cons (o := { dst := some 123, op := _, type := _, pos := _, after := _, guard := _ }) rfl (by rfl) (fun K1 hK1 => ?_) ?_
                · have HK1 := Lib.hid hK1; clear hK1
                  go_simp
                  refine HK1.out _ _ (fun _ => HSB.out _ (((Below.refl _ wq).alloc (Nat.le_refl _) (Obj.cells #[] 3 (0, 0))))) ?_
                  clear HK1 K1
                  try simp only [Act.put, List.setIfInBounds_toArray, List.set_cons_zero, List.set_cons_succ]
                  refine wpAnyZ_ready (rs := [3, 5]) (by kernel_rfl) (by simp) ?_
                  refine AllReadyZ.cons (o := { dst := some 125, op := _, type := _, pos := _, after := _, guard := _ }) rfl (by rfl) (fun K1 hK1 => ?_) ?_
                  · have HK1 := Lib.hid hK1; clear hK1
                    refine oper_copy (.tmp 123) (.tmp 124) rfl (W := wq) (w := (wq.alloc (Obj.cells #[] 3 (0, 0)))) (g := wq.heap.size) (xs := toI beg) (HBS.out.below ((Below.refl _ wq).alloc (Nat.le_refl _) (Obj.cells #[] 3 (0, 0))) (Nat.le_refl _)) HBL.out rfl rfl (heap_newI rfl) ((Below.refl _ wq).alloc (Nat.le_refl _) (Obj.cells #[] 3 (0, 0))) (by simp) ?_
                    intro v2 w2 r2 hb2 hk2 _
                    simp only [List.length_map] at r2
                    obtain ⟨a2, c2, hv2⟩ := form_of r2
                    subst hv2
                    refine HK1.out _ _ (fun _ => HSB.out _ (hb2)) ?_
                    clear HK1 K1
                    try simp only [Act.put, List.setIfInBounds_toArray, List.set_cons_zero, List.set_cons_succ]
                    refine wpAnyZ_one (i := 5) (o := { dst := some 127, op := _, type := _, pos := _, after := _, guard := _ }) (by kernel_rfl) rfl (by rfl) (fun K1 hK1 => ?_)
                    have HK1 := Lib.hid hK1; clear hK1
                    go_simp
                    refine HK1.out _ _ (fun _ => HSB.out _ (hb2.alloc hb2.size (Obj.cells #[.int .i64 j] 3 (0, 0)))) ?_
                    clear HK1 K1
                    try simp only [Act.put, List.setIfInBounds_toArray, List.set_cons_zero, List.set_cons_succ]
                    refine wpAnyZ_one (i := 6) (o := { dst := some 128, op := _, type := _, pos := _, after := _, guard := _ }) (by kernel_rfl) rfl (by rfl) (fun K1 hK1 => ?_)
                    have HK1 := Lib.hid hK1; clear hK1
                    refine oper_push (.tmp 125) (.tmp 127) rfl (W := wq) (w := (w2.alloc (Obj.cells #[.int .i64 j] 3 (0, 0)))) (g := w2.heap.size) (xs := toI beg) (i := (j : Int)) (by rw [List.length_map]; exact (r2.alloc _)) HBL.out rfl rfl (heap_newI rfl) (hb2.alloc hb2.size (Obj.cells #[.int .i64 j] 3 (0, 0))) ?_
                    intro v4 w4 r4 hb4
                    refine HK1.out _ _ (fun _ => HSB.out _ (hb4)) ?_
                    clear HK1 K1
                    try simp only [Act.put, List.setIfInBounds_toArray, List.set_cons_zero, List.set_cons_succ]
                    have hdl : (beg ++ [j]).length + d = m + 1 := by have := HB.out.2.2; simp only [List.length_append, List.length_cons, List.length_nil]; omega
                    have hext := beg_ext HB.out.1 hjn (show fN ws j = lstN ws beg by rw [← HT.out.2.1, HSL.out.2]) HRL.out.2
                    have hSv : SlI w4 v4 (toI (beg ++ [j])) := by
                      have e : toI (beg ++ [j]) = toI beg ++ [(j : Int)] := by simp
                      rw [e]
                      exact slI_own r4 (by simp) (by have := HBL.out; simp only [List.length_append, List.length_cons, List.length_nil]; omega)
                    have h74 := IH.out (beg ++ [j]) G v4 (.slice aG MG cG) w4 hdl hext.1 HFI.out.1 (HWS.out.below hb4 (Nat.le_refl _)) hSv (HGS.out.below hb4 (Nat.le_refl _))
                    rw [← HGO.out] at h74
                    have hfi6 : FI m ws (loopF (sea ws d) ws beg F (j + 1)) := by rw [HGO.out]; exact (sea_ok hV hNS d (beg ++ [j]) G hdl hext.1 HFI.out.1).fi
                    generalize hG2 : loopF (sea ws d) ws beg F (j + 1) = G2 at *
                    have HG2 := Lib.hid (And.intro hG2 hfi6)
                    clear hG2 hfi6 hSv hext hdl
                    refine wpAnyZ_one (i := 8) (o := { dst := some 130, op := _, type := _, pos := _, after := _, guard := _ }) (by kernel_rfl) rfl (by rfl) (fun K1 hK1 => ?_)
                    have HK1 := Lib.hid hK1; clear hK1
                    refine oper_callg (f := 74) (lb := #[]) rfl rfl (enters_of Try.func74 (by kernel_rfl) rfl) rfl (R := fun u W => ∃ vr, u = .agg #[.int .i64 G2.num, .int .i64 G2.den, vr] ∧ SlI W vr (toI G2.cyc) ∧ (vr = .slice aG MG cG ∨ FrS w4.heap.size vr) ∧ Below w4.heap.size w4 W) (h74.mono ?_) ?_
                    · rintro e w5 ⟨vr, rfl, h5⟩
                      exact ⟨_, rfl, vr, rfl, h5⟩
                    rintro u w5 ⟨vr, rfl, s5, f5, hb5⟩
                    obtain ⟨a5, c5, hv5⟩ := slI_form s5
                    subst hv5
                    clear h74
                    have hb45 := hb4.trans (hb5.mono hb4.size)
                    refine HK1.out _ _ (fun _ => HSB.out _ (hb45)) ?_
                    clear HK1 K1
                    try simp only [Act.put, List.setIfInBounds_toArray, List.set_cons_zero, List.set_cons_succ]
                    have b15 := blk_keep b1 hb45
                    have b25 := blk_keep b2 hb45
                    have b35 := blk_keep b3 hb45
                    have hB5 := hB.trans (hb45.mono hB.size)
                    have hsz4 := hb4.size
                    have hsz5 := hb5.size
                    refine wpAnyZ_last (o := { dst := none, op := _, type := _, pos := _, after := _, guard := _ }) (by kernel_rfl) (by kernel_rfl) rfl (by rfl) (fun K1 hK1 => ?_)
                    have HK1 := Lib.hid hK1; clear hK1
                    refine oper_store_blk 95 (.tmp 5) (.tmp 130) rfl (w.heap.size + 1) rfl (cells := #[.int .i64 G2.num, .int .i64 G2.den, .slice a5 (toI G2.cyc).length c5]) rfl b25 size95 rfl rfl (by simp [Value.oneCell']) ?_
                    refine HK1.out _ _ ?_
                    clear HK1 K1
                    try simp only [Act.put]
                    have hF5 : (Value.slice a5 (toI G2.cyc).length c5) = .slice ac M cc ∨ FrS wl (Value.slice a5 (toI G2.cyc).length c5) := by
                      rcases f5 with e | e
                      · rw [e, HMG.out]; exact HVF.out
                      · exact .inr (frS_mono (by omega) e)
                    have s6 : SlI (w5.putObj (w.heap.size + 1) (.cells #[.int .i64 G2.num, .int .i64 G2.den, .slice a5 (toI G2.cyc).length c5] 95 (0, 0))) (.slice a5 (toI G2.cyc).length c5) (toI G2.cyc) := slI_putO3 s5 hF5 (HM.out ▸ HV.out.2.2) (by omega) (by omega)
                    have b16 := (World.putObj_heap_other (w := w5) (o := .cells #[.int .i64 G2.num, .int .i64 G2.den, .slice a5 (toI G2.cyc).length c5] 95 (0, 0)) (show w.heap.size ≠ w.heap.size + 1 by omega)).trans b15
                    have b36 := (World.putObj_heap_other (w := w5) (o := .cells #[.int .i64 G2.num, .int .i64 G2.den, .slice a5 (toI G2.cyc).length c5] 95 (0, 0)) (show w.heap.size + 1 + 1 ≠ w.heap.size + 1 by omega)).trans b35
                    have b26 := World.putObj_heap_same (w := w5) (o := .cells #[.int .i64 G2.num, .int .i64 G2.den, .slice a5 (toI G2.cyc).length c5] 95 (0, 0)) (lt_blk b25)
                    have hB6 := below_putObj (o := .cells #[.int .i64 G2.num, .int .i64 G2.den, .slice a5 (toI G2.cyc).length c5] 95 (0, 0)) hB5 (show w.heap.size ≤ w.heap.size + 1 by omega)
                    have hs6 : wl ≤ (w5.putObj (w.heap.size + 1) (.cells #[.int .i64 G2.num, .int .i64 G2.den, .slice a5 (toI G2.cyc).length c5] 95 (0, 0))).heap.size := by simp; omega
                    clear b1 b2 b3 b15 b25 b35 hB hB5 s5 f5 r4 hb4 hb5 hb45 hS0
                    generalize World.putObj _ _ _ = w6 at *
                    simp only [Exit.inBlock]
                    refine HK.out _ _ ?_; clear HK K
                    go_wp2
                    go_roundw
                    case rel => exact ⟨j + 1, _, by go_num, by omega, by rw [HG2.out.1]; exact HG2.out.2, by rw [HG2.out.1]; exact s6, b16, by rw [HG2.out.1]; exact b26, b36, hB6, hF5, hs6⟩
                    case measure => simp [intOf]; omega
                  refine AllReadyZ.cons (o := { dst := some 127, op := _, type := _, pos := _, after := _, guard := _ }) rfl (by rfl) (fun K1 hK1 => ?_) ?_
                  · have HK1 := Lib.hid hK1; clear hK1
                    go_simp
                    refine HK1.out _ _ (fun _ => HSB.out _ ((((Below.refl _ wq).alloc (Nat.le_refl _) (Obj.cells #[] 3 (0, 0))).alloc (by simp) (Obj.cells #[.int .i64 j] 3 (0, 0))))) ?_
                    clear HK1 K1
                    try simp only [Act.put, List.setIfInBounds_toArray, List.set_cons_zero, List.set_cons_succ]
                    refine wpAnyZ_one (i := 3) (o := { dst := some 125, op := _, type := _, pos := _, after := _, guard := _ }) (by kernel_rfl) rfl (by rfl) (fun K1 hK1 => ?_)
                    have HK1 := Lib.hid hK1; clear hK1
                    refine oper_copy (.tmp 123) (.tmp 124) rfl (W := wq) (w := ((wq.alloc (Obj.cells #[] 3 (0, 0))).alloc (Obj.cells #[.int .i64 j] 3 (0, 0)))) (g := wq.heap.size) (xs := toI beg) (HBS.out.below (((Below.refl _ wq).alloc (Nat.le_refl _) (Obj.cells #[] 3 (0, 0))).alloc (by simp) (Obj.cells #[.int .i64 j] 3 (0, 0))) (Nat.le_refl _)) HBL.out rfl rfl ((heap_oldI (by simp)).trans (heap_newI rfl)) (((Below.refl _ wq).alloc (Nat.le_refl _) (Obj.cells #[] 3 (0, 0))).alloc (by simp) (Obj.cells #[.int .i64 j] 3 (0, 0))) (by simp) ?_
                    intro v2 w2 r2 hb2 hk2 _
                    simp only [List.length_map] at r2
                    obtain ⟨a2, c2, hv2⟩ := form_of r2
                    subst hv2
                    have k2 := (hk2 (wq.heap.size + 1) (by simp) (by omega)).trans (heap_newI (by simp))
                    refine HK1.out _ _ (fun _ => HSB.out _ (hb2)) ?_
                    clear HK1 K1
                    try simp only [Act.put, List.setIfInBounds_toArray, List.set_cons_zero, List.set_cons_succ]
                    refine wpAnyZ_one (i := 6) (o := { dst := some 128, op := _, type := _, pos := _, after := _, guard := _ }) (by kernel_rfl) rfl (by rfl) (fun K1 hK1 => ?_)
                    have HK1 := Lib.hid hK1; clear hK1
                    refine oper_push (.tmp 125) (.tmp 127) rfl (W := wq) (w := w2) (g := (wq.heap.size + 1)) (xs := toI beg) (i := (j : Int)) (by rw [List.length_map]; exact r2) HBL.out rfl rfl k2 hb2 ?_
                    intro v4 w4 r4 hb4
                    refine HK1.out _ _ (fun _ => HSB.out _ (hb4)) ?_
                    clear HK1 K1
                    try simp only [Act.put, List.setIfInBounds_toArray, List.set_cons_zero, List.set_cons_succ]
                    have hdl : (beg ++ [j]).length + d = m + 1 := by have := HB.out.2.2; simp only [List.length_append, List.length_cons, List.length_nil]; omega
                    have hext := beg_ext HB.out.1 hjn (show fN ws j = lstN ws beg by rw [← HT.out.2.1, HSL.out.2]) HRL.out.2
                    have hSv : SlI w4 v4 (toI (beg ++ [j])) := by
                      have e : toI (beg ++ [j]) = toI beg ++ [(j : Int)] := by simp
                      rw [e]
                      exact slI_own r4 (by simp) (by have := HBL.out; simp only [List.length_append, List.length_cons, List.length_nil]; omega)
                    have h74 := IH.out (beg ++ [j]) G v4 (.slice aG MG cG) w4 hdl hext.1 HFI.out.1 (HWS.out.below hb4 (Nat.le_refl _)) hSv (HGS.out.below hb4 (Nat.le_refl _))
                    rw [← HGO.out] at h74
                    have hfi6 : FI m ws (loopF (sea ws d) ws beg F (j + 1)) := by rw [HGO.out]; exact (sea_ok hV hNS d (beg ++ [j]) G hdl hext.1 HFI.out.1).fi
                    generalize hG2 : loopF (sea ws d) ws beg F (j + 1) = G2 at *
                    have HG2 := Lib.hid (And.intro hG2 hfi6)
                    clear hG2 hfi6 hSv hext hdl
                    refine wpAnyZ_one (i := 8) (o := { dst := some 130, op := _, type := _, pos := _, after := _, guard := _ }) (by kernel_rfl) rfl (by rfl) (fun K1 hK1 => ?_)
                    have HK1 := Lib.hid hK1; clear hK1
                    refine oper_callg (f := 74) (lb := #[]) rfl rfl (enters_of Try.func74 (by kernel_rfl) rfl) rfl (R := fun u W => ∃ vr, u = .agg #[.int .i64 G2.num, .int .i64 G2.den, vr] ∧ SlI W vr (toI G2.cyc) ∧ (vr = .slice aG MG cG ∨ FrS w4.heap.size vr) ∧ Below w4.heap.size w4 W) (h74.mono ?_) ?_
                    · rintro e w5 ⟨vr, rfl, h5⟩
                      exact ⟨_, rfl, vr, rfl, h5⟩
                    rintro u w5 ⟨vr, rfl, s5, f5, hb5⟩
                    obtain ⟨a5, c5, hv5⟩ := slI_form s5
                    subst hv5
                    clear h74
                    have hb45 := hb4.trans (hb5.mono hb4.size)
                    refine HK1.out _ _ (fun _ => HSB.out _ (hb45)) ?_
                    clear HK1 K1
                    try simp only [Act.put, List.setIfInBounds_toArray, List.set_cons_zero, List.set_cons_succ]
                    have b15 := blk_keep b1 hb45
                    have b25 := blk_keep b2 hb45
                    have b35 := blk_keep b3 hb45
                    have hB5 := hB.trans (hb45.mono hB.size)
                    have hsz4 := hb4.size
                    have hsz5 := hb5.size
                    refine wpAnyZ_last (o := { dst := none, op := _, type := _, pos := _, after := _, guard := _ }) (by kernel_rfl) (by kernel_rfl) rfl (by rfl) (fun K1 hK1 => ?_)
                    have HK1 := Lib.hid hK1; clear hK1
                    refine oper_store_blk 95 (.tmp 5) (.tmp 130) rfl (w.heap.size + 1) rfl (cells := #[.int .i64 G2.num, .int .i64 G2.den, .slice a5 (toI G2.cyc).length c5]) rfl b25 size95 rfl rfl (by simp [Value.oneCell']) ?_
                    refine HK1.out _ _ ?_
                    clear HK1 K1
                    try simp only [Act.put]
                    have hF5 : (Value.slice a5 (toI G2.cyc).length c5) = .slice ac M cc ∨ FrS wl (Value.slice a5 (toI G2.cyc).length c5) := by
                      rcases f5 with e | e
                      · rw [e, HMG.out]; exact HVF.out
                      · exact .inr (frS_mono (by omega) e)
                    have s6 : SlI (w5.putObj (w.heap.size + 1) (.cells #[.int .i64 G2.num, .int .i64 G2.den, .slice a5 (toI G2.cyc).length c5] 95 (0, 0))) (.slice a5 (toI G2.cyc).length c5) (toI G2.cyc) := slI_putO3 s5 hF5 (HM.out ▸ HV.out.2.2) (by omega) (by omega)
                    have b16 := (World.putObj_heap_other (w := w5) (o := .cells #[.int .i64 G2.num, .int .i64 G2.den, .slice a5 (toI G2.cyc).length c5] 95 (0, 0)) (show w.heap.size ≠ w.heap.size + 1 by omega)).trans b15
                    have b36 := (World.putObj_heap_other (w := w5) (o := .cells #[.int .i64 G2.num, .int .i64 G2.den, .slice a5 (toI G2.cyc).length c5] 95 (0, 0)) (show w.heap.size + 1 + 1 ≠ w.heap.size + 1 by omega)).trans b35
                    have b26 := World.putObj_heap_same (w := w5) (o := .cells #[.int .i64 G2.num, .int .i64 G2.den, .slice a5 (toI G2.cyc).length c5] 95 (0, 0)) (lt_blk b25)
                    have hB6 := below_putObj (o := .cells #[.int .i64 G2.num, .int .i64 G2.den, .slice a5 (toI G2.cyc).length c5] 95 (0, 0)) hB5 (show w.heap.size ≤ w.heap.size + 1 by omega)
                    have hs6 : wl ≤ (w5.putObj (w.heap.size + 1) (.cells #[.int .i64 G2.num, .int .i64 G2.den, .slice a5 (toI G2.cyc).length c5] 95 (0, 0))).heap.size := by simp; omega
                    clear b1 b2 b3 b15 b25 b35 hB hB5 s5 f5 r4 hb4 hb5 hb45 hS0
                    generalize World.putObj _ _ _ = w6 at *
                    simp only [Exit.inBlock]
                    refine HK.out _ _ ?_; clear HK K
                    go_wp2
                    go_roundw
                    case rel => exact ⟨j + 1, _, by go_num, by omega, by rw [HG2.out.1]; exact HG2.out.2, by rw [HG2.out.1]; exact s6, b16, by rw [HG2.out.1]; exact b26, b36, hB6, hF5, hs6⟩
                    case measure => simp [intOf]; omega
                  exact AllReadyZ.nil
                refine AllReadyZ.cons (o := { dst := some 127, op := _, type := _, pos := _, after := _, guard := _ }) rfl (by rfl) (fun K1 hK1 => ?_) ?_
                · have HK1 := Lib.hid hK1; clear hK1
                  go_simp
                  refine HK1.out _ _ (fun _ => HSB.out _ (((Below.refl _ wq).alloc (Nat.le_refl _) (Obj.cells #[.int .i64 j] 3 (0, 0))))) ?_
                  clear HK1 K1
                  try simp only [Act.put, List.setIfInBounds_toArray, List.set_cons_zero, List.set_cons_succ]
                  refine wpAnyZ_one (i := 1) (o := { dst := some 123, op := _, type := _, pos := _, after := _, guard := _ }) (by kernel_rfl) rfl (by rfl) (fun K1 hK1 => ?_)
                  have HK1 := Lib.hid hK1; clear hK1
                  go_simp
                  refine HK1.out _ _ (fun _ => HSB.out _ ((((Below.refl _ wq).alloc (Nat.le_refl _) (Obj.cells #[.int .i64 j] 3 (0, 0))).alloc (by simp) (Obj.cells #[] 3 (0, 0))))) ?_
                  clear HK1 K1
                  try simp only [Act.put, List.setIfInBounds_toArray, List.set_cons_zero, List.set_cons_succ]
                  refine wpAnyZ_one (i := 3) (o := { dst := some 125, op := _, type := _, pos := _, after := _, guard := _ }) (by kernel_rfl) rfl (by rfl) (fun K1 hK1 => ?_)
                  have HK1 := Lib.hid hK1; clear hK1
                  refine oper_copy (.tmp 123) (.tmp 124) rfl (W := wq) (w := ((wq.alloc (Obj.cells #[.int .i64 j] 3 (0, 0))).alloc (Obj.cells #[] 3 (0, 0)))) (g := (wq.heap.size + 1)) (xs := toI beg) (HBS.out.below (((Below.refl _ wq).alloc (Nat.le_refl _) (Obj.cells #[.int .i64 j] 3 (0, 0))).alloc (by simp) (Obj.cells #[] 3 (0, 0))) (Nat.le_refl _)) HBL.out rfl rfl (heap_newI (by simp)) (((Below.refl _ wq).alloc (Nat.le_refl _) (Obj.cells #[.int .i64 j] 3 (0, 0))).alloc (by simp) (Obj.cells #[] 3 (0, 0))) (by simp) ?_
                  intro v2 w2 r2 hb2 hk2 _
                  simp only [List.length_map] at r2
                  obtain ⟨a2, c2, hv2⟩ := form_of r2
                  subst hv2
                  have k2 := (hk2 wq.heap.size (by simp; omega) (by omega)).trans ((heap_oldI (by simp)).trans (heap_newI rfl))
                  refine HK1.out _ _ (fun _ => HSB.out _ (hb2)) ?_
                  clear HK1 K1
                  try simp only [Act.put, List.setIfInBounds_toArray, List.set_cons_zero, List.set_cons_succ]
                  refine wpAnyZ_one (i := 6) (o := { dst := some 128, op := _, type := _, pos := _, after := _, guard := _ }) (by kernel_rfl) rfl (by rfl) (fun K1 hK1 => ?_)
                  have HK1 := Lib.hid hK1; clear hK1
                  refine oper_push (.tmp 125) (.tmp 127) rfl (W := wq) (w := w2) (g := wq.heap.size) (xs := toI beg) (i := (j : Int)) (by rw [List.length_map]; exact r2) HBL.out rfl rfl k2 hb2 ?_
                  intro v4 w4 r4 hb4
                  refine HK1.out _ _ (fun _ => HSB.out _ (hb4)) ?_
                  clear HK1 K1
                  try simp only [Act.put, List.setIfInBounds_toArray, List.set_cons_zero, List.set_cons_succ]
                  have hdl : (beg ++ [j]).length + d = m + 1 := by have := HB.out.2.2; simp only [List.length_append, List.length_cons, List.length_nil]; omega
                  have hext := beg_ext HB.out.1 hjn (show fN ws j = lstN ws beg by rw [← HT.out.2.1, HSL.out.2]) HRL.out.2
                  have hSv : SlI w4 v4 (toI (beg ++ [j])) := by
                    have e : toI (beg ++ [j]) = toI beg ++ [(j : Int)] := by simp
                    rw [e]
                    exact slI_own r4 (by simp) (by have := HBL.out; simp only [List.length_append, List.length_cons, List.length_nil]; omega)
                  have h74 := IH.out (beg ++ [j]) G v4 (.slice aG MG cG) w4 hdl hext.1 HFI.out.1 (HWS.out.below hb4 (Nat.le_refl _)) hSv (HGS.out.below hb4 (Nat.le_refl _))
                  rw [← HGO.out] at h74
                  have hfi6 : FI m ws (loopF (sea ws d) ws beg F (j + 1)) := by rw [HGO.out]; exact (sea_ok hV hNS d (beg ++ [j]) G hdl hext.1 HFI.out.1).fi
                  generalize hG2 : loopF (sea ws d) ws beg F (j + 1) = G2 at *
                  have HG2 := Lib.hid (And.intro hG2 hfi6)
                  clear hG2 hfi6 hSv hext hdl
                  refine wpAnyZ_one (i := 8) (o := { dst := some 130, op := _, type := _, pos := _, after := _, guard := _ }) (by kernel_rfl) rfl (by rfl) (fun K1 hK1 => ?_)
                  have HK1 := Lib.hid hK1; clear hK1
                  refine oper_callg (f := 74) (lb := #[]) rfl rfl (enters_of Try.func74 (by kernel_rfl) rfl) rfl (R := fun u W => ∃ vr, u = .agg #[.int .i64 G2.num, .int .i64 G2.den, vr] ∧ SlI W vr (toI G2.cyc) ∧ (vr = .slice aG MG cG ∨ FrS w4.heap.size vr) ∧ Below w4.heap.size w4 W) (h74.mono ?_) ?_
                  · rintro e w5 ⟨vr, rfl, h5⟩
                    exact ⟨_, rfl, vr, rfl, h5⟩
                  rintro u w5 ⟨vr, rfl, s5, f5, hb5⟩
                  obtain ⟨a5, c5, hv5⟩ := slI_form s5
                  subst hv5
                  clear h74
                  have hb45 := hb4.trans (hb5.mono hb4.size)
                  refine HK1.out _ _ (fun _ => HSB.out _ (hb45)) ?_
                  clear HK1 K1
                  try simp only [Act.put, List.setIfInBounds_toArray, List.set_cons_zero, List.set_cons_succ]
                  have b15 := blk_keep b1 hb45
                  have b25 := blk_keep b2 hb45
                  have b35 := blk_keep b3 hb45
                  have hB5 := hB.trans (hb45.mono hB.size)
                  have hsz4 := hb4.size
                  have hsz5 := hb5.size
                  refine wpAnyZ_last (o := { dst := none, op := _, type := _, pos := _, after := _, guard := _ }) (by kernel_rfl) (by kernel_rfl) rfl (by rfl) (fun K1 hK1 => ?_)
                  have HK1 := Lib.hid hK1; clear hK1
                  refine oper_store_blk 95 (.tmp 5) (.tmp 130) rfl (w.heap.size + 1) rfl (cells := #[.int .i64 G2.num, .int .i64 G2.den, .slice a5 (toI G2.cyc).length c5]) rfl b25 size95 rfl rfl (by simp [Value.oneCell']) ?_
                  refine HK1.out _ _ ?_
                  clear HK1 K1
                  try simp only [Act.put]
                  have hF5 : (Value.slice a5 (toI G2.cyc).length c5) = .slice ac M cc ∨ FrS wl (Value.slice a5 (toI G2.cyc).length c5) := by
                    rcases f5 with e | e
                    · rw [e, HMG.out]; exact HVF.out
                    · exact .inr (frS_mono (by omega) e)
                  have s6 : SlI (w5.putObj (w.heap.size + 1) (.cells #[.int .i64 G2.num, .int .i64 G2.den, .slice a5 (toI G2.cyc).length c5] 95 (0, 0))) (.slice a5 (toI G2.cyc).length c5) (toI G2.cyc) := slI_putO3 s5 hF5 (HM.out ▸ HV.out.2.2) (by omega) (by omega)
                  have b16 := (World.putObj_heap_other (w := w5) (o := .cells #[.int .i64 G2.num, .int .i64 G2.den, .slice a5 (toI G2.cyc).length c5] 95 (0, 0)) (show w.heap.size ≠ w.heap.size + 1 by omega)).trans b15
                  have b36 := (World.putObj_heap_other (w := w5) (o := .cells #[.int .i64 G2.num, .int .i64 G2.den, .slice a5 (toI G2.cyc).length c5] 95 (0, 0)) (show w.heap.size + 1 + 1 ≠ w.heap.size + 1 by omega)).trans b35
                  have b26 := World.putObj_heap_same (w := w5) (o := .cells #[.int .i64 G2.num, .int .i64 G2.den, .slice a5 (toI G2.cyc).length c5] 95 (0, 0)) (lt_blk b25)
                  have hB6 := below_putObj (o := .cells #[.int .i64 G2.num, .int .i64 G2.den, .slice a5 (toI G2.cyc).length c5] 95 (0, 0)) hB5 (show w.heap.size ≤ w.heap.size + 1 by omega)
                  have hs6 : wl ≤ (w5.putObj (w.heap.size + 1) (.cells #[.int .i64 G2.num, .int .i64 G2.den, .slice a5 (toI G2.cyc).length c5] 95 (0, 0))).heap.size := by simp; omega
                  clear b1 b2 b3 b15 b25 b35 hB hB5 s5 f5 r4 hb4 hb5 hb45 hS0
                  generalize World.putObj _ _ _ = w6 at *
                  simp only [Exit.inBlock]
                  refine HK.out _ _ ?_; clear HK K
                  go_wp2
                  go_roundw
                  case rel => exact ⟨j + 1, _, by go_num, by omega, by rw [HG2.out.1]; exact HG2.out.2, by rw [HG2.out.1]; exact s6, b16, by rw [HG2.out.1]; exact b26, b36, hB6, hF5, hs6⟩
                  case measure => simp [intOf]; omega
                exact AllReadyZ.nil
              · have hgb : decide (S ≤ tj) = false := by rw [decide_eq_false_iff_not]; omega
                have hsk := HSG.out.1 (by rw [HT.out.1]; simp [hge])
                have HSK := Lib.hid hsk
                subst hfL
                clear hge hsk HSG HT
                go_wp2
                go_roundw
                case rel => exact ⟨j + 1, _, by go_num, by omega, by rw [HSK.out]; exact HFI.out.1, by rw [HSK.out]; exact HMG.out ▸ HFI.out.2, b1, by rw [HSK.out]; exact b2, b3, hB, HMG.out ▸ HVF.out, hwx⟩
                case measure => simp [intOf]; omega
            · have hfb : ((fj : Int) == (L : Int)) = false := by rw [beq_eq_false_iff_ne]; omega
              have hsk := HSG.out.1 (by rw [HT.out.1]; simp [hfL])
              have HSK := Lib.hid hsk
              clear hfL hsk HSG HT
              go_wp2
              go_roundw
              case rel => exact ⟨j + 1, _, by go_num, by omega, by rw [HSK.out]; exact HFI.out.1, by rw [HSK.out]; exact HMG.out ▸ HFI.out.2, b1, by rw [HSK.out]; exact b2, b3, hB, HMG.out ▸ HVF.out, hwx⟩
              case measure => simp [intOf]; omega
          · have hjn2 : j = ws.length := by omega
            have hRG : R = G := by rw [HRL.out.1, HG.out, hjn2]
            subst hjn2 hRG
            go_wp2_with (first | (refine wpList_load_blk rfl 95 _ rfl _ rfl b2 Try.underlying95 rfl size95 rfl ?_) | (refine wpList_store_blk rfl 95 _ _ rfl _ rfl rfl b3 size95 rfl rfl (by simp [Value.oneCell']) ?_))
            exact bodyPost_ret (results_blk rfl _ _ (w.heap.size + 1 + 1) rfl (World.putObj_heap_same (lt_blk b3)) Try.underlying95 rfl size95 rfl) rfl ⟨_, rfl, by rw [HMG.out]; exact slI_putO3 HFI.out.2 HVF.out (HM.out ▸ HV.out.2.2) (by omega) (by omega), HMG.out ▸ HVF.out.imp_right (fun h => frS_mono (by omega) h), below_putObj hB (by omega)⟩
end Yteileadcmekkoaa
end Go.Proofs
