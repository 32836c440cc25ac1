/- The law RailRoom returns true. -/
import Derived.Test.YteijenefhoconaaRP2
import Derived.Test.YteijenefhoconaaOT2
import Derived.Deep.RegionHeld3
import Derived.Test.YteijenefhoconaaMinL
open Go Go.RowKit Go.YteijenefhoconaaIt
namespace Go.Proofs
namespace Yteijenefhoconaa
theorem slT_open2 {W : World} {ad : Option Addr} {n cap : Nat} {ts : List Tn} (h : SlT W (.slice ad n cap) ts) (h0 : 0 < ts.length) : ∃ b off, ad = some ⟨b, off, none⟩ ∧ b < W.heap.size ∧ ∀ i, i < ts.length → W.cell? ⟨b, off + i * 2, none⟩ = some (.int .i64 (tAt ts i)) ∧ W.cell? ⟨b, off + i * 2 + 1, none⟩ = some (.int .i64 (tTo ts i)) := by
  obtain ⟨ad', cap', h1, _, h3⟩ := h
  injection h1 with e1 _ _
  obtain ⟨b, off, h4, h5, h6⟩ := h3 h0
  exact ⟨b, off, e1.trans h4, h5, h6⟩
theorem Reads.takeT {w : World} {B n : Nat} {A : Option Addr} {ts : List Tn} (h : Reads w B 2 A n (flat ts)) {k : Nat} (hk : k < n) (hn : ts.length = n) : Reads w B 2 A k (flat (ts.take k)) := by
  refine ⟨by rw [flat_len, List.length_take]; omega, fun h0 => ?_⟩
  obtain ⟨ad, rfl, hb, hc⟩ := h.2 (by omega)
  refine ⟨ad, rfl, hb, fun j u hu => hc j u ?_⟩
  rw [← flat_takeN, List.getElem?_take] at hu
  split at hu
  · exact hu
  · cases hu
theorem Reads.dropT {w : World} {B n b o : Nat} {ts : List Tn} (h : Reads w B 2 (some ⟨b, o, none⟩) n (flat ts)) {k : Nat} (hk : k < n) (hn : ts.length = n) : Reads w B 2 (some ⟨b, o + (k + 1) * 2, none⟩) (n - (k + 1)) (flat (ts.drop (k + 1))) := by
  refine ⟨by rw [flat_len, List.length_drop]; omega, fun h0 => ?_⟩
  obtain ⟨ad, e, hb, hc⟩ := h.2 (by omega)
  injection e with e
  subst e
  refine ⟨_, rfl, hb, fun j u hu => ?_⟩
  rw [← flat_drop, List.getElem?_drop] at hu
  have := hc ((k + 1) * 2 + j) u hu
  rw [add_at] at this ⊢
  rw [Nat.add_assoc]; exact this
theorem Reads_zero {w : World} {B : Nat} {A : Option Addr} : Reads w B 2 A 0 (flat []) := ⟨rfl, fun h => absurd h (by omega)⟩
theorem below_grown {W W1 W2 : World} {e : TypeId} {sz n : Nat} {v : Value} {xs : List Value} (h : Below W.heap.size W W1) (ho : W1.ownsRow W.heap.size e sz v n xs) (hg : W1.grownBy W2 v.ownBlock) : Below W.heap.size W W2 :=
  ⟨hg.os.trans h.os, hg.tape.trans h.tape, hg.output.trans h.output, Nat.le_trans h.size hg.size, fun k hk => (hg.block k (by have := h.size; omega) (fun e => by have := (ho.lt k e.symm).1; omega)).trans (h.block k hk)⟩
theorem row_nil {W : World} {base : Nat} {e : TypeId} {sz n : Nat} {v : Value} {xs : List Value} (h : W.ownsRow base e sz v (0 + n) ([] ++ xs)) : W.ownsRow base e sz v n xs := by simpa using h
theorem below_new {W W' : World} {o : Obj} {n c : Nat} (h : (W.alloc o).drew.grownBy W' (Value.slice (some ⟨W.heap.size, 0, none⟩) n c).ownBlock) : Below W.heap.size W W' := by
  have hs : W.heap.size + 1 ≤ W'.heap.size := by have := h.size; simpa using this
  refine ⟨h.os, h.tape, h.output, by omega, fun k hk => ?_⟩
  rw [h.block k (by simp; omega) (fun h2 => by have h3 : some k = some W.heap.size := h2; injection h3; omega)]
  exact heap_oldI hk
set_option maxRecDepth 100000 in
set_option maxHeartbeats 4000000 in
theorem railRoom_any (r0 r1 r2 r3 r4 r5 m : Int) (v : Value) (xs : List Tn) (x1 x2 : Int) (w : World) (hR : ∀ x ∈ [r0, r1, r2, r3, r4, r5], 0 ≤ x ∧ x < 256) (hm : 0 ≤ m ∧ m < 256) (hx : SlP w v xs) (h1 : 0 ≤ x1 ∧ x1 < 256) (h2 : 0 ≤ x2 ∧ x2 < 256) :
    Calls Try.prog 9 #[.agg #[.int .u8 r0, .int .u8 r1, .int .u8 r2, .int .u8 r3, .int .u8 r4, .int .u8 r5, .int .u8 m, v], .int .u8 x1, .int .u8 x2] w fun e w' => e = .returned (.bool true) ∧ Below w.heap.size w w' := by
  have HX := Lib.hid hx
  have HR := Lib.hid hR
  have HMM := Lib.hid hm
  clear hx hR hm
  have hmm := @run_makeMap Try.prog
  go_enter Try.func9, Try.ntmps9
  refine wp_seq_k (fun K hK => ?_)
  have HK := Lib.hid hK; clear hK
  go_wp2
  refine HK.out _ _ ?_; clear HK K
  generalize hw1 : World.alloc _ _ = w1
  have b1 : w1.heap[w.heap.size]? = some (.cells #[.int .u8 r0, .int .u8 r1, .int .u8 r2, .int .u8 r3, .int .u8 r4, .int .u8 r5, .int .u8 m, v] 52 (0, 0)) := by rw [← hw1]; exact heap_newI rfl
  have B : Below w.heap.size w w1 := by rw [← hw1]; exact (Below.refl _ _).alloc (Nat.le_refl _) _
  clear hw1
  refine wp_seq_k (fun K hK => ?_)
  have HK := Lib.hid hK; clear hK
  go_wp2_with (first | (refine wpList_load_blk rfl 52 _ rfl _ rfl b1 Try.underlying52 rfl size52 rfl ?_) | (go_at_call 30; refine (made7 r0 r1 r2 r3 r4 r5 m v xs _ HR.out HMM.out (HX.out.below B (Nat.le_refl _))).mono ?_; rintro e w2 ⟨vL, vT, L, ts, rfl, hL, hT, hok, hb⟩; replace B := btr B hb (Nat.le_refl _); clear hb b1))
  refine HK.out _ _ ?_; clear HK K
  obtain ⟨⟨he, h4, hl2, hl6, hLb⟩, hcap0⟩ := hok
  have HCAP := Lib.hid hcap0
  clear hcap0
  have HV := Lib.hid (show Val L (tos ts) ts from ⟨he, rfl⟩)
  have HL := Lib.hid hL
  have HT := Lib.hid hT
  have HLB := Lib.hid hLb
  clear he hL hT hLb HX HR HMM
  obtain ⟨adt, capt, rfl, hmt, -⟩ := HT.out
  have hcpn := HCAP.out _ _ _ rfl
  obtain ⟨adL, capL, rfl, hmL, -⟩ := HL.out
  obtain ⟨i69, hi69, hy1, hy2, hy3⟩ := info_parts info69
  obtain ⟨i3, hi3, hz1, hz2, hz3⟩ := info_parts info3
  have hX0 : Below w2.heap.size w2 (w2.alloc (.cells #[] 3)) := (Below.refl _ _).alloc (Nat.le_refl _) _
  have hrd := reads_of_sl (HL.out.below hX0 (Nat.le_refl _))
  refine wp_seq_k (fun K hK => ?_)
  have HK := Lib.hid hK; clear hK
  go_wp2_with (at_builtin; refine wpList_append_any _ rfl _ _ 23 rfl w2.heap.size 3 i3 (.int .i64 0) 1 8 Try.underlying23 hi3 hz1 hz2 hz3 rfl (by decide) _ 0 [] rfl (World.ownsRow_made w2 #[] 0 (Nat.le_refl _) (by decide) rfl) _ _ _ _ _ rfl hrd (fun u hu => by simp only [List.mem_map] at hu; obtain ⟨x, _, rfl⟩ := hu; rfl) (Nat.le_trans (by omega : 0 + L.length ≤ 2000) (by decide)) (by omega) (by rw [World.size_alloc]; omega) ?_; intro v7 w7 r1 r2 _)
  refine HK.out _ _ ?_; clear HK K
  have hown : w7.ownsRow w2.heap.size 3 1 v7 L.length (L.map (.int .i64)) := by simpa using r1
  have hb7 : Below w2.heap.size w2 w7 := by
    have hs : w2.heap.size + 1 ≤ w7.heap.size := by have := r2.size; simpa using this
    refine ⟨r2.os, r2.tape, r2.output, by omega, fun k hk => ?_⟩
    rw [r2.block k (by simp; omega) (fun h2 => by have h3 : some k = some w2.heap.size := h2; injection h3; omega)]
    exact heap_oldI hk
  have hs7 := hb7.size
  clear r1 r2 hrd hX0
  obtain ⟨g, capo, rfl⟩ := Joins.ownsRow_form hown (by omega)
  have hgl := hown.lt g rfl
  have hs0 : 0 ≤ x1 % (L.length : Int) := Int.emod_nonneg _ (by omega)
  have hs1 : x1 % (L.length : Int) < L.length := Int.emod_lt_of_pos _ (by omega)
  obtain ⟨s, hs⟩ := Int.eq_ofNat_of_zero_le hs0
  have hst : (x1 % (L.length : Int)).toNat = s := by omega
  have hsl : s < L.length := by omega
  have hln : ¬ L.length = 0 := by omega
  have c1 : w7.cell? ⟨g, (x1 % (L.length : Int)).toNat, none⟩ = some (.int .i64 (at0 L s)) := by
    rw [hst, hown.cellAt s (by omega)]
    simp [at0, hsl]
  have f1 := hown.frozenAt (x1 % (L.length : Int)).toNat
  have hlb := HLB.out (at0 L s) (by rw [at0_lt hsl]; exact List.getElem_mem _)
  obtain ⟨y, hy⟩ : ∃ y : Int, y = min 5 (at0 L s + 1 + x1 % 3) := ⟨_, rfl⟩
  have hyb : at0 L s ≤ y ∧ 1 ≤ y ∧ y ≤ 5 := by omega
  have hmore := set_more hyb.1 hyb.2 HLB.out
  obtain ⟨M, hM⟩ : ∃ M, M = L.set s y := ⟨_, rfl⟩
  have hst2 := (hown.stored (x1 % (L.length : Int)).toNat (.int .i64 y)).1
  rw [hst, ← List.map_set, ← hM] at hst2
  rw [← hst] at hst2
  rw [← hM] at hmore
  have HST := Lib.hid hst2
  have HMO := Lib.hid hmore
  have hml : M.length = L.length := hmore.1
  have HML := Lib.hid hml
  obtain ⟨av, hav⟩ : ∃ av, av = at0 L s := ⟨_, rfl⟩
  rw [← hav] at c1 hlb hy
  have HVM := Lib.hid (show Val M (tos ts) ts from ⟨lineE_more hmore.1 hmore.2.1 hmore.2.2 (by omega) HV.out.1, rfl⟩)
  have HY := Lib.hid hy
  clear hst2 hst hs hmore hml hM hyb hav hown hy
  refine wp_seq_k (fun K hK => ?_)
  have HK := Lib.hid hK; clear hK
  go_wp2
  refine HK.out _ _ ?_; clear HK K
  refine wp_seq_k (fun K hK => ?_)
  have HK := Lib.hid hK; clear hK
  go_wp2_with (refine wpList_min rfl _ _ _ rfl rfl rfl ?_)
  refine HK.out _ _ ?_; clear HK K
  generalize hw8 : World.setCell _ _ _ = w8
  have hrow : w8.ownsRow w2.heap.size 3 1 (.slice (some ⟨g, 0, none⟩) L.length capo) L.length (M.map (.int .i64)) := by
    rw [← hw8, ← HY.out]; exact HST.out
  have hb8 : Below w2.heap.size w2 w8 := by rw [← hw8]; exact hb7.setCell (by simp; omega) _
  have hmr : SlI w8 (.slice (some ⟨g, 0, none⟩) L.length capo) M := slI_own (base := w2.heap.size) (W := w8) (by rw [HML.out]; exact hrow) (by rw [HML.out]; omega) (Nat.le_refl _) (fun _ _ _ => rfl)
  have HMR := Lib.hid hmr
  have HL := Lib.hid (HL.out.below hb8 (Nat.le_refl _))
  have HT := Lib.hid (HT.out.below hb8 (Nat.le_refl _))
  replace B := btr B hb8 (Nat.le_refl _)
  clear hw8 hrow hb8 hmr c1 f1 hb7 hs7 HST HY hlb
  have hgd := fun (W : World) => y23 (vL := .slice adL L.length capL) (vt := .slice adt ts.length capt) HV.out W
  obtain ⟨sa, hsa⟩ : ∃ sa, sa = safeT L ts := ⟨_, rfl⟩
  obtain ⟨sb, hsb⟩ : ∃ sb, sb = safeT M ts := ⟨_, rfl⟩
  obtain ⟨st, hst⟩ : ∃ st, st = (wayT ts ts.length && !canT L ts ts.length) := ⟨_, rfl⟩
  have hab : sa = true → sb = true ∧ st = false := fun h => by
    rw [hsb, hst]
    rw [hsa] at h
    exact ⟨safe_more HMO.out.1 HMO.out.2.1 HMO.out.2.2 HV.out h, stuck_safe HV.out h⟩
  have hcn : sa = false → fN (gdT L ts) ts.length = [] := fun h => good_unsafe HV.out (by rw [← hsa]; exact h)
  have h0n : ts.length = 0 → sa = true := fun h => by rw [hsa]; exact safe_none HV.out h
  have HAB := Lib.hid hab
  have HCN := Lib.hid hcn
  have H0N := Lib.hid h0n
  have HSA := Lib.hid hsa
  have HSB := Lib.hid hsb
  have HSt := Lib.hid hst
  clear hab hcn h0n hsa hsb hst hgd
  go_wp2_with fail
  refine (y16 HV.out HSA.out.symm _ HL.out HT.out).mono ?_
  rintro e w9 ⟨rfl, hb⟩
  have HL := Lib.hid (HL.out.below hb (Nat.le_refl _))
  have HT := Lib.hid (HT.out.below hb (Nat.le_refl _))
  have HMR := Lib.hid (HMR.out.below hb (Nat.le_refl _))
  replace B := btr B hb (Nat.le_refl _)
  clear hb 
  go_wp2_with fail
  refine (y16 HVM.out HSB.out.symm _ HMR.out HT.out).mono ?_
  rintro e w9 ⟨rfl, hb⟩
  have HL := Lib.hid (HL.out.below hb (Nat.le_refl _))
  have HT := Lib.hid (HT.out.below hb (Nat.le_refl _))
  have HMR := Lib.hid (HMR.out.below hb (Nat.le_refl _))
  replace B := btr B hb (Nat.le_refl _)
  clear hb 
  go_wp2_with fail
  refine (y23 HV.out _ HL.out HT.out).mono ?_
  rintro e w9 ⟨vc, rfl, hc, hb⟩
  have HL := Lib.hid (HL.out.below hb (Nat.le_refl _))
  have HT := Lib.hid (HT.out.below hb (Nat.le_refl _))
  have HMR := Lib.hid (HMR.out.below hb (Nat.le_refl _))
  have HC := Lib.hid hc
  replace B := btr B hb (Nat.le_refl _)
  clear hb hc
  go_wp2_with fail
  refine (y23 HVM.out _ HMR.out HT.out).mono ?_
  rintro e w9 ⟨vd, rfl, hd, hb⟩
  have HL := Lib.hid (HL.out.below hb (Nat.le_refl _))
  have HT := Lib.hid (HT.out.below hb (Nat.le_refl _))
  have HMR := Lib.hid (HMR.out.below hb (Nat.le_refl _))
  have HC := Lib.hid (HC.out.below hb (Nat.le_refl _))
  have HD := Lib.hid hd
  replace B := btr B hb (Nat.le_refl _)
  clear hb hd
  obtain ⟨CC, hCC⟩ : ∃ CC, CC = fN (gdT L ts) ts.length := ⟨_, rfl⟩
  obtain ⟨DD, hDD⟩ : ∃ DD, DD = fN (gdT M ts) ts.length := ⟨_, rfl⟩
  replace HC := Lib.hid (show SlI _ vc CC by rw [hCC]; exact HC.out)
  replace HD := Lib.hid (show SlI _ vd DD by rw [hDD]; exact HD.out)
  have HCC := Lib.hid hCC
  have HDD := Lib.hid hDD
  clear hCC hDD
  obtain ⟨adc, capc, rfl, hmc, -⟩ := HC.out
  obtain ⟨add, capd, rfl, hmd, -⟩ := HD.out
  have h18 := fun W h1 h2 => y18 (vL := .slice adL L.length capL) (vt := .slice adt ts.length capt) HV.out W h1 h2
  simp only [← HSt.out] at h18
  have H18 := Lib.hid h18
  clear h18
  go_wp2_with fail
  refine (H18.out _ HL.out HT.out).mono ?_
  rintro e w9 ⟨rfl, hb⟩
  have HL := Lib.hid (HL.out.below hb (Nat.le_refl _))
  have HT := Lib.hid (HT.out.below hb (Nat.le_refl _))
  have HMR := Lib.hid (HMR.out.below hb (Nat.le_refl _))
  have HC := Lib.hid (HC.out.below hb (Nat.le_refl _))
  have HD := Lib.hid (HD.out.below hb (Nat.le_refl _))
  replace B := btr B hb (Nat.le_refl _)
  clear hb 
  have hcase : (sa = true ∧ sb = true ∧ st = false) ∨ (sa = false ∧ CC.length = 0 ∧ (st = true ∨ st = false)) := by
    cases hq : sa with
    | true => exact .inl ⟨rfl, HAB.out hq⟩
    | false => exact .inr ⟨rfl, by rw [HCC.out, HCN.out hq]; rfl, by cases st <;> simp⟩
  rcases hcase with ⟨rfl, rfl, rfl⟩ | ⟨rfl, hc0, rfl | rfl⟩
  all_goals
    as_aux_lemma =>
    try (have hc1 : CC.length ≤ 0 := by omega
         clear hc0)
    go_wp2
    go_loop [132] (fun i => ∃ k : Nat, k ≤ CC.length ∧ i = .int .i64 k) (fun i => CC.length - (intOf i).toNat)
    case atStart => exact ⟨0, Nat.zero_le _, rfl⟩
    case round =>
      obtain ⟨k, hk, rfl⟩ := hrel
      by_cases hkc : k < CC.length
      · (try (exfalso; omega))
        all_goals
          have hkc2 : k < (fN (gdT L ts) ts.length).length := by rw [← HCC.out]; exact hkc
          obtain ⟨ci, hci, hcg, hce⟩ := fN_mem hkc2
          rw [← HCC.out] at hce
          have hin : (ci : Int) ∈ DD := by rw [HDD.out]; exact fN_in hci (good_more HMO.out.1 HMO.out.2.1 HMO.out.2.2 HV.out hci hcg)
          have HIN := Lib.hid (hasN_all hin)
          obtain ⟨bc, oc, rfl, -, c1⟩ := slI_cell3 HC.out hkc
          rw [hce] at c1
          clear hkc2 hcg hce hin
          go_wp2
          go_loop [23, 138] (fun f i => ∃ j : Nat, j ≤ DD.length ∧ i = .int .i64 j ∧ f = .bool (hasN DD ci j)) (fun _ i => DD.length - (intOf i).toNat)
          case atStart => exact ⟨0, Nat.zero_le _, rfl, rfl⟩
          case round =>
            obtain ⟨j, hj, rfl, rfl⟩ := hrel
            by_cases hjd : j < DD.length
            · obtain ⟨bd, od, rfl, -, c2⟩ := slI_cell3 HD.out hjd
              have hsu := hasN_succ (x := (ci : Int)) hjd
              generalize at0 DD j = x at *
              have HSU := Lib.hid hsu
              clear hsu
              cases hf : hasN DD ci j
              all_goals
                have HF := Lib.hid hf
                clear hf
                go_wp2
                go_round
                case rel => exact ⟨j + 1, by omega, by go_num, by rw [HSU.out, HF.out]; simp⟩
                case measure => simp [intOf]; omega
            · have hjx : j = DD.length := by omega
              have hh : hasN DD ci j = true := by rw [hjx]; exact HIN.out
              have HH := Lib.hid hh
              rw [hh]
              subst hjx
              clear hjd hj hh
              go_wp2
              go_round
              case rel => exact ⟨k + 1, by omega, by go_num⟩
              case measure => simp [intOf]; omega
      · have hkx : k = CC.length := by omega
        subst hkx
        clear hk
        by_cases hn0 : ts.length = 0
        · first
          | exact Bool.noConfusion (H0N.out hn0)
          | (have tn : ((ts.length : Int) == 0) = true := by rw [hn0]; rfl
             clear hn0
             go_wp2_with fail
             refine (works_any _).mono ?_
             rintro e w10 ⟨rfl, hb⟩
             replace B := btr B hb (Nat.le_refl _)
             go_wp2
             go_ret
             exact ⟨rfl, B⟩)
        have tn : ((ts.length : Int) == 0) = false := by rw [beq_eq_false_iff_ne]; omega
        have hnn : ¬ ts.length = 0 := hn0
        go_wp2
        have hk0 : 0 ≤ x2 % (ts.length : Int) := Int.emod_nonneg _ (by omega)
        have hk1 : x2 % (ts.length : Int) < ts.length := Int.emod_lt_of_pos _ (by omega)
        obtain ⟨kk, hkk⟩ := Int.eq_ofNat_of_zero_le hk0
        have hkl : kk < ts.length := by omega
        rw [hkk]
        clear hk0 hk1 hkk tn
        obtain ⟨bt, ot, rfl, -, -⟩ := slT_open2 HT.out (by omega)
        have hr0 := reads_of_slT HT.out
        have HR0 := Lib.hid hr0
        clear hr0
        have hkc : kk ≤ capt := by omega
        have hkI0 : (0 : Int) ≤ (kk : Int) := by omega
        have hkI1 : (kk : Int) ≤ (capt : Int) := by omega
        have hkn1 : kk + 1 ≤ ts.length := by omega
        have hwr : IntKind.i64.wrap ((kk : Int) + 1) = (kk : Int) + 1 := IntWalk.i64_in _ (by omega)
        have hk1a : (0 : Int) ≤ (kk : Int) + 1 := by omega
        have hk1b : ((kk : Int) + 1) ≤ (ts.length : Int) := by omega
        have hk1c : ((kk : Int) + 1).toNat = kk + 1 := by omega
        have hrA : ∀ W, Below w9.heap.size w9 W → Reads W w9.heap.size 2 (some ⟨bt, ot, none⟩) kk (flat (ts.take kk)) := fun W hW => Reads.takeT (HR0.out.below hW) hkl rfl
        have HRA := Lib.hid hrA
        clear hrA
        by_cases hcap : capt = kk + 1
        all_goals
          first
          | (have hif : (capt = kk + 1) = True := eq_true hcap
             have e0 : ts.length - (kk + 1) = 0 := by omega
             have e2 : ts.drop (kk + 1) = [] := List.drop_eq_nil_of_le (by omega)
             have hrB : ∀ W, Below w9.heap.size w9 W → Reads W w9.heap.size 2 (some ⟨bt, ot, none⟩) (ts.length - (kk + 1)) (flat (ts.drop (kk + 1))) := fun W _ => by rw [e0, e2]; exact Reads_zero
             have HRB := Lib.hid hrB
             clear hrB hcap e0 e2
             go_region_held3 (fun _ => True) (trivial) ((first
               | (refine step_append_any _ rfl (.tmp 164) (.tmp 167) 24 rfl w9.heap.size 69 i69 (.agg #[.int .i64 0, .int .i64 0]) 2 16 Try.underlying24 hi69 hy1 hy2 hy3 rfl (by decide) _ 0 [] (by simp [Act.eval]) (World.ownsRow.drew (World.ownsRow_made w9 #[] 0 (Nat.le_refl _) (by decide) rfl)) w9.heap.size (some ⟨bt, ot, none⟩) kk capt (flat (ts.take kk)) (by simp [Act.eval]) (HRA.out _ (((Below.refl _ _).alloc (Nat.le_refl _) _).drew)) (flat_one _) (Nat.le_trans (by omega : 0 + kk ≤ 2000) (by decide)) (by omega) (by show w9.heap.size ≤ (World.alloc w9 _).heap.size; rw [World.size_alloc]; omega) ?_; intro v10 w10 r1 r2 _; have r3 := row_nil r1; have hb10 := below_new r2; clear r1 r2)
               | (refine step_append_any _ rfl (.tmp 168) (.tmp 172) 24 rfl w9.heap.size 69 i69 (.agg #[.int .i64 0, .int .i64 0]) 2 16 Try.underlying24 hi69 hy1 hy2 hy3 rfl (by decide) v10 kk (flat (ts.take kk)) (by simp [Act.eval]) r3 w9.heap.size (some ⟨bt, ot, none⟩) (ts.length - (kk + 1)) (capt - (kk + 1)) (flat (ts.drop (kk + 1))) (by simp [Act.eval]) (HRB.out _ hb10) (flat_one _) (Nat.le_trans (by omega : kk + (ts.length - (kk + 1)) ≤ 2000) (by decide)) (by omega) hb10.size ?_; intro v11 w11 r4 r5 _))))
          | (have hrB : ∀ W, Below w9.heap.size w9 W → Reads W w9.heap.size 2 (some ⟨bt, ot + (kk + 1) * 2, none⟩) (ts.length - (kk + 1)) (flat (ts.drop (kk + 1))) := fun W hW => Reads.dropT (HR0.out.below hW) hkl rfl
             have HRB := Lib.hid hrB
             clear hrB
             go_region_held3 (fun _ => True) (trivial) ((first
               | (refine step_append_any _ rfl (.tmp 164) (.tmp 167) 24 rfl w9.heap.size 69 i69 (.agg #[.int .i64 0, .int .i64 0]) 2 16 Try.underlying24 hi69 hy1 hy2 hy3 rfl (by decide) _ 0 [] (by simp [Act.eval]) (World.ownsRow.drew (World.ownsRow_made w9 #[] 0 (Nat.le_refl _) (by decide) rfl)) w9.heap.size (some ⟨bt, ot, none⟩) kk capt (flat (ts.take kk)) (by simp [Act.eval]) (HRA.out _ (((Below.refl _ _).alloc (Nat.le_refl _) _).drew)) (flat_one _) (Nat.le_trans (by omega : 0 + kk ≤ 2000) (by decide)) (by omega) (by show w9.heap.size ≤ (World.alloc w9 _).heap.size; rw [World.size_alloc]; omega) ?_; intro v10 w10 r1 r2 _; have r3 := row_nil r1; have hb10 := below_new r2; clear r1 r2)
               | (refine step_append_any _ rfl (.tmp 168) (.tmp 172) 24 rfl w9.heap.size 69 i69 (.agg #[.int .i64 0, .int .i64 0]) 2 16 Try.underlying24 hi69 hy1 hy2 hy3 rfl (by decide) v10 kk (flat (ts.take kk)) (by simp [Act.eval]) r3 w9.heap.size (some ⟨bt, ot + (kk + 1) * 2, none⟩) (ts.length - (kk + 1)) (capt - (kk + 1)) (flat (ts.drop (kk + 1))) (by simp [Act.eval]) (HRB.out _ hb10) (flat_one _) (Nat.le_trans (by omega : kk + (ts.length - (kk + 1)) ≤ 2000) (by decide)) (by omega) hb10.size ?_; intro v11 w11 r4 r5 _))))
        all_goals
          have hel : (ts.eraseIdx kk).length = kk + (ts.length - (kk + 1)) := by rw [erase_len hkl]; omega
          have hU : SlT w11 v11 (ts.eraseIdx kk) := slT_own (by rw [hel, ← flat_erase]; first | exact r4 | (rw [show ts.length - (kk + 1) = 0 by omega]; exact r4)) (by omega)
          have hb11 : Below w9.heap.size w9 w11 := below_grown hb10 r3 r5
          have HU := Lib.hid hU
          have HVU := Lib.hid (show Val L (tos (ts.eraseIdx kk)) (ts.eraseIdx kk) from ⟨erase_val HV.out.1 hkl, rfl⟩)
          have HL := Lib.hid (HL.out.below hb11 (Nat.le_refl _))
          have HC := Lib.hid (HC.out.below hb11 (Nat.le_refl _))
          replace B := btr B hb11 (Nat.le_refl _)
          obtain ⟨su, hsu⟩ : ∃ su, su = safeT L (ts.eraseIdx kk) := ⟨_, rfl⟩
          have HSU := Lib.hid hsu
          clear hU hb11 r4 r5 r3 hb10 hel hsu hwr hk1a hk1b hk1c
          first
          | (have hsx : su = true := by rw [HSU.out]; exact erase_safe _ _ rfl HV.out hkl HSA.out.symm
             subst hsx)
          | skip
          go_wp2_with fail
          refine (y16 HVU.out HSU.out.symm _ HL.out HU.out).mono ?_
          rintro e w12 ⟨rfl, hb⟩
          have HL := Lib.hid (HL.out.below hb (Nat.le_refl _))
          have HU := Lib.hid (HU.out.below hb (Nat.le_refl _))
          have HC := Lib.hid (HC.out.below hb (Nat.le_refl _))
          replace B := btr B hb (Nat.le_refl _)
          clear hb
          go_wp2_with fail
          refine (y23 HVU.out _ HL.out HU.out).mono ?_
          rintro e w13 ⟨vv, rfl, hv, hb⟩
          have HC := Lib.hid (HC.out.below hb (Nat.le_refl _))
          obtain ⟨VV, hVV⟩ : ∃ VV, VV = fN (gdT L (ts.eraseIdx kk)) (ts.eraseIdx kk).length := ⟨_, rfl⟩
          have HVS := Lib.hid (show SlI _ vv VV by rw [hVV]; exact hv)
          have HVE := Lib.hid hVV
          replace B := btr B hb (Nat.le_refl _)
          clear hb hv hVV
          obtain ⟨adv, capv, rfl, hmv, -⟩ := HVS.out
          go_wp2
          go_loop [201] (fun i => ∃ k : Nat, k ≤ CC.length ∧ i = .int .i64 k) (fun i => CC.length - (intOf i).toNat)
          case atStart => exact ⟨0, Nat.zero_le _, rfl⟩
          case round =>
            obtain ⟨k, hk, rfl⟩ := hrel
            by_cases hkc : k < CC.length
            · (try (exfalso; omega))
              all_goals
                have hkc2 : k < (fN (gdT L ts) ts.length).length := by rw [← HCC.out]; exact hkc
                obtain ⟨ci, hci, hcg, hce⟩ := fN_mem hkc2
                rw [← HCC.out] at hce
                obtain ⟨bc, oc, rfl, -, c1⟩ := slI_cell3 HC.out hkc
                rw [hce] at c1
                clear hkc2 hce
                by_cases hck : ci = kk
                · have t1 : ((ci : Int) == (kk : Int)) = true := by rw [hck]; simp
                  clear hck hcg
                  go_wp2
                  go_round
                  case rel => exact ⟨k + 1, by omega, by go_num⟩
                  case measure => simp [intOf]; omega
                · have t1 : ((ci : Int) == (kk : Int)) = false := by rw [beq_eq_false_iff_ne]; omega
                  have hin : ((jx kk ci : Nat) : Int) ∈ VV := by rw [HVE.out]; exact fN_in (jx_lt hck hci hkl) (erase_good HV.out hck hci hkl hcg)
                  have HIN0 := Lib.hid (hasN_all hin)
                  clear hcg hin
                  by_cases hlt : kk < ci
                  · have HIN := Lib.hid (show hasN VV ((ci : Int) - 1) VV.length = true by rw [show ((ci : Int) - 1) = ((jx kk ci : Nat) : Int) by unfold jx; rw [if_neg (by omega)]; omega]; exact HIN0.out)
                    clear HIN0 hck
                    go_wp2
                    go_loop [32, 215] (fun f i => ∃ j : Nat, j ≤ VV.length ∧ i = .int .i64 j ∧ f = .bool (hasN VV ((ci : Int) - 1) j)) (fun _ i => VV.length - (intOf i).toNat)
                    case atStart => exact ⟨0, Nat.zero_le _, rfl, rfl⟩
                    case round =>
                      obtain ⟨j, hj, rfl, rfl⟩ := hrel
                      by_cases hjd : j < VV.length
                      · obtain ⟨bd, od, rfl, -, c2⟩ := slI_cell3 HVS.out hjd
                        have hsu := hasN_succ (x := ((ci : Int) - 1)) hjd
                        generalize at0 VV j = x at *
                        have HSV := Lib.hid hsu
                        clear hsu
                        cases hf : hasN VV ((ci : Int) - 1) j
                        all_goals
                          have HF := Lib.hid hf
                          clear hf
                          go_wp2
                          go_round
                          case rel => exact ⟨j + 1, by omega, by go_num, by rw [HSV.out, HF.out]; simp⟩
                          case measure => simp [intOf]; omega
                      · have hjx : j = VV.length := by omega
                        have hh : hasN VV ((ci : Int) - 1) j = true := by rw [hjx]; exact HIN.out
                        rw [hh]
                        subst hjx
                        clear hjd hj hh
                        go_wp2
                        go_round
                        case rel => exact ⟨k + 1, by omega, by go_num⟩
                        case measure => simp [intOf]; omega
                  · have HIN := Lib.hid (show hasN VV (ci : Int) VV.length = true by rw [show (ci : Int) = ((jx kk ci : Nat) : Int) by unfold jx; rw [if_pos (by omega)]]; exact HIN0.out)
                    clear HIN0
                    go_wp2
                    go_loop [32, 215] (fun f i => ∃ j : Nat, j ≤ VV.length ∧ i = .int .i64 j ∧ f = .bool (hasN VV (ci : Int) j)) (fun _ i => VV.length - (intOf i).toNat)
                    case atStart => exact ⟨0, Nat.zero_le _, rfl, rfl⟩
                    case round =>
                      obtain ⟨j, hj, rfl, rfl⟩ := hrel
                      by_cases hjd : j < VV.length
                      · obtain ⟨bd, od, rfl, -, c2⟩ := slI_cell3 HVS.out hjd
                        have hsu := hasN_succ (x := (ci : Int)) hjd
                        generalize at0 VV j = x at *
                        have HSV := Lib.hid hsu
                        clear hsu
                        cases hf : hasN VV (ci : Int) j
                        all_goals
                          have HF := Lib.hid hf
                          clear hf
                          go_wp2
                          go_round
                          case rel => exact ⟨j + 1, by omega, by go_num, by rw [HSV.out, HF.out]; simp⟩
                          case measure => simp [intOf]; omega
                      · have hjx : j = VV.length := by omega
                        have hh : hasN VV (ci : Int) j = true := by rw [hjx]; exact HIN.out
                        rw [hh]
                        subst hjx
                        clear hjd hj hh
                        go_wp2
                        go_round
                        case rel => exact ⟨k + 1, by omega, by go_num⟩
                        case measure => simp [intOf]; omega
            · have hkx : k = CC.length := by omega
              subst hkx
              clear hk
              go_wp2_with fail
              refine (works_any _).mono ?_
              rintro e w14 ⟨rfl, hb⟩
              replace B := btr B hb (Nat.le_refl _)
              go_wp2
              go_ret
              exact ⟨rfl, B⟩
end Yteijenefhoconaa
end Go.Proofs
