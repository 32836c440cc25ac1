/- For every crop the law RipeTruth returns true. -/
import Derived.Test.YtgnjeefanbcbkaaD7
import Derived.Test.YtgnjeefanbcbkaaE2
import Derived.Test.YtgnjeefanbcbkaaD1
import Derived.Test.YtgnjeefanbcbkaaC4
open Go Go.RowKit Go.YtgnjeefanbcbkaaIt
namespace Go.Proofs
namespace Ytgnjeefanbcbkaa
theorem size63 : (Try.prog.info? 63).map (·.size) = some 7 := by kernel_rfl
theorem sl_cell {W : World} {ad : Option Addr} {n cap : Nat} {T : Nat → Int} (h : SlI W (.slice ad n cap) ((List.range n).map T)) (h0 : 0 < n) : ∃ b off, ad = some ⟨b, off, none⟩ ∧ b < W.heap.size ∧ ∀ i, i < n → W.cell? ⟨b, off + i, none⟩ = some (.int .i64 (T i)) := by
  obtain ⟨ad', cap', e, h1, h2, h3⟩ := h
  simp only [List.length_map, List.length_range] at e h3
  injection e with e1 e2 e3
  subst e1 e3
  obtain ⟨b, off, ha, hlt, hc⟩ := h3 h0
  refine ⟨b, off, ha, hlt, fun i hi => ?_⟩
  have := hc i hi
  rw [at0_lt (by simpa using hi)] at this
  simpa only [List.getElem_map, List.getElem_range] using this
theorem sr_cell {W : World} {ad : Option Addr} {n cap : Nat} {f : Nat → Int × Int} (h : SlR W (.slice ad n cap) ((List.range n).map f)) (h0 : 0 < n) : ∃ b off, ad = some ⟨b, off, none⟩ ∧ b < W.heap.size ∧ ∀ i, i < n → W.cell? ⟨b, off + i * 2, none⟩ = some (.int .i64 (f i).1) ∧ W.cell? ⟨b, off + i * 2 + 1, none⟩ = some (.int .i64 (f i).2) := by
  obtain ⟨ad', cap', e, h1, h2, h3⟩ := h
  simp only [List.length_map, List.length_range] at e h3
  injection e with e1 e2 e3
  subst e1 e3
  obtain ⟨b, off, ha, hlt, hc⟩ := h3 h0
  refine ⟨b, off, ha, hlt, fun i hi => ?_⟩
  have := p_cells (xs := (List.range n).map f) (fun i h f u hu => hc i (by simpa using h) f u hu) (i := i) (by simpa using hi)
  rw [at2_lt (by simpa using hi)] at this
  simpa only [List.getElem_map, List.getElem_range] using this
theorem top_step (T : Nat → Int) (j : Nat) : max (topF T (j - 1)) (T j) = topF T (j + 1 - 1) := by
  cases j with
  | zero => simp [topF]
  | succ j => rfl
theorem regret_at {n w : Nat} {lo hi : Int} {ss : List Smp} (hE : posE n lo hi ss = 0) (hw : w < n) : regretE n lo hi ss w = 0 ∧ regretV n lo hi ss w = (regF (lowAt lo ss) (highAt hi ss) n w).ceil := by
  have h1 : regretE n lo hi ss w = 0 := by
    unfold regretE
    rw [if_neg (by rw [hE]; simp), if_neg]
    unfold btw; simp; omega
  refine ⟨h1, ?_⟩
  unfold regretV
  rw [if_pos h1]; rfl
theorem g16 {x : Int} (_ : 0 ≤ x ∧ x < 65536) : 7000 ≤ 7000 + x % 9000 ∧ 7000 + x % 9000 < 16000 := by omega
set_option maxRecDepth 100000 in
set_option maxHeartbeats 8000000 in
theorem ripetruth_any (wk fs st ra rb : Int) (vf vs : Value) (falls : List Int) (sm : List B3) (x : Int) (w : World) (hwk : 0 ≤ wk ∧ wk < 256) (hfs : 0 ≤ fs ∧ fs < 256) (hst : 0 ≤ st ∧ st < 256) (hr0 : 0 ≤ ra ∧ ra < 256) (hr1 : 0 ≤ rb ∧ rb < 256) (hf : SlB w vf falls) (hs : SlT w vs sm) (hx : 0 ≤ x ∧ x < 65536) :
    Calls Try.prog 7 #[.agg #[.int .u8 wk, .int .u8 fs, .int .u8 st, vf, .int .u8 ra, .int .u8 rb, vs], .int .u16 x] w fun e w' => e = .returned (.bool true) ∧ Below w.heap.size w w' := by
  have hm33 := fun (W : World) (h : Below w.heap.size w W) => made_any wk fs st ra rb vf vs falls sm W hwk hfs hst hr0 hr1 (hf.below h (Nat.le_refl _)) (hs.below h (Nat.le_refl _))
  obtain ⟨⟨af, cf, rfl, -, -⟩, -⟩ := hf
  obtain ⟨⟨sx, cx, rfl, -, -⟩, -⟩ := hs
  have HM33 := Lib.hid hm33
  clear hm33
  go_enter Try.func7, Try.ntmps7
  refine wp_seq_k (fun K hK => ?_)
  have HK := Lib.hid hK; clear hK
  go_wp2
  refine HK.out _ _ ?_; clear HK K
  generalize hw1 : World.alloc _ _ = w1
  obtain ⟨b2, B, hs1⟩ := blk1 hw1
  clear hw1
  refine wp_seq_k (fun K hK => ?_)
  have HK := Lib.hid hK; clear hK
  go_wp2_with (first | (refine wpList_load_blk rfl 63 _ rfl _ rfl b2 Try.underlying63 rfl size63 rfl ?_) | (go_at_call 33; refine (HM33.out _ B).mono ?_; rintro e w3 ⟨n, lo, hi, v, ss, p, T, rfl, hv, ht, hR, h15, hb⟩; obtain ⟨av, cv, rfl, -, -, -⟩ := id hv; obtain ⟨ap, cp, rfl, -, -, -⟩ := id ht; simp only [List.length_map, List.length_range] at ht))
  refine HK.out _ _ ?_; clear HK K
  clear HM33 b2 hs1
  replace B := btr B hb (Nat.le_refl _)
  clear hb
  generalize hwn : World.alloc _ _ = wn
  obtain ⟨b5, hB5, hs5⟩ := blk1 hwn
  clear hwn
  have HV := Lib.hid (hv.below hB5 (Nat.le_refl _))
  have HT := Lib.hid (ht.below hB5 (Nat.le_refl _))
  replace B := btr B hB5 (Nat.le_refl _)
  have lg5 := B.size
  clear hv ht hB5 hs5 lg5
  generalize w3.heap.size = g5 at *
  have hA := truth_all hR.val hR.truth (least := 7000 + x % 9000) (by omega)
  have HA := Lib.hid hA
  have HR := Lib.hid hR
  have hE := hA.pos
  have h0 := hR.inn 0 (by have := hR.n1; omega)
  have hn1 : 1 ≤ n ∧ n ≤ 12 := ⟨hR.n1, hR.n12⟩
  have hl0 : decide (T 0 < lo) = false := decide_eq_false (by omega)
  have hl1 : decide (30000 < hi) = false := decide_eq_false (by have := hR.hi0; omega)
  obtain ⟨bp, op, rfl, hltp, hcp⟩ := sl_cell HT.out (by omega)
  have q0 : wn.cell? ⟨bp, op, none⟩ = some (.int .i64 (T 0)) := hcp 0 (by omega)
  have c1 := cell_blk (i := 1) b5
  have c2 := cell_blk (i := 2) b5
  simp only [List.getElem?_toArray, List.getElem?_cons_zero, List.getElem?_cons_succ] at c1 c2
  have hn0 : 0 < n := by omega
  have hn00 : (0 : Int) < (n : Int) := by omega
  clear hA hR h0 hcp hltp
  refine wp_seq_k (fun K hK => ?_)
  have HK := Lib.hid hK; clear hK
  go_wp2
  go_quiet (fail)
  go_wp2
  refine HK.out _ _ ?_; clear HK K
  clear q0 c1 c2 hl0 hl1
  replace b5 : (wn.drewN nq).heap[g5]? = _ := b5
  replace HV : Hid (SlS (wn.drewN nq) _ _) := HV
  replace HT : Hid (SlI (wn.drewN nq) _ _) := HT
  replace B := below_drewN B nq
  generalize wn.drewN nq = wq at *

  obtain ⟨F, hF⟩ : ∃ F, F = spanAt (lowAt lo ss) (highAt hi ss) n := ⟨_, rfl⟩
  obtain ⟨RC, hRC⟩ : ∃ f : Nat → Int, f = fun w => (regF (lowAt lo ss) (highAt hi ss) n w).ceil := ⟨_, rfl⟩
  obtain ⟨PL, hPL⟩ : ∃ l, l = peaksL n lo hi ss := ⟨_, rfl⟩
  obtain ⟨SL, hSL⟩ : ∃ l, l = surelyL n lo hi ss (7000 + x % 9000) := ⟨_, rfl⟩
  obtain ⟨ML, hML⟩ : ∃ l, l = perhapsL n lo hi ss (7000 + x % 9000) := ⟨_, rfl⟩
  obtain ⟨CV, hCV⟩ : ∃ l, l = cutV n lo hi ss := ⟨_, rfl⟩
  obtain ⟨cw, hcw, hcW, hcT⟩ := HA.out.week
  have ALO : Hid (∀ w, w < n → (F w).1 ≤ T w) := Lib.hid (by rw [hF]; exact HA.out.lows)
  have AHI : Hid (∀ w, w < n → T w ≤ (F w).2) := Lib.hid (by rw [hF]; exact HA.out.highs)
  have ALS : Hid (∀ w, w < n → topF T (n - 1) - T w ≤ RC w) := Lib.hid (by rw [hRC]; exact HA.out.loss)
  have ACV : Hid (∀ w, w < n → CV ≤ RC w) := Lib.hid (by rw [hRC, hCV]; exact HA.out.cut)
  have APK : Hid (∀ w, w < n → T w = topF T (n - 1) → (w : Int) ∈ PL) := Lib.hid (by rw [hPL]; exact HA.out.peak)
  have ASU : Hid (∀ w, w < n → (w : Int) ∈ SL → (7000 + x % 9000) ≤ T w) := Lib.hid (by rw [hSL]; exact HA.out.sure)
  have APE : Hid (∀ w, w < n → (7000 + x % 9000) ≤ T w → (w : Int) ∈ ML) := Lib.hid (by rw [hML]; exact HA.out.perh)
  have ACT : Hid (topF T (n - 1) - T cw ≤ CV) := Lib.hid (by rw [hCV]; exact hcT)
  have AKN : Hid (knownL n lo hi ss = (List.range n).map F) := Lib.hid (by rw [hF]; unfold knownL; rw [if_pos hE]; rfl)
  have ARG : Hid (∀ w : Nat, w < n → regretE n lo hi ss w = 0 ∧ regretV n lo hi ss w = RC w) := Lib.hid (by rw [hRC]; exact fun w hw => regret_at hE hw)
  have HE := Lib.hid hE
  have HPL := Lib.hid hPL.symm
  have HSU := Lib.hid hSL.symm
  have HML := Lib.hid hML.symm
  have HCV := Lib.hid hCV.symm
  have HCW := Lib.hid hcW
  clear HA hF hRC hPL hSL hML hCV hcT hE hcW
  have hc := known_any n lo hi _ ss _ HV.out
  rw [HE.out, AKN.out] at hc
  refine wp_seq_k (fun K hK => ?_)
  have HK := Lib.hid hK; clear hK
  go_wp2_with (first | (refine wpList_load_blk rfl 26 _ rfl _ rfl b5 Try.underlying26 rfl size26 rfl ?_) | (go_at_call 14; refine hc.mono ?_; rintro e wc ⟨q1, rfl, k1, hb⟩; obtain ⟨a1, c1, rfl, -, -, -⟩ := id k1; simp only [List.length_map, List.length_range] at k1))
  refine HK.out _ _ ?_; clear HK K
  replace b5 := blk_keep b5 hb
  replace HV := Lib.hid (HV.out.below hb (Nat.le_refl _))
  replace HT := Lib.hid (HT.out.below hb (Nat.le_refl _))
  replace B := btr B hb (Nat.le_refl _)
  clear hb
  clear hc
  have HK1 := Lib.hid k1
  clear k1
  have hc := peaks_any n lo hi _ ss _ HV.out
  rw [HE.out, HPL.out] at hc
  refine wp_seq_k (fun K hK => ?_)
  have HK := Lib.hid hK; clear hK
  go_wp2_with (first | (refine wpList_load_blk rfl 26 _ rfl _ rfl b5 Try.underlying26 rfl size26 rfl ?_) | (go_at_call 24; refine hc.mono ?_; rintro e wc ⟨q2, rfl, k2, hb⟩; obtain ⟨a2, c2, rfl, -, -, -⟩ := id k2))
  refine HK.out _ _ ?_; clear HK K
  replace b5 := blk_keep b5 hb
  replace HV := Lib.hid (HV.out.below hb (Nat.le_refl _))
  replace HT := Lib.hid (HT.out.below hb (Nat.le_refl _))
  replace HK1 := Lib.hid (HK1.out.below hb (Nat.le_refl _))
  replace B := btr B hb (Nat.le_refl _)
  clear hb
  clear hc
  have HK2 := Lib.hid k2
  clear k2
  have k1 : IntKind.i64.wrap x = x := c33 (by omega)
  have k2 := d33 hx.1 9000
  have k3 := c33 (q := 7000 + x % 9000) (by omega)
  refine wp_seq_k (fun K hK => ?_)
  have HK := Lib.hid hK; clear hK
  go_wp2
  refine HK.out _ _ ?_; clear HK K
  clear k1 k2 k3
  obtain ⟨ls, hls⟩ : ∃ ls, ls = 7000 + x % 9000 := ⟨_, rfl⟩
  rw [← hls] at HSU HML ASU APE
  try rw [← hls]
  clear hls
  have hc := ripe_any n lo hi _ ss ls _ HV.out
  rw [HE.out, HSU.out, HML.out] at hc
  refine wp_seq_k (fun K hK => ?_)
  have HK := Lib.hid hK; clear hK
  go_wp2_with (first | (refine wpList_load_blk rfl 26 _ rfl _ rfl b5 Try.underlying26 rfl size26 rfl ?_) | (go_at_call 26; refine hc.mono ?_; rintro e wc ⟨q3, q4, rfl, k3, k4, hb⟩; obtain ⟨a3, c3, rfl, -, -, -⟩ := id k3; obtain ⟨a4, c4, rfl, -, -, -⟩ := id k4))
  refine HK.out _ _ ?_; clear HK K
  replace b5 := blk_keep b5 hb
  replace HV := Lib.hid (HV.out.below hb (Nat.le_refl _))
  replace HT := Lib.hid (HT.out.below hb (Nat.le_refl _))
  replace HK1 := Lib.hid (HK1.out.below hb (Nat.le_refl _))
  replace HK2 := Lib.hid (HK2.out.below hb (Nat.le_refl _))
  replace B := btr B hb (Nat.le_refl _)
  clear hb
  clear hc
  have HK3 := Lib.hid k3
  clear k3
  have HK4 := Lib.hid k4
  clear k4
  have hc := cut_any n lo hi _ ss _ HV.out
  rw [HE.out, HCW.out, HCV.out] at hc
  refine wp_seq_k (fun K hK => ?_)
  have HK := Lib.hid hK; clear hK
  go_wp2_with (first | (refine wpList_load_blk rfl 26 _ rfl _ rfl b5 Try.underlying26 rfl size26 rfl ?_) | (go_at_call 31; refine hc.mono ?_; rintro e wc ⟨rfl, hb⟩))
  refine HK.out _ _ ?_; clear HK K
  replace b5 := blk_keep b5 hb
  replace HV := Lib.hid (HV.out.below hb (Nat.le_refl _))
  replace HT := Lib.hid (HT.out.below hb (Nat.le_refl _))
  replace HK1 := Lib.hid (HK1.out.below hb (Nat.le_refl _))
  replace HK2 := Lib.hid (HK2.out.below hb (Nat.le_refl _))
  replace HK3 := Lib.hid (HK3.out.below hb (Nat.le_refl _))
  replace HK4 := Lib.hid (HK4.out.below hb (Nat.le_refl _))
  replace B := btr B hb (Nat.le_refl _)
  clear hb
  clear hc
  have hcwi : (cw : Int) < (n : Int) := by omega
  have hcw1 : decide ((n : Int) ≤ (cw : Int)) = false := decide_eq_false (by omega)
  have hcw2 : ¬ (cw : Int) < 0 := by omega
  obtain ⟨bp', op', e', hltp, hcp⟩ := sl_cell HT.out hn0
  injection e' with e'
  injection e' with e1 e2 e3
  subst e1 e2
  have q0 : wc.cell? ⟨bp, op, none⟩ = some (.int .i64 (T 0)) := hcp 0 (by omega)
  clear e3
  have HCP := Lib.hid hcp
  clear hcp
  refine wp_seq_k (fun K hK => ?_)
  have HK := Lib.hid hK; clear hK
  go_wp2
  refine HK.out _ _ ?_; clear HK K
  refine wp_seq_k (fun K hK => ?_)
  have HK := Lib.hid hK; clear hK
  go_wp2
  refine HK.out _ _ ?_; clear HK K
  refine wp_seq_k (fun K hK => ?_)
  have HK := Lib.hid hK; clear hK
  go_wp2
  go_loopw [18, 107] (fun t i wr => ∃ j : Nat, j ≤ n ∧ t = .int .i64 (topF T (j - 1)) ∧ i = .int .i64 j ∧ wc = wr) (fun _ i _ => n - (intOf i).toNat)
  case atStart => exact ⟨0, Nat.zero_le _, rfl, rfl, rfl⟩
  case round =>
    obtain ⟨j, hj, rfl, rfl, rfl⟩ := hrel
    by_cases hjn : j < n
    · have hji : (j : Int) < (n : Int) := by omega
      have q1 := HCP.out j hjn
      have hts := Lib.hid (top_step T j)
      go_wp2_with (first | (refine wpList_max rfl _ _ _ rfl rfl rfl ?_))
      go_roundw
      case rel => exact ⟨j + 1, by omega, by rw [hts.out], by go_num, trivial⟩
      case measure => simp [intOf]; omega
    · have hji : ¬ (j : Int) < (n : Int) := by omega
      have hjj : n = j := by omega
      subst hjj
      obtain ⟨top, htop⟩ : ∃ t, t = topF T (n - 1) := ⟨_, rfl⟩
      rw [← htop] at ALS APK ACT ⊢
      have HTOP := Lib.hid htop
      clear htop
      go_wp2
      refine HK.out _ _ ?_; clear HK
      refine wp_seq_k (fun K hK => ?_)
      have HK := Lib.hid hK; clear hK
      go_wp2
      go_loopw [117] (fun i wr => ∃ j : Nat, j ≤ n ∧ i = .int .i64 j ∧ Below wc.heap.size wc wr) (fun i _ => n - (intOf i).toNat)
      case atStart => exact ⟨0, Nat.zero_le _, rfl, Below.refl _ _⟩
      case round =>
        clear q0
        obtain ⟨j, hj, rfl, hB⟩ := hrel
        by_cases hjn : j < n
        · have hji : (j : Int) < (n : Int) := by omega
          have q1 := (hB.cell (p := ⟨bp, op + j, none⟩) hltp).trans (HCP.out j hjn)
          have e5 := blk_keep b5 hB
          have hV := HV.out.below hB (Nat.le_refl _)
          have hr29 := regretF_any n lo hi _ ss j _ hV
          rw [(ARG.out j hjn).1, (ARG.out j hjn).2] at hr29
          obtain ⟨bk, ok, rfl, hltk, hck⟩ := sr_cell HK1.out hn0
          have f1 := (hck j hjn).1
          have f2 := (hck j hjn).2
          have t1 : decide (T j < (F j).1) = false := decide_eq_false (by have := ALO.out j hjn; omega)
          have t2 : decide ((F j).2 < T j) = false := decide_eq_false (by have := AHI.out j hjn; omega)
          have t3 : decide (RC j < top - T j) = false := decide_eq_false (by have := ALS.out j hjn; omega)
          have t4 : decide (RC j < CV) = false := decide_eq_false (by have := ACV.out j hjn; omega)
          have htj := HR.out.inn j hjn
          have ht21 := HR.out.hi0
          have htp : 0 ≤ top ∧ top ≤ 21260 := by
            obtain ⟨i, hi, e⟩ := top_mem T (n - 1)
            have := HR.out.inn i (by omega)
            have := HR.out.lo0
            rw [HTOP.out, e]; omega
          have k1 := c33 (q := top - T j) (by omega)
          have P2 := Lib.hid (HK2.out.below hB (Nat.le_refl _))
          have P3 := Lib.hid (HK3.out.below hB (Nat.le_refl _))
          have P4 := Lib.hid (HK4.out.below hB (Nat.le_refl _))
          have hpk := APK.out j hjn
          have hsu := ASU.out j hjn
          have hpe := APE.out j hjn
          clear hck hV htj ht21 htp
          generalize T j = y at *
          generalize (F j).1 = y1 at *
          generalize (F j).2 = y2 at *
          generalize RC j = y3 at *
          go_wp2_with (first | (refine wpList_load_blk rfl 26 _ rfl _ rfl e5 Try.underlying26 rfl size26 rfl ?_) | (go_at_call 29; refine hr29.mono ?_; rintro e w9 ⟨rfl, hb9⟩; refine cutme ?_))
          refine ⟨?_⟩
          have hB9 := btr hB hb9 (Nat.le_refl _)
          replace f1 := (hB9.cell (p := ⟨bk, ok + j * 2, none⟩) hltk).trans f1
          replace f2 := (hB9.cell (p := ⟨bk, ok + j * 2 + 1, none⟩) hltk).trans f2
          have p2 := P2.out.below hb9 (Nat.le_refl _)
          have p3 := P3.out.below hb9 (Nat.le_refl _)
          have p4 := P4.out.below hb9 (Nat.le_refl _)
          have m2 := fun W (hW : Below w9.heap.size w9 W) => has_any _ PL j W (p2.below hW (Nat.le_refl _))
          have m3 := fun W (hW : Below w9.heap.size w9 W) => has_any _ SL j W (p3.below hW (Nat.le_refl _))
          have m4 := fun W (hW : Below w9.heap.size w9 W) => has_any _ ML j W (p4.below hW (Nat.le_refl _))
          clear p2 p3 p4 P2 P3 P4 e5 q1 hb9 hB hr29
          by_cases hxt : y = top
          · have heb : (y == top) = true := by simpa using hxt
            rw [decide_eq_true (hpk hxt)] at m2
            have M2 := Lib.hid m2
            clear m2 hxt hpk
            by_cases hxs : (j : Int) ∈ SL
            · rw [decide_eq_true hxs] at m3
              have hg := hsu hxs
              have t5 : decide (y < ls) = false := decide_eq_false (by omega)
              have t6 : decide (ls ≤ y) = true := decide_eq_true hg
              rw [decide_eq_true (hpe hg)] at m4
              have M3 := Lib.hid m3
              have M4 := Lib.hid m4
              clear m3 m4 hxs hg hpe hsu
              go_wp2_with (first | (have _m := hbb; go_at_call 34; refine (M4.out _ hB3).mono ?_; rintro e wd ⟨rfl, hbd⟩) | (have _m := hba; go_at_call 34; refine (M3.out _ hba).mono ?_; rintro e wb ⟨rfl, hbb⟩; have hB3 := btr hba hbb (Nat.le_refl _)) | (go_at_call 34; refine (M2.out _ (Below.refl _ _)).mono ?_; rintro e wa ⟨rfl, hba⟩))
              go_roundw
              case rel => exact ⟨j + 1, by omega, by go_num, btr hB9 (btr hB3 hbd (Nat.le_refl _)) (Nat.le_refl _)⟩
              case measure => simp [intOf]; omega
            · rw [decide_eq_false hxs] at m3
              have M3 := Lib.hid m3
              clear m3 hxs hsu
              by_cases hg : ls ≤ y
              · have t6 : decide (ls ≤ y) = true := decide_eq_true hg
                rw [decide_eq_true (hpe hg)] at m4
                have M4 := Lib.hid m4
                clear m4 hg hpe
                go_wp2_with (first | (have _m := hbb; go_at_call 34; refine (M4.out _ hB3).mono ?_; rintro e wd ⟨rfl, hbd⟩) | (have _m := hba; go_at_call 34; refine (M3.out _ hba).mono ?_; rintro e wb ⟨rfl, hbb⟩; have hB3 := btr hba hbb (Nat.le_refl _)) | (go_at_call 34; refine (M2.out _ (Below.refl _ _)).mono ?_; rintro e wa ⟨rfl, hba⟩))
                go_roundw
                case rel => exact ⟨j + 1, by omega, by go_num, btr hB9 (btr hB3 hbd (Nat.le_refl _)) (Nat.le_refl _)⟩
                case measure => simp [intOf]; omega
              · have t6 : decide (ls ≤ y) = false := decide_eq_false hg
                clear m4 hg hpe
                go_wp2_with (first | (have _m := hba; go_at_call 34; refine (M3.out _ hba).mono ?_; rintro e wb ⟨rfl, hbb⟩; have hB3 := btr hba hbb (Nat.le_refl _)) | (go_at_call 34; refine (M2.out _ (Below.refl _ _)).mono ?_; rintro e wa ⟨rfl, hba⟩))
                go_roundw
                case rel => exact ⟨j + 1, by omega, by go_num, btr hB9 hB3 (Nat.le_refl _)⟩
                case measure => simp [intOf]; omega
          · have heb : (y == top) = false := by simpa using hxt
            clear m2 hxt hpk
            by_cases hxs : (j : Int) ∈ SL
            · rw [decide_eq_true hxs] at m3
              have hg := hsu hxs
              have t5 : decide (y < ls) = false := decide_eq_false (by omega)
              have t6 : decide (ls ≤ y) = true := decide_eq_true hg
              rw [decide_eq_true (hpe hg)] at m4
              have M3 := Lib.hid m3
              have M4 := Lib.hid m4
              clear m3 m4 hxs hg hpe hsu
              go_wp2_with (first | (have _m := hbb; go_at_call 34; refine (M4.out _ hB3).mono ?_; rintro e wd ⟨rfl, hbd⟩) | (go_at_call 34; refine (M3.out _ (Below.refl _ _)).mono ?_; rintro e wb ⟨rfl, hbb⟩; have hB3 := hbb))
              go_roundw
              case rel => exact ⟨j + 1, by omega, by go_num, btr hB9 (btr hB3 hbd (Nat.le_refl _)) (Nat.le_refl _)⟩
              case measure => simp [intOf]; omega
            · rw [decide_eq_false hxs] at m3
              have M3 := Lib.hid m3
              clear m3 hxs hsu
              by_cases hg : ls ≤ y
              · have t6 : decide (ls ≤ y) = true := decide_eq_true hg
                rw [decide_eq_true (hpe hg)] at m4
                have M4 := Lib.hid m4
                clear m4 hg hpe
                go_wp2_with (first | (have _m := hbb; go_at_call 34; refine (M4.out _ hB3).mono ?_; rintro e wd ⟨rfl, hbd⟩) | (go_at_call 34; refine (M3.out _ (Below.refl _ _)).mono ?_; rintro e wb ⟨rfl, hbb⟩; have hB3 := hbb))
                go_roundw
                case rel => exact ⟨j + 1, by omega, by go_num, btr hB9 (btr hB3 hbd (Nat.le_refl _)) (Nat.le_refl _)⟩
                case measure => simp [intOf]; omega
              · have t6 : decide (ls ≤ y) = false := decide_eq_false hg
                clear m4 hg hpe
                go_wp2_with (first | (go_at_call 34; refine (M3.out _ (Below.refl _ _)).mono ?_; rintro e wb ⟨rfl, hbb⟩; have hB3 := hbb))
                go_roundw
                case rel => exact ⟨j + 1, by omega, by go_num, btr hB9 hB3 (Nat.le_refl _)⟩
                case measure => simp [intOf]; omega
        · have hji : ¬ (j : Int) < (n : Int) := by omega
          have q1 := (hB.cell (p := ⟨bp, op + cw, none⟩) hltp).trans (HCP.out cw hcw)
          have B2 := btr B hB (Nat.le_refl _)
          have hct := ACT.out
          have htj := HR.out.inn cw hcw
          have ht21 := HR.out.hi0
          have htp : 0 ≤ top ∧ top ≤ 21260 := by
            obtain ⟨i, hi, e⟩ := top_mem T (n - 1)
            have := HR.out.inn i (by omega)
            have := HR.out.lo0
            rw [HTOP.out, e]; omega
          have k1 := c33 (q := top - T cw) (by omega)
          have t1 : decide (top - T cw ≤ CV) = true := decide_eq_true hct
          clear hct htj ht21 htp
          generalize T cw = y at *
          go_wp2
          refine HK.out _ _ ?_; clear HK
          go_wp2_with (go_at_call 13; refine (works_any _).mono ?_; rintro e w9 ⟨rfl, hb9⟩)
          go_ret
          exact ⟨rfl, btr B2 hb9 (Nat.le_refl _)⟩
end Ytgnjeefanbcbkaa
end Go.Proofs
