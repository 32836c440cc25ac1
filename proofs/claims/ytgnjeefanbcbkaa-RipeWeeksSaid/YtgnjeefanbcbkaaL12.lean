/- For every crop the law RipeWeeks returns true. -/
import Derived.Test.YtgnjeefanbcbkaaL7
import Derived.Test.YtgnjeefanbcbkaaE4
open Go Go.RowKit Go.YtgnjeefanbcbkaaIt
namespace Go.Proofs
namespace Ytgnjeefanbcbkaa
theorem w33 {m : Nat} (h : m < 12) : wrap64 (m : Int) = m := IntWalk.wrap64_in _ (by omega)
set_option maxRecDepth 100000 in
set_option maxHeartbeats 8000000 in
theorem ripeweeks_any (wk fs st ra rb : Int) (vf vs : Value) (falls : List Int) (sm : List B3) (x : Int) (w : World) (hwk : 0 ≤ wk ∧ wk < 256) (hfs : 0 ≤ fs ∧ fs < 256) (hst : 0 ≤ st ∧ st < 256) (hr0 : 0 ≤ ra ∧ ra < 256) (hr1 : 0 ≤ rb ∧ rb < 256) (hf : SlB w vf falls) (hs : SlT w vs sm) (hx : 0 ≤ x ∧ x < 65536) :
    Calls Try.prog 12 #[.agg #[.int .u8 wk, .int .u8 fs, .int .u8 st, vf, .int .u8 ra, .int .u8 rb, vs], .int .u16 x] w fun e w' => e = .returned (.bool true) ∧ Below w.heap.size w w' := by
  have hm33 := fun (W : World) (h : Below w.heap.size w W) => made_any wk fs st ra rb vf vs falls sm W hwk hfs hst hr0 hr1 (hf.below h (Nat.le_refl _)) (hs.below h (Nat.le_refl _))
  obtain ⟨⟨af, cf, rfl, -, -⟩, -⟩ := hf
  obtain ⟨⟨sx, cx, rfl, -, -⟩, -⟩ := hs
  have HM33 := Lib.hid hm33
  clear hm33
  go_enter Try.func12, Try.ntmps12
  refine wp_seq_k (fun K hK => ?_)
  have HK := Lib.hid hK; clear hK
  go_wp2
  refine HK.out _ _ ?_; clear HK K
  generalize hw1 : World.alloc _ _ = w1
  obtain ⟨b2, B, hs1⟩ := blk1 hw1
  clear hw1
  refine wp_seq_k (fun K hK => ?_)
  have HK := Lib.hid hK; clear hK
  go_wp2_with (first | (refine wpList_load_blk rfl 63 _ rfl _ rfl b2 Try.underlying63 rfl size63 rfl ?_) | (go_at_call 33; refine (HM33.out _ B).mono ?_; rintro e w3 ⟨n, lo, hi, v, ss, p, T, rfl, hv, ht, hR, h15, hb⟩; obtain ⟨av, cv, rfl, -, -, -⟩ := id hv; obtain ⟨ap, cp, rfl, -, -, -⟩ := id ht; simp only [List.length_map, List.length_range] at ht))
  refine HK.out _ _ ?_; clear HK K
  clear HM33 b2 hs1
  replace B := btr B hb (Nat.le_refl _)
  clear hb
  generalize hwn : World.alloc _ _ = wn
  obtain ⟨b5, hB5, hs5⟩ := blk1 hwn
  clear hwn
  have HV := Lib.hid (hv.below hB5 (Nat.le_refl _))
  have HT := Lib.hid (ht.below hB5 (Nat.le_refl _))
  replace B := btr B hB5 (Nat.le_refl _)
  have lg5 := B.size
  clear hv ht hB5 hs5 lg5
  generalize w3.heap.size = g5 at *
  have hA := weeks_all hR.val hR.truth (g := 7000 + x % 9000) (by omega)
  have hE := hR.pos
  have hn1 : 1 ≤ n ∧ n ≤ 12 := ⟨hR.n1, hR.n12⟩
  have hl1 : decide (30000 < hi) = false := decide_eq_false (by have := hR.hi0; omega)
  have c2 := cell_blk (i := 2) b5
  simp only [List.getElem?_toArray, List.getElem?_cons_zero, List.getElem?_cons_succ] at c2
  have hn0 : 0 < n := by omega
  have hn00 : (0 : Int) < (n : Int) := by omega
  obtain ⟨F, hF⟩ : ∃ F, F = spanAt (lowAt lo ss) (highAt hi ss) n := ⟨_, rfl⟩
  obtain ⟨SL, hSL⟩ : ∃ l, l = surelyL n lo hi ss (7000 + x % 9000) := ⟨_, rfl⟩
  obtain ⟨ML, hML⟩ : ∃ l, l = perhapsL n lo hi ss (7000 + x % 9000) := ⟨_, rfl⟩
  obtain ⟨ap2, lp, hpk, hlp, hlpn⟩ := hA.peak
  obtain ⟨as2, ls2, hsk, hlsn⟩ := hA.sure
  have AS1 : Hid (∀ w, w < n → ((w : Int) ∈ SL ↔ 7000 + x % 9000 ≤ (F w).1)) := Lib.hid (by rw [hF, hSL]; exact hA.s1)
  have AM1 : Hid (∀ w, w < n → (w : Int) ∈ ML → 7000 + x % 9000 ≤ (F w).2) := Lib.hid (by rw [hF, hML]; exact hA.m1)
  have AM2 : Hid (∀ w, w < n → 7000 + x % 9000 < (F w).2 → (w : Int) ∈ ML) := Lib.hid (by rw [hF, hML]; exact hA.m2)
  have ASM : Hid (∀ w, w < n → (w : Int) ∈ SL → (w : Int) ∈ ML) := Lib.hid (by rw [hSL, hML]; exact hA.sm)
  have AKN : Hid (knownL n lo hi ss = (List.range n).map F) := Lib.hid (by rw [hF]; unfold knownL; rw [if_pos hE]; rfl)
  have HE := Lib.hid hE
  have HPK := Lib.hid hpk
  have HSU := Lib.hid (show surelyL n lo hi ss (7000 + x % 9000) = SL from hSL.symm)
  have HSL := Lib.hid (show SL = _ from hSL.trans hsk)
  have HML := Lib.hid hML.symm
  clear hA hF hSL hML hE hpk hsk hR
  refine wp_seq_k (fun K hK => ?_)
  have HK := Lib.hid hK; clear hK
  go_wp2
  refine HK.out _ _ ?_; clear HK K
  clear c2 hl1
  have hc := known_any n lo hi _ ss _ HV.out
  rw [HE.out, AKN.out] at hc
  refine wp_seq_k (fun K hK => ?_)
  have HK := Lib.hid hK; clear hK
  go_wp2_with (first | (refine wpList_load_blk rfl 26 _ rfl _ rfl b5 Try.underlying26 rfl size26 rfl ?_) | (go_at_call 14; refine hc.mono ?_; rintro e wc ⟨q1, rfl, k1, hb⟩; obtain ⟨a1, c1, rfl, -, -, -⟩ := id k1; simp only [List.length_map, List.length_range] at k1))
  refine HK.out _ _ ?_; clear HK K
  replace b5 := blk_keep b5 hb
  replace HV := Lib.hid (HV.out.below hb (Nat.le_refl _))
  replace HT := Lib.hid (HT.out.below hb (Nat.le_refl _))
  replace B := btr B hb (Nat.le_refl _)
  clear hb
  clear hc
  have HK1 := Lib.hid k1
  clear k1
  have hc := peaks_any n lo hi _ ss _ HV.out
  rw [HE.out, HPK.out] at hc
  refine wp_seq_k (fun K hK => ?_)
  have HK := Lib.hid hK; clear hK
  go_wp2_with (first | (refine wpList_load_blk rfl 26 _ rfl _ rfl b5 Try.underlying26 rfl size26 rfl ?_) | (go_at_call 24; refine hc.mono ?_; rintro e wc ⟨q2, rfl, k2, hb⟩; obtain ⟨a2, c2, rfl, -, -, -⟩ := id k2; simp only [List.length_map, List.length_range] at k2))
  refine HK.out _ _ ?_; clear HK K
  replace b5 := blk_keep b5 hb
  replace HV := Lib.hid (HV.out.below hb (Nat.le_refl _))
  replace HT := Lib.hid (HT.out.below hb (Nat.le_refl _))
  replace HK1 := Lib.hid (HK1.out.below hb (Nat.le_refl _))
  replace B := btr B hb (Nat.le_refl _)
  clear hb
  clear hc
  have HK2 := Lib.hid k2
  clear k2
  have k1 : IntKind.i64.wrap x = x := c33 (by omega)
  have k2 := d33 hx.1 9000
  have k3 := c33 (q := 7000 + x % 9000) (by omega)
  refine wp_seq_k (fun K hK => ?_)
  have HK := Lib.hid hK; clear hK
  go_wp2
  refine HK.out _ _ ?_; clear HK K
  clear k1 k2 k3
  obtain ⟨ls, hls⟩ : ∃ ls, ls = 7000 + x % 9000 := ⟨_, rfl⟩
  rw [← hls] at HSU HML AS1 AM1 AM2
  try rw [← hls]
  clear hls
  have hc := ripe_any n lo hi _ ss ls _ HV.out
  rw [HE.out, HSU.out, HML.out] at hc
  refine wp_seq_k (fun K hK => ?_)
  have HK := Lib.hid hK; clear hK
  go_wp2_with (first | (refine wpList_load_blk rfl 26 _ rfl _ rfl b5 Try.underlying26 rfl size26 rfl ?_) | (go_at_call 26; refine hc.mono ?_; rintro e wc ⟨q3, q4, rfl, k3, k4, hb⟩; obtain ⟨a3, c3, rfl, -, -, -⟩ := id k3; obtain ⟨a4, c4, rfl, -, -, -⟩ := id k4))
  refine HK.out _ _ ?_; clear HK K
  replace b5 := blk_keep b5 hb
  replace HV := Lib.hid (HV.out.below hb (Nat.le_refl _))
  replace HT := Lib.hid (HT.out.below hb (Nat.le_refl _))
  replace HK1 := Lib.hid (HK1.out.below hb (Nat.le_refl _))
  replace HK2 := Lib.hid (HK2.out.below hb (Nat.le_refl _))
  replace B := btr B hb (Nat.le_refl _)
  clear hb
  clear hc
  have HK3 := Lib.hid k3
  clear k3
  have HK4 := Lib.hid k4
  clear k4
  obtain ⟨sl, hsl⟩ : ∃ k, k = SL.length := ⟨_, rfl⟩
  rw [← hsl] at HK3 ⊢
  have HSLN := Lib.hid hsl
  clear hsl
  have c0 := cell_blk (i := 0) b5
  simp only [List.getElem?_toArray, List.getElem?_cons_zero] at c0
  have hlp0 : ¬ (lp : Int) = 0 := by omega
  have hlp0' : ¬ lp = 0 := by omega
  have hlp1 : ((lp : Int) == 0) = false := by simp; omega
  refine wp_seq_k (fun K hK => ?_)
  have HK := Lib.hid hK; clear hK
  go_wp2
  refine HK.out _ _ ?_; clear HK K
  refine wp_seq_k (fun K hK => ?_)
  have HK := Lib.hid hK; clear hK
  go_wp2
  refine HK.out _ _ ?_; clear HK K
  clear c0 hlp0 hlp0' hlp1
  obtain ⟨bq, oq, rfl, hltq, hcq⟩ := sl_cell HK2.out hlp
  have HCQ := Lib.hid hcq
  clear hcq
  refine wp_seq_k (fun K hK => ?_)
  have HK := Lib.hid hK; clear hK
  go_wp2
  go_loopw [15] (fun i wr => ∃ m : Nat, m + 1 ≤ lp ∧ i = .int .i64 ((m : Int) + 1) ∧ Below wc.heap.size wc wr) (fun i _ => lp - (intOf i).toNat)
  case atStart => exact ⟨0, by omega, rfl, Below.refl _ _⟩
  case round =>
    obtain ⟨m, hm, rfl, hB⟩ := hrel
    by_cases hml : m + 1 < lp
    · have hmi : (m : Int) + 1 < (lp : Int) := by omega
      have q0 := (hB.cell (p := ⟨bq, oq + (m + 1), none⟩) hltq).trans (HCQ.out (m + 1) hml)
      have q1 := (hB.cell (p := ⟨bq, oq + m, none⟩) hltq).trans (HCQ.out m (by omega))
      have k1 : IntKind.i64.wrap ((m : Int) + 1 - 1) = (m : Int) := by rw [c33 (by omega)]; omega
      have k2 := c33 (q := (m : Int) + 1 + 1) (by omega)
      have k3 := c33 (q := ((ap2 + m : Nat) : Int) + 1) (by omega)
      have e1 : ((ap2 + (m + 1) : Nat) : Int) = ((ap2 + m : Nat) : Int) + 1 := by omega
      have hmi2 : (m : Int) < (lp : Int) := by omega
      rw [e1] at q0
      generalize ((ap2 + m : Nat) : Int) = y at *
      clear e1
      go_wp2
      go_quiet (fail)
      go_wp2
      go_roundw
      case rel => exact ⟨m + 1, by omega, by go_num, below_drewN hB _⟩
      case measure => simp [intOf]; omega
    · have hmi : ¬ (m : Int) + 1 < (lp : Int) := by omega
      go_wp2
      refine HK.out _ _ ?_; clear HK
      replace b5 := blk_keep b5 hB
      replace HV := Lib.hid (HV.out.below hB (Nat.le_refl _))
      replace HT := Lib.hid (HT.out.below hB (Nat.le_refl _))
      replace HK1 := Lib.hid (HK1.out.below hB (Nat.le_refl _))
      replace HK2 := Lib.hid (HK2.out.below hB (Nat.le_refl _))
      replace HK3 := Lib.hid (HK3.out.below hB (Nat.le_refl _))
      replace HK4 := Lib.hid (HK4.out.below hB (Nat.le_refl _))
      replace B := btr B hB (Nat.le_refl _)
      clear hB
      obtain ⟨w5, hw5⟩ : ∃ w5, w5 = wr := ⟨_, rfl⟩
      subst hw5
      clear HCQ hltq hmi hm
      refine wp_seq_k (fun K hK => ?_)
      have HK := Lib.hid hK; clear hK
      go_wp2
      go_loopw [16] (fun i wr => ∃ m : Nat, m ≤ sl ∧ i = .int .i64 ((m : Int) + 1) ∧ Below w5.heap.size w5 wr) (fun i _ => sl + 1 - (intOf i).toNat)
      case atStart => exact ⟨0, by omega, rfl, Below.refl _ _⟩
      case round =>
        obtain ⟨m, hm, rfl, hB⟩ := hrel
        by_cases hml : m + 1 < sl
        · have hmi : (m : Int) + 1 < (sl : Int) := by omega
          have hsl := HK3.out
          rw [HSL.out] at hsl
          have hll : sl = ls2 := by rw [HSLN.out, HSL.out]; simp
          rw [hll] at hsl
          obtain ⟨bs, os, rfl, hlts, hcs⟩ := sl_cell hsl (by omega)
          have q0 := (hB.cell (p := ⟨bs, os + (m + 1), none⟩) hlts).trans (hcs (m + 1) (by omega))
          have q1 := (hB.cell (p := ⟨bs, os + m, none⟩) hlts).trans (hcs m (by omega))
          have k1 : IntKind.i64.wrap ((m : Int) + 1 - 1) = (m : Int) := by rw [c33 (by omega)]; omega
          have k2 := c33 (q := (m : Int) + 1 + 1) (by omega)
          have k3 := c33 (q := ((as2 + m : Nat) : Int) + 1) (by omega)
          have e1 : ((as2 + (m + 1) : Nat) : Int) = ((as2 + m : Nat) : Int) + 1 := by omega
          have hmi2 : (m : Int) < (sl : Int) := by omega
          have hmn : m < sl := by omega
          have k5 : m < 12 := by omega
          rw [e1] at q0
          generalize ((as2 + m : Nat) : Int) = y at *
          clear e1 hsl hcs hll
          go_wp2
          go_quiet (fail)
          go_wp2
          go_roundw
          case rel => exact ⟨m + 1, by omega, by go_num, below_drewN hB _⟩
          case measure => simp [intOf]; omega
        · have hmi : ¬ (m : Int) + 1 < (sl : Int) := by omega
          go_wp2
          refine HK.out _ _ ?_; clear HK
          replace b5 := blk_keep b5 hB
          replace HV := Lib.hid (HV.out.below hB (Nat.le_refl _))
          replace HT := Lib.hid (HT.out.below hB (Nat.le_refl _))
          replace HK1 := Lib.hid (HK1.out.below hB (Nat.le_refl _))
          replace HK2 := Lib.hid (HK2.out.below hB (Nat.le_refl _))
          replace HK3 := Lib.hid (HK3.out.below hB (Nat.le_refl _))
          replace HK4 := Lib.hid (HK4.out.below hB (Nat.le_refl _))
          replace B := btr B hB (Nat.le_refl _)
          clear hB
          obtain ⟨w6, hw6⟩ : ∃ w6, w6 = wr := ⟨_, rfl⟩
          subst hw6
          clear hmi hm
          refine wp_seq_k (fun K hK => ?_)
          have HK := Lib.hid hK; clear hK
          go_wp2
          go_loopw [119] (fun i wr => ∃ j : Nat, j ≤ n ∧ i = .int .i64 j ∧ Below w6.heap.size w6 wr) (fun i _ => n - (intOf i).toNat)
          case atStart => exact ⟨0, Nat.zero_le _, rfl, Below.refl _ _⟩
          case round =>
            obtain ⟨j, hj, rfl, hB⟩ := hrel
            by_cases hjn : j < n
            · have hji : (j : Int) < (n : Int) := by omega
              obtain ⟨bk, ok, rfl, hltk, hck⟩ := sr_cell HK1.out hn0
              have f1 := (hB.cell (p := ⟨bk, ok + j * 2, none⟩) hltk).trans (hck j hjn).1
              have f2 := (hB.cell (p := ⟨bk, ok + j * 2 + 1, none⟩) hltk).trans (hck j hjn).2
              have u1 := AS1.out j hjn
              have u2 := AM1.out j hjn
              have u3 := AM2.out j hjn
              have u4 := ASM.out j hjn
              have P3 := HK3.out.below hB (Nat.le_refl _)
              have P4 := HK4.out.below hB (Nat.le_refl _)
              have B6 := btr B hB (Nat.le_refl _)
              clear hck
              generalize (F j).1 = y1 at *
              generalize (F j).2 = y2 at *
              go_wp2
              rename_i K0 hK0
              have HK0 := Lib.hid hK0; clear hK0
              have hz18 : wr.heap.size = wr.heap.size := rfl
              generalize hw7 : World.alloc _ _ = w7
              obtain ⟨b18, hB7, hs7⟩ := blk1 hw7
              clear hw7 hz18
              have Q3 := P3.below hB7 (Nat.le_refl _)
              have Q4 := P4.below hB7 (Nat.le_refl _)
              have B7 := btr hB hB7 (Nat.le_refl _)
              have hS := fun (x : Ab w7.heap.size w7) => Calls.ab x (Nat.le_refl _) (has_any _ SL j x.val (Q3.below x.ok (Nat.le_refl _)))
              have hM := fun (x : Ab w7.heap.size w7) => Calls.ab x (Nat.le_refl _) (has_any _ ML j x.val (Q4.below x.ok (Nat.le_refl _)))
              have g0 := fun (x : Ab w7.heap.size w7) => (x.ok.cell (p := ⟨wr.heap.size, 0, none⟩) (by simp; omega)).trans (cell_blk (i := 0) b18)
              have g1 := fun (x : Ab w7.heap.size w7) => (x.ok.cell (p := ⟨wr.heap.size, 1, none⟩) (by simp; omega)).trans (cell_blk (i := 1) b18)
              simp only [List.getElem?_toArray, List.getElem?_cons_zero, List.getElem?_cons_succ] at g0 g1
              clear P3 P4 Q3 Q4 b18 f1 f2 hB7 hB
              by_cases hs1 : (j : Int) ∈ SL
              · have hm1 := u4 hs1
                have t1 : decide (ls ≤ y1) = true := decide_eq_true (u1.1 hs1)
                have t2 : decide (y2 < ls) = false := decide_eq_false (by have := u2 hm1; omega)
                rw [decide_eq_true hs1] at hS
                rw [decide_eq_true hm1] at hM
                clear u1 u2 u3 u4 hs1 hm1
                by_cases hg : ls < y2
                · have t3 : decide (ls < y2) = true := decide_eq_true hg
                  clear hg
                  have HS := Lib.hid hS
                  have HM := Lib.hid hM
                  clear hS hM
                  refine wp_region_ab w7.heap.size w7 (by kernel_rfl) (by kernel_rfl) (Below.refl _ _) ?_
                  unfold AbC at *
                  repeat go_big_quiet_step ((go_at_call 34; first | (with_reducible exact HS.out _) | (with_reducible exact HM.out _)))
                  refine wpQuiet_nil ?_
                  rintro W' ⟨x8, rfl⟩
                  have hBx := x8.ok
                  generalize x8.val = w8 at *
                  refine HK0.out _ _ ?_; clear HK0
                  go_wp2
                  go_roundw
                  case rel => exact ⟨j + 1, by omega, by go_num, btr B7 hBx (Nat.le_refl _)⟩
                  case measure => simp [intOf]; omega
                · have t3 : decide (ls < y2) = false := decide_eq_false hg
                  clear hg
                  have HS := Lib.hid hS
                  have HM := Lib.hid hM
                  clear hS hM
                  refine wp_region_ab w7.heap.size w7 (by kernel_rfl) (by kernel_rfl) (Below.refl _ _) ?_
                  unfold AbC at *
                  repeat go_big_quiet_step ((go_at_call 34; first | (with_reducible exact HS.out _) | (with_reducible exact HM.out _)))
                  refine wpQuiet_nil ?_
                  rintro W' ⟨x8, rfl⟩
                  have hBx := x8.ok
                  generalize x8.val = w8 at *
                  refine HK0.out _ _ ?_; clear HK0
                  go_wp2
                  go_roundw
                  case rel => exact ⟨j + 1, by omega, by go_num, btr B7 hBx (Nat.le_refl _)⟩
                  case measure => simp [intOf]; omega
              · have t1 : decide (ls ≤ y1) = false := decide_eq_false (fun h => hs1 (u1.2 h))
                rw [decide_eq_false hs1] at hS
                by_cases hm1 : (j : Int) ∈ ML
                · have t2 : decide (y2 < ls) = false := decide_eq_false (by have := u2 hm1; omega)
                  rw [decide_eq_true hm1] at hM
                  clear u1 u2 u3 u4 hs1 hm1
                  by_cases hg : ls < y2
                  · have t3 : decide (ls < y2) = true := decide_eq_true hg
                    clear hg
                    have HS := Lib.hid hS
                    have HM := Lib.hid hM
                    clear hS hM
                    refine wp_region_ab w7.heap.size w7 (by kernel_rfl) (by kernel_rfl) (Below.refl _ _) ?_
                    unfold AbC at *
                    repeat go_big_quiet_step ((go_at_call 34; first | (with_reducible exact HS.out _) | (with_reducible exact HM.out _)))
                    refine wpQuiet_nil ?_
                    rintro W' ⟨x8, rfl⟩
                    have hBx := x8.ok
                    generalize x8.val = w8 at *
                    refine HK0.out _ _ ?_; clear HK0
                    go_wp2
                    go_roundw
                    case rel => exact ⟨j + 1, by omega, by go_num, btr B7 hBx (Nat.le_refl _)⟩
                    case measure => simp [intOf]; omega
                  · have t3 : decide (ls < y2) = false := decide_eq_false hg
                    clear hg
                    have HS := Lib.hid hS
                    have HM := Lib.hid hM
                    clear hS hM
                    refine wp_region_ab w7.heap.size w7 (by kernel_rfl) (by kernel_rfl) (Below.refl _ _) ?_
                    unfold AbC at *
                    repeat go_big_quiet_step ((go_at_call 34; first | (with_reducible exact HS.out _) | (with_reducible exact HM.out _)))
                    refine wpQuiet_nil ?_
                    rintro W' ⟨x8, rfl⟩
                    have hBx := x8.ok
                    generalize x8.val = w8 at *
                    refine HK0.out _ _ ?_; clear HK0
                    go_wp2
                    go_roundw
                    case rel => exact ⟨j + 1, by omega, by go_num, btr B7 hBx (Nat.le_refl _)⟩
                    case measure => simp [intOf]; omega
                · have t3 : decide (ls < y2) = false := decide_eq_false (fun h => hm1 (u3 h))
                  rw [decide_eq_false hm1] at hM
                  clear u1 u2 u3 u4 hs1 hm1
                  have HS := Lib.hid hS
                  have HM := Lib.hid hM
                  clear hS hM
                  refine wp_region_ab w7.heap.size w7 (by kernel_rfl) (by kernel_rfl) (Below.refl _ _) ?_
                  unfold AbC at *
                  repeat go_big_quiet_step ((go_at_call 34; first | (with_reducible exact HS.out _) | (with_reducible exact HM.out _)))
                  refine wpQuiet_nil ?_
                  rintro W' ⟨x8, rfl⟩
                  have hBx := x8.ok
                  generalize x8.val = w8 at *
                  refine HK0.out _ _ ?_; clear HK0
                  go_wp2
                  go_roundw
                  case rel => exact ⟨j + 1, by omega, by go_num, btr B7 hBx (Nat.le_refl _)⟩
                  case measure => simp [intOf]; omega
            · have hji : ¬ (j : Int) < (n : Int) := by omega
              have B2 := btr B hB (Nat.le_refl _)
              go_wp2
              refine HK.out _ _ ?_; clear HK
              go_wp2_with (go_at_call 13; refine (works_any _).mono ?_; rintro e w9 ⟨rfl, hb9⟩)
              go_ret
              exact ⟨rfl, btr B2 hb9 (Nat.le_refl _)⟩
end Ytgnjeefanbcbkaa
end Go.Proofs
