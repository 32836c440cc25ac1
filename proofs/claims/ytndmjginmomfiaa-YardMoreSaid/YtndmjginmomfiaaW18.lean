/- holds: whether a table holds. -/
import Derived.Test.YtndmjginmomfiaaW17
import Derived.Laws.EntriesVeiled
open Go Go.RowKit Go.YtndmjginmomfiaaIt
namespace Go.Proofs
namespace Ytndmjginmomfiaa
def okT (y : Yd) (tab : List (List Int)) (t : Int) (m s : Nat) : Bool := if t = never then canP y tab t m s else if t < never then !(canP y tab t m s || (decide (0 < t) && !canP y tab (t - 1) m s)) else true
def okS (y : Yd) (tab : List (List Int)) (m s : Nat) : Bool := okT y tab (at0 (tabR tab m) s) m s
def rowOk (y : Yd) (tab : List (List Int)) (m : Nat) : Bool := (List.range (tabR tab m).length).all (okS y tab m)
def holdsB (y : Yd) (tab : List (List Int)) : Bool := (List.range tab.length).all (rowOk y tab)
theorem all_range_succ (p : Nat → Bool) (k : Nat) : (List.range (k + 1)).all p = ((List.range k).all p && p k) := by
  rw [List.range_succ, List.all_append]; simp
theorem all_range_no (p : Nat → Bool) {k n : Nat} (h : k < n) (hp : p k = false) : (List.range n).all p = false := by
  rw [List.all_eq_false]; exact ⟨k, List.mem_range.2 h, by simp [hp]⟩
/-- All numbers are Never or from 0 to 1000. -/
def Rg (tab : List (List Int)) : Prop := ∀ m, m < tab.length → ∀ s, s < (tabR tab m).length → at0 (tabR tab m) s = never ∨ (0 ≤ at0 (tabR tab m) s ∧ at0 (tabR tab m) s ≤ 1000)
set_option maxRecDepth 100000 in
set_option maxHeartbeats 4000000 in
theorem holds_any (y : Yd) (v : Value) (tab : List (List Int)) (vt : Value) (w : World) (ok : Ok y) (hsh : Sh tab) (hrg : Rg tab) (hw : SlW w v y.ws) (ht : SlII w vt tab) :
    Calls Try.prog 52 #[.agg (encY y v), vt] w fun e w' => e = .returned (.bool (holdsB y tab)) ∧ Below w.heap.size w w' := by
  have hmm := @run_makeMap Try.prog
  have hmf := hmf
  have hl4 := hsh.1
  have H61 := Lib.hid hsh.2
  have HRG := Lib.hid hrg
  obtain ⟨B, hBe⟩ : ∃ B, B = holdsB y tab := ⟨_, rfl⟩
  have HBE := Lib.hid hBe
  rw [← hBe]
  clear hrg hBe
  have ht0 := ht
  obtain ⟨ad, cap, rfl, -, -, -⟩ := ht.opened
  have ht := ht0
  clear ht0
  go_enter Try.func52, Try.ntmps52
  refine wp_seq_k (fun K hK => ?_)
  have HK := Lib.hid hK; clear hK
  go_wp2
  refine HK.out _ _ ?_; clear HK K
  refine wp_seq_k (fun K hK => ?_)
  have HK := Lib.hid hK; clear hK
  go_wp2
  refine HK.out _ _ ?_; clear HK K
  generalize hw1 : World.alloc _ _ = w1
  obtain ⟨bY, bT, bM, bK, hB1, hs1⟩ := blk4 hw1
  clear hw1
  have hd1 : Hd w1 y v tab (.slice ad tab.length cap) (w.heap.size + 1 + 1 + 1) w.heap.size (w.heap.size + 1) (w.heap.size + 1 + 1) :=
    ⟨bK, bY, bT, hw.below hB1 (Nat.le_refl _), ht.below hB1 (Nat.le_refl _), ⟨#[], 0, bM, fun e he => by simp at he⟩⟩
  have hbmw : w.heap.size + 1 + 1 < w1.heap.size := by omega
  clear bY bT bM bK hw ht
  refine wp_seq_k (fun K hK => ?_)
  have HK := Lib.hid hK; clear hK
  go_wp2
  refine HK.out _ _ ?_; clear HK K
  generalize hw2 : World.alloc _ _ = w2
  obtain ⟨bF, hB2, hs2⟩ := blk1 hw2
  clear hw2
  have hd2 := hd1.below hB2
  clear hd1
  obtain ⟨bm, hbm⟩ : ∃ bm, bm = w.heap.size + 1 + 1 := ⟨_, rfl⟩
  obtain ⟨bK, hbK⟩ : ∃ bK, bK = w.heap.size + 1 + 1 + 1 := ⟨_, rfl⟩
  rw [← hbK] at bF hd2
  rw [← hbm] at hd2
  have hBm : Bm bm w1.heap.size w1 w2 := Bm.of hB2
  have hbmw2 : w.heap.size ≤ bm := by omega
  have hB : Below w.heap.size w w2 := hB1.trans (hB2.mono hB1.size)
  have hcan := fun (n : Int) (hn : -10 ≤ n ∧ n ≤ 1125899906842624) (bM bS m s : Nat) (hm : m < 4) (W : World) (hd : Hd W y v tab (.slice ad tab.length cap) bK w.heap.size (w.heap.size + 1) bm) (hcl : Cl W w1.heap.size bK w.heap.size (w.heap.size + 1) bM bS m s) => can_any y v tab _ n _ _ _ _ _ _ _ m s W ok hsh hn hm hd hcl
  have HCAN := Lib.hid hcan
  clear hcan hB1 hbm hbK
  have ct := cell_blk (i := 0) hd2.tb
  simp only [List.getElem?_toArray, List.getElem?_cons_zero] at ct
  refine wp_seq_k (fun K hK => ?_)
  have HK := Lib.hid hK; clear hK
  go_wp2
  go_loopw [16] (fun i wr => ∃ k : Nat, k ≤ tab.length ∧ i = .int .i64 k ∧ Hd wr y v tab (.slice ad tab.length cap) bK w.heap.size (w.heap.size + 1) bm ∧ Below w.heap.size w wr ∧ wr.heap[w1.heap.size]? = some (.cells #[.func (.func 70) #[] #[.pointer (some ⟨bK, 0, none⟩), .pointer (some ⟨w.heap.size, 0, none⟩), .pointer (some ⟨w.heap.size + 1, 0, none⟩)]] 111 (0, 0)) ∧ (List.range k).all (rowOk y tab) = true) (fun i _ => tab.length - (intOf i).toNat)
  case atStart => exact ⟨0, Nat.zero_le _, rfl, hd2, hB, bF, rfl⟩
  case round =>
    clear hd2 hB bF ct hBm hB2 hs2 hs1
    obtain ⟨k, hk, rfl, hd, hB, bF, hall⟩ := hrel
    obtain ⟨w0, rfl⟩ : ∃ w0, w0 = wr := ⟨_, rfl⟩
    have HALL := Lib.hid hall
    clear hall
    by_cases hkn : k < tab.length
    · obtain ⟨ad', cap', he, -, -, hc⟩ := hd.ta.opened
      cases he
      obtain ⟨b, off, ad2, cap2, rfl, hlt, hcell, hrow⟩ := hc k hkn
      have h61 := H61.out k hkn
      have hrg := HRG.out k hkn
      have hk4 : k < 4 := by omega
      have hno := all_range_no (rowOk y tab) hkn
      have hyes := all_range_succ (rowOk y tab) k
      have hrk : rowOk y tab k = (List.range (tabR tab k).length).all (okS y tab k) := rfl
      have HNO := Lib.hid (And.intro hno (And.intro hyes hrk))
      have hd3 := hd.below  (W' := w0.alloc (.cells #[.int .i64 k] 3)) ((Below.refl _ _).alloc (Nat.le_refl _) _)
      have hrow3 := hrow.below (B := w0.heap.size) (w' := w0.alloc (.cells #[.int .i64 k] 3)) ((Below.refl _ _).alloc (Nat.le_refl _) _) (Nat.le_refl _)
      have hb3 : (w0.alloc (.cells #[.int .i64 k] 3)).heap[w0.heap.size]? = some (.cells #[.int .i64 k] 3 (0, 0)) := heap_newI rfl
      have hb9 : Below w0.heap.size w0 (w0.alloc (.cells #[.int .i64 k] 3)) := (Below.refl _ _).alloc (Nat.le_refl _) _
      have hBo : Below w.heap.size w (w0.alloc (.cells #[.int .i64 k] 3)) := hB.trans (hb9.mono hB.size)
      have bFo := blk_keep bF hb9
      have hct := (hb9.cell (p := ⟨b, off + k, none⟩) (hd.ta.opened.elim fun _ h => h.elim fun _ h => by obtain ⟨he, -, -, hc⟩ := h; cases he; obtain ⟨b', off', _, _, hh, hl, -⟩ := hc k hkn; cases hh; exact hl)).trans hcell
      clear hd hB bF hrow
      go_wp2
      go_loopw [23] (fun i wr => ∃ s : Nat, s ≤ (tabR tab k).length ∧ i = .int .i64 s ∧ Hd wr y v tab (.slice (some ⟨b, off, none⟩) tab.length cap) bK w.heap.size (w.heap.size + 1) bm ∧ Below w.heap.size w wr ∧ wr.heap[w1.heap.size]? = some (.cells #[.func (.func 70) #[] #[.pointer (some ⟨bK, 0, none⟩), .pointer (some ⟨w.heap.size, 0, none⟩), .pointer (some ⟨w.heap.size + 1, 0, none⟩)]] 111 (0, 0)) ∧ wr.heap[w0.heap.size]? = some (.cells #[.int .i64 k] 3 (0, 0)) ∧ SlI wr (.slice ad2 (tabR tab k).length cap2) (tabR tab k) ∧ (List.range s).all (okS y tab k) = true) (fun i _ => (tabR tab k).length - (intOf i).toNat)
      case atStart => exact ⟨0, Nat.zero_le _, rfl, hd3, hBo, bFo, hb3, hrow3, rfl⟩
      case round =>
        clear hd3 hBo bFo hb3 hrow3 hct hcell hb9 hc
        obtain ⟨s, hs, rfl, hd, hB, bF, bM, hr, hall⟩ := hrel
        have HALS := Lib.hid hall
        clear hall
        by_cases hsn : s < (tabR tab k).length
        · obtain ⟨adr, capr, her, -, -, hcr⟩ := id hr
          cases her
          obtain ⟨b2, off2, rfl, hlt2, hcell2⟩ := hcr (by omega)
          have hc2 := hcell2 s hsn
          have hrt := hrg s hsn
          have hno2 := all_range_no (okS y tab k) hsn
          have hyes2 := all_range_succ (okS y tab k) s
          have hoks : okS y tab k s = okT y tab (at0 (tabR tab k) s) k s := rfl
          generalize at0 (tabR tab k) s = t at *
          have HNS := Lib.hid (And.intro hno2 (And.intro hyes2 hoks))
          have hb9 : Below wr.heap.size wr (wr.alloc (.cells #[.int .i64 s] 3)) := (Below.refl _ _).alloc (Nat.le_refl _) _
          have hd4 := hd.below hb9
          have hB4 : Below w.heap.size w (wr.alloc (.cells #[.int .i64 s] 3)) := hB.trans (hb9.mono hB.size)
          have hcl4 : Cl (wr.alloc (.cells #[.int .i64 s] 3)) w1.heap.size bK w.heap.size (w.heap.size + 1) w0.heap.size wr.heap.size k s := ⟨blk_keep bF hb9, blk_keep bM hb9, heap_newI rfl⟩
          have hr4 := hr.below hb9 (Nat.le_refl _)
          have hwr4 : w.heap.size ≤ (wr.alloc (.cells #[.int .i64 s] 3)).heap.size := hB4.size
          have hc2' := (hb9.cell (p := ⟨b2, off2 + s, none⟩) hlt2).trans hc2
          have FIN : okT y tab t k s = false → B = false := fun h => by rw [HBE.out]; exact HNO.out.1 (by rw [HNO.out.2.2]; exact HNS.out.1 (by rw [HNS.out.2.2]; exact h))
          have NXT : okT y tab t k s = true → (List.range (s + 1)).all (okS y tab k) = true := fun h => by rw [HNS.out.2.1, HALS.out, HNS.out.2.2, h]; rfl
          have HF := Lib.hid (And.intro FIN NXT)
          unfold never at hrt
          clear FIN NXT hno2 hyes2 hoks hcell2 hcr hd hB bF bM hr hc2' hb9
          by_cases hT : t = 1125899906842624
          · subst hT
            clear hrt
            have h1 := HCAN.out 1125899906842624 (by omega) w0.heap.size wr.heap.size k s hk4 _ hd4 hcl4
            have hok : okT y tab 1125899906842624 k s = canP y tab 1125899906842624 k s := by unfold okT never; rfl
            cases hcv : canP y tab 1125899906842624 k s
            · rw [hcv] at h1 hok
              have HFB := Lib.hid (HF.out.1 hok)
              have HX := Lib.hid (And.intro hB4 hwr4)
              clear hok hcv hd4 hcl4 hr4 HF hB4 hwr4
              go_wp2_with (go_at_call 72; refine h1.mono ?_; rintro e w5 ⟨rfl, hM5, hb5⟩)
              go_ret
              exact ⟨by rw [HFB.out]; rfl, HX.out.1.trans (bm_below_lo hb5 hbmw2 HX.out.2)⟩
            · rw [hcv] at h1 hok
              have HFB := Lib.hid (HF.out.2 hok)
              have HX := Lib.hid (And.intro hB4 (And.intro hwr4 (And.intro hd4 (And.intro hcl4 hr4))))
              clear hok hcv hd4 hcl4 hr4 HF hB4 hwr4
              go_wp2_with (go_at_call 72; refine h1.mono ?_; rintro e w5 ⟨rfl, hM5, hb5⟩)
              obtain ⟨hB4, hwr4, hd4, hcl4, hr4⟩ := HX.out
              have hcl5 := hcl4.bm hb5 hd4.me
              go_roundw
              case rel => exact ⟨s + 1, by omega, by go_num, hd4.bm hb5 hM5, hB4.trans (bm_below_lo hb5 hbmw2 hwr4), hcl5.1, hcl5.2.1, hr4.memo hd4.me hb5, HFB.out⟩
              case measure => simp [intOf]; omega
          · have ht0 : 0 ≤ t ∧ t ≤ 1000 := by omega
            have h1 := HCAN.out t (by omega) w0.heap.size wr.heap.size k s hk4 _ hd4 hcl4
            have hok : okT y tab t k s = !(canP y tab t k s || (decide (0 < t) && !canP y tab (t - 1) k s)) := by unfold okT never; rw [if_neg hT, if_pos (by omega)]
            clear hrt
            cases hcv : canP y tab t k s
            · rw [hcv] at h1 hok
              by_cases htz : 0 < t
              · have hc2 := fun (w5 : World) (hM5 : Memo w5 bm (GR y tab)) (hb5 : Bm bm (wr.alloc (.cells #[.int .i64 s] 3)).heap.size (wr.alloc (.cells #[.int .i64 s] 3)) w5) => HCAN.out (t - 1) (by omega) w0.heap.size wr.heap.size k s hk4 w5 (hd4.bm hb5 hM5) (hcl4.bm hb5 hd4.me)
                cases hcw : canP y tab (t - 1) k s
                · rw [hcw] at hc2 hok
                  have HFB := Lib.hid (HF.out.1 (by rw [hok]; simp [htz]))
                  have HX := Lib.hid (And.intro hB4 hwr4)
                  have HC2 := Lib.hid hc2
                  clear hok hcv hcw hc2 hd4 hcl4 hr4 HF hB4 hwr4
                  go_wp2_with (go_at_call 72; first | (refine h1.mono ?_; rintro e w5 ⟨rfl, hM5, hb5⟩; have h2 := HC2.out w5 hM5 hb5; clear h1) | (refine h2.mono ?_; rintro e w6 ⟨rfl, hM6, hb6⟩))
                  go_ret
                  exact ⟨by rw [HFB.out]; rfl, (HX.out.1.trans (bm_below_lo hb5 hbmw2 HX.out.2)).trans (bm_below_lo hb6 hbmw2 (Nat.le_trans HX.out.2 hb5.size))⟩
                · rw [hcw] at hc2 hok
                  have HFB := Lib.hid (HF.out.2 (by rw [hok]; simp))
                  have HX := Lib.hid (And.intro hB4 (And.intro hwr4 (And.intro hd4 (And.intro hcl4 hr4))))
                  have HC2 := Lib.hid hc2
                  clear hok hcv hcw hc2 hd4 hcl4 hr4 HF hB4 hwr4
                  go_wp2_with (go_at_call 72; first | (refine h1.mono ?_; rintro e w5 ⟨rfl, hM5, hb5⟩; have h2 := HC2.out w5 hM5 hb5; clear h1) | (refine h2.mono ?_; rintro e w6 ⟨rfl, hM6, hb6⟩))
                  obtain ⟨hB4, hwr4, hd4, hcl4, hr4⟩ := HX.out
                  have hd5 := hd4.bm hb5 hM5
                  have hcl6 := (hcl4.bm hb5 hd4.me).bm hb6 hM5
                  go_roundw
                  case rel => exact ⟨s + 1, by omega, by go_num, hd5.bm hb6 hM6, (hB4.trans (bm_below_lo hb5 hbmw2 hwr4)).trans (bm_below_lo hb6 hbmw2 (Nat.le_trans hwr4 hb5.size)), hcl6.1, hcl6.2.1, (hr4.memo hd4.me hb5).memo hM5 hb6, HFB.out⟩
                  case measure => simp [intOf]; omega
              · have hok2 : okT y tab t k s = true := by rw [hok]; simp [htz]
                have HFB := Lib.hid (HF.out.2 hok2)
                have HX := Lib.hid (And.intro hB4 (And.intro hwr4 (And.intro hd4 (And.intro hcl4 hr4))))
                clear hok hok2 hcv hd4 hcl4 hr4 HF hB4 hwr4
                go_wp2_with (go_at_call 72; refine h1.mono ?_; rintro e w5 ⟨rfl, hM5, hb5⟩)
                obtain ⟨hB4, hwr4, hd4, hcl4, hr4⟩ := HX.out
                have hcl5 := hcl4.bm hb5 hd4.me
                go_roundw
                case rel => exact ⟨s + 1, by omega, by go_num, hd4.bm hb5 hM5, hB4.trans (bm_below_lo hb5 hbmw2 hwr4), hcl5.1, hcl5.2.1, hr4.memo hd4.me hb5, HFB.out⟩
                case measure => simp [intOf]; omega
            · rw [hcv] at h1 hok
              have HFB := Lib.hid (HF.out.1 (by rw [hok]; rfl))
              have HX := Lib.hid (And.intro hB4 hwr4)
              clear hok hcv hd4 hcl4 hr4 HF hB4 hwr4
              go_wp2_with (go_at_call 72; refine h1.mono ?_; rintro e w5 ⟨rfl, hM5, hb5⟩)
              go_ret
              exact ⟨by rw [HFB.out]; rfl, HX.out.1.trans (bm_below_lo hb5 hbmw2 HX.out.2)⟩
        · have hse : s = (tabR tab k).length := by omega
          have HN2 := Lib.hid (show (List.range (k + 1)).all (rowOk y tab) = true by rw [HNO.out.2.1, HALL.out, HNO.out.2.2, ← hse, HALS.out]; rfl)
          clear hse
          go_wp2
          go_roundw
          case rel => exact ⟨k + 1, by omega, by go_num, hd, hB, bF, HN2.out⟩
          case measure => simp [intOf]; omega
    · have hke : k = tab.length := by omega
      have hfin : B = true := by rw [HBE.out, ← HALL.out, hke]; rfl
      have HFIN := Lib.hid hfin
      clear hke hfin
      go_wp2
      refine HK.out _ _ ?_; clear HK
      go_wp2
      go_ret
      exact ⟨by rw [HFIN.out]; rfl, hB⟩
end Ytndmjginmomfiaa
end Go.Proofs
