/- The reference: Verify. -/
import Derived.Test.YtndmjginmomfiaaR4
open Go Go.RowKit Go.YtndmjginmomfiaaIt
namespace Go.Proofs
namespace Ytndmjginmomfiaa
theorem okT_never {y : Yd} (ok : Ok y) {tab : List (List Int)} (tb : Tb y tab) {m s : Nat} (hs : s ≤ y.room.toNat) (hm : m < y.ws.length) : okT y tab never m s = decide (never ≤ bestP y tab (s : Int) m) := by
  unfold okT
  rw [if_pos rfl, can_iff ok tb (by unfold never; omega) (Int.le_refl _) hs hm]
theorem okT_small {y : Yd} (ok : Ok y) {tab : List (List Int)} (tb : Tb y tab) {m s : Nat} (hs : s ≤ y.room.toNat) (hm : m < y.ws.length) {t : Int} (h0 : 0 ≤ t) (h1 : t ≤ 1000) : okT y tab t m s = !(decide (t ≤ bestP y tab (s : Int) m) || (decide (0 < t) && !decide (t - 1 ≤ bestP y tab (s : Int) m))) := by
  unfold okT
  have hN : (1000 : Int) < never := by unfold never; omega
  rw [if_neg (by omega), if_pos (by omega), can_iff ok tb h0 (by omega) hs hm]
  by_cases ht : 0 < t
  · rw [can_iff ok tb (by omega) (by omega) hs hm]
  · simp [ht]
theorem any_rows {tab : List (List Int)} {p : List Int → Bool} (h : ∀ j, j < tab.length → p (tabR tab j) = false) : tab.any p = false := by
  rw [List.any_eq_false]
  intro r hr
  obtain ⟨j, hj, rfl⟩ := List.getElem_of_mem hr
  rw [← tabR_lt hj, h j hj]; decide
theorem any_row_at {tab : List (List Int)} {p : List Int → Bool} {j : Nat} (hj : j < tab.length) (h : p (tabR tab j) = true) : tab.any p = true := List.any_eq_true.2 ⟨_, List.getElem_mem hj, by rw [← tabR_lt hj]; exact h⟩
theorem any_at0 {xs : List Int} {p : Int → Bool} (h : ∀ j, j < xs.length → p (at0 xs j) = false) : xs.any p = false := by
  rw [List.any_eq_false]
  intro r hr
  obtain ⟨j, hj, rfl⟩ := List.getElem_of_mem hr
  rw [← at0_lt hj, h j hj]; decide
theorem any_at0_at {xs : List Int} {p : Int → Bool} {j : Nat} (hj : j < xs.length) (h : p (at0 xs j) = true) : xs.any p = true := List.any_eq_true.2 ⟨_, List.getElem_mem hj, by rw [← at0_lt hj]; exact h⟩
theorem tb_of {y : Yd} (ok : Ok y) {tab : List (List Int)} (h1 : tab.length = y.ws.length) (h2 : tab.any (badL y) = false) : Tb y tab := ⟨h1, (shape_ok ok h1 h2).2⟩
set_option maxRecDepth 100000 in
set_option maxHeartbeats 8000000 in
theorem rverify_any (y : Yd) (v : Value) (tab : List (List Int)) (vt : Value) (w : World) (hw : SlW w v y.ws) (ht : SlII w vt tab) :
    Calls Try.prog 24 #[.agg (encY y v), vt] w fun e w' => e = .returned (.int .i64 (verE y tab)) ∧ Below w.heap.size w w' := by
  have hy4 : (encY y v).size = 4 := rfl
  have hcc := fun W hW => rcheck_any y v W (hw.below (w' := W) hW (Nat.le_refl _))
  have hve : verE y tab = if chkE y = 0 then (if tab.length ≠ y.ws.length ∨ tab.any (badL y) = true then 3 else if tab.any (fun r => r.any badT) = true then 2 else if holdsB y tab = true then 0 else 11) else chkE y := rfl
  obtain ⟨R, hR⟩ : ∃ R, R = verE y tab := ⟨_, rfl⟩
  rw [← hR] at hve ⊢
  have HVE := Lib.hid hve
  have hok := chk_ok (y := y)
  have HWS := Lib.hid hw
  have HBEST := Lib.hid (fun (ok : Ok y) (tb : Tb y tab) (s : Int) (m : Nat) (hm : m < y.ws.length) (hs : 0 ≤ s ∧ s ≤ 60) W (hW : Below w.heap.size w W) => best_any y v vt tab s m W ok tb hm hs (hw.below hW (Nat.le_refl _)) (ht.below hW (Nat.le_refl _)))
  clear hve hR
  have hv0 := hw
  obtain ⟨adw, capw, rfl, -, -, -⟩ := hw
  obtain ⟨ad, cap, rfl, hmx, hcp, hop⟩ := ht.opened
  have HOP := Lib.hid hop
  generalize hC : chkE y = C at *
  have HOK := Lib.hid hok
  have HCC := Lib.hid hcc
  clear hok hcc hC hop ht hv0
  go_enter Try.func24, Try.ntmps24
  refine wp_seq_k (fun K hK => ?_)
  have HK := Lib.hid hK; clear hK
  go_wp2
  refine HK.out _ _ ?_; clear HK K
  generalize hw1 : World.alloc _ _ = w1
  obtain ⟨b1, hB, hs1⟩ := blk1 hw1
  clear hw1
  have hcc := HCC.out w1 hB
  by_cases h0 : C = 0
  rotate_left
  · have h0b : (C != 0) = true := bne_iff_ne.2 h0
    have HR := Lib.hid (show R = C by rw [HVE.out, if_neg h0])
    clear h0
    go_wp2_with (first | (refine wpList_load_blk rfl 31 _ rfl _ rfl b1 Try.underlying31 rfl size31 hy4 ?_) | (go_at_call 22; refine hcc.mono ?_; rintro e w2 ⟨rfl, hb2⟩))
    go_ret
    exact ⟨by rw [HR.out]; rfl, hB.trans (hb2.mono (by omega))⟩
  subst h0
  have ok := HOK.out.1 rfl
  have hr0 := ok.room0
  have hr1 := ok.room1
  have hn1 := ok.n1
  have hve := HVE.out
  rw [if_pos rfl] at hve
  clear HVE
  have HV2 := Lib.hid hve
  have HOKY := Lib.hid ok
  clear hve HOK ok
  refine wp_seq_k (fun K hK => ?_)
  have HK := Lib.hid hK; clear hK
  go_wp2_with (first | (refine wpList_load_blk rfl 31 _ rfl _ rfl b1 Try.underlying31 rfl size31 hy4 ?_) | (go_at_call 22; refine hcc.mono ?_; rintro e w2 ⟨rfl, hb2⟩))
  refine HK.out _ _ ?_; clear HK K
  replace b1 := blk_keep b1 hb2
  replace hB := hB.trans (hb2.mono (by omega))
  clear hb2 hcc hs1 HCC
  have c3 := cell_blk (i := 3) b1
  simp only [encY, List.getElem?_toArray, List.getElem?_cons_zero, List.getElem?_cons_succ] at c3
  by_cases hle : tab.length = y.ws.length
  rotate_left
  · have hnb : ((tab.length : Int) != (y.ws.length : Int)) = true := bne_iff_ne.2 (by omega)
    have HR := Lib.hid (show R = 3 by rw [HV2.out, if_pos (Or.inl hle)])
    clear hle HV2
    go_wp2
    go_ret
    exact ⟨by rw [HR.out]; rfl, hB⟩
  have hnb : ((tab.length : Int) != (y.ws.length : Int)) = false := by rw [hle]; simp
  have hl4 : tab.length ≤ 4 := by omega
  have HLE := Lib.hid hle
  clear hle
  refine wp_seq_k (fun K hK => ?_)
  have HK := Lib.hid hK; clear hK
  go_wp2
  refine HK.out _ _ ?_; clear HK K
  refine wp_seq_k (fun K hK => ?_)
  have HK := Lib.hid hK; clear hK
  go_wp2
  refine HK.out _ _ ?_; clear HK K
  refine wp_seq_k (fun K hK => ?_)
  have HK := Lib.hid hK; clear hK
  go_wp2
  go_loopw [6] (fun i wr => ∃ k : Nat, k ≤ tab.length ∧ i = .int .i64 k ∧ (∀ j, j < k → badL y (tabR tab j) = false) ∧ Below w.heap.size w wr ∧ wr.heap[w.heap.size]? = some (.cells (encY y (.slice adw y.ws.length capw)) 31 (0, 0))) (fun i _ => tab.length - (intOf i).toNat)
  case atStart => exact ⟨0, Nat.zero_le _, rfl, fun _ h => by omega, hB, b1⟩
  case round =>
    clear hB b1 c3
    obtain ⟨k, hk, rfl, hno, hB, b1⟩ := hrel
    have HNO := Lib.hid hno
    clear hno
    by_cases hkn : k < tab.length
    · obtain ⟨b, off, ad2, cap2, rfl, hlt, hcell, -⟩ := HOP.out k hkn
      have hc0 := (hB.cell (p := ⟨b, off + k, none⟩) hlt).trans hcell
      have c0 := cell_blk (i := 0) b1
      simp only [encY, List.getElem?_toArray, List.getElem?_cons_zero] at c0
      have hbl : badL y (tabR tab k) = (((tabR tab k).length : Int) != y.room + 1) := rfl
      have HX := Lib.hid (And.intro hB b1)
      clear hcell hB b1
      cases e1 : badL y (tabR tab k)
      · have hb2 : (((tabR tab k).length : Int) != y.room + 1) = false := by rw [← hbl]; exact e1
        have HE := Lib.hid e1
        clear hbl e1
        go_wp2
        go_quiet (fail)
        go_wp2
        go_roundw
        case rel => exact ⟨k + 1, by omega, by go_num, fun j hj => by rcases (show j < k ∨ j = k by omega) with h | rfl; exact HNO.out j h; exact HE.out, below_drewN HX.out.1 _, HX.out.2⟩
        case measure => simp [intOf]; omega
      · have hb2 : (((tabR tab k).length : Int) != y.room + 1) = true := by rw [← hbl]; exact e1
        have HR := Lib.hid (show R = 3 by rw [HV2.out, if_pos (Or.inr (any_row_at hkn e1))])
        clear hbl e1 HV2
        go_wp2
        go_quiet (fail)
        go_wp2
        go_ret
        exact ⟨by rw [HR.out]; rfl, below_drewN HX.out.1 _⟩
    · have hke : k = tab.length := by omega
      have hbad : tab.any (badL y) = false := any_rows (fun j hj => HNO.out j (by omega))
      have hve := HV2.out
      rw [if_neg (show ¬ (tab.length ≠ y.ws.length ∨ tab.any (badL y) = true) from fun h => h.elim (fun h => h HLE.out) (fun h => by rw [hbad] at h; cases h))] at hve
      have HV3 := Lib.hid hve
      have HTB := Lib.hid (tb_of HOKY.out HLE.out hbad)
      clear hve hbad hke HV2
      go_wp2
      refine HK.out _ _ ?_; clear HK
      refine wp_seq_k (fun K hK => ?_)
      have HK := Lib.hid hK; clear hK
      go_wp2
      go_loopw [7] (fun i wr => ∃ k : Nat, k ≤ tab.length ∧ i = .int .i64 k ∧ (∀ j, j < k → (tabR tab j).any badT = false) ∧ Below w.heap.size w wr ∧ wr.heap[w.heap.size]? = some (.cells (encY y (.slice adw y.ws.length capw)) 31 (0, 0))) (fun i _ => tab.length - (intOf i).toNat)
      case atStart => exact ⟨0, Nat.zero_le _, rfl, fun _ h => by omega, hB, b1⟩
      case round =>
        clear hB b1 HNO hkn hk
        obtain ⟨k, hk, rfl, hno, hB, b1⟩ := hrel
        have HNO := Lib.hid hno
        clear hno
        by_cases hkn : k < tab.length
        · go_wp2
          go_loopw [8] (fun i wr => ∃ s : Nat, s ≤ y.room.toNat + 1 ∧ i = .int .i64 s ∧ (∀ j, j < s → badT (at0 (tabR tab k) j) = false) ∧ Below w.heap.size w wr ∧ wr.heap[w.heap.size]? = some (.cells (encY y (.slice adw y.ws.length capw)) 31 (0, 0))) (fun i _ => 200 - (intOf i).toNat)
          case atStart => exact ⟨0, Nat.zero_le _, rfl, fun _ h => by omega, hB, b1⟩
          case round =>
            clear hB b1
            obtain ⟨s, hs, rfl, hno2, hB, b1⟩ := hrel
            have HNS := Lib.hid hno2
            clear hno2
            have c0 := cell_blk (i := 0) b1
            simp only [encY, List.getElem?_toArray, List.getElem?_cons_zero] at c0
            have hrl := HTB.out.row k hkn
            by_cases hsn : s < y.room.toNat + 1
            · have hsi : (s : Int) ≤ y.room := by omega
              obtain ⟨b, off, ad2, cap2, rfl, hlt, hcell, hrow⟩ := HOP.out k hkn
              obtain ⟨ad3, cap3, he3, hm3, hcp3, hc3⟩ := hrow
              cases he3
              obtain ⟨b3, off3, rfl, hlt3, hcell3⟩ := hc3 (by omega)
              have hz1 := (hB.cell (p := ⟨b, off + k, none⟩) hlt).trans hcell
              have hz2 := (hB.cell (p := ⟨b3, off3 + s, none⟩) hlt3).trans (hcell3 s (by omega))
              rw [hrl] at hz1 hcp3 hm3
              have hsl : (s : Int) < ((y.room.toNat + 1 : Nat) : Int) := by omega
              have hbt : badT (at0 (tabR tab k) s) = (at0 (tabR tab k) s != 1125899906842624 && !btw 0 (at0 (tabR tab k) s) 1000) := rfl
              have HR2 := Lib.hid (show badT (at0 (tabR tab k) s) = true → R = 2 from fun h => by rw [HV3.out, if_pos (any_row_at hkn (any_at0_at (by rw [hrl]; exact hsn) h))])
              have HGO := Lib.hid (show badT (at0 (tabR tab k) s) = false → ∀ j, j < s + 1 → badT (at0 (tabR tab k) j) = false from fun h j hj => by
                rcases (show j < s ∨ j = s by omega) with h2 | rfl
                · exact HNS.out j h2
                · exact h)
              have HX := Lib.hid (And.intro hB b1)
              clear hcell hcell3 hc3 hrl hB b1
              generalize at0 (tabR tab k) s = t at *
              by_cases hT : t = 1125899906842624
              · have HN := Lib.hid (HGO.out (by rw [hbt, hT]; rfl))
                subst hT
                clear hbt HR2 HGO
                go_wp2
                go_roundw
                case rel => exact ⟨s + 1, by omega, by go_num, HN.out, HX.out.1, HX.out.2⟩
                case measure => simp [intOf]; omega
              · have hTn : (t != 1125899906842624) = true := bne_iff_ne.2 hT
                cases e1 : btw 0 t 1000
                · have HN := Lib.hid (HR2.out (by rw [hbt, hTn, e1]; rfl))
                  clear hbt HR2 HGO hT
                  go_wp2_with (go_at_call 46; (with_reducible refine (is_any _ _ _ _).mono ?_); rintro e w' ⟨rfl, rfl⟩)
                  go_ret
                  exact ⟨by rw [HN.out]; rfl, HX.out.1⟩
                · have HN := Lib.hid (HGO.out (by rw [hbt, hTn, e1]; rfl))
                  clear hbt HR2 HGO hT
                  go_wp2_with (go_at_call 46; (with_reducible refine (is_any _ _ _ _).mono ?_); rintro e w' ⟨rfl, rfl⟩)
                  go_roundw
                  case rel => exact ⟨s + 1, by omega, by go_num, HN.out, HX.out.1, HX.out.2⟩
                  case measure => simp [intOf]; omega
            · have hse : s = y.room.toNat + 1 := by omega
              have hsi : ¬ (s : Int) ≤ y.room := by omega
              have hany : (tabR tab k).any badT = false := any_at0 (fun j hj => HNS.out j (by omega))
              have HA := Lib.hid hany
              clear hse hany hrl
              go_wp2
              go_roundw
              case rel => exact ⟨k + 1, by omega, by go_num, fun j hj => by rcases (show j < k ∨ j = k by omega) with h | rfl; exact HNO.out j h; exact HA.out, hB, b1⟩
              case measure => simp [intOf]; omega
        · have hke : k = tab.length := by omega
          have hbad : tab.any (fun r => r.any badT) = false := any_rows (p := fun r => r.any badT) (fun j hj => HNO.out j (by omega))
          have hve := HV3.out
          rw [hbad] at hve
          simp only [Bool.false_eq_true, if_false] at hve
          have HV4 := Lib.hid hve
          have HRG := Lib.hid (range_ok hbad)
          clear hve hbad hke HV3
          go_wp2
          refine HK.out _ _ ?_; clear HK
          refine wp_seq_k (fun K hK => ?_)
          have HK := Lib.hid hK; clear hK
          go_wp2
          go_loopw [9] (fun i wr => ∃ k : Nat, k ≤ tab.length ∧ i = .int .i64 k ∧ (List.range k).all (rowOk y tab) = true ∧ Below w.heap.size w wr ∧ wr.heap[w.heap.size]? = some (.cells (encY y (.slice adw y.ws.length capw)) 31 (0, 0))) (fun i _ => tab.length - (intOf i).toNat)
          case atStart => exact ⟨0, Nat.zero_le _, rfl, rfl, hB, b1⟩
          case round =>
            clear hB b1 HNO hkn hk
            obtain ⟨k, hk, rfl, hall, hB, b1⟩ := hrel
            have HALL := Lib.hid hall
            clear hall
            by_cases hkn : k < tab.length
            · have hno := all_range_no (rowOk y tab) hkn
              have hyes := all_range_succ (rowOk y tab) k
              have hrk : rowOk y tab k = (List.range (tabR tab k).length).all (okS y tab k) := rfl
              have HNO := Lib.hid (And.intro hno (And.intro hyes hrk))
              have hkl : k < y.ws.length := by rw [← HLE.out]; exact hkn
              clear hno hyes hrk
              go_wp2
              go_loopw [10] (fun i wr => ∃ s : Nat, s ≤ y.room.toNat + 1 ∧ i = .int .i64 s ∧ (List.range s).all (okS y tab k) = true ∧ Below w.heap.size w wr ∧ wr.heap[w.heap.size]? = some (.cells (encY y (.slice adw y.ws.length capw)) 31 (0, 0))) (fun i _ => 200 - (intOf i).toNat)
              case atStart => exact ⟨0, Nat.zero_le _, rfl, rfl, hB, b1⟩
              case round =>
                clear hB b1
                obtain ⟨s, hs, rfl, hals, hB, b1⟩ := hrel
                have HALS := Lib.hid hals
                clear hals
                have c0 := cell_blk (i := 0) b1
                simp only [encY, List.getElem?_toArray, List.getElem?_cons_zero] at c0
                have hrl := HTB.out.row k hkn
                by_cases hsn : s < y.room.toNat + 1
                · have hsi : (s : Int) ≤ y.room := by omega
                  obtain ⟨b, off, ad2, cap2, rfl, hlt, hcell, hrow⟩ := HOP.out k hkn
                  obtain ⟨ad3, cap3, he3, hm3, hcp3, hc3⟩ := hrow
                  cases he3
                  obtain ⟨b3, off3, rfl, hlt3, hcell3⟩ := hc3 (by omega)
                  have hz1 := (hB.cell (p := ⟨b, off + k, none⟩) hlt).trans hcell
                  have hz2 := (hB.cell (p := ⟨b3, off3 + s, none⟩) hlt3).trans (hcell3 s (by omega))
                  have hrg := HRG.out k hkn s (by rw [hrl]; exact hsn)
                  have hno2 := all_range_no (okS y tab k) (show s < (tabR tab k).length by rw [hrl]; exact hsn)
                  have hyes2 := all_range_succ (okS y tab k) s
                  have hoks : okS y tab k s = okT y tab (at0 (tabR tab k) s) k s := rfl
                  rw [hrl] at hz1 hcp3 hm3
                  have hsl : (s : Int) < ((y.room.toNat + 1 : Nat) : Int) := by omega
                  have hbest := fun W hW => HBEST.out HOKY.out HTB.out (s : Int) k hkl (by omega) W hW
                  have hon := okT_never HOKY.out HTB.out (m := k) (s := s) (by omega) hkl
                  have hos := fun t h0 h1 => okT_small HOKY.out HTB.out (m := k) (s := s) (by omega) hkl (t := t) h0 h1
                  have hbge := best_ge y tab s k
                  have hble := best_le y tab s k
                  have hrefl : (List.range (tabR tab k).length).all (okS y tab k) = (List.range (tabR tab k).length).all (okS y tab k) := rfl
                  clear hrefl
                  generalize bestP y tab (s : Int) k = bv at *
                  obtain ⟨t, hte⟩ : ∃ t, t = at0 (tabR tab k) s := ⟨_, rfl⟩
                  rw [← hte] at hz2 hrg hoks
                  have HNS := Lib.hid (And.intro hno2 (And.intro hyes2 hoks))
                  have FIN := Lib.hid (show okT y tab t k s = false → R = 11 from fun h => by
                    have h1 : holdsB y tab = false := HNO.out.1 (by rw [HNO.out.2.2]; exact HNS.out.1 (by rw [HNS.out.2.2]; exact h))
                    rw [HV4.out, h1]; rfl)
                  have NXT := Lib.hid (show okT y tab t k s = true → (List.range (s + 1)).all (okS y tab k) = true from fun h => by rw [HNS.out.2.1, HALS.out, HNS.out.2.2, h]; rfl)
                  unfold never at hrg hble hon
                  have HON := Lib.hid (And.intro hon hos)
                  have hl1 := lt_blk b1
                  have hl2 := Nat.lt_of_lt_of_le hlt hB.size
                  have hl3 := Nat.lt_of_lt_of_le hlt3 hB.size
                  have hbw := hB.size
                  clear hte hno2 hyes2 hoks hon hos hcell hcell3 hc3 hrl HNS
                  go_wp2
                  refine wp_region_ab wr.heap.size wr (by kernel_rfl) (by kernel_rfl) (Below.refl _ _) ?_
                  have e1 := fun (x : Ab wr.heap.size wr) => (x.ok.cell (p := ⟨b, off + k, none⟩) hl2).trans hz1
                  have e2 := fun (x : Ab wr.heap.size wr) => (x.ok.cell (p := ⟨b3, off3 + s, none⟩) hl3).trans hz2
                  have e3 := fun (x : Ab wr.heap.size wr) => hbest x.val (hB.trans (x.ok.mono hbw))
                  unfold AbC
                  repeat (first | (refine wpQuiet_load_blk rfl 31 _ rfl w.heap.size rfl (fun W ⟨x, hx⟩ => by rw [hx]; exact blk_below b1 x.ok hl1) Try.underlying31 rfl size31 hy4 ?_; simp only [Act.put, List.setIfInBounds_toArray, List.set_cons_zero, List.set_cons_succ]) | (go_big_quiet_step (first | (go_at_call 53; exact Calls.ab _ (Nat.le_refl _) (e3 _)))))
                  refine wpQuiet_nil ?_
                  rintro W' ⟨z, rfl⟩
                  have hz := z.ok
                  obtain ⟨V, hV⟩ : ∃ V, V = z.val := ⟨_, rfl⟩
                  rw [← hV] at hz ⊢
                  have hBV := hB.trans (hz.mono hbw)
                  have b1V := blk_keep b1 hz
                  clear hV z e1 e2 e3 hz1 hz2 c0 hbest hl1 hl2 hl3 hB b1 hz
                  by_cases hT : t = 1125899906842624
                  · by_cases hbN : bv < 1125899906842624
                    · have HN := Lib.hid (FIN.out (by have := HON.out.1; rw [hT]; unfold never at this; rw [this]; simp; omega))
                      subst hT
                      clear hrg
                      go_wp2
                      go_ret
                      exact ⟨by rw [HN.out]; rfl, hBV⟩
                    · have HN := Lib.hid (NXT.out (by have := HON.out.1; rw [hT]; unfold never at this; rw [this]; simp; omega))
                      subst hT
                      clear hrg
                      go_wp2
                      go_roundw
                      case rel => exact ⟨s + 1, by omega, by go_num, HN.out, hBV, b1V⟩
                      case measure => simp [intOf]; omega
                  · have ht0 : 0 ≤ t ∧ t ≤ 1000 := by omega
                    have hok := HON.out.2 t ht0.1 ht0.2
                    by_cases hb1 : t ≤ bv
                    · have HN := Lib.hid (FIN.out (by rw [hok]; simp [hb1]))
                      clear hok hrg
                      go_wp2
                      go_ret
                      exact ⟨by rw [HN.out]; rfl, hBV⟩
                    · by_cases hp : 0 < t
                      · by_cases hb2 : bv < t - 1
                        · have HN := Lib.hid (FIN.out (by rw [hok]; simp [hb1, hp]; omega))
                          clear hok hrg
                          go_wp2
                          go_ret
                          exact ⟨by rw [HN.out]; rfl, hBV⟩
                        · have HN := Lib.hid (NXT.out (by rw [hok]; simp [hb1, hp]; omega))
                          clear hok hrg
                          go_wp2
                          go_roundw
                          case rel => exact ⟨s + 1, by omega, by go_num, HN.out, hBV, b1V⟩
                          case measure => simp [intOf]; omega
                      · have HN := Lib.hid (NXT.out (by rw [hok]; simp [hb1, hp]))
                        clear hok hrg
                        go_wp2
                        go_roundw
                        case rel => exact ⟨s + 1, by omega, by go_num, HN.out, hBV, b1V⟩
                        case measure => simp [intOf]; omega
                · have hse : s = y.room.toNat + 1 := by omega
                  have hsi : ¬ (s : Int) ≤ y.room := by omega
                  have hrow : rowOk y tab k = true := by rw [HNO.out.2.2, hrl, ← hse]; exact HALS.out
                  have hnext : (List.range (k + 1)).all (rowOk y tab) = true := by rw [HNO.out.2.1, HALL.out, hrow]; rfl
                  have HN := Lib.hid hnext
                  clear hse hrow hnext hrl
                  go_wp2
                  go_roundw
                  case rel => exact ⟨k + 1, by omega, by go_num, HN.out, hB, b1⟩
                  case measure => simp [intOf]; omega
            · have hke : k = tab.length := by omega
              have hh : holdsB y tab = true := by have := HALL.out; rw [hke] at this; exact this
              have HR := Lib.hid (show R = 0 by rw [HV4.out, hh]; rfl)
              clear hke hh
              go_wp2
              refine HK.out _ _ ?_; clear HK
              go_wp2
              go_ret
              exact ⟨by rw [HR.out]; rfl, hB⟩
end Ytndmjginmomfiaa
end Go.Proofs
