/- The reference: the comparison of trains; Verify. -/
import Derived.Test.YteijenefhoconaaRefF
open Go Go.RowKit Go.YteijenefhoconaaIt
namespace Go.Proofs
namespace Yteijenefhoconaa
set_option maxRecDepth 100000 in
set_option maxHeartbeats 1000000 in
theorem same_any (v u : Value) (xs ys : List Tn) (w : World) (hx : SlT w v xs) (hy : SlT w u ys) :
    Calls Try.prog 29 #[v, u] w fun e w' => e = .returned (.bool (decide (xs = ys))) ∧ Below w.heap.size w w' := by
  obtain ⟨ad, cap, rfl, hm, hc⟩ := hx
  obtain ⟨ad', cap', rfl, hm', hc'⟩ := hy
  obtain ⟨n, hn⟩ : ∃ n, n = xs.length := ⟨_, rfl⟩
  by_cases hl : xs.length = ys.length
  · rw [← hl] at hc' ⊢
    rw [← hn] at hm hc hc' ⊢
    have H := Lib.hid (And.intro hl hn)
    clear hl hn hm'
    go_enter Try.func29, Try.ntmps29
    go_wp2
    go_loopw [5] (fun i wr => ∃ k : Nat, k ≤ n ∧ i = .int .i64 k ∧ (∀ j, j < k → tAt xs j = tAt ys j ∧ tTo xs j = tTo ys j) ∧ Below w.heap.size w wr) (fun i _ => n - (intOf i).toNat)
    case atStart => exact ⟨0, Nat.zero_le _, rfl, fun _ h => by omega, Below.refl _ _⟩
    case round =>
      obtain ⟨k, hk, rfl, heq, hb⟩ := hrel
      by_cases hkn : k < n
      · obtain ⟨b, off, rfl, hlt, hcell⟩ := hc (by omega)
        obtain ⟨b', off', rfl, hlt', hcell'⟩ := hc' (by omega)
        have h1 := (hb.cell (p := ⟨b, off + k * 2, none⟩) hlt).trans (hcell k hkn).1
        have h2 := (hb.cell (p := ⟨b, off + k * 2 + 1, none⟩) hlt).trans (hcell k hkn).2
        have h3 := (hb.cell (p := ⟨b', off' + k * 2, none⟩) hlt').trans (hcell' k hkn).1
        have h4 := (hb.cell (p := ⟨b', off' + k * 2 + 1, none⟩) hlt').trans (hcell' k hkn).2
        have HE := Lib.hid heq
        clear heq hcell hcell' hc hc'
        have hsame : (tAt xs k = tAt ys k ∧ tTo xs k = tTo ys k) → ∀ j, j < k + 1 → tAt xs j = tAt ys j ∧ tTo xs j = tTo ys j := fun e j hj => by rcases (show j < k ∨ j = k by omega) with h | rfl; exact HE.out j h; exact e
        have hdiff : ¬ (tAt xs k = tAt ys k ∧ tTo xs k = tTo ys k) → decide (xs = ys) = false := fun e => by simp; rintro rfl; exact e ⟨rfl, rfl⟩
        have hneq := neq81 (tAt xs k) (tTo xs k) (tAt ys k) (tTo ys k)
        generalize tAt xs k = p1 at *
        generalize tTo xs k = p2 at *
        generalize tAt ys k = q1 at *
        generalize tTo ys k = q2 at *
        by_cases hq : p1 = q1 ∧ p2 = q2
        · have hn : (!decide (p1 = q1 ∧ p2 = q2)) = false := by simp [hq]
          rw [hn] at hneq
          have HS := Lib.hid (hsame hq)
          clear hsame hdiff hq hn
          go_wp2
          go_quiet (fail)
          go_wp2
          go_roundw
          case rel => exact ⟨k + 1, by omega, by go_num, HS.out, below_drewN hb _⟩
          case measure => simp [intOf]; omega
        · have hn : (!decide (p1 = q1 ∧ p2 = q2)) = true := by simp only [hq, decide_false, Bool.not_false]
          rw [hn] at hneq
          have HD := Lib.hid (hdiff hq)
          clear hsame hdiff hq hn
          go_wp2
          go_quiet (fail)
          go_wp2
          go_ret
          exact ⟨by rw [HD.out]; rfl, below_drewN hb _⟩
      · have hf : decide (xs = ys) = true := by simp; exact eq_of_tn H.out.1 (fun i hi => heq i (by have := H.out.2; omega))
        have HF := Lib.hid hf
        have HE := Lib.hid heq
        clear hf heq
        go_wp2
        go_ret
        exact ⟨by rw [HF.out]; rfl, hb⟩
  · have hf : decide (xs = ys) = false := by simp; rintro rfl; exact hl rfl
    have hb : ((xs.length : Int) != ys.length) = true := by rw [bne_iff_ne]; omega
    have HF := Lib.hid hf
    clear hf hl
    go_enter Try.func29, Try.ntmps29
    go_wp2
    go_ret
    exact ⟨by rw [HF.out]; rfl, Below.refl _ _⟩

theorem way_nil {ts : List Tn} (h5 : ts.length ≤ 5) : wayL (pos ts) (tos ts) = [] ↔ ∀ j, j < ts.length → tAt ts j = tTo ts j := by
  unfold wayL
  rw [tos_len, List.filter_eq_nil_iff]
  constructor
  · intro h j hj
    have := h j (by simpa using hj)
    unfold onw at this
    rw [pos_at h5 hj, tos_at hj] at this
    simpa using this
  · intro h j hj
    have hj' : j < ts.length := by simpa using hj
    unfold onw
    rw [pos_at h5 hj', tos_at hj']
    simp [h j hj']
set_option maxRecDepth 100000 in
set_option maxHeartbeats 4000000 in
theorem verify21_any (vL vt vm : Value) (L : List Int) (ts : List Tn) (ms : List Int) (w : World) (hL : SlI w vL L) (ht : SlT w vt ts) (hm : SlI w vm ms) :
    Calls Try.prog 21 #[vL, vt, vm] w fun e w' => e = .returned (.tuple #[.int .i64 (verE L ts ms).1, .int .i64 (verE L ts ms).2]) ∧ Below w.heap.size w w' := by
  have h46 := check46_any vL vt L ts w hL ht
  have hL0 := hL
  have ht0 := ht
  obtain ⟨adm, capm, rfl, hmm, hcm⟩ := hm
  have HCM := Lib.hid hcm
  clear hcm
  obtain ⟨ad, cap, rfl, hmt, hct⟩ := ht
  clear hct
  by_cases he : lineE L ts = 0
  · have hE : verE L ts ms = runM L (tos ts) (pos ts) ms 0 := by unfold verE; rw [if_pos he]
    rw [hE]
    rw [he] at h46
    obtain ⟨R, hR⟩ : ∃ R, R = runM L (tos ts) (pos ts) ms 0 := ⟨_, rfl⟩
    rw [← hR]
    have HR := Lib.hid hR
    have HE0 := Lib.hid he
    clear hE hR he
    go_enter Try.func21, Try.ntmps21
    go_wp2_with fail
    refine h46.mono ?_
    rintro e w2 ⟨rfl, hb2⟩
    go_wp2
    go_loopw [9, 10] (fun v i wr => ∃ (k : Nat) (us : List Tn) (adu : Option Addr) (capu : Nat), k ≤ ms.length ∧ i = .int .i64 k ∧ v = .slice adu us.length capu ∧ SlT wr (.slice adu us.length capu) us ∧ lineE L us = 0 ∧ tos us = tos ts ∧ R = runM L (tos ts) (pos us) (ms.drop k) k ∧ Below w.heap.size w wr) (fun _ i _ => ms.length - (intOf i).toNat)
    case atStart => exact ⟨0, ts, ad, cap, Nat.zero_le _, rfl, rfl, ht0.below hb2 (Nat.le_refl _), HE0.out, rfl, HR.out, hb2⟩
    case round =>
      obtain ⟨k, us, adu, capu, hk, rfl, rfl, hu, heu, htu, hRk, hb⟩ := hrel
      have hvu := vt_of heu
      have h5 := hvu.t5
      by_cases hkn : k < ms.length
      · obtain ⟨b, off, rfl, hlb, hcell⟩ := HCM.out (by omega)
        have h1 := (hb.cell (p := ⟨b, off + k, none⟩) hlb).trans (hcell k hkn)
        have h44 := move44_any vL (.slice adu us.length capu) L us (at0 ms k) wr (hL0.below hb (Nat.le_refl _)) hu
        have hmv : mvE L us (at0 ms k) = moveE L (tos us) (pos us) (at0 ms k) := by unfold mvE; rw [if_neg (by rw [heu]; decide)]
        have hstep : runM L (tos ts) (pos us) (ms.drop k) k = if moveE L (tos us) (pos us) (at0 ms k) = 0 then runM L (tos ts) (moveS L (tos us) (pos us) (at0 ms k)) (ms.drop (k + 1)) (k + 1) else (k, moveE L (tos us) (pos us) (at0 ms k)) := by
          rw [List.drop_eq_getElem_cons hkn, ← at0_lt hkn, htu]; rfl
        rw [hstep] at hRk
        have hgo : moveE L (tos us) (pos us) (at0 ms k) = 0 → lineE L (mvT L us (at0 ms k)) = 0 ∧ tos (mvT L us (at0 ms k)) = tos ts ∧ pos (mvT L us (at0 ms k)) = moveS L (tos us) (pos us) (at0 ms k) := fun h0 => by
          obtain ⟨g0, g1, g2, g3⟩ := moveE_zero h5 h0
          rw [mvT_eq h5 h0, moveS_eq h5 h0]
          exact ⟨lineE_mov heu g1 g3, by rw [tos_movT, htu], rfl⟩
        rw [hmv] at h44
        obtain ⟨me, hme⟩ : ∃ me, me = moveE L (tos us) (pos us) (at0 ms k) := ⟨_, rfl⟩
        rw [← hme] at h44 hRk hgo
        have HGO := Lib.hid hgo
        have HRK := Lib.hid hRk
        have H44 := Lib.hid h44
        generalize at0 ms k = m at *
        clear hcell hmv hstep hme hgo hRk h44 heu htu
        go_wp2_with fail
        refine H44.out.mono ?_
        rintro e w4 ⟨hb4, ⟨hne, rfl⟩ | ⟨h0, v, rfl, hv4⟩⟩
        · have hr := HRK.out
          rw [if_neg hne] at hr
          have HR2 := Lib.hid hr
          have hneb : (me != 0) = true := bne_iff_ne.2 hne
          clear hr hne
          go_wp2
          go_ret2
          exact ⟨by rw [HR2.out]; rfl, hb.trans (hb4.mono hb.size)⟩
        · have hr := HRK.out
          rw [if_pos h0] at hr
          have hg := HGO.out h0
          rw [← hg.2.2] at hr
          have HR2 := Lib.hid hr
          have HG2 := Lib.hid hg
          clear hr hg HRK HGO h0
          obtain ⟨ad4, cap4, rfl, hm4, hc4⟩ := hv4
          have HV4 := Lib.hid (show SlT w4 (.slice ad4 (mvT L us m).length cap4) (mvT L us m) from ⟨ad4, cap4, rfl, hm4, hc4⟩)
          clear hc4
          go_wp2
          go_roundw
          case rel => exact ⟨k + 1, mvT L us m, ad4, cap4, by omega, by go_num, rfl, HV4.out, HG2.out.1, HG2.out.2.1, HR2.out, hb.trans (hb4.mono hb.size)⟩
          case measure => simp [intOf]; omega
      · have hRe : R = ((ms.length : Int), if wayL (pos us) (tos us) = [] then 0 else 22) := by
          have hkk : k = ms.length := by omega
          rw [hRk, List.drop_eq_nil_of_le (by omega), ← htu, hkk]; rfl
        have hw1 : (∀ j, j < us.length → tAt us j = tTo us j) → R = ((ms.length : Int), 0) := fun h => by rw [hRe, if_pos ((way_nil h5).2 h)]
        have hw2 : ∀ j, j < us.length → tAt us j ≠ tTo us j → R = ((ms.length : Int), 22) := fun j hj h => by rw [hRe, if_neg (fun h2 => h ((way_nil h5).1 h2 j hj))]
        obtain ⟨_, _, hv9, hmu, hcu⟩ := hu
        cases hv9
        have HCU := Lib.hid hcu
        have HW1 := Lib.hid hw1
        have HW2 := Lib.hid hw2
        clear hRe hw1 hw2 heu htu hRk hcu
        go_wp2
        generalize wr = W1 at *
        go_loopw [13] (fun i wr => ∃ j : Nat, j ≤ us.length ∧ i = .int .i64 j ∧ Below W1.heap.size W1 wr ∧ ∀ q, q < j → tAt us q = tTo us q) (fun i _ => us.length - (intOf i).toNat)
        case atStart => exact ⟨0, Nat.zero_le _, rfl, Below.refl _ _, fun _ h => by omega⟩
        case round =>
          obtain ⟨j, hj, rfl, hb1, hno⟩ := hrel
          have HNO := Lib.hid hno
          clear hno
          by_cases hjn : j < us.length
          · obtain ⟨b, off, rfl, hlb, hcell⟩ := HCU.out (by omega)
            have h1 := (hb1.cell (p := ⟨b, off + j * 2, none⟩) hlb).trans (hcell j hjn).1
            have h2 := (hb1.cell (p := ⟨b, off + j * 2 + 1, none⟩) hlb).trans (hcell j hjn).2
            have HW2j := Lib.hid (HW2.out j hjn)
            have HNX := Lib.hid (fun (h : tAt us j = tTo us j) (q : Nat) (hq : q < j + 1) => show tAt us q = tTo us q by rcases (show q < j ∨ q = j by omega) with h3 | rfl; exact HNO.out q h3; exact h)
            generalize tAt us j = p1 at *
            generalize tTo us j = p2 at *
            clear hcell
            by_cases hq : p1 = p2
            · have e1 : (p1 != p2) = false := by simp [hq]
              have HNX := Lib.hid (HNX.out hq)
              clear hq
              go_wp2
              go_quiet (fail)
              go_wp2
              go_roundw
              case rel => exact ⟨j + 1, by omega, by go_num, below_drewN hb1 _, HNX.out⟩
              case measure => simp [intOf]; omega
            · have e1 : (p1 != p2) = true := bne_iff_ne.2 hq
              have HR3 := Lib.hid (HW2j.out hq)
              clear hq
              go_wp2
              go_quiet (fail)
              go_wp2
              go_ret2
              exact ⟨by rw [HR3.out]; rfl, hb.trans ((below_drewN hb1 _).mono hb.size)⟩
          · have hR3 := HW1.out (fun q hq => HNO.out q (by omega))
            have HR3 := Lib.hid hR3
            clear hR3
            go_wp2
            go_ret2
            exact ⟨by rw [HR3.out]; rfl, hb.trans (hb1.mono hb.size)⟩
  · have hE : verE L ts ms = (0, lineE L ts) := by unfold verE; rw [if_neg he]
    have hne : (lineE L ts != 0) = true := bne_iff_ne.2 he
    have HE := Lib.hid hE
    clear hE
    go_enter Try.func21, Try.ntmps21
    go_wp2_with fail
    refine h46.mono ?_
    rintro e w2 ⟨rfl, hb2⟩
    go_wp2
    go_ret2
    exact ⟨by rw [HE.out]; rfl, hb2⟩
end Yteijenefhoconaa
end Go.Proofs
