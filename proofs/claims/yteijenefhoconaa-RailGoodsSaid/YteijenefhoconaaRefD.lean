/- The reference: Check. -/
import Derived.Test.YteijenefhoconaaRefC
open Go Go.RowKit Go.YteijenefhoconaaIt
namespace Go.Proofs
namespace Yteijenefhoconaa
theorem pos_at {ts : List Tn} (h5 : ts.length ≤ 5) {i : Nat} (hi : i < ts.length) : at0 (pos ts) i = tAt ts i := by
  unfold pos
  rw [posK_at (by omega), if_pos hi]
theorem inT_cnt {ts : List Tn} (h5 : ts.length ≤ 5) (s : Int) : inT ts s = cnt (pos ts) (tos ts) s := by
  unfold inT cnt wayL
  rw [List.filter_filter, tos_len]
  congr 1
  refine List.filter_congr (fun i hi => ?_)
  have hi' : i < ts.length := by simpa using hi
  unfold isIn onw
  rw [pos_at h5 hi', tos_at hi']
set_option maxRecDepth 100000 in
set_option maxHeartbeats 4000000 in
theorem check46_any (vL vt : Value) (L : List Int) (ts : List Tn) (w : World) (hL : SlI w vL L) (ht : SlT w vt ts) :
    Calls Try.prog 46 #[vL, vt] w fun e w' => e = .returned (.int .i64 (lineE L ts)) ∧ Below w.heap.size w w' := by
  have hL0 := hL
  have ht0 := ht
  obtain ⟨adL, capL, rfl, hmL, hcL⟩ := hL
  obtain ⟨ad, cap, rfl, hm, hc⟩ := ht
  have HCL := Lib.hid hcL
  have HC := Lib.hid hc
  clear hcL hc
  by_cases hz : L.length = 0
  · have hE := lineE4 (L := L) (ts := ts) hz
    have hzb : ((L.length : Int) == 0) = true := by simp [hz]
    have HE := Lib.hid hE
    clear hz hE
    go_enter Try.func46, Try.ntmps46
    go_wp2
    go_ret
    exact ⟨by rw [HE.out]; rfl, Below.refl _ _⟩
  have hzb : ((L.length : Int) == 0) = false := beq_eq_false_iff_ne.2 (by omega)
  by_cases h8 : 8 < L.length
  · have hE := lineE1 (L := L) (ts := ts) h8
    have HE := Lib.hid hE
    clear hz hE
    go_enter Try.func46, Try.ntmps46
    go_wp2
    go_ret
    exact ⟨by rw [HE.out]; rfl, Below.refl _ _⟩
  obtain ⟨n, hn⟩ : ∃ n, n = L.length := ⟨_, rfl⟩
  rw [← hn] at hmL hz hzb h8 HCL ⊢
  have HN := Lib.hid hn
  clear hn
  obtain ⟨m, hm2⟩ : ∃ m, m = ts.length := ⟨_, rfl⟩
  rw [← hm2] at hm HC ⊢
  have HM := Lib.hid hm2
  clear hm2
  have hroomt := Lib.hid (fun (h : true = roomOut L) => lineE2 (L := L) (ts := ts) (by have := HN.out; omega) (by have := HN.out; omega) h)
  go_enter Try.func46, Try.ntmps46
  go_wp2
  go_loopw [5] (fun i wr => ∃ k : Nat, k ≤ n ∧ i = .int .i64 k ∧ Below w.heap.size w wr ∧ ∀ j, j < k → btw 1 (at0 L j) 5 = true) (fun i _ => n - (intOf i).toNat)
  case atStart => exact ⟨0, Nat.zero_le _, rfl, Below.refl _ _, fun _ h => by omega⟩
  case round =>
    obtain ⟨k, hk, rfl, hb, hno⟩ := hrel
    have HNO := Lib.hid hno
    clear hno
    by_cases hkn : k < n
    · obtain ⟨b, off, rfl, hlt, hcell⟩ := HCL.out (by omega)
      have h1 := (hb.cell (p := ⟨b, off + k, none⟩) hlt).trans (hcell k hkn)
      have his := is_any 1 (at0 L k) 5
      obtain ⟨bb, hbb⟩ : ∃ bb, bb = btw 1 (at0 L k) 5 := ⟨_, rfl⟩
      rw [← hbb] at his
      have HBB := Lib.hid hbb
      clear hbb hcell
      cases bb
      · have hE : lineE L ts = 2 := hroomt.out (by
          symm
          unfold roomOut
          rw [List.any_eq_true]
          have hkl : k < L.length := by have := HN.out; omega
          refine ⟨L[k], List.getElem_mem hkl, ?_⟩
          rw [← at0_lt hkl, ← HBB.out]; rfl)
        have HE := Lib.hid hE
        clear hE
        go_wp2_with (go_at_call 61; refine (his _).mono ?_; rintro e w' ⟨rfl, rfl⟩)
        go_ret
        exact ⟨by rw [HE.out]; rfl, hb⟩
      · go_wp2_with (go_at_call 61; refine (his _).mono ?_; rintro e w' ⟨rfl, rfl⟩)
        go_roundw
        case rel => exact ⟨k + 1, by omega, by go_num, hb, fun j hj => by rcases (show j < k ∨ j = k by omega) with h | rfl; exact HNO.out j h; exact HBB.out.symm⟩
        case measure => simp [intOf]; omega
    · have hro : false = roomOut L := by
        symm
        unfold roomOut
        rw [List.any_eq_false]
        intro x hx
        obtain ⟨j, hj, rfl⟩ := List.getElem_of_mem hx
        have := HNO.out j (by have := HN.out; omega)
        rw [at0_lt hj] at this
        simp [this]
      have HRO := Lib.hid hro
      clear hro
      have hk0 : k ≤ n := hk
      clear HNO
      by_cases h5 : 5 < m
      · have hE : lineE L ts = 1 := lineE5 (by have := HN.out; omega) (by have := HN.out; omega) HRO.out (by have := HM.out; omega)
        have HE := Lib.hid hE
        clear hE
        go_wp2
        go_ret
        exact ⟨by rw [HE.out]; rfl, hb⟩
      have htrt := Lib.hid (fun (h : true = trainOut L ts) => lineE17 (L := L) (ts := ts) (by have := HN.out; omega) (by have := HN.out; omega) HRO.out (by have := HM.out; omega) h)
      have hlast := Lib.hid (fun (h : false = trainOut L ts) => lineEt (L := L) (ts := ts) (by have := HN.out; omega) (by have := HN.out; omega) HRO.out (by have := HM.out; omega) h)
      go_wp2
      generalize wr = W1 at *
      go_loopw [6] (fun i wr => ∃ k : Nat, k ≤ m ∧ i = .int .i64 k ∧ Below w.heap.size w wr ∧ ∀ j, j < k → (btw 0 (tAt ts j) ((n : Int) - 1) = true ∧ btw 0 (tTo ts j) ((n : Int) - 1) = true)) (fun i _ => m - (intOf i).toNat)
      case atStart => exact ⟨0, Nat.zero_le _, rfl, hb, fun _ h => by omega⟩
      case round =>
        clear hb
        obtain ⟨k, hk, rfl, hb, hno⟩ := hrel
        have HNO := Lib.hid hno
        clear hno
        by_cases hkm : k < m
        · obtain ⟨b, off, rfl, hlt, hcell⟩ := HC.out (by omega)
          have h1 := (hb.cell (p := ⟨b, off + k * 2, none⟩) hlt).trans (hcell k hkm).1
          have h2 := (hb.cell (p := ⟨b, off + k * 2 + 1, none⟩) hlt).trans (hcell k hkm).2
          have his1 := is_any 0 (tAt ts k) ((n : Int) - 1)
          have his2 := is_any 0 (tTo ts k) ((n : Int) - 1)
          obtain ⟨b1, hb1⟩ : ∃ bb, bb = btw 0 (tAt ts k) ((n : Int) - 1) := ⟨_, rfl⟩
          obtain ⟨b2, hb2⟩ : ∃ bb, bb = btw 0 (tTo ts k) ((n : Int) - 1) := ⟨_, rfl⟩
          rw [← hb1] at his1
          rw [← hb2] at his2
          have HB1 := Lib.hid hb1
          have HB2 := Lib.hid hb2
          have hout : (b1 = false ∨ b2 = false) → lineE L ts = 17 := fun h => htrt.out (by
            symm
            unfold trainOut
            rw [List.any_eq_true]
            have hkl : k < ts.length := by have := HM.out; omega
            refine ⟨ts[k], List.getElem_mem hkl, ?_⟩
            rw [← tAt_lt hkl, ← tTo_lt hkl, ← HN.out, ← HB1.out, ← HB2.out]
            rcases h with rfl | rfl <;> simp)
          have hnext : b1 = true → b2 = true → ∀ j, j < k + 1 → (btw 0 (tAt ts j) ((n : Int) - 1) = true ∧ btw 0 (tTo ts j) ((n : Int) - 1) = true) := fun e1 e2 j hj => by
            rcases (show j < k ∨ j = k by omega) with h | rfl
            · exact HNO.out j h
            · exact ⟨HB1.out.symm.trans e1, HB2.out.symm.trans e2⟩
          have HNX0 := Lib.hid hnext
          clear hnext
          have HO := Lib.hid hout
          clear hb1 hb2 hcell hout
          generalize tAt ts k = p1 at *
          generalize tTo ts k = p2 at *
          cases b1
          · have HE := Lib.hid (HO.out (.inl rfl))
            go_wp2_with fail
            refine (his1 _).mono ?_
            rintro e w' ⟨rfl, rfl⟩
            go_wp2
            go_ret
            exact ⟨by rw [HE.out]; rfl, hb⟩
          · cases b2
            · have HE := Lib.hid (HO.out (.inr rfl))
              go_wp2_with fail
              refine (his1 _).mono ?_
              rintro e w' ⟨rfl, rfl⟩
              go_wp2_with fail
              refine (his2 _).mono ?_
              rintro e w' ⟨rfl, rfl⟩
              go_wp2
              go_ret
              exact ⟨by rw [HE.out]; rfl, hb⟩
            · have HNX := Lib.hid (HNX0.out rfl rfl)
              go_wp2_with fail
              refine (his1 _).mono ?_
              rintro e w' ⟨rfl, rfl⟩
              go_wp2_with fail
              refine (his2 _).mono ?_
              rintro e w' ⟨rfl, rfl⟩
              go_wp2
              go_roundw
              case rel => exact ⟨k + 1, by omega, by go_num, hb, HNX.out⟩
              case measure => simp [intOf]; omega
        · have hto : false = trainOut L ts := by
            symm
            unfold trainOut
            rw [List.any_eq_false]
            intro x hx
            obtain ⟨j, hj, rfl⟩ := List.getElem_of_mem hx
            have := HNO.out j (by have := HM.out; omega)
            rw [tAt_lt hj, tTo_lt hj, HN.out] at this
            simp [this.1, this.2]
          have hE := hlast.out hto
          have HE := Lib.hid hE
          clear hE hto HNO
          go_wp2
          generalize wr = W2 at *
          go_loopw [7] (fun i wr => ∃ k : Nat, k ≤ n ∧ i = .int .i64 k ∧ Below w.heap.size w wr ∧ ∀ s : Nat, s < k → (inT ts s : Int) ≤ at0 L s) (fun i _ => n - (intOf i).toNat)
          case atStart => exact ⟨0, Nat.zero_le _, rfl, hb, fun _ h => by omega⟩
          case round =>
            clear hb
            obtain ⟨k, hk, rfl, hb, hno⟩ := hrel
            have HNO := Lib.hid hno
            clear hno
            by_cases hkn : k < n
            · obtain ⟨b, off, rfl, hlt, hcell⟩ := HCL.out (by omega)
              have h1 := (hb.cell (p := ⟨b, off + k, none⟩) hlt).trans (hcell k hkn)
              have hbs := hb.size
              go_wp2
              refine wp_region_ab w.heap.size w (by kernel_rfl) (by kernel_rfl) hb ?_
              unfold AbC
              have g5 := fun (x : Ab w.heap.size w) => (x.ok.cell (p := ⟨b, off + k, none⟩) hlt).trans (hcell k hkn)
              have hcnt := fun (x : Ab w.heap.size w) => in_any _ ts (k : Int) x.val (ht0.below x.ok (Nat.le_refl _))
              rw [← HM.out] at hcnt
              clear h1 hcell
              repeat go_big_quiet_step (first | (go_at_call 63; exact Calls.ab _ (Nat.le_refl _) (hcnt _)))
              refine wpQuiet_nil ?_
              rintro W' ⟨x, rfl⟩
              have hB := x.ok
              generalize x.val = w6 at *
              clear hcnt g5 hb
              by_cases hov : at0 L k < inT ts k
              · have h15 : lineE L ts = 15 := by
                  rw [HE.out, if_pos]
                  refine List.any_eq_true.2 ⟨k, List.mem_range.2 (by have := HN.out; omega), ?_⟩
                  rw [← inT_cnt (by have := HM.out; omega)]
                  simpa using hov
                have HE5 := Lib.hid h15
                clear h15
                go_wp2
                go_ret
                exact ⟨by rw [HE5.out]; rfl, hB⟩
              · go_wp2
                go_roundw
                case rel => exact ⟨k + 1, by omega, by go_num, hB, fun s hs => by rcases (show s < k ∨ s = k by omega) with h | rfl; exact HNO.out s h; omega⟩
                case measure => simp [intOf]; omega
            · have hE0 : lineE L ts = 0 := by
                rw [HE.out, if_neg]
                simp only [overFull, List.any_eq_true, List.mem_range, decide_eq_true_eq, not_exists, not_and]
                intro s hs
                have := HNO.out s (by have := HN.out; omega)
                rw [← inT_cnt (by have := HM.out; omega)]
                omega
              have HE0 := Lib.hid hE0
              clear hE0
              go_wp2
              go_ret
              exact ⟨by rw [HE0.out]; rfl, hb⟩
end Yteijenefhoconaa
end Go.Proofs
