/- The laws' comparisons of lists. -/
import Derived.Test.YteijenefhoconaaDisp
import Derived.Laws.StructEq
open Go Go.RowKit Go.YteijenefhoconaaIt
namespace Go.Proofs
namespace Yteijenefhoconaa
set_option maxRecDepth 100000 in
theorem numbers_any (v u : Value) (xs ys : List Int) (w : World) (hx : SlI w v xs) (hy : SlI w u ys) :
    Calls Try.prog 27 #[v, u] w fun e w' => e = .returned (.bool (decide (xs = ys))) ∧ Below w.heap.size w w' := by
  obtain ⟨ad, cap, rfl, hm, hc⟩ := hx
  obtain ⟨ad', cap', rfl, hm', hc'⟩ := hy
  obtain ⟨n, hn⟩ : ∃ n, n = xs.length := ⟨_, rfl⟩
  by_cases hl : xs.length = ys.length
  · rw [← hl] at hc' ⊢
    rw [← hn] at hm hc hc' ⊢
    have H := Lib.hid (And.intro hl hn)
    clear hl hn hm'
    go_enter Try.func27, Try.ntmps27
    go_wp2
    go_loopw [5] (fun i wr => ∃ k : Nat, k ≤ n ∧ i = .int .i64 k ∧ (∀ j, j < k → at0 xs j = at0 ys j) ∧ Below w.heap.size w wr) (fun i _ => n - (intOf i).toNat)
    case atStart => exact ⟨0, Nat.zero_le _, rfl, fun _ h => by omega, Below.refl _ _⟩
    case round =>
      obtain ⟨k, hk, rfl, heq, hb⟩ := hrel
      by_cases hkn : k < n
      · obtain ⟨b, off, rfl, hlt, hcell⟩ := hc (by omega)
        obtain ⟨b', off', rfl, hlt', hcell'⟩ := hc' (by omega)
        have h1 := (hb.cell (p := ⟨b, off + k, none⟩) hlt).trans (hcell k hkn)
        have h2 := (hb.cell (p := ⟨b', off' + k, none⟩) hlt').trans (hcell' k hkn)
        have HE := Lib.hid heq
        clear heq hcell hcell' hc hc'
        by_cases he : at0 xs k = at0 ys k
        · go_wp2
          go_quiet (fail)
          go_wp2
          go_roundw
          case rel => exact ⟨k + 1, by omega, by go_num, fun j hj => by rcases (show j < k ∨ j = k by omega) with h | rfl; exact HE.out j h; exact he, below_drewN hb _⟩
          case measure => simp [intOf]; omega
        · have hf : decide (xs = ys) = false := by simp; rintro rfl; exact he rfl
          have hne : (at0 xs k != at0 ys k) = true := by rw [bne_iff_ne]; exact he
          have HF := Lib.hid hf
          clear hf
          go_wp2
          go_quiet (fail)
          go_wp2
          go_ret
          exact ⟨by rw [HF.out]; rfl, below_drewN hb _⟩
      · have hf : decide (xs = ys) = true := by simp; exact eq_of_at0 H.out.1 (fun i hi => heq i (by have := H.out.2; omega))
        have HF := Lib.hid hf
        have HE := Lib.hid heq
        clear hf heq
        go_wp2
        go_ret
        exact ⟨by rw [HF.out]; rfl, hb⟩
  · have hf : decide (xs = ys) = false := by simp; rintro rfl; exact hl rfl
    have hb : ((xs.length : Int) != ys.length) = true := by rw [bne_iff_ne]; omega
    have HF := Lib.hid hf
    clear hf hl
    go_enter Try.func27, Try.ntmps27
    go_wp2
    go_ret
    exact ⟨by rw [HF.out]; rfl, Below.refl _ _⟩

/-- An element of a list of bools. -/
def bt (xs : List Bool) (i : Nat) : Bool := xs.getD i false
theorem eq_of_bt : ∀ {xs ys : List Bool}, xs.length = ys.length → (∀ i, i < xs.length → bt xs i = bt ys i) → xs = ys := by
  intro xs ys hl h
  apply List.ext_getElem hl
  intro i h1 h2
  have := h i h1
  simpa [bt, h1, h2] using this
set_option maxRecDepth 100000 in
theorem yeses_any (v u : Value) (xs ys : List Bool) (w : World) (hx : SlB w v xs) (hy : SlB w u ys) :
    Calls Try.prog 28 #[v, u] w fun e w' => e = .returned (.bool (decide (xs = ys))) ∧ Below w.heap.size w w' := by
  obtain ⟨ad, cap, rfl, hm, hc⟩ := hx
  obtain ⟨ad', cap', rfl, hm', hc'⟩ := hy
  obtain ⟨n, hn⟩ : ∃ n, n = xs.length := ⟨_, rfl⟩
  by_cases hl : xs.length = ys.length
  · rw [← hl] at hc' ⊢
    rw [← hn] at hm hc hc' ⊢
    have H := Lib.hid (And.intro hl hn)
    clear hl hn hm'
    go_enter Try.func28, Try.ntmps28
    go_wp2
    go_loopw [5] (fun i wr => ∃ k : Nat, k ≤ n ∧ i = .int .i64 k ∧ (∀ j, j < k → bt xs j = bt ys j) ∧ Below w.heap.size w wr) (fun i _ => n - (intOf i).toNat)
    case atStart => exact ⟨0, Nat.zero_le _, rfl, fun _ h => by omega, Below.refl _ _⟩
    case round =>
      obtain ⟨k, hk, rfl, heq, hb⟩ := hrel
      by_cases hkn : k < n
      · obtain ⟨b, off, rfl, hlt, hcell⟩ := hc (by omega)
        obtain ⟨b', off', rfl, hlt', hcell'⟩ := hc' (by omega)
        have h1 := (hb.cell (p := ⟨b, off + k, none⟩) hlt).trans (hcell k hkn)
        have h2 := (hb.cell (p := ⟨b', off' + k, none⟩) hlt').trans (hcell' k hkn)
        have HE := Lib.hid heq
        clear heq hcell hcell' hc hc'
        obtain ⟨p, hp⟩ : ∃ p, p = bt xs k := ⟨_, rfl⟩
        obtain ⟨q, hq⟩ : ∃ q, q = bt ys k := ⟨_, rfl⟩
        change _ = some (Value.bool (bt xs k)) at h1
        change _ = some (Value.bool (bt ys k)) at h2
        rw [← hp] at h1
        rw [← hq] at h2
        have HP := Lib.hid hp
        have HQ := Lib.hid hq
        clear hp hq
        have hsame : p = q → ∀ j, j < k + 1 → bt xs j = bt ys j := fun e j hj => by rcases (show j < k ∨ j = k by omega) with h | rfl; exact HE.out j h; rw [← HP.out, ← HQ.out, e]
        have hdiff : p ≠ q → decide (xs = ys) = false := fun e => by simp; rintro rfl; exact e (HP.out.trans HQ.out.symm)
        have HS := Lib.hid hsame
        have HD := Lib.hid hdiff
        clear hsame hdiff
        cases p <;> cases q
        all_goals
          go_wp2
          go_quiet (fail)
          go_wp2
        · go_roundw
          case rel => exact ⟨k + 1, by omega, by go_num, HS.out (by simp), below_drewN hb _⟩
          case measure => simp [intOf]; omega
        · go_ret
          exact ⟨by rw [HD.out (by decide)]; rfl, below_drewN hb _⟩
        · go_ret
          exact ⟨by rw [HD.out (by decide)]; rfl, below_drewN hb _⟩
        · go_roundw
          case rel => exact ⟨k + 1, by omega, by go_num, HS.out (by simp), below_drewN hb _⟩
          case measure => simp [intOf]; omega
      · have hf : decide (xs = ys) = true := by simp; exact eq_of_bt H.out.1 (fun i hi => heq i (by have := H.out.2; omega))
        have HF := Lib.hid hf
        have HE := Lib.hid heq
        clear hf heq
        go_wp2
        go_ret
        exact ⟨by rw [HF.out]; rfl, hb⟩
  · have hf : decide (xs = ys) = false := by simp; rintro rfl; exact hl rfl
    have hb : ((xs.length : Int) != ys.length) = true := by rw [bne_iff_ne]; omega
    have HF := Lib.hid hf
    clear hf hl
    go_enter Try.func28, Try.ntmps28
    go_wp2
    go_ret
    exact ⟨by rw [HF.out]; rfl, Below.refl _ _⟩

theorem neq69 (a1 a2 b1 b2 : Int) (W : World) : (binOp .neq 69 (.agg #[.int .i64 a1, .int .i64 a2]) (.agg #[.int .i64 b1, .int .i64 b2])).run Try.prog W = .ok (.bool (!decide (a1 = b1 ∧ a2 = b2))) W := by
  rw [run_neq_struct, run_equalIn_agg W 9999 69 _ _ (by kernel_rfl) (by kernel_rfl)]
  simp [Program.fieldsOf, Try.underlying69, Op.eqFields, go_sem]
  by_cases h1 : a1 = b1 <;> by_cases h2 : a2 = b2 <;> simp [h1, h2]
theorem eq_of_tn : ∀ {xs ys : List Tn}, xs.length = ys.length → (∀ i, i < xs.length → tAt xs i = tAt ys i ∧ tTo xs i = tTo ys i) → xs = ys := by
  intro xs ys hl h
  apply List.ext_getElem hl
  intro i h1 h2
  have := h i h1
  rw [tAt_lt h1, tAt_lt h2, tTo_lt h1, tTo_lt h2] at this
  exact Prod.ext this.1 this.2
set_option maxRecDepth 100000 in
set_option maxHeartbeats 1000000 in
theorem trains36_any (v u : Value) (xs ys : List Tn) (w : World) (hx : SlT w v xs) (hy : SlT w u ys) :
    Calls Try.prog 36 #[v, u] w fun e w' => e = .returned (.bool (decide (xs = ys))) ∧ Below w.heap.size w w' := by
  obtain ⟨ad, cap, rfl, hm, hc⟩ := hx
  obtain ⟨ad', cap', rfl, hm', hc'⟩ := hy
  obtain ⟨n, hn⟩ : ∃ n, n = xs.length := ⟨_, rfl⟩
  by_cases hl : xs.length = ys.length
  · rw [← hl] at hc' ⊢
    rw [← hn] at hm hc hc' ⊢
    have H := Lib.hid (And.intro hl hn)
    clear hl hn hm'
    go_enter Try.func36, Try.ntmps36
    go_wp2
    go_loopw [5] (fun i wr => ∃ k : Nat, k ≤ n ∧ i = .int .i64 k ∧ (∀ j, j < k → tAt xs j = tAt ys j ∧ tTo xs j = tTo ys j) ∧ Below w.heap.size w wr) (fun i _ => n - (intOf i).toNat)
    case atStart => exact ⟨0, Nat.zero_le _, rfl, fun _ h => by omega, Below.refl _ _⟩
    case round =>
      obtain ⟨k, hk, rfl, heq, hb⟩ := hrel
      by_cases hkn : k < n
      · obtain ⟨b, off, rfl, hlt, hcell⟩ := hc (by omega)
        obtain ⟨b', off', rfl, hlt', hcell'⟩ := hc' (by omega)
        have h1 := (hb.cell (p := ⟨b, off + k * 2, none⟩) hlt).trans (hcell k hkn).1
        have h2 := (hb.cell (p := ⟨b, off + k * 2 + 1, none⟩) hlt).trans (hcell k hkn).2
        have h3 := (hb.cell (p := ⟨b', off' + k * 2, none⟩) hlt').trans (hcell' k hkn).1
        have h4 := (hb.cell (p := ⟨b', off' + k * 2 + 1, none⟩) hlt').trans (hcell' k hkn).2
        have HE := Lib.hid heq
        clear heq hcell hcell' hc hc'
        have hsame : (tAt xs k = tAt ys k ∧ tTo xs k = tTo ys k) → ∀ j, j < k + 1 → tAt xs j = tAt ys j ∧ tTo xs j = tTo ys j := fun e j hj => by rcases (show j < k ∨ j = k by omega) with h | rfl; exact HE.out j h; exact e
        have hdiff : ¬ (tAt xs k = tAt ys k ∧ tTo xs k = tTo ys k) → decide (xs = ys) = false := fun e => by simp; rintro rfl; exact e ⟨rfl, rfl⟩
        have hneq := neq69 (tAt xs k) (tTo xs k) (tAt ys k) (tTo ys k)
        generalize tAt xs k = p1 at *
        generalize tTo xs k = p2 at *
        generalize tAt ys k = q1 at *
        generalize tTo ys k = q2 at *
        by_cases hq : p1 = q1 ∧ p2 = q2
        · have hn : (!decide (p1 = q1 ∧ p2 = q2)) = false := by simp [hq]
          rw [hn] at hneq
          have HS := Lib.hid (hsame hq)
          clear hsame hdiff hq hn
          go_wp2
          go_quiet (fail)
          go_wp2
          go_roundw
          case rel => exact ⟨k + 1, by omega, by go_num, HS.out, below_drewN hb _⟩
          case measure => simp [intOf]; omega
        · have hn : (!decide (p1 = q1 ∧ p2 = q2)) = true := by simp only [hq, decide_false, Bool.not_false]
          rw [hn] at hneq
          have HD := Lib.hid (hdiff hq)
          clear hsame hdiff hq hn
          go_wp2
          go_quiet (fail)
          go_wp2
          go_ret
          exact ⟨by rw [HD.out]; rfl, below_drewN hb _⟩
      · have hf : decide (xs = ys) = true := by simp; exact eq_of_tn H.out.1 (fun i hi => heq i (by have := H.out.2; omega))
        have HF := Lib.hid hf
        have HE := Lib.hid heq
        clear hf heq
        go_wp2
        go_ret
        exact ⟨by rw [HF.out]; rfl, hb⟩
  · have hf : decide (xs = ys) = false := by simp; rintro rfl; exact hl rfl
    have hb : ((xs.length : Int) != ys.length) = true := by rw [bne_iff_ne]; omega
    have HF := Lib.hid hf
    clear hf hl
    go_enter Try.func36, Try.ntmps36
    go_wp2
    go_ret
    exact ⟨by rw [HF.out]; rfl, Below.refl _ _⟩

end Yteijenefhoconaa
end Go.Proofs
