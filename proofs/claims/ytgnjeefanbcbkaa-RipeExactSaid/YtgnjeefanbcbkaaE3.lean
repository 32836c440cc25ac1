/- Fields, outright, plainly: a field that is known better; turned around; with other numbers. -/
import Derived.Test.YtgnjeefanbcbkaaE2
open Go Go.RowKit Go.YtgnjeefanbcbkaaIt
namespace Go.Proofs
namespace Ytgnjeefanbcbkaa
theorem TruQ.wider {L H L' H' : Nat → Int} {n : Nat} {T : Nat → Rat} (h : TruQ L' H' n T) (hL : ∀ w, w < n → L w ≤ L' w) (hH : ∀ w, w < n → H' w ≤ H w) : TruQ L H n T :=
  ⟨h.conc, fun w hw => Rat.le_trans (cast_le.2 (hL w hw)) (h.low w hw), fun w hw => Rat.le_trans (h.high w hw) (cast_le.2 (hH w hw))⟩
/-- What is narrower. -/
structure Narrow (L H L' H' : Nat → Int) (n : Nat) : Prop where
  lo : ∀ w, w < n → (lowerF L n w).floor ≤ (lowerF L' n w).floor
  hi : ∀ w, w < n → (upperF L' H' n w).ceil ≤ (upperF L H n w).ceil
  reg : ∀ w, w < n → (regF L' H' n w).ceil ≤ (regF L H n w).ceil
  peak : ∀ w, w < n → peakP L' H' n w = true → peakP L H n w = true
theorem narrow {L H L' H' : Nat → Int} {n : Nat} (h0 : noB L' H' n = true) (hL : ∀ w, w < n → L w ≤ L' w) (hH : ∀ w, w < n → H' w ≤ H w) : Narrow L H L' H' n := by
  have wd : ∀ {T : Nat → Rat}, TruQ L' H' n T → TruQ L H n T := fun h => h.wider hL hH
  have n0 : noB L H n = true := tru_noB (wd (low_tru h0))
  refine ⟨fun w hw => floor_mono (lower_pos _ _ _) (lower_pos _ _ _) (tru_lower (wd (low_tru h0)) hw), fun w hw => ?_, fun w hw => ?_, fun w hw hp => ?_⟩
  · obtain ⟨T, hT, e⟩ := upper_att h0 hw
    exact ceil_mono (upper_pos _ _ _ _) (upper_pos _ _ _ _) (e ▸ tru_upper (wd hT) hw)
  · obtain ⟨T, k, hk, hT, e⟩ := reg_att h0 hw
    exact ceil_mono (regF_pos hw) (regF_pos hw) (e ▸ tru_reg (wd hT) hw hk)
  · obtain ⟨T, hT, hm⟩ := (peak_spec h0 hw).1 hp
    exact (peak_spec n0 hw).2 ⟨T, wd hT, hm⟩
theorem lowAt_mono {g : Smp → Smp} (hg : ∀ s, (g s).week = s.week ∧ (g s).val = s.val ∧ (g s).off ≤ s.off) (w : Nat) : ∀ {ss : List Smp} {a b : Int}, a ≤ b → lowAt a ss w ≤ lowAt b (ss.map g) w
  | [], _, _, h => h
  | s :: ss, a, b, h => by
    show lowAt (if s.week = (w : Int) then max a (s.val - s.off) else a) ss w ≤ lowAt (if (g s).week = (w : Int) then max b ((g s).val - (g s).off) else b) (ss.map g) w
    obtain ⟨h1, h2, h3⟩ := hg s
    refine lowAt_mono hg w ?_
    rw [h1]
    split <;> omega
theorem highAt_mono {g : Smp → Smp} (hg : ∀ s, (g s).week = s.week ∧ (g s).val = s.val ∧ (g s).off ≤ s.off) (w : Nat) : ∀ {ss : List Smp} {a b : Int}, b ≤ a → highAt b (ss.map g) w ≤ highAt a ss w
  | [], _, _, h => h
  | s :: ss, a, b, h => by
    show highAt (if (g s).week = (w : Int) then min b ((g s).val + (g s).off) else b) (ss.map g) w ≤ highAt (if s.week = (w : Int) then min a (s.val + s.off) else a) ss w
    obtain ⟨h1, h2, h3⟩ := hg s
    refine highAt_mono hg w ?_
    rw [h1]
    split <;> omega
/-- Equal answers, with numbers multiplied by t and c added, and weeks by m. -/
structure Same (L H L' H' : Nat → Int) (n : Nat) (m : Nat → Nat) (t c : Rat) : Prop where
  lo : ∀ w, w < n → (lowerF L' n (m w)).v = t * (lowerF L n w).v + c
  hi : ∀ w, w < n → (upperF L' H' n (m w)).v = t * (upperF L H n w).v + c
  reg : ∀ w, w < n → (regF L' H' n (m w)).v = t * (regF L H n w).v
  peak : ∀ w, w < n → peakP L' H' n (m w) = peakP L H n w
theorem rmul_le {t a b : Rat} (ht : 0 < t) : a ≤ b ↔ t * a ≤ t * b := by
  rw [le_mul ht, Rat.mul_comm a, Rat.mul_comm b]
theorem same {L H L' H' : Nat → Int} {n : Nat} {m : Nat → Nat} {t c : Rat} (ht : 0 < t) (h0 : noB L H n = true) (h0' : noB L' H' n = true) (hm : ∀ w, w < n → m w < n ∧ m (m w) = w)
    (go : ∀ T, TruQ L H n T → TruQ L' H' n (fun w => t * T (m w) + c)) (back : ∀ T', TruQ L' H' n T' → ∃ T, TruQ L H n T ∧ ∀ w, w < n → T' (m w) = t * T w + c) : Same L H L' H' n m t c := by
  refine ⟨fun w hw => ?_, fun w hw => ?_, fun w hw => ?_, fun w hw => ?_⟩
  · have h1 := tru_lower (go _ (low_tru h0)) (hm w hw).1
    simp only [(hm w hw).2] at h1
    obtain ⟨T, hT, e⟩ := back _ (low_tru h0')
    have h2 := tru_lower hT hw
    have h3 := e w hw
    have h4 := (rmul_le ht).1 h2
    grind
  · obtain ⟨T, hT, e⟩ := upper_att h0 hw
    have h1 := tru_upper (go _ hT) (hm w hw).1
    simp only [(hm w hw).2] at h1
    obtain ⟨T', hT', e'⟩ := upper_att h0' (hm w hw).1
    obtain ⟨T2, hT2, e2⟩ := back _ hT'
    have h2 := tru_upper hT2 hw
    have h3 := e2 w hw
    have h4 := (rmul_le ht).1 h2
    grind
  · obtain ⟨T, k, hk, hT, e⟩ := reg_att h0 hw
    have h1 := tru_reg (go _ hT) (hm w hw).1 (hm k hk).1
    simp only [(hm w hw).2, (hm k hk).2] at h1
    obtain ⟨T', k', hk', hT', e'⟩ := reg_att h0' (hm w hw).1
    obtain ⟨T2, hT2, e2⟩ := back _ hT'
    have h2 := tru_reg hT2 hw (hm k' hk').1
    have h3 := e2 w hw
    have h5 := e2 (m k') (hm k' hk').1
    rw [(hm k' hk').2] at h5
    have h4 := (rmul_le ht).1 h2
    have e4 : t * (T2 (m k') - T2 w) = t * T2 (m k') - t * T2 w := by grind
    have e5 : t * (T k - T w) = t * T k - t * T w := by grind
    rw [e4] at h4
    rw [e] at e5
    refine Rat.le_antisymm ?_ ?_
    · rw [← e', h3, h5]; grind
    · rw [e5]; grind
  · rw [Bool.eq_iff_iff, peak_spec h0' (hm w hw).1, peak_spec h0 hw]
    constructor
    · rintro ⟨T', hT', hx⟩
      obtain ⟨T, hT, e⟩ := back _ hT'
      refine ⟨T, hT, fun k hk => ?_⟩
      have h1 := hx (m k) (hm k hk).1
      rw [e k hk, e w hw] at h1
      exact (rmul_le ht).2 (by grind)
    · rintro ⟨T, hT, hx⟩
      refine ⟨_, go T hT, fun k hk => ?_⟩
      have h1 := (rmul_le ht).1 (hx (m k) (hm k hk).1)
      simp only [(hm w hw).2]
      grind
/-- Turned around. -/
theorem turn_q {L H L' H' : Nat → Int} {n : Nat} (hL : ∀ w, w < n → L' w = L (n - 1 - w)) (hH : ∀ w, w < n → H' w = H (n - 1 - w)) {T : Nat → Rat} (h : TruQ L H n T) : TruQ L' H' n (fun w => T (n - 1 - w)) := by
  refine ⟨fun i j k a b c => ?_, fun w hw => by rw [hL w hw]; exact h.low _ (by omega), fun w hw => by rw [hH w hw]; exact h.high _ (by omega)⟩
  have := h.conc (n - 1 - k) (n - 1 - j) (n - 1 - i) (by omega) (by omega) (by omega)
  unfold T3 at *
  have e : ∀ x : Nat, x < n → (((n - 1 - x : Nat) : Int) : Rat) = (((n - 1 : Nat) : Int) : Rat) - ((x : Nat) : Int) := fun x hx => by
    rw [← cast_sub]; congr 1; omega
  rw [e i (by omega), e j (by omega), e k c] at this
  grind
theorem same_turn {L H L' H' : Nat → Int} {n : Nat} (h0 : noB L H n = true) (hL : ∀ w, w < n → L' w = L (n - 1 - w)) (hH : ∀ w, w < n → H' w = H (n - 1 - w)) : noB L' H' n = true ∧ Same L H L' H' n (fun w => n - 1 - w) 1 0 := by
  have h0' := tru_noB (turn_q hL hH (low_tru h0))
  refine ⟨h0', same (by decide) h0 h0' (fun w hw => ⟨by omega, by omega⟩) (fun T hT => ?_) (fun T' hT' => ⟨_, turn_q (fun w hw => ?_) (fun w hw => ?_) hT', fun w _ => by show T' (n - 1 - w) = 1 * T' (n - 1 - w) + 0; grind⟩)⟩
  · have := turn_q hL hH hT
    have e : (fun w => (1 : Rat) * T (n - 1 - w) + 0) = fun w => T (n - 1 - w) := by funext w; grind
    rw [e]; exact this
  · rw [hL _ (by omega)]; congr 1; omega
  · rw [hH _ (by omega)]; congr 1; omega
/-- With numbers multiplied by t and c added. -/
theorem far_q {L H L' H' : Nat → Int} {n : Nat} {t c : Int} (ht : 0 < t) (hL : ∀ w, w < n → L' w = t * L w + c) (hH : ∀ w, w < n → H' w = t * H w + c) {T : Nat → Rat} (h : TruQ L H n T) : TruQ L' H' n (fun w => (t : Rat) * T w + (c : Rat)) := by
  have ht' := cpos ht
  refine ⟨fun i j k a b d => ?_, fun w hw => ?_, fun w hw => ?_⟩
  · have := (rmul_le ht').1 (h.conc i j k a b d)
    unfold T3
    grind
  · rw [hL w hw, cast_add, cast_mul]
    have := (rmul_le ht').1 (h.low w hw)
    grind
  · rw [hH w hw, cast_add, cast_mul]
    have := (rmul_le ht').1 (h.high w hw)
    grind
theorem near_q {L H L' H' : Nat → Int} {n : Nat} {t c : Int} (ht : 0 < t) (hL : ∀ w, w < n → L' w = t * L w + c) (hH : ∀ w, w < n → H' w = t * H w + c) {T' : Nat → Rat} (h : TruQ L' H' n T') : ∃ T, TruQ L H n T ∧ ∀ w, w < n → T' w = (t : Rat) * T w + (c : Rat) := by
  have ht' := cpos ht
  have ex : ∀ w : Nat, ∃ r : Rat, r * (t : Rat) = T' w - (c : Rat) := fun w => rdiv (by grind)
  obtain ⟨f, hf⟩ : ∃ f : Nat → Rat, ∀ w, f w * (t : Rat) = T' w - (c : Rat) := ⟨fun q => (ex q).choose, fun q => (ex q).choose_spec⟩
  have e : ∀ w, T' w = (t : Rat) * f w + (c : Rat) := fun w => by have := hf w; grind
  refine ⟨f, ⟨fun i j k a b d => ?_, fun w hw => ?_, fun w hw => ?_⟩, fun w _ => e w⟩
  · have := h.conc i j k a b d
    unfold T3 at *
    rw [e i, e j, e k] at this
    refine (rmul_le ht').2 ?_
    grind
  · have := h.low w hw
    rw [hL w hw, e w, cast_add, cast_mul] at this
    exact (rmul_le ht').2 (by grind)
  · have := h.high w hw
    rw [hH w hw, e w, cast_add, cast_mul] at this
    exact (rmul_le ht').2 (by grind)
theorem same_far {L H L' H' : Nat → Int} {n : Nat} {t c : Int} (ht : 0 < t) (h0 : noB L H n = true) (hL : ∀ w, w < n → L' w = t * L w + c) (hH : ∀ w, w < n → H' w = t * H w + c) : noB L' H' n = true ∧ Same L H L' H' n (fun w => w) t c := by
  have h0' := tru_noB (far_q ht hL hH (low_tru h0))
  exact ⟨h0', same (cpos ht) h0 h0' (fun w hw => ⟨hw, rfl⟩) (fun T hT => far_q ht hL hH hT) (fun T' hT' => near_q ht hL hH hT')⟩
end Ytgnjeefanbcbkaa
end Go.Proofs
