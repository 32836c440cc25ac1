/- Fields, outright, plainly: a field turned around, and one with other numbers. -/
import Derived.Test.YtgnjeefanbcbkaaE4
import Derived.Test.YtgnjeefanbcbkaaE6
open Go Go.RowKit Go.YtgnjeefanbcbkaaIt
namespace Go.Proofs
namespace Ytgnjeefanbcbkaa
def backS (n : Int) (s : Smp) : Smp := ⟨n - 1 - s.week, s.val, s.off⟩
def farS (t c : Int) (s : Smp) : Smp := ⟨s.week, t * s.val + c, t * s.off⟩
theorem lowAt_back {n w : Nat} (hw : w < n) : ∀ (ss : List Smp) (a : Int), lowAt a (ss.map (backS n)) w = lowAt a ss (n - 1 - w)
  | [], _ => rfl
  | s :: ss, a => by
    show lowAt (if (n : Int) - 1 - s.week = (w : Int) then max a (s.val - s.off) else a) (ss.map (backS n)) w = lowAt (if s.week = ((n - 1 - w : Nat) : Int) then max a (s.val - s.off) else a) ss (n - 1 - w)
    rw [lowAt_back hw ss]
    congr 1
    by_cases h : s.week = ((n - 1 - w : Nat) : Int)
    · rw [if_pos h, if_pos (by omega)]
    · rw [if_neg h, if_neg (by omega)]
theorem highAt_back {n w : Nat} (hw : w < n) : ∀ (ss : List Smp) (a : Int), highAt a (ss.map (backS n)) w = highAt a ss (n - 1 - w)
  | [], _ => rfl
  | s :: ss, a => by
    show highAt (if (n : Int) - 1 - s.week = (w : Int) then min a (s.val + s.off) else a) (ss.map (backS n)) w = highAt (if s.week = ((n - 1 - w : Nat) : Int) then min a (s.val + s.off) else a) ss (n - 1 - w)
    rw [highAt_back hw ss]
    congr 1
    by_cases h : s.week = ((n - 1 - w : Nat) : Int)
    · rw [if_pos h, if_pos (by omega)]
    · rw [if_neg h, if_neg (by omega)]
theorem lowAt_far {t c : Int} (ht : t = 1 ∨ t = 2) (w : Nat) : ∀ (ss : List Smp) (a : Int), lowAt (t * a + c) (ss.map (farS t c)) w = t * lowAt a ss w + c
  | [], _ => rfl
  | s :: ss, a => by
    show lowAt (if s.week = (w : Int) then max (t * a + c) (t * s.val + c - t * s.off) else t * a + c) (ss.map (farS t c)) w = t * lowAt (if s.week = (w : Int) then max a (s.val - s.off) else a) ss w + c
    rw [← lowAt_far ht w ss]
    congr 1
    split
    · rcases ht with rfl | rfl <;> omega
    · rfl
theorem highAt_far {t c : Int} (ht : t = 1 ∨ t = 2) (w : Nat) : ∀ (ss : List Smp) (a : Int), highAt (t * a + c) (ss.map (farS t c)) w = t * highAt a ss w + c
  | [], _ => rfl
  | s :: ss, a => by
    show highAt (if s.week = (w : Int) then min (t * a + c) (t * s.val + c + t * s.off) else t * a + c) (ss.map (farS t c)) w = t * highAt (if s.week = (w : Int) then min a (s.val + s.off) else a) ss w + c
    rw [← highAt_far ht w ss]
    congr 1
    split
    · rcases ht with rfl | rfl <;> omega
    · rfl
theorem floor_same {x y : Fr} (hx : 0 < x.u) (hy : 0 < y.u) (h : x.v = y.v) : x.floor = y.floor := by
  have h1 := floor_mono hx hy (by rw [h]; exact Rat.le_refl)
  have h2 := floor_mono hy hx (by rw [h]; exact Rat.le_refl)
  omega
theorem floor_add {x y : Fr} (hx : 0 < x.u) (hy : 0 < y.u) {c : Int} (h : y.v = x.v + (c : Rat)) : y.floor = x.floor + c := by
  have h1 : x.floor + c ≤ y.floor := (le_floor hy _).2 (by rw [h, cast_add]; have := floor_v hx; grind)
  have h2 : y.floor - c ≤ x.floor := (le_floor hx _).2 (by rw [cast_sub]; have := floor_v hy; grind)
  omega
theorem ceil_add {x y : Fr} (hx : 0 < x.u) (hy : 0 < y.u) {c : Int} (h : y.v = x.v + (c : Rat)) : y.ceil = x.ceil + c := by
  have h1 : y.ceil ≤ x.ceil + c := (ceil_le hy _).2 (by rw [h, cast_add]; have := ceil_v hx; grind)
  have h2 : x.ceil ≤ y.ceil - c := (ceil_le hx _).2 (by rw [cast_sub]; have := ceil_v hy; grind)
  omega
theorem cutS_idx {f f' : Nat → Fr} {N : Nat} (h : ∀ a b, a ≤ N → b ≤ N → (f' a).lt (f' b) = (f a).lt (f b)) : ∀ {c : Nat}, c ≤ N → cutS f' c = ((cutS f c).1, f' (cutS f c).1)
  | 0, _ => rfl
  | c + 1, hc => by
    have ih := cutS_idx h (c := c) (by omega)
    obtain ⟨i, hi, e⟩ := cutS_mem f c
    have h1 := h (c + 1) i hc (by omega)
    unfold cutS
    rw [ih, e]
    simp only
    rw [h1]
    split <;> rfl
theorem cut_at {n : Nat} {lo hi : Int} {ss : List Smp} (hE : posE n lo hi ss = 0) (hn : 1 ≤ n) : ∃ i, i < n ∧ cutW n lo hi ss = (i : Nat) ∧ cutV n lo hi ss = (regF (lowAt lo ss) (highAt hi ss) n i).ceil ∧ (∀ j, j < n → (regF (lowAt lo ss) (highAt hi ss) n i).v ≤ (regF (lowAt lo ss) (highAt hi ss) n j).v) ∧ cutS (regF (lowAt lo ss) (highAt hi ss) n) (n - 1) = (i, regF (lowAt lo ss) (highAt hi ss) n i) := by
  obtain ⟨i, hi', e⟩ := cutS_mem (regF (lowAt lo ss) (highAt hi ss) n) (n - 1)
  refine ⟨i, by omega, ?_, ?_, fun j hj => ?_, e⟩
  · unfold cutW; rw [if_pos hE]
    show ((cutS (regF (lowAt lo ss) (highAt hi ss) n) (n - 1)).1 : Int) = i
    rw [e]
  · unfold cutV; rw [if_pos hE]
    show (cutS (regF (lowAt lo ss) (highAt hi ss) n) (n - 1)).2.ceil = _
    rw [e]
  · have := cutS_min (regF (lowAt lo ss) (highAt hi ss) n) (c := n - 1) (reg_pos' hn) j (by omega)
    rw [e] at this
    exact this
theorem peaks_row {n : Nat} {lo hi : Int} {ss : List Smp} (hE : posE n lo hi ss = 0) (h0 : noB (lowAt lo ss) (highAt hi ss) n = true) : ∃ a len : Nat, peaksL n lo hi ss = (List.range len).map (fun i => ((a + i : Nat) : Int)) ∧ a + len ≤ n ∧ ∀ x, x < n → (peakP (lowAt lo ss) (highAt hi ss) n x = true ↔ a ≤ x ∧ x < a + len) := by
  obtain ⟨a, len, e1, e2, -⟩ := chosen_row (peaks_cvx h0)
  have e : peaksL n lo hi ss = chosenL (peakP (lowAt lo ss) (highAt hi ss) n) n := by unfold peaksL; rw [if_pos hE]; rfl
  refine ⟨a, len, e.trans e1, e2, fun x hx => ?_⟩
  have h1 := mem_chosen (p := peakP (lowAt lo ss) (highAt hi ss) n) (n := n) (x := x)
  rw [e1] at h1
  constructor
  · intro h
    obtain ⟨i, hi', hx'⟩ := List.mem_map.1 (h1.2 ⟨hx, h⟩)
    have := List.mem_range.1 hi'
    omega
  · intro h
    exact (h1.1 (List.mem_map.2 ⟨x - a, List.mem_range.2 (by omega), by omega⟩)).2
structure TurnedA (n : Nat) (lo hi t c : Int) (ss : List Smp) : Prop where
  pos : posE n lo hi ss = 0
  posB : posE n lo hi (ss.map (backS n)) = 0
  posF : posE n (t * lo + c) (t * hi + c) (ss.map (farS t c)) = 0
  kl : ∀ i, i < n → spanAt (lowAt lo ss) (highAt hi ss) n i = spanAt (lowAt lo (ss.map (backS n))) (highAt hi (ss.map (backS n))) n (n - 1 - i)
  ml : ∀ i, i < n → t * (spanAt (lowAt lo ss) (highAt hi ss) n i).1 + c ≤ (spanAt (lowAt (t * lo + c) (ss.map (farS t c))) (highAt (t * hi + c) (ss.map (farS t c))) n i).1
  mh : ∀ i, i < n → (spanAt (lowAt (t * lo + c) (ss.map (farS t c))) (highAt (t * hi + c) (ss.map (farS t c))) n i).2 ≤ t * (spanAt (lowAt lo ss) (highAt hi ss) n i).2 + c
  m1 : t = 1 → ∀ i, i < n → spanAt (lowAt (t * lo + c) (ss.map (farS t c))) (highAt (t * hi + c) (ss.map (farS t c))) n i = ((spanAt (lowAt lo ss) (highAt hi ss) n i).1 + c, (spanAt (lowAt lo ss) (highAt hi ss) n i).2 + c)
  peaks : ∃ a len : Nat, a + len ≤ n ∧ peaksL n lo hi ss = (List.range len).map (fun i => ((a + i : Nat) : Int)) ∧ peaksL n lo hi (ss.map (backS n)) = (List.range len).map (fun i => ((n - a - len + i : Nat) : Int)) ∧ peaksL n (t * lo + c) (t * hi + c) (ss.map (farS t c)) = (List.range len).map (fun i => ((a + i : Nat) : Int))
  cutB : cutV n lo hi (ss.map (backS n)) = cutV n lo hi ss
  cutF : cutW n (t * lo + c) (t * hi + c) (ss.map (farS t c)) = cutW n lo hi ss
  cutL : cutV n (t * lo + c) (t * hi + c) (ss.map (farS t c)) ≤ t * cutV n lo hi ss
  cutG : t * (cutV n lo hi ss - 1) < cutV n (t * lo + c) (t * hi + c) (ss.map (farS t c))
theorem rows_same {n a len a' len' : Nat} (h1 : a + len ≤ n) (h2 : a' + len' ≤ n) (hp : 0 < len) (h : ∀ x, x < n → ((a' ≤ x ∧ x < a' + len') ↔ (a ≤ n - 1 - x ∧ n - 1 - x < a + len))) : len' = len ∧ a' = n - a - len := by
  have e1 := h (n - 1 - a) (by omega)
  have e2 := h (n - a - len) (by omega)
  have e3 := h a'
  have e4 := h (a' + len' - 1)
  omega
theorem rows_same2 {n a len a' len' : Nat} (h1 : a + len ≤ n) (h2 : a' + len' ≤ n) (hp : 0 < len) (h : ∀ x, x < n → ((a' ≤ x ∧ x < a' + len') ↔ (a ≤ x ∧ x < a + len))) : len' = len ∧ a' = a := by
  have e1 := h a (by omega)
  have e2 := h (a + len - 1) (by omega)
  have e3 := h a'
  have e4 := h (a' + len' - 1)
  omega
theorem turned_all {n : Nat} {lo hi t c : Int} {ss : List Smp} {T : Nat → Int} (hR : Right n lo hi ss T) (ht : t = 1 ∨ t = 2) (hc : 0 ≤ c) (hh : t * hi + c ≤ 30000) (hv : ∀ s ∈ ss, t * s.val + c ≤ 30000) : TurnedA n lo hi t c ss := by
  have hT := hR.truth
  have h0 := truth_noB hT
  have hn := hR.n1
  have hV := hR.val
  have htp : 0 < t := by rcases ht with rfl | rfl <;> omega
  have hE := pos_of hV h0
  have hm : ∀ s ∈ ss, (0 ≤ s.val ∧ s.val ≤ 30000) := fun s hs => (hV.mem s hs).1
  have hVB : Val n lo hi (ss.map (backS n)) := ⟨hV.n1, hV.n30, hV.r0, hV.r1, hV.r2, by rw [List.length_map]; exact hV.len, fun i hi' => by
    rw [at_lt hi']
    obtain ⟨s, hs, e⟩ := List.mem_map.1 (List.getElem_mem hi')
    rw [← e]
    have h1 := hR.ok s hs
    have h2 := hm s hs
    simp only [backS]; omega⟩
  have hVF : Val n (t * lo + c) (t * hi + c) (ss.map (farS t c)) := ⟨hV.n1, hV.n30, by have := hV.r0; rcases ht with rfl | rfl <;> omega, by have := hV.r1; rcases ht with rfl | rfl <;> omega, hh, by rw [List.length_map]; exact hV.len, fun i hi' => by
    rw [at_lt hi']
    obtain ⟨s, hs, e⟩ := List.mem_map.1 (List.getElem_mem hi')
    rw [← e]
    have h1 := hR.ok s hs
    have h2 := hm s hs
    have h3 := hv s hs
    simp only [farS]
    rcases ht with rfl | rfl <;> omega⟩
  obtain ⟨hB0, SB⟩ := same_turn (L := lowAt lo ss) (H := highAt hi ss) (L' := lowAt lo (ss.map (backS n))) (H' := highAt hi (ss.map (backS n))) h0 (fun w hw => lowAt_back hw ss lo) (fun w hw => highAt_back hw ss hi)
  obtain ⟨hF0, SF⟩ := same_far (L := lowAt lo ss) (H := highAt hi ss) (L' := lowAt (t * lo + c) (ss.map (farS t c))) (H' := highAt (t * hi + c) (ss.map (farS t c))) htp h0 (fun w _ => lowAt_far ht w ss lo) (fun w _ => highAt_far ht w ss hi)
  have hEB := pos_of hVB hB0
  have hEF := pos_of hVF hF0
  have ht' := cpos htp
  obtain ⟨i0, hi0, w0, v0, m0, s0⟩ := cut_at hE hn
  obtain ⟨iB, hiB, wB, vB, mB, -⟩ := cut_at hEB hn
  obtain ⟨iF, hiF, wF, vF, mF, sF⟩ := cut_at hEF hn
  have hidx : iF = i0 := by
    have := cutS_idx (f := regF (lowAt lo ss) (highAt hi ss) n) (f' := regF (lowAt (t * lo + c) (ss.map (farS t c))) (highAt (t * hi + c) (ss.map (farS t c))) n) (N := n - 1) (fun a b ha hb => by
      rw [Bool.eq_iff_iff, Fr.lt_true (regF_pos (by omega)) (regF_pos (by omega)), Fr.lt_true (regF_pos (by omega)) (regF_pos (by omega)), SF.reg a (by omega), SF.reg b (by omega)]
      constructor
      · intro h
        have h1 := (rmul_le ht' (a := (regF (lowAt lo ss) (highAt hi ss) n b).v) (b := (regF (lowAt lo ss) (highAt hi ss) n a).v))
        rw [← Rat.not_le] at h ⊢
        exact fun q => h (h1.1 q)
      · intro h
        have h1 := (rmul_le ht' (a := (regF (lowAt lo ss) (highAt hi ss) n b).v) (b := (regF (lowAt lo ss) (highAt hi ss) n a).v))
        rw [← Rat.not_le] at h ⊢
        exact fun q => h (h1.2 q)) (c := n - 1) (Nat.le_refl _)
    rw [s0, sF] at this
    exact congrArg Prod.fst this
  subst hidx
  refine ⟨hE, hEB, hEF, fun i hi' => ?_, fun i hi' => ?_, fun i hi' => ?_, fun h1 i hi' => ?_, ?_, ?_, ?_, ?_, ?_⟩
  · have e1 := SB.lo i hi'
    have e2 := SB.hi i hi'
    unfold spanAt
    rw [floor_same (lower_pos _ _ _) (lower_pos _ _ _) (show (lowerF (lowAt lo ss) n i).v = (lowerF (lowAt lo (ss.map (backS n))) n (n - 1 - i)).v by rw [e1]; grind),
      ceil_same (upper_pos _ _ _ _) (upper_pos _ _ _ _) (show (upperF (lowAt lo ss) (highAt hi ss) n i).v = (upperF (lowAt lo (ss.map (backS n))) (highAt hi (ss.map (backS n))) n (n - 1 - i)).v by rw [e2]; grind)]
  · have e1 := SF.lo i hi'
    refine (le_floor (lower_pos _ _ _) _).2 ?_
    rw [e1, cast_add, cast_mul]
    have := (rmul_le ht').1 (floor_v (lower_pos (lowAt lo ss) n i))
    simp only [spanAt]
    grind
  · have e1 := SF.hi i hi'
    refine (ceil_le (upper_pos _ _ _ _) _).2 ?_
    rw [e1, cast_add, cast_mul]
    have := (rmul_le ht').1 (ceil_v (upper_pos (lowAt lo ss) (highAt hi ss) n i))
    simp only [spanAt]
    grind
  · have e1 := SF.lo i hi'
    have e2 := SF.hi i hi'
    have e3 : (t : Rat) = 1 := by rw [h1]; rfl
    unfold spanAt
    rw [floor_add (c := c) (lower_pos (lowAt lo ss) n i) (lower_pos _ _ _) (by rw [e1, e3]; grind), ceil_add (c := c) (upper_pos (lowAt lo ss) (highAt hi ss) n i) (upper_pos _ _ _ _) (by rw [e2, e3]; grind)]
  · obtain ⟨a, len, p1, p2, p3⟩ := peaks_row hE h0
    obtain ⟨a', len', q1, q2, q3⟩ := peaks_row hEB hB0
    obtain ⟨a2, len2, r1, r2, r3⟩ := peaks_row hEF hF0
    have hp : 0 < len := by
      obtain ⟨k, hk, ek⟩ := top_mem T (n - 1)
      have hm2 := (truth_all hV hT (least := 0) (by omega)).peak k (by omega) ek.symm
      rw [p1] at hm2
      rcases Nat.eq_zero_or_pos len with rfl | hp
      · simp at hm2
      · exact hp
    obtain ⟨rfl, rfl⟩ := rows_same p2 q2 hp (fun x hx => by
      rw [← q3 x hx, ← p3 (n - 1 - x) (by omega)]
      have := SB.peak (n - 1 - x) (by omega)
      simp only [show n - 1 - (n - 1 - x) = x by omega] at this
      rw [this])
    obtain ⟨rfl, rfl⟩ := rows_same2 p2 r2 hp (fun x hx => by
      rw [← r3 x hx, ← p3 x hx, SF.peak x hx])
    exact ⟨_, _, p2, p1, q1, r1⟩
  · rw [v0, vB]
    refine ceil_same (regF_pos hiB) (regF_pos hi0) ?_
    have e1 := SB.reg (n - 1 - iB) (by omega)
    have e2 := SB.reg iF hi0
    simp only [show n - 1 - (n - 1 - iB) = iB by omega] at e1
    have g1 := m0 (n - 1 - iB) (by omega)
    have g2 := mB (n - 1 - iF) (by omega)
    grind
  · rw [w0, wF]
  · rw [v0, vF]
    refine (ceil_le (regF_pos hi0) _).2 ?_
    rw [SF.reg iF hi0, cast_mul]
    exact (rmul_le ht').1 (ceil_v (regF_pos hi0))
  · rw [v0, vF]
    have h1 := ceil_v (regF_pos (L := lowAt (t * lo + c) (ss.map (farS t c))) (H := highAt (t * hi + c) (ss.map (farS t c))) hi0)
    rw [SF.reg iF hi0] at h1
    refine Int.not_le.1 fun h2 => ?_
    have h3 := Rat.le_trans h1 (cast_le.2 h2)
    rw [cast_mul] at h3
    have h4 := (rmul_le ht').2 h3
    have h5 := (ceil_le (regF_pos hi0) _).2 h4
    omega
end Ytgnjeefanbcbkaa
end Go.Proofs
