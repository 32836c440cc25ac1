/- A dispatcher in terms of trains; round by round all are asked. Plain Lean, and what Dispatch answers. -/
import Derived.Test.YteijenefhoconaaYl
open Go Go.RowKit Go.YteijenefhoconaaIt
namespace Go.Proofs
namespace Yteijenefhoconaa
/-- What a dispatcher lets go, and the state after all asks. -/
def dispT (L : List Int) : List Tn → List Int → List Bool × List Tn
  | us, [] => ([], us)
  | us, m :: ms => if gdT L us m.toNat = true then (true :: (dispT L (movT us m.toNat) ms).1, (dispT L (movT us m.toNat) ms).2) else (false :: (dispT L us ms).1, (dispT L us ms).2)
theorem dispT_yes {L : List Int} {us : List Tn} {m : Int} {ms : List Int} (h : gdT L us m.toNat = true) : dispT L us (m :: ms) = (true :: (dispT L (movT us m.toNat) ms).1, (dispT L (movT us m.toNat) ms).2) := by
  simp only [dispT, if_pos h]
theorem dispT_no {L : List Int} {us : List Tn} {m : Int} {ms : List Int} (h : ¬ gdT L us m.toNat = true) : dispT L us (m :: ms) = (false :: (dispT L us ms).1, (dispT L us ms).2) := by
  simp only [dispT, if_neg h]
theorem dispT_app (L : List Int) : ∀ (a b : List Int) (us : List Tn), dispT L us (a ++ b) = ((dispT L us a).1 ++ (dispT L (dispT L us a).2 b).1, (dispT L (dispT L us a).2 b).2)
  | [], b, us => by simp [dispT]
  | m :: ms, b, us => by
    rw [List.cons_append]
    by_cases h : gdT L us m.toNat = true
    · rw [dispT_yes h, dispT_yes h, dispT_app L ms b]; simp
    · rw [dispT_no h, dispT_no h, dispT_app L ms b]; simp
theorem gdT_parts {L : List Int} {us : List Tn} {i : Nat} (h : gdT L us i = true) : possT L us i = true ∧ safeT L (movT us i) = true := by
  unfold gdT at h; simpa using h
theorem dispT_len (L : List Int) : ∀ (ms : List Int) (us : List Tn), (dispT L us ms).1.length = ms.length
  | [], _ => rfl
  | m :: ms, us => by
    unfold dispT
    split <;> simp [dispT_len L ms]
theorem dispT_val {L T : List Int} : ∀ (ms : List Int) (us : List Tn), Val L T us → (∀ m ∈ ms, 0 ≤ m ∧ m.toNat < us.length) → Val L T (dispT L us ms).2 ∧ (dispT L us ms).2.length = us.length ∧ (safeT L us = true → safeT L (dispT L us ms).2 = true) ∧ leftT (dispT L us ms).2 ≤ leftT us
  | [], us, h, _ => ⟨h, rfl, fun h => h, Nat.le_refl _⟩
  | m :: ms, us, h, hm => by
    have hm0 := hm m (by simp)
    by_cases hg : gdT L us m.toNat = true
    · rw [dispT_yes hg]
      obtain ⟨hp, hs⟩ := gdT_parts hg
      obtain ⟨h1, h2, h3, h4⟩ := dispT_val ms (movT us m.toNat) (h.mov hm0.2 hp) (fun x hx => by rw [movT_len]; exact hm x (by simp [hx]))
      have := leftT_mov h hm0.2 hp
      exact ⟨h1, h2.trans (movT_len _ _), fun _ => h3 hs, Nat.le_trans h4 (by omega)⟩
    · rw [dispT_no hg]
      obtain ⟨h1, h2, h3, h4⟩ := dispT_val ms us h (fun x hx => hm x (by simp [hx]))
      exact ⟨h1, h2, h3, h4⟩
theorem dispT_less {L T : List Int} {i : Nat} : ∀ (ms : List Int) (us : List Tn), Val L T us → (∀ m ∈ ms, 0 ≤ m ∧ m.toNat < us.length) → (i : Int) ∈ ms → gdT L us i = true → leftT (dispT L us ms).2 < leftT us
  | [], _, _, _, hi, _ => by simp at hi
  | m :: ms, us, h, hm, hi, hgi => by
    have hm0 := hm m (by simp)
    by_cases hg : gdT L us m.toNat = true
    · rw [dispT_yes hg]
      obtain ⟨hp, _⟩ := gdT_parts hg
      have h4 := (dispT_val ms (movT us m.toNat) (h.mov hm0.2 hp) (fun x hx => by rw [movT_len]; exact hm x (by simp [hx]))).2.2.2
      have := leftT_mov h hm0.2 hp
      exact Nat.lt_of_le_of_lt h4 (by omega)
    · rw [dispT_no hg]
      have hi' : (i : Int) ∈ ms := by
        rcases List.mem_cons.1 hi with e | e
        · rw [← e, Int.toNat_natCast] at hg; exact absurd hgi hg
        · exact e
      exact dispT_less ms us h (fun x hx => hm x (by simp [hx])) hi' hgi
theorem gd_iff {L T : List Int} {us : List Tn} (h : Val L T us) {m : Int} (h0 : 0 ≤ m) (hm : m.toNat < us.length) : (moveE L T (pos us) m = 0 ∧ safeB L T (moveS L T (pos us) m) = true) ↔ gdT L us m.toNat = true := by
  have h5 := (vt_of h.1).t5
  have hT := h.2
  subst hT
  have hme := moveE_eq (L := L) h5 m
  rw [if_pos (by simp [btw]; omega)] at hme
  constructor
  · rintro ⟨h1, h2⟩
    have hz := moveE_zero h5 h1
    rw [moveS_eq h5 h1] at h2
    unfold gdT safeT
    rw [hz.2.2.2, tos_movT, h2]; rfl
  · intro hg
    obtain ⟨hp, hs⟩ := gdT_parts hg
    have hne := (poss_way h5 hm hp).1
    have e : moveE L (tos us) (pos us) m = 0 := by rw [hme, if_neg hne, if_pos hp]
    refine ⟨e, ?_⟩
    rw [moveS_eq h5 e]
    unfold safeT at hs
    rwa [tos_movT] at hs
theorem disp_eq {L T : List Int} : ∀ (ms : List Int) (us : List Tn), Val L T us → (∀ m ∈ ms, 0 ≤ m ∧ m.toNat < us.length) → dispG L T (pos us) ms = ((dispT L us ms).1, pos (dispT L us ms).2)
  | [], us, _, _ => rfl
  | m :: ms, us, h, hm => by
    have hm0 := hm m (by simp)
    have h5 := (vt_of h.1).t5
    have hiff := gd_iff h hm0.1 hm0.2
    unfold dispG
    by_cases hg : gdT L us m.toNat = true
    · have hc := hiff.2 hg
      rw [if_pos hc, dispT_yes hg]
      obtain ⟨hp, _⟩ := gdT_parts hg
      have e : moveS L T (pos us) m = pos (movT us m.toNat) := by rw [← h.2]; exact moveS_eq h5 (by rw [h.2]; exact hc.1)
      rw [e, disp_eq ms _ (h.mov hm0.2 hp) (fun x hx => by rw [movT_len]; exact hm x (by simp [hx]))]
    · rw [if_neg (fun hc => hg (hiff.1 hc)), dispT_no hg, disp_eq ms us h (fun x hx => hm x (by simp [hx]))]
theorem y25 {vL vt va : Value} {L T asks : List Int} {us : List Tn} (h : Val L T us) (hs : safeT L us = true) (hm : ∀ m ∈ asks, 0 ≤ m ∧ m.toNat < us.length) (hl : asks.length ≤ 500) (W : World) (hL : SlI W vL L) (ht : SlT W vt us) (ha : SlI W va asks) :
    Calls Try.prog 25 #[vL, vt, va] W fun e w' => ∃ v u, e = .returned (.tuple #[v, u, .int .i64 0]) ∧ SlB w' v (dispT L us asks).1 ∧ SlT w' u (dispT L us asks).2 ∧ Below W.heap.size W w' := by
  have h5 := (vt_of h.1).t5
  have e0 : dispE L us asks = 0 := by
    unfold dispE
    unfold safeT at hs
    have hr : asks.any (fun i => !btw 0 i (us.length - 1)) = false := by
      rw [List.any_eq_false]
      intro x hx
      have := hm x hx
      simp [btw]; omega
    rw [h.1, if_neg (by simp), hs, if_neg (by simp), if_neg (by omega), hr, if_neg (by simp)]
  have hv := dispT_val asks us h hm
  refine (disp_any vL vt va L us asks W hL ht ha).mono ?_
  rintro e w' ⟨hb, ⟨h1, _⟩ | ⟨_, v, u, rfl, h1, h2⟩⟩
  · exact absurd e0 h1
  · have hd := disp_eq asks us h hm
    rw [h.2, hd] at h1 h2
    refine ⟨v, u, rfl, h1, ?_, hb⟩
    rw [← hv.1.2, tsOf_pos (by rw [hv.2.1]; exact h5)] at h2
    exact h2
theorem y25n {vL vt va : Value} {L T asks : List Int} {us : List Tn} (h : Val L T us) (hs : safeT L us = false) (W : World) (hL : SlI W vL L) (ht : SlT W vt us) (ha : SlI W va asks) :
    Calls Try.prog 25 #[vL, vt, va] W fun e w' => e = .returned (.tuple #[.slice none 0 0, .slice none 0 0, .int .i64 16]) ∧ Below W.heap.size W w' := by
  have e0 : dispE L us asks = 16 := by
    unfold dispE
    unfold safeT at hs
    rw [h.1, if_neg (by simp), hs, if_pos rfl]
  refine (disp_any vL vt va L us asks W hL ht ha).mono ?_
  rintro e w' ⟨hb, ⟨h1, rfl⟩ | ⟨h1, _⟩⟩
  · exact ⟨by rw [e0], hb⟩
  · rw [e0] at h1; cases h1
/-- How far trains of a small track have to go. -/
theorem left20 {L T : List Int} {us : List Tn} (h : Val L T us) (h4 : us.length ≤ 4) (h6 : L.length ≤ 6) : leftT us ≤ 20 := by
  have hv := vt_of h.1
  have : ∀ k, k ≤ us.length → leftN us k ≤ 5 * k := by
    intro k
    induction k with
    | zero => intro _; simp [leftN]
    | succ k ih =>
      intro hk
      have h1 := hv.at_ k (by omega)
      have h2 := hv.to_ k (by omega)
      have h3 := ih (by omega)
      rw [leftN_succ]
      push_cast
      omega
  have h1 := this _ (Nat.le_refl _)
  rw [leftN_leftT hv.t5] at h1
  omega
/-! ### Rounds of asks -/
def fromO (os : List Int) (r : Nat) : Int := if os.length = 0 then 0 else at0 os (r % os.length)
def ask1 (n : Nat) (f : Int) (i : Nat) : Int := if f % 2 = 0 then ((i : Int) + f / 2) % n else (2 * n - 1 - i + f / 2) % n
def askK (n : Nat) (f : Int) (k : Nat) : List Int := (List.range k).map (ask1 n f)
def asksN (os : List Int) (n : Nat) : Nat → List Int
  | 0 => []
  | r + 1 => asksN os n r ++ askK n (fromO os r) n
theorem askK_succ (n : Nat) (f : Int) (k : Nat) : askK n f (k + 1) = askK n f k ++ [ask1 n f k] := by simp [askK, List.range_succ]
theorem asksN_len (os : List Int) (n : Nat) : ∀ r, (asksN os n r).length = r * n
  | 0 => by simp [asksN]
  | r + 1 => by simp [asksN, asksN_len os n r, askK, Nat.add_mul]
theorem ask1_bnd {n : Nat} (f : Int) (i : Nat) (hn : 0 < n) : 0 ≤ ask1 n f i ∧ (ask1 n f i).toNat < n := by
  have h : 0 ≤ ask1 n f i ∧ ask1 n f i < n := by
    unfold ask1
    split
    · exact ⟨Int.emod_nonneg _ (by omega), Int.emod_lt_of_pos _ (by omega)⟩
    · exact ⟨Int.emod_nonneg _ (by omega), Int.emod_lt_of_pos _ (by omega)⟩
  omega
theorem askK_bnd {n : Nat} {f : Int} {k : Nat} (hk : k ≤ n) : ∀ x ∈ askK n f k, 0 ≤ x ∧ x.toNat < n := by
  intro x hx
  simp only [askK, List.mem_map, List.mem_range] at hx
  obtain ⟨i, hi, rfl⟩ := hx
  exact ask1_bnd f i (by omega)
theorem asksN_bnd {os : List Int} {n : Nat} : ∀ r, ∀ x ∈ asksN os n r, 0 ≤ x ∧ x.toNat < n
  | 0, x, hx => by simp [asksN] at hx
  | r + 1, x, hx => by
    rcases List.mem_append.1 hx with h | h
    · exact asksN_bnd r x h
    · exact askK_bnd (Nat.le_refl _) x h
theorem ask_all {n : Nat} {f : Int} {j : Nat} (hj : j < n) : (j : Int) ∈ askK n f n := by
  have hn : (0 : Int) < n := by omega
  have hjm : (j : Int) % n = j := Int.emod_eq_of_lt (by omega) (by omega)
  simp only [askK, List.mem_map, List.mem_range]
  by_cases hf : f % 2 = 0
  · have h0 : 0 ≤ ((j : Int) - f / 2) % n := Int.emod_nonneg _ (by omega)
    have h1 : ((j : Int) - f / 2) % n < n := Int.emod_lt_of_pos _ hn
    refine ⟨(((j : Int) - f / 2) % n).toNat, by omega, ?_⟩
    unfold ask1
    rw [if_pos hf, Int.toNat_of_nonneg h0, Int.emod_add_emod, Int.sub_add_cancel, hjm]
  · have h0 : 0 ≤ ((2 * n - 1 + f / 2 : Int) - j) % n := Int.emod_nonneg _ (by omega)
    have h1 : ((2 * n - 1 + f / 2 : Int) - j) % n < n := Int.emod_lt_of_pos _ hn
    refine ⟨(((2 * n - 1 + f / 2 : Int) - j) % n).toNat, by omega, ?_⟩
    unfold ask1
    rw [if_neg hf, Int.toNat_of_nonneg h0]
    have e : (2 * (n : Int) - 1 - ((2 * n - 1 + f / 2 : Int) - j) % n + f / 2) = (2 * n - 1 + f / 2) - ((2 * n - 1 + f / 2 : Int) - j) % n := by omega
    rw [e, Int.sub_emod_emod]
    have e2 : (2 * (n : Int) - 1 + f / 2) - ((2 * n - 1 + f / 2) - j) = j := by omega
    rw [e2, hjm]
/-- Round by round all trains come nearer. -/
theorem asked_left {L T : List Int} {us : List Tn} (h : Val L T us) (hs : safeT L us = true) (os : List Int) : ∀ r, leftT (dispT L us (asksN os us.length r)).2 ≤ leftT us - r
  | 0 => by simp [asksN, dispT]
  | r + 1 => by
    have ih := asked_left h hs os r
    obtain ⟨h1, h2, h3, h4⟩ := dispT_val (asksN os us.length r) us h (asksN_bnd r)
    have hb : ∀ m ∈ askK us.length (fromO os r) us.length, 0 ≤ m ∧ m.toNat < (dispT L us (asksN os us.length r)).2.length := by rw [h2]; exact askK_bnd (Nat.le_refl _)
    unfold asksN
    rw [dispT_app]
    show leftT (dispT L (dispT L us (asksN os us.length r)).2 (askK us.length (fromO os r) us.length)).2 ≤ _
    by_cases h0 : leftT (dispT L us (asksN os us.length r)).2 = 0
    · have := (dispT_val _ _ h1 hb).2.2.2
      omega
    · obtain ⟨i, hi, hg⟩ := good_some h1 (h3 hs) h0
      rw [h2] at hi
      have := dispT_less _ _ h1 hb (ask_all (f := fromO os r) hi) hg
      omega
/-- One ask after the other. -/
theorem disp_at {L : List Int} {ts : List Tn} {asks : List Int} {k : Nat} (hk : k < asks.length) :
    (dispT L ts asks).1.getD k false = gdT L (dispT L ts (asks.take k)).2 (at0 asks k).toNat ∧
    (dispT L ts (asks.take (k + 1))).2 = if gdT L (dispT L ts (asks.take k)).2 (at0 asks k).toNat = true then movT (dispT L ts (asks.take k)).2 (at0 asks k).toNat else (dispT L ts (asks.take k)).2 := by
  have e : asks = asks.take k ++ asks.drop k := (List.take_append_drop k asks).symm
  have hd := List.drop_eq_getElem_cons hk
  have hat := at0_lt hk
  refine ⟨?_, ?_⟩
  · rw [show (dispT L ts asks).1 = (dispT L ts (asks.take k ++ asks.drop k)).1 by rw [← e], dispT_app, hd]
    have hl : (dispT L ts (asks.take k)).1.length = k := by rw [dispT_len]; simp; omega
    rw [List.getD_eq_getElem?_getD, List.getElem?_append_right (by omega), hl, Nat.sub_self, ← hat]
    by_cases h : gdT L (dispT L ts (asks.take k)).2 (at0 asks k).toNat = true
    · rw [dispT_yes h, h]; rfl
    · rw [dispT_no h, Bool.eq_false_iff.2 h]; rfl
  · rw [List.take_succ_eq_append_getElem hk, dispT_app, ← hat]
    by_cases h : gdT L (dispT L ts (asks.take k)).2 (at0 asks k).toNat = true
    · rw [dispT_yes h, if_pos h]; rfl
    · rw [dispT_no h, if_neg h]; rfl
/-- A slice of bytes. -/
def SlY (w : World) (v : Value) (os : List Int) : Prop := (∃ ad cap, v = .slice ad os.length cap ∧ os.length ≤ 9223372036854775807 ∧ (0 < os.length → ∃ b off, ad = some ⟨b, off, none⟩ ∧ b < w.heap.size ∧
  ∀ i, i < os.length → w.cell? ⟨b, off + i, none⟩ = some (.int .u8 (at0 os i)))) ∧ ∀ i, i < os.length → 0 ≤ at0 os i ∧ at0 os i < 256
theorem SlY.below {w w' : World} {v : Value} {os : List Int} {B : Nat} (h : SlY w v os) (hb : Below B w w') (hB : w.heap.size ≤ B) : SlY w' v os := by
  obtain ⟨⟨ad, cap, hv, hm, hc⟩, hx⟩ := h
  refine ⟨⟨ad, cap, hv, hm, fun h0 => ?_⟩, hx⟩
  obtain ⟨b, off, ha, hlt, hcell⟩ := hc h0
  exact ⟨b, off, ha, Nat.lt_of_lt_of_le hlt hb.size, fun i hi => (hb.cell (by simp; omega)).trans (hcell i hi)⟩
theorem slY_cell {W : World} {ad : Option Addr} {n cap : Nat} {os : List Int} (h : SlY W (.slice ad n cap) os) {k : Nat} (hk : k < os.length) : ∃ b off, ad = some ⟨b, off, none⟩ ∧ b < W.heap.size ∧ W.cell? ⟨b, off + k, none⟩ = some (.int .u8 (at0 os k)) := by
  obtain ⟨⟨ad', cap', h1, _, h3⟩, _⟩ := h
  obtain ⟨b', off', h4, h5, h6⟩ := h3 (by omega)
  injection h1 with e1 _ _
  exact ⟨b', off', e1.trans h4, h5, h6 k hk⟩
theorem fromO_bnd {W : World} {v : Value} {os : List Int} (h : SlY W v os) (r : Nat) : 0 ≤ fromO os r ∧ fromO os r < 256 := by
  unfold fromO
  split
  · omega
  · exact h.2 _ (Nat.mod_lt _ (by omega))
end Yteijenefhoconaa
end Go.Proofs
