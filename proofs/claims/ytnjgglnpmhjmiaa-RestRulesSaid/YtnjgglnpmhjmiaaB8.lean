/- Laws of rotation: Verify. -/
import Derived.Test.YtnjgglnpmhjmiaaB7
open Go Go.RowKit Go.YtnjgglnpmhjmiaaIt
open Rest
namespace Go.Proofs
namespace Ytnjgglnpmhjmiaa
/-- The error of lists. -/
def listsE (l : Lw) : List (List Int) → Int
  | [] => 0
  | y :: ys => if lstE l y = 0 then listsE l ys else lstE l y
theorem listsE_at {l : Lw} : ∀ {ls : List (List Int)} {i : Nat} (hi : i < ls.length), (∀ j (h : j < i), lstE l (ls[j]'(by omega)) = 0) → listsE l ls = if lstE l ls[i] = 0 then listsE l (ls.drop (i + 1)) else lstE l ls[i]
  | y :: ys, 0, _, _ => rfl
  | y :: ys, i + 1, hi, h => by
    have h0 := h 0 (by omega)
    simp only [List.getElem_cons_zero] at h0
    rw [listsE, if_pos h0, List.drop_succ_cons]
    exact listsE_at (by simpa using hi) fun j hj => by have := h (j + 1) (by omega); simpa using this
theorem listsE_all {l : Lw} : ∀ {ls : List (List Int)}, (∀ j (h : j < ls.length), lstE l ls[j] = 0) → listsE l ls = 0
  | [], _ => rfl
  | y :: ys, h => by
    have h0 := h 0 (by simp)
    simp only [List.getElem_cons_zero] at h0
    rw [listsE, if_pos h0]
    exact listsE_all fun j hj => by have := h (j + 1) (by simpa using hj); simpa using this
theorem listsE_zero {l : Lw} : ∀ {ls : List (List Int)}, listsE l ls = 0 → ∀ y ∈ ls, lstE l y = 0
  | [], _, y, h => by cases h
  | x :: xs, h, y, hy => by
    rw [listsE] at h
    split at h
    · rcases List.mem_cons.1 hy with rfl | hy
      · assumption
      · exact listsE_zero h y hy
    · exact absurd h (by assumption)
/-- One start is told apart from others; what is left of the ends. -/
def verRow (l : Lw) (one : List Int) : List (List Int) → List (List Int) → Option (List (List Int))
  | [], ds => some ds
  | _ :: _, [] => none
  | o :: os, d :: ds => if (l.good (endI l [one, d]) != l.good (endI l [o, d])) = true then verRow l one os ds else none
def verAll (l : Lw) : List (List Int) → List (List Int) → Bool
  | [], _ => true
  | one :: rest, ds => match verRow l one rest ds with
    | some ds' => verAll l rest ds'
    | none => false
def verE (l : Lw) (ss ds : List (List Int)) : Int :=
  if chkL l = 0 then (if 40 < ss.length then 1 else if ds.length ≠ ss.length * (ss.length - 1) / 2 then 3 else if listsE l (ss ++ ds) = 0 then (if verAll l ss ds = true then 0 else 11) else listsE l (ss ++ ds)) else chkL l
theorem verRow_len {l : Lw} {one : List Int} : ∀ {os ds ds' : List (List Int)}, verRow l one os ds = some ds' → ds.length = os.length + ds'.length ∧ ds' = ds.drop os.length
  | [], ds, ds', h => by simp only [verRow, Option.some.injEq] at h; subst h; simp
  | _ :: _, [], ds', h => by simp [verRow] at h
  | o :: os, d :: ds, ds', h => by
    rw [verRow] at h
    split at h
    · obtain ⟨h1, h2⟩ := verRow_len h
      exact ⟨by simp only [List.length_cons]; omega, by rw [List.length_cons, List.drop_succ_cons]; exact h2⟩
    · cases h
theorem SlII.cut {w : World} {b off n c : Nat} {d : List Int} {ds : List (List Int)} (h : SlII w (.slice (some ⟨b, off, none⟩) n c) (d :: ds)) : SlII w (.slice (if c = 1 then some ⟨b, off, none⟩ else some ⟨b, off + 1, none⟩) (n - 1) (c - 1)) ds := by
  obtain ⟨vs, ⟨ad, cap, e, hm, hc, hh⟩, hl, hr⟩ := h
  injection e with e1 e2 e3
  subst e1 e2 e3
  cases vs with
  | nil => simp at hl
  | cons u us =>
    simp only [List.length_cons] at hl hm hc hh ⊢
    refine ⟨us, ⟨_, _, rfl, by omega, by omega, fun h0 => ?_⟩, by omega, fun i hi hi' => ?_⟩
    · obtain ⟨b', off', e, hb, hcell⟩ := hh (by omega)
      injection e with e
      injection e with e4 e5 _
      subst e4 e5
      rw [if_neg (by omega)]
      refine ⟨_, _, rfl, hb, fun i hi => ?_⟩
      have := hcell (i + 1) (by simp; omega)
      rw [show off + 1 + i = off + (i + 1) by omega]
      simpa using this
    · have := hr (i + 1) (by simp; omega) (by simp; omega)
      simpa using this
def triN : Nat → Nat
  | 0 => 0
  | m + 1 => triN m + m
theorem triN_two : ∀ n, triN n * 2 = n * (n - 1)
  | 0 => rfl
  | n + 1 => by
    have ih := triN_two n
    rw [triN, Nat.add_mul, ih, Nat.add_sub_cancel]
    cases n with
    | zero => rfl
    | succ m => rw [Nat.add_sub_cancel, ← Nat.mul_add, Nat.mul_comm]
theorem triN_half (n : Nat) : n * (n - 1) / 2 = triN n := by rw [← triN_two]; omega
theorem half_tdiv (P : Nat) : (P : Int).tdiv 2 = ((P / 2 : Nat) : Int) := by
  rw [Int.tdiv_eq_ediv_of_nonneg (by omega)]; omega
theorem half_le {P : Nat} (h : P ≤ 1600) : P / 2 ≤ 800 := by omega
theorem half_wrap {P : Nat} (h : P ≤ 1600) : wrap64 ((P / 2 : Nat) : Int) = ((P / 2 : Nat) : Int) := IntWalk.wrap64_in _ (by omega)
theorem slII_two {w : World} {a a' : Option Addr} {n c n' c' : Nat} {y y' : List Int} (h : SlI w (.slice a n c) y) (h' : SlI w (.slice a' n' c') y') : SlII (w.alloc (.cells #[.slice a n c, .slice a' n' c'] 40)) (.slice (some ⟨w.heap.size, 0, none⟩) 2 2) [y, y'] := by
  have hb := (Below.refl w.heap.size w).alloc (Nat.le_refl _) (.cells #[.slice a n c, .slice a' n' c'] 40)
  refine ⟨[.slice a n c, .slice a' n' c'], ⟨some ⟨w.heap.size, 0, none⟩, 2, rfl, by simp, by simp, fun _ => ⟨w.heap.size, 0, rfl, by rw [World.size_alloc]; omega, fun i hi => ?_⟩⟩, rfl, fun i hi _ => ?_⟩
  · rw [Nat.zero_add, cell_blk (heap_newI rfl)]
    have hi' : i < 2 := by simpa using hi
    rcases (show i = 0 ∨ i = 1 by omega) with rfl | rfl <;> rfl
  · have hi' : i < 2 := by simpa using hi
    rcases (show i = 0 ∨ i = 1 by omega) with rfl | rfl
    · exact h.below hb (Nat.le_refl _)
    · exact h'.below hb (Nat.le_refl _)
set_option maxRecDepth 100000 in
set_option maxHeartbeats 8000000 in
theorem verify34_any {v vs vd : Value} {l : Lw} {ss ds : List (List Int)} {w : World} (h : LawA w v l) (hs : SlII w vs ss) (hd : SlII w vd ds) : Calls Try.prog 34 #[v, vs, vd] w fun e w' => e = .returned (.int .i64 (verE l ss ds)) ∧ Below w.heap.size w w' := by
  have H0 := Lib.hid h
  have HS0 := Lib.hid hs
  have HD0 := Lib.hid hd
  obtain ⟨vn, vg, rfl, hn, hg⟩ := h
  obtain ⟨ag, cg, rfl, -⟩ := id hg
  obtain ⟨sa, sc, rfl, hsc⟩ := slII_form hs
  obtain ⟨da, dc, rfl, hdc⟩ := slII_form hd
  have hsl := slII_len hs
  have hdl := slII_len hd
  have hX := LawA.box (⟨_, _, rfl, hn, hg⟩ : LawA w (.agg #[vn, .slice ag (l.gd.map Value.bool).length cg]) l) 25
  rw [List.length_map] at *
  have hB1 := (Below.refl w.heap.size w).alloc (Nat.le_refl _) (.cells #[vn, .slice ag l.gd.length cg] 25)
  obtain ⟨w1, hw1⟩ : ∃ q, q = w.alloc (.cells #[vn, .slice ag l.gd.length cg] 25) := ⟨_, rfl⟩
  obtain ⟨g, hgw⟩ : ∃ q, q = w.heap.size := ⟨_, rfl⟩
  go_enter Try.func34, Try.ntmps34
  refine wp_seq_k (fun K hK => ?_)
  have HK := Lib.hid hK; clear hK
  have HW := Lib.hid (And.intro hw1 hgw)
  clear hw1 hgw
  go_wp2
  refine HK.out _ _ ?_; clear HK
  obtain ⟨hw1, hgw⟩ := HW.out
  have HB0 := Lib.hid (show Below w.heap.size w w1 by rw [hw1]; exact hB1)
  rw [← hw1] at hX ⊢
  rw [← hgw] at hX ⊢
  have HBg := Lib.hid (show Below g w w1 by rw [hgw]; exact HB0.out)
  have HB := Lib.hid hX.blk
  have lgw := lt_blk hX.blk
  have HX := Lib.hid hX
  have H52 := Lib.hid (check_any (H0.out.below HB0.out (Nat.le_refl _)))
  have HS := Lib.hid (HS0.out.below HB0.out (Nat.le_refl _))
  have HD := Lib.hid (HD0.out.below HB0.out (Nat.le_refl _))
  clear hw1 hgw HW hX hB1 hn hg hs hd HS0 HD0
  have FIN : Hid (∀ E w', E = verE l ss ds → Below w1.heap.size w1 w' → (Ending.returned (.int .i64 E) = Ending.returned (.int .i64 (verE l ss ds)) ∧ Below g w w')) := Lib.hid fun E w' hE hw => ⟨by rw [hE], HBg.out.trans (hw.mono (Nat.le_of_lt lgw))⟩
  have HE : Hid (verE l ss ds = if chkL l = 0 then (if 40 < ss.length then 1 else if ds.length ≠ ss.length * (ss.length - 1) / 2 then 3 else if listsE l (ss ++ ds) = 0 then (if verAll l ss ds = true then 0 else 11) else listsE l (ss ++ ds)) else chkL l) := Lib.hid rfl
  obtain ⟨E, hE⟩ : ∃ E, E = chkL l := ⟨_, rfl⟩
  rw [← hE] at H52 HE
  have HCE := Lib.hid hE
  clear hE
  by_cases h0 : E = 0
  case neg =>
    have hb0 : (E != 0) = true := by simpa using h0
    have hb0' : (E == 0) = false := by simpa using h0
    have HE1 : Hid (E = verE l ss ds) := Lib.hid (by rw [HE.out, if_neg h0])
    clear h0
    go_wp2_with (first | (refine wpList_load_blk rfl 25 _ rfl _ rfl HB.out Try.underlying25 rfl size25 rfl ?_) | (go_at_call 52; refine H52.out.mono ?_; rintro e w3 ⟨rfl, hb3⟩))
    go_ret
    exact FIN.out _ _ HE1.out hb3
  have HOK := Lib.hid (chkL_ok (l := l) (by rw [← HCE.out]; exact h0))
  have HE2 : Hid (verE l ss ds = if 40 < ss.length then 1 else if ds.length ≠ ss.length * (ss.length - 1) / 2 then 3 else if listsE l (ss ++ ds) = 0 then (if verAll l ss ds = true then 0 else 11) else listsE l (ss ++ ds)) := Lib.hid (by rw [HE.out, if_pos h0])
  clear HE
  subst h0
  by_cases h40 : 40 < ss.length
  · have hq : decide ((40 : Int) < (ss.length : Int)) = true := by simp; omega
    have HE1 : Hid ((1 : Int) = verE l ss ds) := Lib.hid (by rw [HE2.out, if_pos h40])
    clear h40
    go_wp2_with (first | (refine wpList_load_blk rfl 25 _ rfl _ rfl HB.out Try.underlying25 rfl size25 rfl ?_) | (go_at_call 52; refine H52.out.mono ?_; rintro e w3 ⟨rfl, hb3⟩))
    go_ret
    exact FIN.out _ _ HE1.out hb3
  have hq4 : decide ((40 : Int) < (ss.length : Int)) = false := by simp; omega
  have hm0 : wrap64 ((ss.length : Int) - 1) = (ss.length : Int) - 1 := IntWalk.wrap64_in _ (by omega)
  have hmul : (ss.length : Int) * ((ss.length : Int) - 1) = ((ss.length * (ss.length - 1) : Nat) : Int) := by
    rcases Nat.eq_zero_or_pos ss.length with h | h
    · rw [h]; simp
    · rw [Int.natCast_mul, Int.natCast_sub h]; rfl
  have hmle : ss.length * (ss.length - 1) ≤ 1600 := Nat.mul_le_mul (show ss.length ≤ 40 by omega) (show ss.length - 1 ≤ 40 by omega)
  obtain ⟨P, hP⟩ : ∃ P, P = ss.length * (ss.length - 1) := ⟨_, rfl⟩
  rw [← hP] at hmul hmle
  have hm1 : wrap64 (P : Int) = (P : Int) := IntWalk.wrap64_in _ (by omega)
  have hdv := half_tdiv P
  have hm2 := half_wrap hmle
  have HP := Lib.hid hP
  clear hP
  obtain ⟨Q2, hQ2⟩ : ∃ Q2, Q2 = P / 2 := ⟨_, rfl⟩
  rw [← hQ2] at hdv hm2
  have hQ8 : Q2 ≤ 800 := by rw [hQ2]; exact half_le hmle
  have HQ2 := Lib.hid (show Q2 = ss.length * (ss.length - 1) / 2 by rw [hQ2, HP.out])
  clear hQ2
  refine wp_seq_k (fun K hK => ?_)
  have HK := Lib.hid hK; clear hK
  go_wp2_with (first | (refine wpList_load_blk rfl 25 _ rfl _ rfl HB.out Try.underlying25 rfl size25 rfl ?_) | (go_at_call 52; refine H52.out.mono ?_; rintro e w3 ⟨rfl, hb3⟩))
  refine HK.out _ _ ?_; clear HK
  have HB3 := Lib.hid hb3
  clear hb3
  refine wp_seq_k (fun K hK => ?_)
  have HK := Lib.hid hK; clear hK
  go_wp2
  refine HK.out _ _ ?_; clear HK
  by_cases hlen : ds.length = Q2
  case neg =>
    have hq : ((ds.length : Int) != (Q2 : Int)) = true := by simp; omega
    have hq2 : ((ds.length : Int) == (Q2 : Int)) = false := by simp; omega
    have HE1 : Hid ((3 : Int) = verE l ss ds) := Lib.hid (by rw [HE2.out, if_neg h40, if_pos (by rw [← HQ2.out]; exact hlen)])
    clear hlen h40
    go_wp2
    go_ret
    exact FIN.out _ _ HE1.out HB3.out
  have hq : ((ds.length : Int) != (Q2 : Int)) = false := by simp; omega
  have hq2 : ((ds.length : Int) == (Q2 : Int)) = true := by simp; omega
  have HE1 : Hid (verE l ss ds = if listsE l (ss ++ ds) = 0 then (if verAll l ss ds = true then 0 else 11) else listsE l (ss ++ ds)) := Lib.hid (by rw [HE2.out, if_neg h40, if_neg (by rw [← HQ2.out]; exact fun e => e hlen)])
  have hd8 : ds.length ≤ 800 := by omega
  have hs4 : ss.length ≤ 40 := by omega
  have HLEN := Lib.hid (show ds.length = ss.length * (ss.length - 1) / 2 by rw [← HQ2.out]; exact hlen)
  clear hlen h40
  refine wp_seq_k (fun K hK => ?_)
  have HK := Lib.hid hK; clear hK
  go_wp2
  refine HK.out _ _ ?_; clear HK
  clear hdv hm2 hm1 hmul hmle hm0 hq hq2 hq4 hQ8 HP HE2
  have HS3 := Lib.hid (HS.out.below HB3.out (Nat.le_refl _))
  have HD3 := Lib.hid (HD.out.below HB3.out (Nat.le_refl _))
  have hal := (Below.refl w3.heap.size w3).alloc (Nat.le_refl _) (.cells #[.slice sa ss.length sc, .slice da ds.length dc] 22)
  have h75 := (concat75_any (g := w3.heap.size) (heap_newI (o := .cells #[.slice sa ss.length sc, .slice da ds.length dc] 22) rfl) (HS3.out.below hal (Nat.le_refl _)) (HD3.out.below hal (Nat.le_refl _)) (by omega) (by omega))
  obtain ⟨all, hall⟩ : ∃ q, q = ss ++ ds := ⟨_, rfl⟩
  have hnl8 : all.length ≤ 1000 := by rw [hall, List.length_append]; omega
  rw [← hall] at h75 HE1
  have H75 := Lib.hid h75
  have HALL := Lib.hid hall
  have HAL := Lib.hid hal
  clear hal h75 hall
  refine wp_seq_k (fun K hK => ?_)
  have HK := Lib.hid hK; clear hK
  go_wp2_with (go_at_call 75; refine H75.out.mono ?_; rintro e w5 ⟨v38, rfl, hl5, hb5⟩; obtain ⟨la5, lc5, rfl, hlc5⟩ := slII_form hl5; have HL5 := Lib.hid hl5; have HB5 := Lib.hid (btr HAL.out hb5 (Nat.le_refl _)); clear hl5 hb5)
  have HB6 := Lib.hid (btr HB3.out HB5.out (Nat.le_refl _))
  have H76 : Hid (∀ W, Below w1.heap.size w1 W → ∀ vy y, SlI W vy y → Calls Try.prog 76 #[.agg #[vn, .slice ag l.gd.length cg], vy] W fun e w' => e = .returned (.int .i64 (lstE l y)) ∧ Below W.heap.size W w') := Lib.hid fun W hW vy y hy => check76_any (HX.out.below hW).law HOK.out hy
  have HNL := Lib.hid hlc5
  clear hlc5
  go_loopw [40] (fun i wr => ∃ k : Nat, k ≤ all.length ∧ i = .int .i64 k ∧ Hid (∀ j (h : j < k) (h2 : j < all.length), lstE l all[j] = 0) ∧ Below w5.heap.size w5 wr) (fun i _ => all.length - (intOf i).toNat)
  case atStart => exact ⟨0, Nat.zero_le _, rfl, Lib.hid fun _ h => by omega, Below.refl _ _⟩
  case round =>
    obtain ⟨k, hk, rfl, HNO, hbr⟩ := hrel
    obtain ⟨wo, rfl⟩ : ∃ q, q = wr := ⟨_, rfl⟩
    have HB7 := Lib.hid (btr HB6.out hbr (Nat.le_refl _))
    have HB8 : Hid (Below w1.heap.size w1 wo) := Lib.hid (btr (show Below w1.heap.size w1 w5 from HB6.out) hbr (Nat.le_refl _))
    by_cases hkn : k < all.length
    · have hki : (k : Int) < (all.length : Int) := by omega
      obtain ⟨b, off, a, cc, rfl, hbl, hcell, hrow⟩ := HL5.out.row hkn
      have c0 := (hbr.cell (p := ⟨b, off + k, none⟩) hbl).trans hcell
      have HROW := Lib.hid (hrow.below hbr (Nat.le_refl _))
      obtain ⟨y, hy⟩ : ∃ y, y = all[k] := ⟨_, rfl⟩
      rw [← hy] at c0 HROW
      have x3 := (HX.out.below HB8.out).blk
      have HC := Lib.hid (H76.out wo HB8.out _ y HROW.out)
      have HBR := Lib.hid hbr
      have HY := Lib.hid hy
      obtain ⟨E, hE⟩ : ∃ E, E = lstE l y := ⟨_, rfl⟩
      rw [← hE] at HC
      have HEE := Lib.hid hE
      clear hcell hrow hbr hy hE hbl
      by_cases h0 : E = 0
      case neg =>
        have hb0 : (E != 0) = true := by simpa using h0
        have hb0' : (E == 0) = false := by simpa using h0
        have HE3 : Hid (E = verE l ss ds) := Lib.hid (by
          have h1 := listsE_at hkn (fun j h => HNO.out j h (by omega))
          rw [← HY.out, ← HEE.out, if_neg h0] at h1
          rw [HE1.out, h1, if_neg h0])
        clear h0
        go_wp2_with (first | (refine wpList_load_blk rfl 25 (.tmp 3) rfl _ rfl x3 Try.underlying25 rfl size25 rfl ?_) | (go_at_call 76; refine HC.out.mono ?_; rintro e w7 ⟨rfl, hb7⟩; have HB9 := Lib.hid hb7; clear hb7))
        go_ret
        exact FIN.out _ _ HE3.out (btr HB8.out HB9.out (Nat.le_refl _))
      subst h0
      go_wp2_with (first | (refine wpList_load_blk rfl 25 (.tmp 3) rfl _ rfl x3 Try.underlying25 rfl size25 rfl ?_) | (go_at_call 76; refine HC.out.mono ?_; rintro e w7 ⟨rfl, hb7⟩; have HB9 := Lib.hid hb7; clear hb7))
      refine ⟨⟨k + 1, by omega, by go_num, Lib.hid fun j h1 h2 => ?_, btr HBR.out HB9.out (Nat.le_refl _)⟩, by simp only [intOf]; omega⟩
      rcases (show j < k ∨ j = k by omega) with h | rfl
      · exact HNO.out j h h2
      · rw [← HY.out]; exact HEE.out.symm
    · have hki : ¬ (k : Int) < (all.length : Int) := by omega
      have hz : Hid (listsE l all = 0) := Lib.hid (listsE_all fun j h => HNO.out j (by omega) h)
      have HE3 : Hid (verE l ss ds = if verAll l ss ds = true then 0 else 11) := Lib.hid (by rw [HE1.out, if_pos hz.out])
      have hys := listsE_zero hz.out
      have HYS : Hid (∀ y ∈ all, YsOk l y) := Lib.hid fun y hy => (lstE_ok (hys y hy)).2
      have HSO := Lib.hid ((HS.out.below HB8.out (Nat.le_refl _)))
      have HDO := Lib.hid ((HD.out.below HB8.out (Nat.le_refl _)))
      clear hys hbr H75 HL5
      go_wp2
      refine HK.out _ _ ?_; clear HK
      refine wp_seq_k (fun K hK => ?_)
      have HK := Lib.hid hK; clear hK
      go_wp2
      obtain ⟨w6, hw6⟩ : ∃ q, q = wo := ⟨_, rfl⟩
      rw [← hw6] at HSO HDO HB7 HB8 ⊢
      clear hw6
      obtain ⟨n, hn⟩ : ∃ n, n = ss.length := ⟨_, rfl⟩
      have hdt : ds.length = triN n := by rw [HLEN.out, triN_half, hn]
      have HDT := Lib.hid hdt
      have HNN := Lib.hid hn
      have HDO' := Lib.hid (show SlII w6 (.slice da ds.length dc) ds from HDO.out)
      rw [← hn] at HSO hs4 ⊢
      clear hn hdt
      go_loopw [2, 53] (fun vd i wr => ∃ (k : Nat) (dk : List (List Int)), k ≤ n ∧ i = .int .i64 k ∧ Hid (SlII wr vd dk ∧ (∀ d ∈ dk, d ∈ ds) ∧ verAll l ss ds = verAll l (ss.drop k) dk ∧ dk.length = triN (n - k)) ∧ Below w6.heap.size w6 wr) (fun _ i _ => n - (intOf i).toNat)
      case atStart => exact ⟨0, ds, Nat.zero_le _, rfl, Lib.hid ⟨HDO'.out, fun _ h => h, rfl, by rw [HDT.out, Nat.sub_zero]⟩, Below.refl _ _⟩
      case round =>
        obtain ⟨k2, dk, hk2, rfl, HR, hbr⟩ := hrel
        obtain ⟨wp, rfl⟩ : ∃ q, q = wr := ⟨_, rfl⟩
        obtain ⟨va2, vc2, rfl, hvc2⟩ := slII_form HR.out.1
        by_cases hkn2 : k2 < n
        · have hki2 : (k2 : Int) < (n : Int) := by omega
          have hkl : k2 < ss.length := by have := HNN.out; omega
          obtain ⟨b, off, a1, cc1, rfl, hbl, hcell, hrow⟩ := HSO.out.row hkl
          have c0 := (hbr.cell (p := ⟨b, off + k2, none⟩) hbl).trans hcell
          obtain ⟨one, hone⟩ : ∃ y, y = ss[k2] := ⟨_, rfl⟩
          rw [← hone] at c0 hrow
          have HROW := Lib.hid hrow
          have HONE := Lib.hid hone
          have hnsc : n ≤ sc := by have := HNN.out; omega
          have HBR := Lib.hid hbr
          clear hcell hrow hone hbr
          go_wp2
          all_goals
            go_loopw [2, 63] (fun vd i wr => ∃ (j : Nat) (dq : List (List Int)), j ≤ n - (k2 + 1) ∧ i = .int .i64 j ∧ Hid (SlII wr vd dq ∧ (∀ d ∈ dq, d ∈ ds) ∧ verRow l one (ss.drop (k2 + 1)) dk = verRow l one ((ss.drop (k2 + 1)).drop j) dq ∧ dq.length = triN (n - (k2 + 1)) + (n - (k2 + 1) - j)) ∧ Below w6.heap.size w6 wr) (fun _ i _ => n - (intOf i).toNat)
            case atStart =>
              refine ⟨0, dk, Nat.zero_le _, rfl, Lib.hid ⟨HR.out.1, HR.out.2.1, by rw [List.drop_zero], ?_⟩, HBR.out⟩
              have h1 := HR.out.2.2.2
              rw [show n - k2 = (n - (k2 + 1)) + 1 by omega, triN] at h1
              rw [Nat.sub_zero]
              exact h1
            case round =>
              obtain ⟨j, dq, hj, rfl, HQ, hbq⟩ := hrel
              obtain ⟨wq, rfl⟩ : ∃ q, q = wr := ⟨_, rfl⟩
              obtain ⟨va3, vc3, rfl, hvc3⟩ := slII_form HQ.out.1
              by_cases hjn : j < n - (k2 + 1)
              · first
                | (exfalso; omega)
                | (have hjni : (j : Int) < ((n - (k2 + 1) : Nat) : Int) := by omega
                   have hix : k2 + 1 + j < ss.length := by have := HNN.out; omega
                   have hdp : 0 < dq.length := by have := HQ.out.2.2.2; omega
                   obtain ⟨wd, hwd⟩ : ∃ q, q = wq.drew := ⟨_, rfl⟩
                   have HWDB : Hid (Below wq.heap.size wq wd) := Lib.hid (by rw [hwd]; exact (Below.refl _ _).drew)
                   have HWD := Lib.hid hwd
                   clear hwd
                   have HBQ := Lib.hid hbq
                   have HB9 := Lib.hid (btr HBQ.out HWDB.out (Nat.le_refl _))
                   have HB10 : Hid (Below w1.heap.size w1 wd) := Lib.hid (btr HB8.out HB9.out (Nat.le_refl _))
                   have hRd : Below wd.heap.size wd wd := Below.refl _ _
                   obtain ⟨bd, od, a3, cc3, rfl, lbd', cd, hd3⟩ := HQ.out.1.row hdp
                   obtain ⟨dd, hdd⟩ : ∃ y, y = dq[0] := ⟨_, rfl⟩
                   rw [← hdd] at cd hd3
                   have cd0 := (HWDB.out.cell (p := ⟨bd, od + 0, none⟩) lbd').trans cd
                   rw [Nat.add_zero] at cd0
                   have lbd : bd < wd.heap.size := by rw [HWD.out]; exact lbd'
                   have HDDS : Hid (∀ W, Below wd.heap.size wd W → SlI W (.slice a3 dd.length cc3) dd) := Lib.hid fun W hW => hd3.below (btr HWDB.out hW (Nat.le_refl _)) (Nat.le_refl _)
                   obtain ⟨b', off', a2, cc2, hbo, hbl2, hcell2, hrow2⟩ := HSO.out.row hix
                   injection hbo with hbo
                   injection hbo with hb1 hb2 _
                   subst hb1 hb2
                   obtain ⟨oo, hoo⟩ : ∃ y, y = ss[k2 + 1 + j] := ⟨_, rfl⟩
                   rw [← hoo] at hcell2 hrow2
                   have c2 := (HBQ.out.cell (p := ⟨b, off + (k2 + 1 + j), none⟩) hbl2).trans hcell2
                   rw [← Nat.add_assoc] at c2
                   have HOOS : Hid (∀ W, Below wd.heap.size wd W → SlI W (.slice a2 oo.length cc2) oo) := Lib.hid fun W hW => hrow2.below (btr HB9.out hW (Nat.le_refl _)) (Nat.le_refl _)
                   have HONES : Hid (∀ W, Below wd.heap.size wd W → SlI W (.slice a1 one.length cc1) one) := Lib.hid fun W hW => HROW.out.below (btr HB9.out hW (Nat.le_refl _)) (Nat.le_refl _)
                   have yone := HYS.out one (by rw [HALL.out, HONE.out]; exact List.mem_append_left _ (List.getElem_mem _))
                   have yoo := HYS.out oo (by rw [HALL.out, hoo]; exact List.mem_append_left _ (List.getElem_mem _))
                   have ydd := HYS.out dd (by rw [HALL.out, hdd]; exact List.mem_append_right _ (HQ.out.2.1 _ (List.getElem_mem _)))
                   obtain ⟨m1, em1, hm1⟩ := (endI_st HOK.out (lists := [one, dd]) (by intro ys hys; rcases List.mem_cons.1 hys with rfl | hys; exact yone; rcases List.mem_cons.1 hys with rfl | hys; exact ydd; cases hys)).nat
                   obtain ⟨m2, em2, hm2⟩ := (endI_st HOK.out (lists := [oo, dd]) (by intro ys hys; rcases List.mem_cons.1 hys with rfl | hys; exact yoo; rcases List.mem_cons.1 hys with rfl | hys; exact ydd; cases hys)).nat
                   obtain ⟨bg, og, cg', hag, hgl1, cg1, lbg⟩ := (HX.out.below HB10.out).gds HOK.out hm1
                   injection hag with e1 e2 e3
                   subst e1 e3
                   obtain ⟨b'', off'', cg', hag, hgl2, cg2, -⟩ := (HX.out.below HB10.out).gds HOK.out hm2
                   injection hag with e1 e2 e3
                   injection e1 with e1
                   injection e1 with e4 e5 _
                   subst e4 e5 e3
                   obtain ⟨r1, hr1⟩ : ∃ r, r = l.good (m1 : Int) := ⟨_, rfl⟩
                   obtain ⟨r2, hr2⟩ : ∃ r, r = l.good (m2 : Int) := ⟨_, rfl⟩
                   obtain ⟨ap, hap⟩ : ∃ r, r = (r1 != r2) := ⟨_, rfl⟩
                   rw [← hr1] at cg1
                   rw [← hr2] at cg2
                   have x3 := (HX.out.below HB10.out).blk
                   have H771 : Hid (∀ W vl, Below wd.heap.size wd W → SlII W vl [one, dd] → Calls Try.prog 77 #[.agg #[vn, .slice (some ⟨bg, og, none⟩) l.gd.length cg], vl] W fun e w' => e = .returned (.int .i64 (m1 : Int)) ∧ Below W.heap.size W w') := Lib.hid fun W vl hW hl => by
                     have h := end77_any (HX.out.below (btr HB10.out hW (Nat.le_refl _))).law HOK.out hl (by intro ys hys; rcases List.mem_cons.1 hys with rfl | hys; exact yone; rcases List.mem_cons.1 hys with rfl | hys; exact ydd; cases hys)
                     rw [em1] at h
                     exact h
                   have H77o : Hid (∀ W vl, Below wd.heap.size wd W → SlII W vl [oo, dd] → Calls Try.prog 77 #[.agg #[vn, .slice (some ⟨bg, og, none⟩) l.gd.length cg], vl] W fun e w' => e = .returned (.int .i64 (m2 : Int)) ∧ Below W.heap.size W w') := Lib.hid fun W vl hW hl => by
                     have h := end77_any (HX.out.below (btr HB10.out hW (Nat.le_refl _))).law HOK.out hl (by intro ys hys; rcases List.mem_cons.1 hys with rfl | hys; exact yoo; rcases List.mem_cons.1 hys with rfl | hys; exact ydd; cases hys)
                     rw [em2] at h
                     exact h
                   have hstep : verRow l one ((ss.drop (k2 + 1)).drop j) dq = if ap = true then verRow l one ((ss.drop (k2 + 1)).drop (j + 1)) (dq.drop 1) else none := by
                     rw [List.drop_drop, List.drop_drop, List.drop_eq_getElem_cons hix]
                     rw [show dq = dq[0] :: dq.drop 1 from by rw [← List.drop_eq_getElem_cons hdp]; rfl]
                     rw [verRow, ← hoo, ← hdd, em1, em2, ← hr1, ← hr2, ← hap, List.drop_succ_cons, List.drop_zero]
                     rfl
                   have hall : verAll l ss ds = match verRow l one (ss.drop (k2 + 1)) dk with | some ds' => verAll l (ss.drop (k2 + 1)) ds' | none => false := by
                     rw [HR.out.2.2.1, List.drop_eq_getElem_cons hkl, verAll, ← HONE.out]
                   have HFAIL : Hid (ap = false → (11 : Int) = verE l ss ds) := Lib.hid fun e => by
                     rw [HE3.out, hall, HQ.out.2.2.1, hstep, e]
                     rfl
                   have HGOOD : Hid (ap = true → verRow l one (ss.drop (k2 + 1)) dk = verRow l one ((ss.drop (k2 + 1)).drop (j + 1)) (dq.drop 1)) := Lib.hid fun e => by
                     rw [HQ.out.2.2.1, hstep, if_pos e]
                   have HAPR := Lib.hid hap
                   have HCUT : Hid (∀ W, Below wd.heap.size wd W → SlII W (.slice (if vc3 = 1 then some ⟨bd, od, none⟩ else some ⟨bd, od + 1, none⟩) (dq.length - 1) (vc3 - 1)) (dq.drop 1)) := Lib.hid fun W hW => by
                     have h := HQ.out.1.below (btr HWDB.out hW (Nat.le_refl _)) (Nat.le_refl _)
                     obtain ⟨d0, dr, hd⟩ : ∃ d dr, dq = d :: dr := by
                       cases dq with
                       | nil => exact absurd hdp (by simp)
                       | cons d dr => exact ⟨d, dr, rfl⟩
                     rw [hd] at h ⊢
                     exact h.cut
                   have HD1 := Lib.hid hdd
                   clear hap hdd hstep hall em1 em2 hr1 hr2 yone yoo ydd hrow2 hd3 hcell2 cd hoo hbq
                   go_wp2
                   refine wp_region_x (R := fun U => Below wd.heap.size wd U) (S := fun _ => True) (z := 999) rfl ?_
                   change wpAnyX _ _ _ _ _ _ _ _ _ _ wq.drew
                   rw [← HWD.out]
                   refine wpX_kp (i := 0) (oi := ⟨some 67, _, _, _, _, none⟩) (v := ?_) rfl (fun _ _ _ h => h) ?_ ⟨(by assumption), fun _ => trivial⟩ ?_
                   rotate_left
                   · intro U hU
                     go_simp
                     all_goals with_reducible rfl
                   simp only [putE]
                   refine wpX_kp (i := 1) (oi := ⟨some 68, _, _, _, _, none⟩) (v := ?_) rfl (fun _ _ _ h => h) ?_ ⟨(by assumption), fun _ => trivial⟩ ?_
                   rotate_left
                   · intro U hU
                     have u0 := cell_blk (i := 1) (blk_keep x3 hU)
                     simp only [List.getElem?_toArray, List.getElem?_cons_zero, List.getElem?_cons_succ] at u0
                     go_simp
                     all_goals with_reducible rfl
                   simp only [putE]
                   refine wpX_kp (i := 2) (oi := ⟨some 69, _, _, _, _, none⟩) (v := ?_) rfl (fun _ _ _ h => h) ?_ ⟨(by assumption), fun _ => trivial⟩ ?_
                   rotate_left
                   · refine yields_load_blk 25 (.tmp 3) ?_ g ?_ (t := 25) (fr := (0, 0)) (cs := #[vn, .slice (some ⟨bg, og, none⟩) l.gd.length cg]) (fun U hU => ?_) Try.underlying25 rfl size25 rfl
                     · rfl
                     · rfl
                     · exact blk_keep x3 hU
                   simp only [putE]
                   refine wpX_kp (i := 3) (oi := ⟨some 70, _, _, _, _, none⟩) (v := ?_) rfl (fun _ _ _ h => h) ?_ ⟨(by assumption), fun _ => trivial⟩ ?_
                   rotate_left
                   · intro U hU
                     go_simp
                     all_goals with_reducible rfl
                   simp only [putE]
                   refine wpX_kp (i := 4) (oi := ⟨some 71, _, _, _, _, none⟩) (v := ?_) rfl (fun _ _ _ h => h) ?_ ⟨(by assumption), fun _ => trivial⟩ ?_
                   rotate_left
                   · intro U hU
                     go_simp
                     all_goals with_reducible rfl
                   simp only [putE]
                   refine wpX_kp (i := 5) (oi := ⟨some 72, _, _, _, _, none⟩) (v := ?_) rfl (fun _ _ _ h => h) ?_ ⟨(by assumption), fun _ => trivial⟩ ?_
                   rotate_left
                   · intro U hU
                     go_simp
                     all_goals with_reducible rfl
                   simp only [putE]
                   refine wpX_kp (i := 6) (oi := ⟨some 73, _, _, _, _, none⟩) (v := ?_) rfl (fun _ _ _ h => h) ?_ ⟨(by assumption), fun _ => trivial⟩ ?_
                   rotate_left
                   · intro U hU
                     have u0 := (hU.cell (p := ⟨bd, od, none⟩) lbd).trans cd0
                     go_simp
                     all_goals with_reducible rfl
                   simp only [putE]
                   refine wpX_kp (i := 11) (oi := ⟨some 78, _, _, _, _, none⟩) (v := ?_) rfl (fun _ _ _ h => h) ?_ ⟨(by assumption), fun _ => trivial⟩ ?_
                   rotate_left
                   · intro U hU
                     go_simp
                     all_goals with_reducible rfl
                   simp only [putE]
                   refine wpX_kp (i := 12) (oi := ⟨some 79, _, _, _, _, none⟩) (v := ?_) rfl (fun _ _ _ h => h) ?_ ⟨(by assumption), fun _ => trivial⟩ ?_
                   rotate_left
                   · intro U hU
                     have u0 := cell_blk (i := 1) (blk_keep x3 hU)
                     simp only [List.getElem?_toArray, List.getElem?_cons_zero, List.getElem?_cons_succ] at u0
                     go_simp
                     all_goals with_reducible rfl
                   simp only [putE]
                   refine wpX_kp (i := 13) (oi := ⟨some 80, _, _, _, _, none⟩) (v := ?_) rfl (fun _ _ _ h => h) ?_ ⟨(by assumption), fun _ => trivial⟩ ?_
                   rotate_left
                   · refine yields_load_blk 25 (.tmp 3) ?_ g ?_ (t := 25) (fr := (0, 0)) (cs := #[vn, .slice (some ⟨bg, og, none⟩) l.gd.length cg]) (fun U hU => ?_) Try.underlying25 rfl size25 rfl
                     · rfl
                     · rfl
                     · exact blk_keep x3 hU
                   simp only [putE]
                   refine wpX_kp (i := 14) (oi := ⟨some 81, _, _, _, _, none⟩) (v := ?_) rfl (fun _ _ _ h => h) ?_ ⟨(by assumption), fun _ => trivial⟩ ?_
                   rotate_left
                   · intro U hU
                     go_simp
                     all_goals with_reducible rfl
                   simp only [putE]
                   refine wpX_kp (i := 15) (oi := ⟨some 82, _, _, _, _, none⟩) (v := ?_) rfl (fun _ _ _ h => h) ?_ ⟨(by assumption), fun _ => trivial⟩ ?_
                   rotate_left
                   · intro U hU
                     go_simp
                     all_goals with_reducible rfl
                   simp only [putE]
                   refine wpX_kp (i := 16) (oi := ⟨some 83, _, _, _, _, none⟩) (v := ?_) rfl (fun _ _ _ h => h) ?_ ⟨(by assumption), fun _ => trivial⟩ ?_
                   rotate_left
                   · intro U hU
                     go_simp
                     all_goals with_reducible rfl
                   simp only [putE]
                   refine wpX_kp (i := 17) (oi := ⟨some 84, _, _, _, _, none⟩) (v := ?_) rfl (fun _ _ _ h => h) ?_ ⟨(by assumption), fun _ => trivial⟩ ?_
                   rotate_left
                   · intro U hU
                     have u0 := (hU.cell (p := ⟨bd, od, none⟩) lbd).trans cd0
                     go_simp
                     all_goals with_reducible rfl
                   simp only [putE]
                   have hRc := hRd
                   refine wpAnyX_ready (rs := [7, 18]) (by kernel_rfl) (by simp) ?_
                   refine AllReadyX.cons (o := ⟨some 74, _, _, _, _, none⟩) rfl (by rfl) (fun K1 hK1 => ?_) ?_
                   · have HK1' := Lib.hid hK1; clear hK1
                     have hK1x := hRc
                     clear hRc
                     have hSx7 : SlII (wd.alloc (.cells #[.slice a1 one.length cc1, .slice a3 dd.length cc3] 40)) (.slice (some ⟨wd.heap.size, 0, none⟩) 2 2) [one, dd] := slII_two (HONES.out wd hK1x) (HDDS.out wd hK1x)
                     have hBx7 : Below wd.heap.size wd (wd.alloc (.cells #[.slice a1 one.length cc1, .slice a3 dd.length cc3] 40)) := (Below.refl _ _).alloc (Nat.le_refl _) _
                     have hRc : Below wd.heap.size wd (wd.alloc (.cells #[.slice a1 one.length cc1, .slice a3 dd.length cc3] 40)) := btr hK1x hBx7 (Nat.le_refl _)
                     go_simp
                     refine HK1'.out _ _ ⟨hRc, fun _ => trivial⟩ ?_
                     clear HK1' hK1x
                     try simp only [putE]
                     obtain ⟨wx7, hwx7⟩ : ∃ q, q = wd.alloc (.cells #[.slice a1 one.length cc1, .slice a3 dd.length cc3] 40) := ⟨_, rfl⟩
                     rw [← hwx7] at hRc hSx7 hBx7 ⊢
                     clear hwx7
                     refine wpAnyX_ready (rs := [8, 18]) (by kernel_rfl) (by simp) ?_
                     refine AllReadyX.cons (o := ⟨some 75, _, _, _, _, none⟩) rfl (by rfl) (fun K1 hK1 => ?_) ?_
                     · have HK1' := Lib.hid hK1; clear hK1
                       refine oper_call (ts := _) (xs := #[.tmp 69, .tmp 74]) (f := 77) rfl (enters_of Try.func77 (by kernel_rfl) rfl) rfl (R := fun w' => Below wx7.heap.size wx7 w') (v := .int .i64 (m1 : Nat)) ((H771.out wx7 _ hRc hSx7).mono (by rintro e w' ⟨rfl, h⟩; exact ⟨rfl, h⟩)) ?_
                       rintro wc8 hbc8
                       have hK1x := hRc
                       clear hRc
                       have hRc : Below wd.heap.size wd wc8 := btr hK1x hbc8 (Nat.le_refl _)
                       refine HK1'.out _ _ ⟨hRc, fun _ => trivial⟩ ?_
                       clear HK1' hK1x
                       try simp only [putE]
                       refine wpX_kp (i := 9) (oi := ⟨some 76, _, _, _, _, none⟩) (v := ?_) rfl (fun _ _ _ h => h) ?_ ⟨hRc, fun _ => trivial⟩ ?_
                       rotate_left
                       · intro U hU
                         go_simp
                         all_goals with_reducible rfl
                       simp only [putE]
                       refine wpX_kp (i := 10) (oi := ⟨some 77, _, _, _, _, none⟩) (v := ?_) rfl (fun _ _ _ h => h) ?_ ⟨hRc, fun _ => trivial⟩ ?_
                       rotate_left
                       · intro U hU
                         have u0 := (hU.cell (p := ⟨bg, og + m1, none⟩) lbg).trans cg1
                         go_simp
                         all_goals with_reducible rfl
                       simp only [putE]
                       refine wpAnyX_one (i := 18) (o := ⟨some 85, _, _, _, _, none⟩) (by kernel_rfl) rfl (by rfl) (fun K1 hK1 => ?_)
                       have HK1' := Lib.hid hK1; clear hK1
                       have hK1x := hRc
                       clear hRc
                       have hSx18 : SlII (wc8.alloc (.cells #[.slice a2 oo.length cc2, .slice a3 dd.length cc3] 40)) (.slice (some ⟨wc8.heap.size, 0, none⟩) 2 2) [oo, dd] := slII_two (HOOS.out wc8 hK1x) (HDDS.out wc8 hK1x)
                       have hBx18 : Below wc8.heap.size wc8 (wc8.alloc (.cells #[.slice a2 oo.length cc2, .slice a3 dd.length cc3] 40)) := (Below.refl _ _).alloc (Nat.le_refl _) _
                       have hRc : Below wd.heap.size wd (wc8.alloc (.cells #[.slice a2 oo.length cc2, .slice a3 dd.length cc3] 40)) := btr hK1x hBx18 (Nat.le_refl _)
                       go_simp
                       refine HK1'.out _ _ ⟨hRc, fun _ => trivial⟩ ?_
                       clear HK1' hK1x
                       try simp only [putE]
                       obtain ⟨wx18, hwx18⟩ : ∃ q, q = wc8.alloc (.cells #[.slice a2 oo.length cc2, .slice a3 dd.length cc3] 40) := ⟨_, rfl⟩
                       rw [← hwx18] at hRc hSx18 hBx18 ⊢
                       clear hwx18
                       refine wpAnyX_one (i := 19) (o := ⟨some 86, _, _, _, _, none⟩) (by kernel_rfl) rfl (by rfl) (fun K1 hK1 => ?_)
                       have HK1' := Lib.hid hK1; clear hK1
                       refine oper_call (ts := _) (xs := #[.tmp 80, .tmp 85]) (f := 77) rfl (enters_of Try.func77 (by kernel_rfl) rfl) rfl (R := fun w' => Below wx18.heap.size wx18 w') (v := .int .i64 (m2 : Nat)) ((H77o.out wx18 _ hRc hSx18).mono (by rintro e w' ⟨rfl, h⟩; exact ⟨rfl, h⟩)) ?_
                       rintro wc19 hbc19
                       have hK1x := hRc
                       clear hRc
                       have hRc : Below wd.heap.size wd wc19 := btr hK1x hbc19 (Nat.le_refl _)
                       refine HK1'.out _ _ ⟨hRc, fun _ => trivial⟩ ?_
                       clear HK1' hK1x
                       try simp only [putE]
                       refine wpX_kp (i := 20) (oi := ⟨some 87, _, _, _, _, none⟩) (v := ?_) rfl (fun _ _ _ h => h) ?_ ⟨hRc, fun _ => trivial⟩ ?_
                       rotate_left
                       · intro U hU
                         go_simp
                         all_goals with_reducible rfl
                       simp only [putE]
                       refine wpX_kp (i := 21) (oi := ⟨some 88, _, _, _, _, none⟩) (v := ?_) rfl (fun _ _ _ h => h) ?_ ⟨hRc, fun _ => trivial⟩ ?_
                       rotate_left
                       · intro U hU
                         have u0 := (hU.cell (p := ⟨bg, og + m2, none⟩) lbg).trans cg2
                         go_simp
                         all_goals with_reducible rfl
                       simp only [putE]
                       refine wpAnyX_one (i := 22) (o := ⟨some 89, _, _, _, _, none⟩) (by kernel_rfl) rfl (by rfl) (fun K1 hK1 => ?_)
                       have HK1' := Lib.hid hK1; clear hK1
                       refine oper_call (ts := _) (xs := #[.tmp 77, .tmp 88]) (f := 71) rfl (enters_of Try.func71 (by kernel_rfl) rfl) rfl (R := fun w' => wc19 = w') (v := .bool ap) ((apart_any r1 r2 wc19).mono (by rintro e w' ⟨rfl, rfl⟩; exact ⟨by rw [HAPR.out], rfl⟩)) ?_
                       rintro wz rfl
                       refine HK1'.out _ _ ⟨hRc, fun _ => trivial⟩ ?_
                       clear HK1'
                       try simp only [putE]
                       refine wpX_kp (i := 23) (oi := ⟨some 90, _, _, _, _, none⟩) (v := ?_) rfl (fun _ _ _ h => h) ?_ ⟨hRc, fun _ => trivial⟩ ?_
                       rotate_left
                       · intro U hU
                         go_simp
                         all_goals with_reducible rfl
                       simp only [putE]
                       refine wpAnyX_done (by kernel_rfl) ?_ _
                       have hbW : Below w6.heap.size w6 wc19 := btr HBQ.out (btr HWDB.out hRc (Nat.le_refl _)) (Nat.le_refl _)
                       have HRC := Lib.hid hRc
                       clear hRc
                       cases ap
                       · have HF11 := Lib.hid (HFAIL.out rfl)
                         go_wp2
                         go_ret
                         exact FIN.out _ _ HF11.out (btr HB8.out hbW (Nat.le_refl _))
                       · have HOKK := HGOOD.out rfl
                         have HOKH := Lib.hid HOKK
                         have HBW := Lib.hid hbW
                         clear HOKK hbW
                         go_wp2
                         all_goals
                           refine ⟨⟨j + 1, dq.drop 1, by omega, by go_num, Lib.hid ⟨HCUT.out _ HRC.out, fun d hd => HQ.out.2.1 d (List.mem_of_mem_drop hd), HOKH.out, ?_⟩, HBW.out⟩, by simp only [intOf]; omega⟩
                           have h1 := HQ.out.2.2.2
                           rw [List.length_drop]
                           omega
                     refine AllReadyX.cons (o := ⟨some 85, _, _, _, _, none⟩) rfl (by rfl) (fun K1 hK1 => ?_) AllReadyX.nil
                     have HK1' := Lib.hid hK1; clear hK1
                     have hK1x := hRc
                     clear hRc
                     have hSx18 : SlII (wx7.alloc (.cells #[.slice a2 oo.length cc2, .slice a3 dd.length cc3] 40)) (.slice (some ⟨wx7.heap.size, 0, none⟩) 2 2) [oo, dd] := slII_two (HOOS.out wx7 hK1x) (HDDS.out wx7 hK1x)
                     have hBx18 : Below wx7.heap.size wx7 (wx7.alloc (.cells #[.slice a2 oo.length cc2, .slice a3 dd.length cc3] 40)) := (Below.refl _ _).alloc (Nat.le_refl _) _
                     have hRc : Below wd.heap.size wd (wx7.alloc (.cells #[.slice a2 oo.length cc2, .slice a3 dd.length cc3] 40)) := btr hK1x hBx18 (Nat.le_refl _)
                     go_simp
                     refine HK1'.out _ _ ⟨hRc, fun _ => trivial⟩ ?_
                     clear HK1' hK1x
                     try simp only [putE]
                     obtain ⟨wx18, hwx18⟩ : ∃ q, q = wx7.alloc (.cells #[.slice a2 oo.length cc2, .slice a3 dd.length cc3] 40) := ⟨_, rfl⟩
                     rw [← hwx18] at hRc hSx18 hBx18 ⊢
                     clear hwx18
                     have hSx7' := hSx7.below hBx18 (Nat.le_refl _)
                     refine wpAnyX_one (i := 8) (o := ⟨some 75, _, _, _, _, none⟩) (by kernel_rfl) rfl (by rfl) (fun K1 hK1 => ?_)
                     have HK1' := Lib.hid hK1; clear hK1
                     refine oper_call (ts := _) (xs := #[.tmp 69, .tmp 74]) (f := 77) rfl (enters_of Try.func77 (by kernel_rfl) rfl) rfl (R := fun w' => Below wx18.heap.size wx18 w') (v := .int .i64 (m1 : Nat)) ((H771.out wx18 _ hRc hSx7').mono (by rintro e w' ⟨rfl, h⟩; exact ⟨rfl, h⟩)) ?_
                     rintro wc8 hbc8
                     have hK1x := hRc
                     clear hRc
                     have hRc : Below wd.heap.size wd wc8 := btr hK1x hbc8 (Nat.le_refl _)
                     refine HK1'.out _ _ ⟨hRc, fun _ => trivial⟩ ?_
                     clear HK1' hK1x
                     try simp only [putE]
                     refine wpX_kp (i := 9) (oi := ⟨some 76, _, _, _, _, none⟩) (v := ?_) rfl (fun _ _ _ h => h) ?_ ⟨hRc, fun _ => trivial⟩ ?_
                     rotate_left
                     · intro U hU
                       go_simp
                       all_goals with_reducible rfl
                     simp only [putE]
                     refine wpX_kp (i := 10) (oi := ⟨some 77, _, _, _, _, none⟩) (v := ?_) rfl (fun _ _ _ h => h) ?_ ⟨hRc, fun _ => trivial⟩ ?_
                     rotate_left
                     · intro U hU
                       have u0 := (hU.cell (p := ⟨bg, og + m1, none⟩) lbg).trans cg1
                       go_simp
                       all_goals with_reducible rfl
                     simp only [putE]
                     replace hSx18 := hSx18.below hbc8 (Nat.le_refl _)
                     refine wpAnyX_one (i := 19) (o := ⟨some 86, _, _, _, _, none⟩) (by kernel_rfl) rfl (by rfl) (fun K1 hK1 => ?_)
                     have HK1' := Lib.hid hK1; clear hK1
                     refine oper_call (ts := _) (xs := #[.tmp 80, .tmp 85]) (f := 77) rfl (enters_of Try.func77 (by kernel_rfl) rfl) rfl (R := fun w' => Below wc8.heap.size wc8 w') (v := .int .i64 (m2 : Nat)) ((H77o.out wc8 _ hRc hSx18).mono (by rintro e w' ⟨rfl, h⟩; exact ⟨rfl, h⟩)) ?_
                     rintro wc19 hbc19
                     have hK1x := hRc
                     clear hRc
                     have hRc : Below wd.heap.size wd wc19 := btr hK1x hbc19 (Nat.le_refl _)
                     refine HK1'.out _ _ ⟨hRc, fun _ => trivial⟩ ?_
                     clear HK1' hK1x
                     try simp only [putE]
                     refine wpX_kp (i := 20) (oi := ⟨some 87, _, _, _, _, none⟩) (v := ?_) rfl (fun _ _ _ h => h) ?_ ⟨hRc, fun _ => trivial⟩ ?_
                     rotate_left
                     · intro U hU
                       go_simp
                       all_goals with_reducible rfl
                     simp only [putE]
                     refine wpX_kp (i := 21) (oi := ⟨some 88, _, _, _, _, none⟩) (v := ?_) rfl (fun _ _ _ h => h) ?_ ⟨hRc, fun _ => trivial⟩ ?_
                     rotate_left
                     · intro U hU
                       have u0 := (hU.cell (p := ⟨bg, og + m2, none⟩) lbg).trans cg2
                       go_simp
                       all_goals with_reducible rfl
                     simp only [putE]
                     refine wpAnyX_one (i := 22) (o := ⟨some 89, _, _, _, _, none⟩) (by kernel_rfl) rfl (by rfl) (fun K1 hK1 => ?_)
                     have HK1' := Lib.hid hK1; clear hK1
                     refine oper_call (ts := _) (xs := #[.tmp 77, .tmp 88]) (f := 71) rfl (enters_of Try.func71 (by kernel_rfl) rfl) rfl (R := fun w' => wc19 = w') (v := .bool ap) ((apart_any r1 r2 wc19).mono (by rintro e w' ⟨rfl, rfl⟩; exact ⟨by rw [HAPR.out], rfl⟩)) ?_
                     rintro wz rfl
                     refine HK1'.out _ _ ⟨hRc, fun _ => trivial⟩ ?_
                     clear HK1'
                     try simp only [putE]
                     refine wpX_kp (i := 23) (oi := ⟨some 90, _, _, _, _, none⟩) (v := ?_) rfl (fun _ _ _ h => h) ?_ ⟨hRc, fun _ => trivial⟩ ?_
                     rotate_left
                     · intro U hU
                       go_simp
                       all_goals with_reducible rfl
                     simp only [putE]
                     refine wpAnyX_done (by kernel_rfl) ?_ _
                     have hbW : Below w6.heap.size w6 wc19 := btr HBQ.out (btr HWDB.out hRc (Nat.le_refl _)) (Nat.le_refl _)
                     have HRC := Lib.hid hRc
                     clear hRc
                     cases ap
                     · have HF11 := Lib.hid (HFAIL.out rfl)
                       go_wp2
                       go_ret
                       exact FIN.out _ _ HF11.out (btr HB8.out hbW (Nat.le_refl _))
                     · have HOKK := HGOOD.out rfl
                       have HOKH := Lib.hid HOKK
                       have HBW := Lib.hid hbW
                       clear HOKK hbW
                       go_wp2
                       all_goals
                         refine ⟨⟨j + 1, dq.drop 1, by omega, by go_num, Lib.hid ⟨HCUT.out _ HRC.out, fun d hd => HQ.out.2.1 d (List.mem_of_mem_drop hd), HOKH.out, ?_⟩, HBW.out⟩, by simp only [intOf]; omega⟩
                         have h1 := HQ.out.2.2.2
                         rw [List.length_drop]
                         omega
                   refine AllReadyX.cons (o := ⟨some 85, _, _, _, _, none⟩) rfl (by rfl) (fun K1 hK1 => ?_) AllReadyX.nil
                   have HK1' := Lib.hid hK1; clear hK1
                   have hK1x := hRc
                   clear hRc
                   have hSx18 : SlII (wd.alloc (.cells #[.slice a2 oo.length cc2, .slice a3 dd.length cc3] 40)) (.slice (some ⟨wd.heap.size, 0, none⟩) 2 2) [oo, dd] := slII_two (HOOS.out wd hK1x) (HDDS.out wd hK1x)
                   have hBx18 : Below wd.heap.size wd (wd.alloc (.cells #[.slice a2 oo.length cc2, .slice a3 dd.length cc3] 40)) := (Below.refl _ _).alloc (Nat.le_refl _) _
                   have hRc : Below wd.heap.size wd (wd.alloc (.cells #[.slice a2 oo.length cc2, .slice a3 dd.length cc3] 40)) := btr hK1x hBx18 (Nat.le_refl _)
                   go_simp
                   refine HK1'.out _ _ ⟨hRc, fun _ => trivial⟩ ?_
                   clear HK1' hK1x
                   try simp only [putE]
                   obtain ⟨wx18, hwx18⟩ : ∃ q, q = wd.alloc (.cells #[.slice a2 oo.length cc2, .slice a3 dd.length cc3] 40) := ⟨_, rfl⟩
                   rw [← hwx18] at hRc hSx18 hBx18 ⊢
                   clear hwx18
                   refine wpAnyX_one (i := 7) (o := ⟨some 74, _, _, _, _, none⟩) (by kernel_rfl) rfl (by rfl) (fun K1 hK1 => ?_)
                   have HK1' := Lib.hid hK1; clear hK1
                   have hK1x := hRc
                   clear hRc
                   have hSx7 : SlII (wx18.alloc (.cells #[.slice a1 one.length cc1, .slice a3 dd.length cc3] 40)) (.slice (some ⟨wx18.heap.size, 0, none⟩) 2 2) [one, dd] := slII_two (HONES.out wx18 hK1x) (HDDS.out wx18 hK1x)
                   have hBx7 : Below wx18.heap.size wx18 (wx18.alloc (.cells #[.slice a1 one.length cc1, .slice a3 dd.length cc3] 40)) := (Below.refl _ _).alloc (Nat.le_refl _) _
                   have hRc : Below wd.heap.size wd (wx18.alloc (.cells #[.slice a1 one.length cc1, .slice a3 dd.length cc3] 40)) := btr hK1x hBx7 (Nat.le_refl _)
                   go_simp
                   refine HK1'.out _ _ ⟨hRc, fun _ => trivial⟩ ?_
                   clear HK1' hK1x
                   try simp only [putE]
                   obtain ⟨wx7, hwx7⟩ : ∃ q, q = wx18.alloc (.cells #[.slice a1 one.length cc1, .slice a3 dd.length cc3] 40) := ⟨_, rfl⟩
                   rw [← hwx7] at hRc hSx7 hBx7 ⊢
                   clear hwx7
                   replace hSx18 := hSx18.below hBx7 (Nat.le_refl _)
                   refine wpAnyX_one (i := 8) (o := ⟨some 75, _, _, _, _, none⟩) (by kernel_rfl) rfl (by rfl) (fun K1 hK1 => ?_)
                   have HK1' := Lib.hid hK1; clear hK1
                   refine oper_call (ts := _) (xs := #[.tmp 69, .tmp 74]) (f := 77) rfl (enters_of Try.func77 (by kernel_rfl) rfl) rfl (R := fun w' => Below wx7.heap.size wx7 w') (v := .int .i64 (m1 : Nat)) ((H771.out wx7 _ hRc hSx7).mono (by rintro e w' ⟨rfl, h⟩; exact ⟨rfl, h⟩)) ?_
                   rintro wc8 hbc8
                   have hK1x := hRc
                   clear hRc
                   have hRc : Below wd.heap.size wd wc8 := btr hK1x hbc8 (Nat.le_refl _)
                   refine HK1'.out _ _ ⟨hRc, fun _ => trivial⟩ ?_
                   clear HK1' hK1x
                   try simp only [putE]
                   refine wpX_kp (i := 9) (oi := ⟨some 76, _, _, _, _, none⟩) (v := ?_) rfl (fun _ _ _ h => h) ?_ ⟨hRc, fun _ => trivial⟩ ?_
                   rotate_left
                   · intro U hU
                     go_simp
                     all_goals with_reducible rfl
                   simp only [putE]
                   refine wpX_kp (i := 10) (oi := ⟨some 77, _, _, _, _, none⟩) (v := ?_) rfl (fun _ _ _ h => h) ?_ ⟨hRc, fun _ => trivial⟩ ?_
                   rotate_left
                   · intro U hU
                     have u0 := (hU.cell (p := ⟨bg, og + m1, none⟩) lbg).trans cg1
                     go_simp
                     all_goals with_reducible rfl
                   simp only [putE]
                   replace hSx18 := hSx18.below hbc8 (Nat.le_refl _)
                   refine wpAnyX_one (i := 19) (o := ⟨some 86, _, _, _, _, none⟩) (by kernel_rfl) rfl (by rfl) (fun K1 hK1 => ?_)
                   have HK1' := Lib.hid hK1; clear hK1
                   refine oper_call (ts := _) (xs := #[.tmp 80, .tmp 85]) (f := 77) rfl (enters_of Try.func77 (by kernel_rfl) rfl) rfl (R := fun w' => Below wc8.heap.size wc8 w') (v := .int .i64 (m2 : Nat)) ((H77o.out wc8 _ hRc hSx18).mono (by rintro e w' ⟨rfl, h⟩; exact ⟨rfl, h⟩)) ?_
                   rintro wc19 hbc19
                   have hK1x := hRc
                   clear hRc
                   have hRc : Below wd.heap.size wd wc19 := btr hK1x hbc19 (Nat.le_refl _)
                   refine HK1'.out _ _ ⟨hRc, fun _ => trivial⟩ ?_
                   clear HK1' hK1x
                   try simp only [putE]
                   refine wpX_kp (i := 20) (oi := ⟨some 87, _, _, _, _, none⟩) (v := ?_) rfl (fun _ _ _ h => h) ?_ ⟨hRc, fun _ => trivial⟩ ?_
                   rotate_left
                   · intro U hU
                     go_simp
                     all_goals with_reducible rfl
                   simp only [putE]
                   refine wpX_kp (i := 21) (oi := ⟨some 88, _, _, _, _, none⟩) (v := ?_) rfl (fun _ _ _ h => h) ?_ ⟨hRc, fun _ => trivial⟩ ?_
                   rotate_left
                   · intro U hU
                     have u0 := (hU.cell (p := ⟨bg, og + m2, none⟩) lbg).trans cg2
                     go_simp
                     all_goals with_reducible rfl
                   simp only [putE]
                   refine wpAnyX_one (i := 22) (o := ⟨some 89, _, _, _, _, none⟩) (by kernel_rfl) rfl (by rfl) (fun K1 hK1 => ?_)
                   have HK1' := Lib.hid hK1; clear hK1
                   refine oper_call (ts := _) (xs := #[.tmp 77, .tmp 88]) (f := 71) rfl (enters_of Try.func71 (by kernel_rfl) rfl) rfl (R := fun w' => wc19 = w') (v := .bool ap) ((apart_any r1 r2 wc19).mono (by rintro e w' ⟨rfl, rfl⟩; exact ⟨by rw [HAPR.out], rfl⟩)) ?_
                   rintro wz rfl
                   refine HK1'.out _ _ ⟨hRc, fun _ => trivial⟩ ?_
                   clear HK1'
                   try simp only [putE]
                   refine wpX_kp (i := 23) (oi := ⟨some 90, _, _, _, _, none⟩) (v := ?_) rfl (fun _ _ _ h => h) ?_ ⟨hRc, fun _ => trivial⟩ ?_
                   rotate_left
                   · intro U hU
                     go_simp
                     all_goals with_reducible rfl
                   simp only [putE]
                   refine wpAnyX_done (by kernel_rfl) ?_ _
                   have hbW : Below w6.heap.size w6 wc19 := btr HBQ.out (btr HWDB.out hRc (Nat.le_refl _)) (Nat.le_refl _)
                   have HRC := Lib.hid hRc
                   clear hRc
                   cases ap
                   · have HF11 := Lib.hid (HFAIL.out rfl)
                     go_wp2
                     go_ret
                     exact FIN.out _ _ HF11.out (btr HB8.out hbW (Nat.le_refl _))
                   · have HOKK := HGOOD.out rfl
                     have HOKH := Lib.hid HOKK
                     have HBW := Lib.hid hbW
                     clear HOKK hbW
                     go_wp2
                     all_goals
                       refine ⟨⟨j + 1, dq.drop 1, by omega, by go_num, Lib.hid ⟨HCUT.out _ HRC.out, fun d hd => HQ.out.2.1 d (List.mem_of_mem_drop hd), HOKH.out, ?_⟩, HBW.out⟩, by simp only [intOf]; omega⟩
                       have h1 := HQ.out.2.2.2
                       rw [List.length_drop]
                       omega)
              · have hje : j = n - (k2 + 1) := by omega
                have hjni : ¬ (j : Int) < ((n - (k2 + 1) : Nat) : Int) := by omega
                have HNX : Hid (verAll l ss ds = verAll l (ss.drop (k2 + 1)) dq) := Lib.hid (by
                  have h0 : (ss.drop (k2 + 1)).drop j = [] := by
                    rw [List.drop_drop]
                    exact List.drop_eq_nil_of_le (by have := HNN.out; omega)
                  rw [HR.out.2.2.1, List.drop_eq_getElem_cons hkl, verAll, ← HONE.out, HQ.out.2.2.1, h0, verRow])
                have HBQ := Lib.hid hbq
                clear hbq
                go_wp2
                all_goals
                  have h1 : dq.length = triN (n - (k2 + 1)) := by have h1 := HQ.out.2.2.2; omega
                  first
                    | exact ⟨⟨k2 + 1, dq, by omega, by go_num, Lib.hid ⟨HQ.out.1, HQ.out.2.1, HNX.out, h1⟩, HBQ.out⟩, by simp only [intOf]; omega⟩
                    | exact ⟨⟨_, _, _, _, _, _, ⟨k2 + 1, by omega, by go_num, ⟨dq, Lib.hid ⟨HQ.out.1, HQ.out.2.1, HNX.out, h1⟩⟩, HBQ.out⟩, rfl, rfl, rfl, rfl, rfl, rfl⟩, by simp only [intOf]; omega⟩
        · have hki2 : ¬ (k2 : Int) < (n : Int) := by omega
          have HE4 : Hid ((0 : Int) = verE l ss ds) := Lib.hid (by
            rw [HE3.out, HR.out.2.2.1, List.drop_eq_nil_of_le (by have := HNN.out; omega), verAll, if_pos rfl])
          have HBR := Lib.hid hbr
          clear hbr
          go_wp2
          refine HK.out _ _ ?_; clear HK
          go_wp2
          go_ret
          exact FIN.out _ _ HE4.out (btr HB8.out HBR.out (Nat.le_refl _))
end Ytnjgglnpmhjmiaa
end Go.Proofs

