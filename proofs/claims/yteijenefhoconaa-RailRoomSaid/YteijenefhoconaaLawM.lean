/- The laws RailMoves and RailVerifies return true. -/
import Derived.Test.YteijenefhoconaaRefG
import Derived.Test.YteijenefhoconaaWorks
open Go Go.RowKit Go.YteijenefhoconaaIt
namespace Go.Proofs
namespace Yteijenefhoconaa
theorem slI_nil (w : World) : SlI w (.slice none 0 0) [] := ⟨none, 0, rfl, by simp, fun h => by simp at h⟩
theorem slT_nil (w : World) : SlT w (.slice none 0 0) [] := ⟨none, 0, rfl, by simp, fun h => by simp at h⟩
def canX (L : List Int) (ts : List Tn) : List Int := if lineE L ts = 0 then canL L (tos ts) (pos ts) else []
def mvX (L : List Int) (ts : List Tn) (i : Int) : List Tn := if mvE L ts i = 0 then mvT L ts i else []
theorem u35 (vL vt : Value) (L : List Int) (ts : List Tn) (w : World) (hL : SlI w vL L) (ht : SlT w vt ts) :
    Calls Try.prog 35 #[vL, vt] w fun e w' => ∃ v, e = .returned (.tuple #[v, .int .i64 (lineE L ts)]) ∧ SlI w' v (canX L ts) ∧ Below w.heap.size w w' := by
  refine (possible_any vL vt L ts w hL ht).mono ?_
  rintro e w' ⟨hb, ⟨hn, rfl⟩ | ⟨h0, v, rfl, hv⟩⟩
  · exact ⟨_, rfl, by unfold canX; rw [if_neg hn]; exact slI_nil _, hb⟩
  · exact ⟨v, by rw [h0], by unfold canX; rw [if_pos h0]; exact hv, hb⟩
theorem u43 (vL vt : Value) (L : List Int) (ts : List Tn) (w : World) (hL : SlI w vL L) (ht : SlT w vt ts) :
    Calls Try.prog 43 #[vL, vt] w fun e w' => ∃ v, e = .returned (.tuple #[v, .int .i64 (lineE L ts)]) ∧ SlI w' v (canX L ts) ∧ Below w.heap.size w w' := by
  refine (poss43_any vL vt L ts w hL ht).mono ?_
  rintro e w' ⟨hb, ⟨hn, rfl⟩ | ⟨h0, v, rfl, hv⟩⟩
  · exact ⟨_, rfl, by unfold canX; rw [if_neg hn]; exact slI_nil _, hb⟩
  · exact ⟨v, by rw [h0], by unfold canX; rw [if_pos h0]; exact hv, hb⟩
theorem u37 (vL vt : Value) (L : List Int) (ts : List Tn) (i : Int) (w : World) (hL : SlI w vL L) (ht : SlT w vt ts) :
    Calls Try.prog 37 #[vL, vt, .int .i64 i] w fun e w' => ∃ v, e = .returned (.tuple #[v, .int .i64 (mvE L ts i)]) ∧ SlT w' v (mvX L ts i) ∧ Below w.heap.size w w' := by
  refine (mv_any vL vt L ts i w hL ht).mono ?_
  rintro e w' ⟨hb, ⟨hn, rfl⟩ | ⟨h0, v, rfl, hv⟩⟩
  · exact ⟨_, rfl, by unfold mvX; rw [if_neg hn]; exact slT_nil _, hb⟩
  · exact ⟨v, by rw [h0], by unfold mvX; rw [if_pos h0]; exact hv, hb⟩
theorem u44 (vL vt : Value) (L : List Int) (ts : List Tn) (i : Int) (w : World) (hL : SlI w vL L) (ht : SlT w vt ts) :
    Calls Try.prog 44 #[vL, vt, .int .i64 i] w fun e w' => ∃ v, e = .returned (.tuple #[v, .int .i64 (mvE L ts i)]) ∧ SlT w' v (mvX L ts i) ∧ Below w.heap.size w w' := by
  refine (move44_any vL vt L ts i w hL ht).mono ?_
  rintro e w' ⟨hb, ⟨hn, rfl⟩ | ⟨h0, v, rfl, hv⟩⟩
  · exact ⟨_, rfl, by unfold mvX; rw [if_neg hn]; exact slT_nil _, hb⟩
  · exact ⟨v, by rw [h0], by unfold mvX; rw [if_pos h0]; exact hv, hb⟩
theorem x29 {v u : Value} {xs ys : List Tn} (h : xs = ys) (W : World) (hv : SlT W v xs) (hu : SlT W u ys) : Calls Try.prog 29 #[v, u] W fun e w' => e = .returned (.bool true) ∧ Below W.heap.size W w' := by
  refine (same_any v u xs ys W hv hu).mono ?_
  rintro e w' ⟨rfl, hb⟩
  exact ⟨by rw [decide_eq_true h], hb⟩
set_option maxRecDepth 100000 in
set_option maxHeartbeats 1000000 in
theorem railMoves_any (vL vt : Value) (L : List Int) (ts : List Tn) (i : Int) (w : World) (hL : SlI w vL L) (ht : SlT w vt ts) :
    Calls Try.prog 13 #[vL, vt, .int .i64 i] w fun e w' => e = .returned (.bool true) ∧ Below w.heap.size w w' := by
  have hL0 := hL
  have ht0 := ht
  obtain ⟨adL, capL, rfl, hmL, -⟩ := hL
  obtain ⟨ad, cap, rfl, hm, -⟩ := ht
  by_cases h1 : 20 < L.length
  · go_enter Try.func13, Try.ntmps13
    go_wp2_with (go_at_call 14; refine (works_any _).mono ?_; rintro e w2 ⟨rfl, hb2⟩)
    go_ret
    exact ⟨rfl, hb2⟩
  by_cases h2 : 20 < ts.length
  · go_enter Try.func13, Try.ntmps13
    go_wp2_with (go_at_call 14; refine (works_any _).mono ?_; rintro e w2 ⟨rfl, hb2⟩)
    go_ret
    exact ⟨rfl, hb2⟩
  have HL := Lib.hid hL0
  have HT := Lib.hid ht0
  clear hL0 ht0
  go_enter Try.func13, Try.ntmps13
  go_wp2_with fail
  refine (given_any _ ts _ HT.out (by omega)).mono ?_
  rintro e w2 ⟨x, rfl, hx, hb2⟩
  have B := hb2
  have HX := Lib.hid hx
  clear hx hb2
  go_wp2_with fail
  refine (u35 _ _ L ts _ (HL.out.below B (Nat.le_refl _)) (HT.out.below B (Nat.le_refl _))).mono ?_
  rintro e w3 ⟨a, rfl, ha, hb⟩
  have HX := Lib.hid (HX.out.below hb (Nat.le_refl _))
  have HA := Lib.hid ha
  replace B := btr B hb (Nat.le_refl _)
  clear ha hb
  go_wp2_with fail
  refine (u43 _ _ L ts _ (HL.out.below B (Nat.le_refl _)) HX.out).mono ?_
  rintro e w4 ⟨b, rfl, hb4, hb⟩
  have HX := Lib.hid (HX.out.below hb (Nat.le_refl _))
  have HA := Lib.hid (HA.out.below hb (Nat.le_refl _))
  have HB := Lib.hid hb4
  replace B := btr B hb (Nat.le_refl _)
  clear hb4 hb
  go_wp2_with fail
  refine (u37 _ _ L ts i _ (HL.out.below B (Nat.le_refl _)) (HT.out.below B (Nat.le_refl _))).mono ?_
  rintro e w5 ⟨c, rfl, hc, hb⟩
  have HX := Lib.hid (HX.out.below hb (Nat.le_refl _))
  have HA := Lib.hid (HA.out.below hb (Nat.le_refl _))
  have HB := Lib.hid (HB.out.below hb (Nat.le_refl _))
  have HC := Lib.hid hc
  replace B := btr B hb (Nat.le_refl _)
  clear hc hb
  go_wp2_with fail
  refine (u44 _ _ L ts i _ (HL.out.below B (Nat.le_refl _)) HX.out).mono ?_
  rintro e w6 ⟨d, rfl, hd, hb⟩
  have HX := Lib.hid (HX.out.below hb (Nat.le_refl _))
  have HA := Lib.hid (HA.out.below hb (Nat.le_refl _))
  have HB := Lib.hid (HB.out.below hb (Nat.le_refl _))
  have HC := Lib.hid (HC.out.below hb (Nat.le_refl _))
  have HD := Lib.hid hd
  replace B := btr B hb (Nat.le_refl _)
  clear hd hb
  go_wp2_with fail
  refine (x27 rfl _ HA.out HB.out).mono ?_
  rintro e w7 ⟨rfl, hb⟩
  have HX := Lib.hid (HX.out.below hb (Nat.le_refl _))
  have HC := Lib.hid (HC.out.below hb (Nat.le_refl _))
  have HD := Lib.hid (HD.out.below hb (Nat.le_refl _))
  replace B := btr B hb (Nat.le_refl _)
  clear hb
  go_wp2_with fail
  refine (x29 rfl _ HC.out HD.out).mono ?_
  rintro e w8 ⟨rfl, hb⟩
  have HX := Lib.hid (HX.out.below hb (Nat.le_refl _))
  replace B := btr B hb (Nat.le_refl _)
  clear hb
  go_wp2_with fail
  refine (check_any _ _ L ts _ (HL.out.below B (Nat.le_refl _)) (HT.out.below B (Nat.le_refl _))).mono ?_
  rintro e w9 ⟨rfl, hb⟩
  have HX := Lib.hid (HX.out.below hb (Nat.le_refl _))
  replace B := btr B hb (Nat.le_refl _)
  clear hb
  go_wp2_with fail
  refine (check46_any _ _ L ts _ (HL.out.below B (Nat.le_refl _)) HX.out).mono ?_
  rintro e w10 ⟨rfl, hb⟩
  replace B := btr B hb (Nat.le_refl _)
  clear hb
  go_wp2_with fail
  refine (works_any _).mono ?_
  rintro e w11 ⟨rfl, hb⟩
  go_wp2
  go_ret
  exact ⟨rfl, btr B hb (Nat.le_refl _)⟩
set_option maxRecDepth 100000 in
set_option maxHeartbeats 1000000 in
theorem railVerifies_any (vL vt vm : Value) (L : List Int) (ts : List Tn) (ms : List Int) (w : World) (hL : SlI w vL L) (ht : SlT w vt ts) (hms : SlI w vm ms) :
    Calls Try.prog 4 #[vL, vt, vm] w fun e w' => e = .returned (.bool true) ∧ Below w.heap.size w w' := by
  have hL0 := hL
  have ht0 := ht
  have hm0 := hms
  obtain ⟨adL, capL, rfl, hmL, -⟩ := hL
  obtain ⟨ad, cap, rfl, hm, -⟩ := ht
  obtain ⟨adm, capm, rfl, hmm, -⟩ := hms
  have HL := Lib.hid hL0
  have HT := Lib.hid ht0
  have HM := Lib.hid hm0
  clear hL0 ht0 hm0
  by_cases h1 : 20 < L.length
  · go_enter Try.func4, Try.ntmps4
    go_wp2_with (go_at_call 14; refine (works_any _).mono ?_; rintro e w2 ⟨rfl, hb2⟩)
    go_ret
    exact ⟨rfl, hb2⟩
  by_cases h2 : 20 < ts.length
  · go_enter Try.func4, Try.ntmps4
    go_wp2_with (go_at_call 14; refine (works_any _).mono ?_; rintro e w2 ⟨rfl, hb2⟩)
    go_ret
    exact ⟨rfl, hb2⟩
  by_cases h3 : 100 < ms.length
  · go_enter Try.func4, Try.ntmps4
    go_wp2_with (go_at_call 14; refine (works_any _).mono ?_; rintro e w2 ⟨rfl, hb2⟩)
    go_ret
    exact ⟨rfl, hb2⟩
  have h22 := verify_any _ _ _ L ts ms w HL.out HT.out HM.out
  have h21 := fun (x : Value) W (hb : Below w.heap.size w W) (hx : SlT W x ts) => verify21_any _ x _ L ts ms W (HL.out.below hb (Nat.le_refl _)) hx (HM.out.below hb (Nat.le_refl _))
  generalize (verE L ts ms).1 = p at *
  generalize (verE L ts ms).2 = q at *
  have H21 := Lib.hid h21
  clear h21
  go_enter Try.func4, Try.ntmps4
  go_wp2_with fail
  refine h22.mono ?_
  rintro e w2 ⟨rfl, B⟩
  clear h22
  go_wp2_with fail
  refine (given_any _ ts _ (HT.out.below B (Nat.le_refl _)) (by omega)).mono ?_
  rintro e w3 ⟨x, rfl, hx, hb⟩
  have HX := Lib.hid hx
  replace B := btr B hb (Nat.le_refl _)
  clear hx hb
  go_wp2_with fail
  refine (H21.out _ _ B HX.out).mono ?_
  rintro e w4 ⟨rfl, hb⟩
  replace B := btr B hb (Nat.le_refl _)
  clear hb
  go_wp2_with fail
  refine (works_any _).mono ?_
  rintro e w5 ⟨rfl, hb⟩
  go_wp2
  go_ret
  exact ⟨rfl, btr B hb (Nat.le_refl _)⟩
end Yteijenefhoconaa
end Go.Proofs
