/- The law RailGoods returns true. -/
import Derived.Test.YteijenefhoconaaRefDi
import Derived.Test.YteijenefhoconaaRefG
import Derived.Test.YteijenefhoconaaLawM
open Go Go.RowKit Go.YteijenefhoconaaIt
namespace Go.Proofs
namespace Yteijenefhoconaa
def gdX (L : List Int) (ts : List Tn) : List Int := if lineE L ts = 0 then goodL L (tos ts) (pos ts) else []
def dX1 (L : List Int) (ts : List Tn) (ms : List Int) : List Bool := if dispE L ts ms = 0 then (dispG L (tos ts) (pos ts) ms).1 else []
def dX2 (L : List Int) (ts : List Tn) (ms : List Int) : List Tn := if dispE L ts ms = 0 then tsOf (dispG L (tos ts) (pos ts) ms).2 (tos ts) else []
theorem slB_nil (w : World) : SlB w (.slice none 0 0) [] := ⟨none, 0, rfl, by simp, fun h => by simp at h⟩
theorem u23 (vL vt : Value) (L : List Int) (ts : List Tn) (w : World) (hL : SlI w vL L) (ht : SlT w vt ts) :
    Calls Try.prog 23 #[vL, vt] w fun e w' => ∃ v, e = .returned (.tuple #[v, .int .i64 (lineE L ts)]) ∧ SlI w' v (gdX L ts) ∧ Below w.heap.size w w' := by
  refine (good_any vL vt L ts w hL ht).mono ?_
  rintro e w' ⟨hb, ⟨hn, rfl⟩ | ⟨h0, v, rfl, hv⟩⟩
  · exact ⟨_, rfl, by unfold gdX; rw [if_neg hn]; exact slI_nil _, hb⟩
  · exact ⟨v, by rw [h0], by unfold gdX; rw [if_pos h0]; exact hv, hb⟩
theorem u24 (vL vt : Value) (L : List Int) (ts : List Tn) (w : World) (hL : SlI w vL L) (ht : SlT w vt ts) :
    Calls Try.prog 24 #[vL, vt] w fun e w' => ∃ v, e = .returned (.tuple #[v, .int .i64 (lineE L ts)]) ∧ SlI w' v (gdX L ts) ∧ Below w.heap.size w w' := by
  refine (good24_any vL vt L ts w hL ht).mono ?_
  rintro e w' ⟨hb, ⟨hn, rfl⟩ | ⟨h0, v, rfl, hv⟩⟩
  · exact ⟨_, rfl, by unfold gdX; rw [if_neg hn]; exact slI_nil _, hb⟩
  · exact ⟨v, by rw [h0], by unfold gdX; rw [if_pos h0]; exact hv, hb⟩
theorem u25 (vL vt vm : Value) (L : List Int) (ts : List Tn) (ms : List Int) (w : World) (hL : SlI w vL L) (ht : SlT w vt ts) (hm : SlI w vm ms) :
    Calls Try.prog 25 #[vL, vt, vm] w fun e w' => ∃ v u, e = .returned (.tuple #[v, u, .int .i64 (dispE L ts ms)]) ∧ SlB w' v (dX1 L ts ms) ∧ SlT w' u (dX2 L ts ms) ∧ Below w.heap.size w w' := by
  refine (disp_any vL vt vm L ts ms w hL ht hm).mono ?_
  rintro e w' ⟨hb, ⟨hn, rfl⟩ | ⟨h0, v, u, rfl, hv, hu⟩⟩
  · exact ⟨_, _, rfl, by unfold dX1; rw [if_neg hn]; exact slB_nil _, by unfold dX2; rw [if_neg hn]; exact slT_nil _, hb⟩
  · exact ⟨v, u, by rw [h0], by unfold dX1; rw [if_pos h0]; exact hv, by unfold dX2; rw [if_pos h0]; exact hu, hb⟩
theorem u26 (vL vt vm : Value) (L : List Int) (ts : List Tn) (ms : List Int) (w : World) (hL : SlI w vL L) (ht : SlT w vt ts) (hm : SlI w vm ms) :
    Calls Try.prog 26 #[vL, vt, vm] w fun e w' => ∃ v u, e = .returned (.tuple #[v, u, .int .i64 (dispE L ts ms)]) ∧ SlB w' v (dX1 L ts ms) ∧ SlT w' u (dX2 L ts ms) ∧ Below w.heap.size w w' := by
  refine (disp26_any vL vt vm L ts ms w hL ht hm).mono ?_
  rintro e w' ⟨hb, ⟨hn, rfl⟩ | ⟨h0, v, u, rfl, hv, hu⟩⟩
  · exact ⟨_, _, rfl, by unfold dX1; rw [if_neg hn]; exact slB_nil _, by unfold dX2; rw [if_neg hn]; exact slT_nil _, hb⟩
  · exact ⟨v, u, by rw [h0], by unfold dX1; rw [if_pos h0]; exact hv, by unfold dX2; rw [if_pos h0]; exact hu, hb⟩
set_option maxRecDepth 100000 in
set_option maxHeartbeats 4000000 in
theorem railGoods_any (vL vt vm : Value) (L : List Int) (ts : List Tn) (ms : List Int) (w : World) (hL : SlI w vL L) (ht : SlT w vt ts) (hms : SlI w vm ms) :
    Calls Try.prog 5 #[vL, vt, vm] w fun e w' => e = .returned (.bool true) ∧ Below w.heap.size w w' := by
  have hL0 := hL
  have ht0 := ht
  have hm0 := hms
  obtain ⟨adL, capL, rfl, hmL, -⟩ := hL
  obtain ⟨ad, cap, rfl, hm, -⟩ := ht
  obtain ⟨adm, capm, rfl, hmm, -⟩ := hms
  have HL := Lib.hid hL0
  have HT := Lib.hid ht0
  have HM := Lib.hid hm0
  clear hL0 ht0 hm0
  by_cases h1 : 20 < L.length
  · go_enter Try.func5, Try.ntmps5
    go_wp2_with (go_at_call 14; refine (works_any _).mono ?_; rintro e w2 ⟨rfl, hb2⟩)
    go_ret
    exact ⟨rfl, hb2⟩
  by_cases h2 : 20 < ts.length
  · go_enter Try.func5, Try.ntmps5
    go_wp2_with (go_at_call 14; refine (works_any _).mono ?_; rintro e w2 ⟨rfl, hb2⟩)
    go_ret
    exact ⟨rfl, hb2⟩
  by_cases h3 : 600 < ms.length
  · go_enter Try.func5, Try.ntmps5
    go_wp2_with (go_at_call 14; refine (works_any _).mono ?_; rintro e w2 ⟨rfl, hb2⟩)
    go_ret
    exact ⟨rfl, hb2⟩
  have hcs : ((((ts.length : Int) == 5) = true ∧ 6 < ms.length ∧ ms.length ≤ 500) ∨ (((ts.length : Int) == 5) = false ∧ 20 < ms.length ∧ ms.length ≤ 500)) ∨
      ((((ts.length : Int) == 5) = true ∧ 500 < ms.length ∧ 6 < ms.length ∧ 20 < ms.length) ∨ (((ts.length : Int) == 5) = false ∧ 500 < ms.length ∧ 6 < ms.length ∧ 20 < ms.length) ∨ (((ts.length : Int) == 5) = false ∧ ms.length ≤ 20 ∧ True ∧ True) ∨ (((ts.length : Int) == 5) = true ∧ ms.length ≤ 6 ∧ ms.length ≤ 20 ∧ True)) := by
    cases ((ts.length : Int) == 5) <;> simp <;> omega
  rcases hcs with (⟨e5, g1, g2⟩ | ⟨e5, g1, g2⟩) | hcs
  · go_enter Try.func5, Try.ntmps5
    go_wp2_with (go_at_call 14; refine (works_any _).mono ?_; rintro e w2 ⟨rfl, hb2⟩)
    go_ret
    exact ⟨rfl, hb2⟩
  · go_enter Try.func5, Try.ntmps5
    go_wp2_with (go_at_call 14; refine (works_any _).mono ?_; rintro e w2 ⟨rfl, hb2⟩)
    go_ret
    exact ⟨rfl, hb2⟩
  have h25 := fun W (hb : Below w.heap.size w W) => u25 _ _ _ L ts ms W (HL.out.below hb (Nat.le_refl _)) (HT.out.below hb (Nat.le_refl _)) (HM.out.below hb (Nat.le_refl _))
  have h26 := fun (x : Value) W (hb : Below w.heap.size w W) (hx : SlT W x ts) => u26 _ x _ L ts ms W (HL.out.below hb (Nat.le_refl _)) hx (HM.out.below hb (Nat.le_refl _))
  generalize dispE L ts ms = de at *
  generalize dX1 L ts ms = x1 at *
  generalize dX2 L ts ms = x2 at *
  have H25 := Lib.hid h25
  have H26 := Lib.hid h26
  clear h25 h26
  rcases hcs with ⟨e5, g1, g2, g3⟩ | ⟨e5, g1, g2, g3⟩ | ⟨e5, g1, g2, g3⟩ | ⟨e5, g1, g2, g3⟩
  all_goals
    go_enter Try.func5, Try.ntmps5
    go_wp2_with fail
    refine (given_any _ ts _ HT.out (by omega)).mono ?_
    rintro e w2 ⟨x, rfl, hx, B⟩
    have HX := Lib.hid hx
    clear hx
    go_wp2_with fail
    refine (u23 _ _ L ts _ (HL.out.below B (Nat.le_refl _)) (HT.out.below B (Nat.le_refl _))).mono ?_
    rintro e w3 ⟨a, rfl, ha, hb⟩
    have HX := Lib.hid (HX.out.below hb (Nat.le_refl _))
    have HA := Lib.hid ha
    replace B := btr B hb (Nat.le_refl _)
    clear ha hb
    go_wp2_with fail
    refine (u24 _ _ L ts _ (HL.out.below B (Nat.le_refl _)) HX.out).mono ?_
    rintro e w4 ⟨b, rfl, hb4, hb⟩
    have HX := Lib.hid (HX.out.below hb (Nat.le_refl _))
    have HA := Lib.hid (HA.out.below hb (Nat.le_refl _))
    have HB := Lib.hid hb4
    replace B := btr B hb (Nat.le_refl _)
    clear hb4 hb
    go_wp2_with fail
    refine (H25.out _ B).mono ?_
    rintro e w5 ⟨c, d, rfl, hc, hd, hb⟩
    have HX := Lib.hid (HX.out.below hb (Nat.le_refl _))
    have HA := Lib.hid (HA.out.below hb (Nat.le_refl _))
    have HB := Lib.hid (HB.out.below hb (Nat.le_refl _))
    have HC := Lib.hid hc
    have HD := Lib.hid hd
    replace B := btr B hb (Nat.le_refl _)
    clear hc hd hb
    go_wp2_with fail
    refine (H26.out _ _ B HX.out).mono ?_
    rintro e w6 ⟨c2, d2, rfl, hc2, hd2, hb⟩
    have HA := Lib.hid (HA.out.below hb (Nat.le_refl _))
    have HB := Lib.hid (HB.out.below hb (Nat.le_refl _))
    have HC := Lib.hid (HC.out.below hb (Nat.le_refl _))
    have HD := Lib.hid (HD.out.below hb (Nat.le_refl _))
    have HC2 := Lib.hid hc2
    have HD2 := Lib.hid hd2
    replace B := btr B hb (Nat.le_refl _)
    clear hc2 hd2 hb HX
    go_wp2_with fail
    refine (x27 rfl _ HA.out HB.out).mono ?_
    rintro e w7 ⟨rfl, hb⟩
    have HC := Lib.hid (HC.out.below hb (Nat.le_refl _))
    have HD := Lib.hid (HD.out.below hb (Nat.le_refl _))
    have HC2 := Lib.hid (HC2.out.below hb (Nat.le_refl _))
    have HD2 := Lib.hid (HD2.out.below hb (Nat.le_refl _))
    replace B := btr B hb (Nat.le_refl _)
    clear hb
    go_wp2_with fail
    refine (x28 rfl _ HC.out HC2.out).mono ?_
    rintro e w8 ⟨rfl, hb⟩
    have HD := Lib.hid (HD.out.below hb (Nat.le_refl _))
    have HD2 := Lib.hid (HD2.out.below hb (Nat.le_refl _))
    replace B := btr B hb (Nat.le_refl _)
    clear hb
    go_wp2_with fail
    refine (x29 rfl _ HD.out HD2.out).mono ?_
    rintro e w9 ⟨rfl, hb⟩
    replace B := btr B hb (Nat.le_refl _)
    clear hb
    go_wp2_with fail
    refine (works_any _).mono ?_
    rintro e w10 ⟨rfl, hb⟩
    go_wp2
    go_ret
    exact ⟨rfl, btr B hb (Nat.le_refl _)⟩
end Yteijenefhoconaa
end Go.Proofs
