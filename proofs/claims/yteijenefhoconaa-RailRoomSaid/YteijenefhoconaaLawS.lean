/- The law RailStates returns true. -/
import Derived.Test.YteijenefhoconaaRefGd
import Derived.Test.YteijenefhoconaaRefG
import Derived.Test.YteijenefhoconaaLawM
open Go Go.RowKit Go.YteijenefhoconaaIt
namespace Go.Proofs
namespace Yteijenefhoconaa
theorem moveE_mov {L T A : List Int} {i : Nat} (h : i ∈ movL L T A) : moveE L T A i = 0 ∧ moveS L T A i = after L T A i := by
  obtain ⟨h1, h2, h3⟩ := mov_mem h
  have e : moveE L T A i = 0 := by
    unfold moveE
    rw [if_pos (by simp [btw]; omega), Int.toNat_natCast, if_neg h2, h3]; rfl
  refine ⟨e, ?_⟩
  unfold moveS
  rw [if_pos e, Int.toNat_natCast]
theorem run_plan {L T : List Int} : ∀ (n : Nat) (A : List Int) (k : Nat), Okt L T A → left A T = n → safeB L T A = true → runM L T A (planL L T A) k = (((k + (planL L T A).length : Nat) : Int), 0) := by
  intro n
  induction n using Nat.strongRecOn with
  | _ n ih =>
  intro A k ok hn hs
  by_cases hw : wayL A T = []
  · rw [planL_nil hw]
    simp [runM, hw]
  · rw [safeB_step ok] at hs
    simp only [hw, decide_false, Bool.false_or, List.any_eq_true] at hs
    obtain ⟨j, hj, hjs⟩ := hs
    obtain ⟨i, hi⟩ : ∃ i, (movL L T A).find? (fun i => safeB L T (after L T A i)) = some i := Option.isSome_iff_exists.1 (by rw [List.find?_isSome]; exact ⟨j, hj, hjs⟩)
    have hmem := List.mem_of_find?_eq_some hi
    have hsi : safeB L T (after L T A i) = true := List.find?_some (p := fun i => safeB L T (after L T A i)) hi
    obtain ⟨h1, h2, h3⟩ := mov_mem hmem
    obtain ⟨e1, e2⟩ := moveE_mov hmem
    have hl := left_after ok h1 h2 h3
    rw [planL_step ok hi]
    have := ih (left (after L T A i) T) (by omega) _ (k + 1) (ok.after h1 h2) rfl hsi
    simp only [runM, e1, e2, if_pos]
    rw [this, List.length_cons]
    congr 2
    omega
theorem ver_plan {L : List Int} {ts : List Tn} (he : lineE L ts = 0) (hs : safeB L (tos ts) (pos ts) = true) : verE L ts (planL L (tos ts) (pos ts)) = (((planL L (tos ts) (pos ts)).length : Int), 0) := by
  unfold verE
  rw [if_pos he, run_plan _ _ 0 (okt_of he) rfl hs, Nat.zero_add]
set_option maxRecDepth 100000 in
set_option maxHeartbeats 2000000 in
theorem railStates_any (vL vt : Value) (L : List Int) (ts : List Tn) (w : World) (hL : SlI w vL L) (ht : SlT w vt ts) :
    Calls Try.prog 3 #[vL, vt] w fun e w' => e = .returned (.bool true) ∧ Below w.heap.size w w' := by
  have hL0 := hL
  have ht0 := ht
  obtain ⟨adL, capL, rfl, hmL, -⟩ := hL
  obtain ⟨ad, cap, rfl, hm, -⟩ := ht
  have HL := Lib.hid hL0
  have HT := Lib.hid ht0
  clear hL0 ht0
  by_cases h1 : 20 < L.length
  · go_enter Try.func3, Try.ntmps3
    go_wp2_with (go_at_call 14; refine (works_any _).mono ?_; rintro e w2 ⟨rfl, hb2⟩)
    go_ret
    exact ⟨rfl, hb2⟩
  by_cases h2 : 20 < ts.length
  · go_enter Try.func3, Try.ntmps3
    go_wp2_with (go_at_call 14; refine (works_any _).mono ?_; rintro e w2 ⟨rfl, hb2⟩)
    go_ret
    exact ⟨rfl, hb2⟩
  have h16 := fun W (hb : Below w.heap.size w W) => safeX_any _ _ L ts W (HL.out.below hb (Nat.le_refl _)) (HT.out.below hb (Nat.le_refl _))
  have h17 := fun (x : Value) W (hb : Below w.heap.size w W) (hx : SlT W x ts) => safe17_any _ x L ts W (HL.out.below hb (Nat.le_refl _)) hx
  have h18 := fun W (hb : Below w.heap.size w W) => stuck_any _ _ L ts W (HL.out.below hb (Nat.le_refl _)) (HT.out.below hb (Nat.le_refl _))
  have h19 := fun (x : Value) W (hb : Below w.heap.size w W) (hx : SlT W x ts) => stuck19_any _ x L ts W (HL.out.below hb (Nat.le_refl _)) hx
  have h20 := fun W (hb : Below w.heap.size w W) => planX_any _ _ L ts W (HL.out.below hb (Nat.le_refl _)) (HT.out.below hb (Nat.le_refl _))
  have h21 := fun (x y : Value) (ms : List Int) W (hb : Below w.heap.size w W) (hx : SlT W x ts) (hy : SlI W y ms) => verify21_any _ x y L ts ms W (HL.out.below hb (Nat.le_refl _)) hx hy
  have hvp := fun (h0 : lineE L ts = 0) (hs : safeB L (tos ts) (pos ts) = true) => ver_plan h0 hs
  have hpl := fun (h0 : lineE L ts = 0) => Nat.le_trans (planL_le L (tos ts) (pos ts)) (left_le (okt_of h0))
  generalize safeB L (tos ts) (pos ts) = sb at *
  generalize planL L (tos ts) (pos ts) = pl at *
  generalize stuckB L ts = st at *
  have H16 := Lib.hid h16
  have H17 := Lib.hid h17
  have H18 := Lib.hid h18
  have H19 := Lib.hid h19
  have H20 := Lib.hid h20
  have H21 := Lib.hid h21
  have HVP := Lib.hid hvp
  have HPL := Lib.hid hpl
  clear h16 h17 h18 h19 h20 h21 hvp hpl
  by_cases he : lineE L ts = 0
  · rw [he] at H16 H17 H18 H19
    have hif : (if (0 : Int) ≠ 0 then false else sb) = sb := by rw [if_neg (by decide)]
    rw [hif] at H16 H17
    have HE := Lib.hid he
    clear he hif
    cases sb
    · go_enter Try.func3, Try.ntmps3
      go_wp2_with fail
      refine (given_any _ ts _ HT.out (by omega)).mono ?_
      rintro e w2 ⟨x, rfl, hx, B⟩
      have HX := Lib.hid hx
      clear hx
      go_wp2_with fail
      refine (H16.out _ B).mono ?_
      rintro e w3 ⟨rfl, hb⟩
      have HX := Lib.hid (HX.out.below hb (Nat.le_refl _))
      replace B := btr B hb (Nat.le_refl _)
      clear hb
      go_wp2_with fail
      refine (H17.out _ _ B HX.out).mono ?_
      rintro e w4 ⟨rfl, hb⟩
      have HX := Lib.hid (HX.out.below hb (Nat.le_refl _))
      replace B := btr B hb (Nat.le_refl _)
      clear hb
      go_wp2_with fail
      refine (H18.out _ B).mono ?_
      rintro e w5 ⟨rfl, hb⟩
      have HX := Lib.hid (HX.out.below hb (Nat.le_refl _))
      replace B := btr B hb (Nat.le_refl _)
      clear hb
      go_wp2_with fail
      refine (H19.out _ _ B HX.out).mono ?_
      rintro e w6 ⟨rfl, hb⟩
      replace B := btr B hb (Nat.le_refl _)
      clear hb
      go_wp2_with fail
      refine (H20.out _ B).mono ?_
      rintro e w7 ⟨hb, ⟨hn, _⟩ | ⟨_, _, rfl⟩ | ⟨_, hf, _⟩⟩
      · exact absurd HE.out hn
      · replace B := btr B hb (Nat.le_refl _)
        go_wp2_with (go_at_call 14; refine (works_any _).mono ?_; rintro e w8 ⟨rfl, hb8⟩)
        go_ret
        exact ⟨rfl, btr B hb8 (Nat.le_refl _)⟩
      · cases hf
    · have HVP2 := Lib.hid (HVP.out HE.out rfl)
      have hpl := HPL.out HE.out
      go_enter Try.func3, Try.ntmps3
      go_wp2_with fail
      refine (given_any _ ts _ HT.out (by omega)).mono ?_
      rintro e w2 ⟨x, rfl, hx, B⟩
      have HX := Lib.hid hx
      clear hx
      go_wp2_with fail
      refine (H16.out _ B).mono ?_
      rintro e w3 ⟨rfl, hb⟩
      have HX := Lib.hid (HX.out.below hb (Nat.le_refl _))
      replace B := btr B hb (Nat.le_refl _)
      clear hb
      go_wp2_with fail
      refine (H17.out _ _ B HX.out).mono ?_
      rintro e w4 ⟨rfl, hb⟩
      have HX := Lib.hid (HX.out.below hb (Nat.le_refl _))
      replace B := btr B hb (Nat.le_refl _)
      clear hb
      go_wp2_with fail
      refine (H18.out _ B).mono ?_
      rintro e w5 ⟨rfl, hb⟩
      have HX := Lib.hid (HX.out.below hb (Nat.le_refl _))
      replace B := btr B hb (Nat.le_refl _)
      clear hb
      go_wp2_with fail
      refine (H19.out _ _ B HX.out).mono ?_
      rintro e w6 ⟨rfl, hb⟩
      have HX := Lib.hid (HX.out.below hb (Nat.le_refl _))
      replace B := btr B hb (Nat.le_refl _)
      clear hb
      go_wp2_with fail
      refine (H20.out _ B).mono ?_
      rintro e w7 ⟨hb, ⟨hn, _⟩ | ⟨_, hf, _⟩ | ⟨_, _, v, rfl, hv⟩⟩
      · exact absurd HE.out hn
      · cases hf
      · have HX := Lib.hid (HX.out.below hb (Nat.le_refl _))
        replace B := btr B hb (Nat.le_refl _)
        have HV := Lib.hid hv
        obtain ⟨adv, capv, rfl, -, -⟩ := hv
        clear hb
        go_wp2_with fail
        refine (H21.out _ _ pl _ B HX.out HV.out).mono ?_
        rw [HVP2.out]
        rintro e w8 ⟨rfl, hb⟩
        replace B := btr B hb (Nat.le_refl _)
        clear hb
        go_wp2_with (go_at_call 14; refine (works_any _).mono ?_; rintro e w9 ⟨rfl, hb9⟩)
        go_ret
        exact ⟨rfl, btr B hb9 (Nat.le_refl _)⟩
  · have hif : (if lineE L ts ≠ 0 then false else sb) = false := by rw [if_pos he]
    rw [hif] at H16 H17
    have HE := Lib.hid he
    have e1 : (lineE L ts == 0) = false := beq_eq_false_iff_ne.2 he
    have e2 : (lineE L ts != 0) = true := bne_iff_ne.2 he
    clear he hif
    go_enter Try.func3, Try.ntmps3
    go_wp2_with fail
    refine (given_any _ ts _ HT.out (by omega)).mono ?_
    rintro e w2 ⟨x, rfl, hx, B⟩
    have HX := Lib.hid hx
    clear hx
    go_wp2_with fail
    refine (H16.out _ B).mono ?_
    rintro e w3 ⟨rfl, hb⟩
    have HX := Lib.hid (HX.out.below hb (Nat.le_refl _))
    replace B := btr B hb (Nat.le_refl _)
    clear hb
    go_wp2_with fail
    refine (H17.out _ _ B HX.out).mono ?_
    rintro e w4 ⟨rfl, hb⟩
    have HX := Lib.hid (HX.out.below hb (Nat.le_refl _))
    replace B := btr B hb (Nat.le_refl _)
    clear hb
    go_wp2_with fail
    refine (H18.out _ B).mono ?_
    rintro e w5 ⟨rfl, hb⟩
    have HX := Lib.hid (HX.out.below hb (Nat.le_refl _))
    replace B := btr B hb (Nat.le_refl _)
    clear hb
    go_wp2_with fail
    refine (H19.out _ _ B HX.out).mono ?_
    rintro e w6 ⟨rfl, hb⟩
    replace B := btr B hb (Nat.le_refl _)
    clear hb
    go_wp2_with fail
    refine (H20.out _ B).mono ?_
    rintro e w7 ⟨hb, ⟨_, rfl⟩ | ⟨hn, _⟩ | ⟨hn, _⟩⟩
    · replace B := btr B hb (Nat.le_refl _)
      go_wp2_with (go_at_call 14; refine (works_any _).mono ?_; rintro e w8 ⟨rfl, hb8⟩)
      go_ret
      exact ⟨rfl, btr B hb8 (Nat.le_refl _)⟩
    · exact absurd hn HE.out
    · exact absurd hn HE.out
end Yteijenefhoconaa
end Go.Proofs
