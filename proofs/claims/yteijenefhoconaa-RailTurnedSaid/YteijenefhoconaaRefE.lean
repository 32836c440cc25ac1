/- The reference: Possible, Move; what the law hands over to it, and the comparison. -/
import Derived.Test.YteijenefhoconaaLink
open Go Go.RowKit Go.YteijenefhoconaaIt
namespace Go.Proofs
namespace Yteijenefhoconaa
theorem Vt.small {L : List Int} {ts : List Tn} (h : Vt L ts) : ∀ j, j < ts.length → (-1000 ≤ tAt ts j ∧ tAt ts j ≤ 1000) ∧ (-1000 ≤ tTo ts j ∧ tTo ts j ≤ 1000) := fun j hj => by
  have h1 := h.at_ j hj
  have h2 := h.to_ j hj
  have := h.l8
  omega
set_option maxRecDepth 100000 in
set_option maxHeartbeats 1000000 in
theorem move44_any (vL vt : Value) (L : List Int) (ts : List Tn) (i : Int) (w : World) (hL : SlI w vL L) (ht : SlT w vt ts) :
    Calls Try.prog 44 #[vL, vt, .int .i64 i] w fun e w' => Below w.heap.size w w' ∧
      ((mvE L ts i ≠ 0 ∧ e = .returned (.tuple #[.slice none 0 0, .int .i64 (mvE L ts i)])) ∨
       (mvE L ts i = 0 ∧ ∃ v, e = .returned (.tuple #[v, .int .i64 0]) ∧ SlT w' v (mvT L ts i))) := by
  have hL0 := hL
  have ht0 := ht
  have h46 := check46_any vL vt L ts w hL ht
  obtain ⟨ad, cap, rfl, hm, hc⟩ := ht
  by_cases he : lineE L ts = 0
  · have hv := vt_of he
    have h5 := hv.t5
    have hE : mvE L ts i = moveE L (tos ts) (pos ts) i := by unfold mvE; rw [if_neg (by rw [he]; decide)]
    rw [moveE_eq h5] at hE
    have hME := moveE_eq (L := L) h5 i
    rw [he] at h46
    have HE := Lib.hid hE
    have HME := Lib.hid hME
    have HC := Lib.hid hc
    clear hc hE he hME
    have his := is_any 0 i ((ts.length : Int) - 1)
    obtain ⟨bb, hbb⟩ : ∃ bb, bb = btw 0 i ((ts.length : Int) - 1) := ⟨_, rfl⟩
    rw [← hbb] at his
    have HBB := Lib.hid hbb
    clear hbb
    cases bb
    · have hE5 : mvE L ts i = 5 := by rw [HE.out, ← HBB.out]; rfl
      have HE5 := Lib.hid hE5
      clear hE5
      go_enter Try.func44, Try.ntmps44
      go_wp2_with fail
      refine h46.mono ?_
      rintro e w2 ⟨rfl, hb2⟩
      go_wp2_with fail
      refine (his _).mono ?_
      rintro e w3 ⟨rfl, rfl⟩
      go_wp2
      go_ret2
      exact ⟨hb2, .inl ⟨by rw [HE5.out]; decide, by rw [HE5.out]; rfl⟩⟩
    · have hib := HBB.out.symm
      simp [btw] at hib
      obtain ⟨k, rfl⟩ := Int.eq_ofNat_of_zero_le hib.1
      have hk : k < ts.length := by omega
      rw [Int.toNat_natCast] at HE HME
      obtain ⟨b, off, rfl, hlt, hcell⟩ := HC.out (by omega)
      have h1 := (hcell k hk).1
      have h2 := (hcell k hk).2
      have h53 := fun W (hb : Below w.heap.size w W) => poss_any vL _ L ts k W (hL0.below hb (Nat.le_refl _)) (ht0.below hb (Nat.le_refl _)) hv hk
      have h62 := fun W (hb : Below w.heap.size w W) => moved_any _ ts k W (ht0.below hb (Nat.le_refl _)) hk (by omega) hv.small
      have H53 := Lib.hid h53
      have H62 := Lib.hid h62
      clear h53 h62 hcell hib
      by_cases hq : tAt ts k = tTo ts k
      · have hE5 : mvE L ts k = 22 := by rw [HE.out, ← HBB.out, if_pos rfl, if_pos hq]
        have HE5 := Lib.hid hE5
        have e1 : (tAt ts k == tTo ts k) = true := by simp [hq]
        clear hE5
        generalize tAt ts k = p1 at *
        generalize tTo ts k = p2 at *
        clear hq
        go_enter Try.func44, Try.ntmps44
        go_wp2_with fail
        refine h46.mono ?_
        rintro e w2 ⟨rfl, hb2⟩
        go_wp2_with fail
        refine (his _).mono ?_
        rintro e w3 ⟨rfl, rfl⟩
        have h1' := (hb2.cell (p := ⟨b, off + k * 2, none⟩) hlt).trans h1
        have h2' := (hb2.cell (p := ⟨b, off + k * 2 + 1, none⟩) hlt).trans h2
        go_wp2
        go_quiet (fail)
        go_wp2
        go_ret2
        exact ⟨below_drewN hb2 _, .inl ⟨by rw [HE5.out]; decide, by rw [HE5.out]; rfl⟩⟩
      · have e1 : (tAt ts k == tTo ts k) = false := by simpa using hq
        have hmz : possT L ts k = true → moveE L (tos ts) (pos ts) k = 0 := fun hp => by rw [HME.out, ← HBB.out, if_pos rfl, if_neg hq, hp]; rfl
        have hm0 : possT L ts k = true → mvE L ts k = 0 ∧ mvT L ts k = movT ts k := fun hp => ⟨by rw [HE.out, ← HBB.out, if_pos rfl, if_neg hq, hp]; rfl, by rw [mvT_eq h5 (hmz hp), Int.toNat_natCast]⟩
        have hm1 : possT L ts k = false → mvE L ts k = 15 := fun hp => by rw [HE.out, ← HBB.out, if_pos rfl, if_neg hq, hp]; rfl
        obtain ⟨pp, hpp⟩ : ∃ pp, pp = possT L ts k := ⟨_, rfl⟩
        rw [← hpp] at hm0 hm1 H53
        have HM0 := Lib.hid hm0
        have HM1 := Lib.hid hm1
        clear hmz hm0 hm1 hpp
        generalize tAt ts k = p1 at *
        generalize tTo ts k = p2 at *
        clear hq
        cases pp
        · have HE5 := Lib.hid (HM1.out rfl)
          go_enter Try.func44, Try.ntmps44
          go_wp2_with fail
          refine h46.mono ?_
          rintro e w2 ⟨rfl, hb2⟩
          go_wp2_with fail
          refine (his _).mono ?_
          rintro e w3 ⟨rfl, rfl⟩
          have h1' := (hb2.cell (p := ⟨b, off + k * 2, none⟩) hlt).trans h1
          have h2' := (hb2.cell (p := ⟨b, off + k * 2 + 1, none⟩) hlt).trans h2
          go_wp2
          go_quiet (fail)
          go_wp2_with fail
          refine (H53.out _ (below_drewN hb2 _)).mono ?_
          rintro e w3 ⟨rfl, hb3⟩
          go_wp2
          go_ret2
          exact ⟨(below_drewN hb2 _).trans (hb3.mono hb2.size), .inl ⟨by rw [HE5.out]; decide, by rw [HE5.out]; rfl⟩⟩
        · have HE5 := Lib.hid (HM0.out rfl)
          go_enter Try.func44, Try.ntmps44
          go_wp2_with fail
          refine h46.mono ?_
          rintro e w2 ⟨rfl, hb2⟩
          go_wp2_with fail
          refine (his _).mono ?_
          rintro e w3 ⟨rfl, rfl⟩
          have h1' := (hb2.cell (p := ⟨b, off + k * 2, none⟩) hlt).trans h1
          have h2' := (hb2.cell (p := ⟨b, off + k * 2 + 1, none⟩) hlt).trans h2
          go_wp2
          go_quiet (fail)
          go_wp2_with fail
          refine (H53.out _ (below_drewN hb2 _)).mono ?_
          rintro e w3 ⟨rfl, hb3⟩
          have hB3 := (below_drewN hb2 _).trans (hb3.mono hb2.size)
          go_wp2_with fail
          refine (H62.out _ hB3).mono ?_
          rintro e w4 ⟨v, rfl, hv4, hb4⟩
          go_wp2
          go_ret2
          exact ⟨hB3.trans (hb4.mono hB3.size), .inr ⟨HE5.out.1, v, rfl, by rw [HE5.out.2]; exact hv4⟩⟩
  · have hE : mvE L ts i = lineE L ts := by unfold mvE; rw [if_pos he]
    have hne : (lineE L ts != 0) = true := bne_iff_ne.2 he
    have HE := Lib.hid hE
    clear hE hc
    go_enter Try.func44, Try.ntmps44
    go_wp2_with fail
    refine h46.mono ?_
    rintro e w2 ⟨rfl, hb2⟩
    go_wp2
    go_ret2
    exact ⟨hb2, .inl ⟨by rw [HE.out]; exact he, by rw [HE.out]; rfl⟩⟩
end Yteijenefhoconaa
end Go.Proofs
