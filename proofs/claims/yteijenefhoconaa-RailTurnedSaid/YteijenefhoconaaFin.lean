/- The reference: the number of a state; the search. -/
import Derived.Test.YteijenefhoconaaNum
import Derived.Test.YteijenefhoconaaWords
import Derived.Test.YteijenefhoconaaRefF
import Derived.Test.YteijenefhoconaaPlanX
open Go Go.RowKit Go.YteijenefhoconaaIt
namespace Go.Proofs
namespace Yteijenefhoconaa
set_option maxRecDepth 100000 in
set_option maxHeartbeats 1000000 in
theorem number_any (vt : Value) (L : List Int) (ts : List Tn) (w : World) (ht : SlT w vt ts) (hv : Vt L ts) :
    Calls Try.prog 83 #[vt] w fun e w' => e = .returned (.int .i64 (num ts)) ∧ Below w.heap.size w w' := by
  obtain ⟨ad, cap, rfl, hm, hc⟩ := ht
  have ht5 := hv.t5
  have hl8 := hv.l8
  have HV := Lib.hid hv
  clear hv
  go_enter Try.func83, Try.ntmps83
  go_wp2
  go_loopw [3, 4] (fun c i wr => ∃ k : Nat, k ≤ ts.length ∧ i = .int .i64 k ∧ c = .int .i64 (numN ts k) ∧ Below w.heap.size w wr) (fun _ i _ => ts.length - (intOf i).toNat)
  case atStart => exact ⟨0, Nat.zero_le _, rfl, rfl, Below.refl _ _⟩
  case round =>
    obtain ⟨k, hk, rfl, rfl, hb⟩ := hrel
    have hlt := numN_lt HV.out k hk
    have hp : 8 ^ k ≤ 32768 := by
      have : 8 ^ k ≤ 8 ^ 5 := Nat.pow_le_pow_right (by omega) (by omega)
      simpa using this
    by_cases hkn : k < ts.length
    · obtain ⟨b, off, rfl, hlb, hcell⟩ := hc (by omega)
      have h1 := (hb.cell (p := ⟨b, off + k * 2, none⟩) hlb).trans (hcell k hkn).1
      have ha := HV.out.at_ k hkn
      obtain ⟨a, haa⟩ := Int.eq_ofNat_of_zero_le ha.1
      have hs : numN ts (k + 1) = numN ts k * 8 + a := by simp only [numN]; rw [haa]; simp
      rw [haa] at h1 ha
      have HS := Lib.hid hs
      generalize numN ts k = m at *
      clear hs haa hcell hc
      go_wp2
      go_roundw
      case rel => exact ⟨k + 1, by omega, by go_num, by rw [HS.out]; go_num, hb⟩
      case measure => simp [intOf]; omega
    · have hn : numN ts k = num ts := by unfold num; congr 1; omega
      have HN := Lib.hid hn
      clear hn hc
      go_wp2
      go_ret
      exact ⟨by rw [HN.out]; rfl, hb⟩
/-- What is marked, in its block. -/
structure Mt (W : World) (b N : Nat) (M : Nat → Bool) : Prop where
  ex : ∃ cs, W.heap[b]? = some (.cells cs 4 (0, 0)) ∧ cs.size = N ∧ ∀ i, i < N → cs[i]? = some (.bool (M i))
theorem Mt.cell {W : World} {b N : Nat} {M : Nat → Bool} (h : Mt W b N M) {i : Nat} (hi : i < N) : W.cell? ⟨b, i, none⟩ = some (.bool (M i)) := by
  obtain ⟨cs, h1, h2, h3⟩ := h.ex
  rw [cell_blk h1]; exact h3 i hi
theorem Mt.free {W : World} {b N : Nat} {M : Nat → Bool} (h : Mt W b N M) {i : Nat} : W.frozen? ⟨b, i, none⟩ = false := by
  obtain ⟨cs, h1, h2, h3⟩ := h.ex
  exact free_blk h1
theorem Mt.lt {W : World} {b N : Nat} {M : Nat → Bool} (h : Mt W b N M) : b < W.heap.size := by
  obtain ⟨cs, h1, h2, h3⟩ := h.ex
  exact lt_blk h1
theorem Mt.below {W W' : World} {b N : Nat} {M : Nat → Bool} (h : Mt W b N M) (hb : Below W.heap.size W W') : Mt W' b N M := by
  obtain ⟨cs, h1, h2, h3⟩ := h.ex
  exact ⟨cs, blk_below h1 hb (lt_blk h1), h2, h3⟩
def setM (M : Nat → Bool) (k : Nat) : Nat → Bool := fun i => if i = k then true else M i
theorem Mt.set {W : World} {b N : Nat} {M : Nat → Bool} (h : Mt W b N M) {k : Nat} (hk : k < N) : Mt (W.setCell ⟨b, k, none⟩ (.bool true)) b N (setM M k) := by
  obtain ⟨cs, h1, h2, h3⟩ := h.ex
  refine ⟨_, heap_set_blk h1, by simp [h2], fun i hi => ?_⟩
  rw [Array.getElem?_setIfInBounds]
  unfold setM
  by_cases hik : k = i
  · subst hik; simp [h2, hk]
  · rw [if_neg hik, if_neg (Ne.symm hik)]; exact h3 i hi
/-- Of what is marked, whatever has at most as many moves to make as ts is not safe. -/
def InvM (L T : List Int) (M : Nat → Bool) (n : Nat) : Prop := ∀ us, Val L T us → leftT us < n → M (num us) = true → safeT L us = false
/-- Marks of states with at least n moves to make are as they were. -/
def SameM (L T : List Int) (M M' : Nat → Bool) (n : Nat) : Prop := ∀ us, Val L T us → n ≤ leftT us → M' (num us) = M (num us)
theorem setM_inv {L T : List Int} {M : Nat → Bool} {ts : List Tn} (hv : Val L T ts) (h : InvM L T M (leftT ts + 1)) : InvM L T (setM M (num ts)) (leftT ts) := by
  intro us hu hl hm
  unfold setM at hm
  by_cases he : num us = num ts
  · have := num_inj (vt_of hu.1) (vt_of hv.1) (hu.2.trans hv.2.symm) he
    subst this
    omega
  · rw [if_neg he] at hm
    exact h us hu (by omega) hm
theorem fin_inv {L T : List Int} {M M' : Nat → Bool} {ts : List Tn} (hv : Val L T ts) (h : InvM L T M (leftT ts + 1)) (h' : InvM L T M' (leftT ts)) (hs : SameM L T (setM M (num ts)) M' (leftT ts)) (hu : safeT L ts = false) :
    InvM L T M' (leftT ts + 1) ∧ SameM L T M M' (leftT ts + 1) := by
  refine ⟨fun us hus hl hm => ?_, fun us hus hl => ?_⟩
  · by_cases hlt : leftT us < leftT ts
    · exact h' us hus hlt hm
    · rw [hs us hus (by omega)] at hm
      unfold setM at hm
      by_cases he : num us = num ts
      · have := num_inj (vt_of hus.1) (vt_of hv.1) (hus.2.trans hv.2.symm) he
        subst this
        exact hu
      · rw [if_neg he] at hm
        exact h us hus hl hm
  · rw [hs us hus (by omega)]
    unfold setM
    rw [if_neg]
    intro he
    have := num_inj (vt_of hus.1) (vt_of hv.1) (hus.2.trans hv.2.symm) he
    subst this
    omega
theorem bm_below {m B : Nat} {W W' X : World} (h : Bm m B W W') (hb : Below W'.heap.size W' X) (hB : B ≤ W'.heap.size) : Bm m B W X := h.trans (Bm.of (hb.mono hB))
theorem Mt.ne {W : World} {m N : Nat} {M : Nat → Bool} (h : Mt W m N M) {b off : Nat} {x : Int} (hc : W.cell? ⟨b, off, none⟩ = some (.int .i64 x)) : b ≠ m := by
  rintro rfl
  obtain ⟨cs, h1, h2, h3⟩ := h.ex
  rw [cell_blk h1] at hc
  have hl : off < cs.size := (Array.getElem?_eq_some_iff.1 hc).1
  rw [h3 off (by omega)] at hc
  cases hc
theorem SlI.mt {w w' : World} {v : Value} {xs : List Int} {m N : Nat} {M : Nat → Bool} (h : SlI w v xs) (hm : Mt w m N M) (hb : Bm m w.heap.size w w') : SlI w' v xs := by
  obtain ⟨ad, cap, hv, hmx, hc⟩ := h
  refine ⟨ad, cap, hv, hmx, fun h0 => ?_⟩
  obtain ⟨b, off, ha, hlt, hcell⟩ := hc h0
  have hn := hm.ne (hcell 0 h0)
  exact ⟨b, off, ha, Nat.lt_of_lt_of_le hlt hb.size, fun i hi => (World.cell?_of_block (w := w) (hb.block b hlt hn)).trans (hcell i hi)⟩
theorem SlT.mt {w w' : World} {v : Value} {ts : List Tn} {m N : Nat} {M : Nat → Bool} (h : SlT w v ts) (hm : Mt w m N M) (hb : Bm m w.heap.size w w') : SlT w' v ts := by
  obtain ⟨ad, cap, hv, hmx, hc⟩ := h
  refine ⟨ad, cap, hv, hmx, fun h0 => ?_⟩
  obtain ⟨b, off, ha, hlt, hcell⟩ := hc h0
  have hn := hm.ne (hcell 0 h0).1
  exact ⟨b, off, ha, Nat.lt_of_lt_of_le hlt hb.size, fun i hi => ⟨(World.cell?_of_block (w := w) (hb.block b hlt hn)).trans (hcell i hi).1, (World.cell?_of_block (w := w) (hb.block b hlt hn)).trans (hcell i hi).2⟩⟩
theorem SameM.trans {L T : List Int} {M M' M'' : Nat → Bool} {n : Nat} (h : SameM L T M M' n) (k : SameM L T M' M'' n) : SameM L T M M'' n := fun us hu hl => (k us hu hl).trans (h us hu hl)
theorem SameM.refl (L T : List Int) (M : Nat → Bool) (n : Nat) : SameM L T M M n := fun _ _ _ => rfl
theorem reads_of_sl {w : World} {ad : Option Addr} {cap : Nat} {xs : List Int} (h : SlI w (.slice ad xs.length cap) xs) : Reads w w.heap.size 1 ad xs.length (xs.map (.int .i64)) := by
  refine ⟨by simp, fun h0 => ?_⟩
  obtain ⟨ad', cap', hv, _, hc⟩ := h
  injection hv with e1 _ _
  subst e1
  obtain ⟨b, off, rfl, hlt, hcell⟩ := hc h0
  refine ⟨_, rfl, hlt, fun j u hu => ?_⟩
  have hj : j < xs.length := by simpa using (List.getElem?_eq_some_iff.1 hu).1
  have e : ((⟨b, off, none⟩ : Addr).add j) = ⟨b, off + j, none⟩ := by cases j <;> simp [Addr.add]
  rw [e, hcell j hj, at0_lt hj]
  simpa [hj] using hu
/-- What the search answers. -/
structure FinR (L T : List Int) (bm N : Nat) (ts : List Tn) (w : World) (M : Nat → Bool) (e : Ending) (w' : World) : Prop where
  val : ∃ ad cap xs, e = .returned (.tuple #[.slice ad xs.length cap, .bool (safeT L ts)]) ∧ SlI w' (.slice ad xs.length cap) xs ∧ xs.length ≤ leftT ts
  bm_ : Bm bm w.heap.size w w'
  no : safeT L ts = false → ∃ M', Mt w' bm N M' ∧ InvM L T M' (leftT ts + 1) ∧ SameM L T M M' (leftT ts + 1)
theorem leftT_le {L T : List Int} {ts : List Tn} (h : Val L T ts) : leftT ts ≤ 40 := left_le (okt_of h.1)
theorem safe_no {L T : List Int} {ts : List Tn} (h : Val L T ts) (hno : ∀ j, j < ts.length → possT L ts j = true → safeT L (movT ts j) = false) : safeT L ts = allT ts ts.length := by
  rw [safeT_step h]
  have : ((List.range ts.length).any fun i => possT L ts i && safeT L (movT ts i)) = false := by
    rw [List.any_eq_false]
    intro i hi
    have hi' : i < ts.length := by simpa using hi
    cases hp : possT L ts i with
    | false => simp
    | true => simp [hno i hi' hp]
  rw [this, Bool.or_false]
theorem safe_yes {L T : List Int} {ts : List Tn} (h : Val L T ts) {i : Nat} (hi : i < ts.length) (hp : possT L ts i = true) (hs : safeT L (movT ts i) = true) : safeT L ts = true := by
  rw [safeT_step h]
  have : ((List.range ts.length).any fun i => possT L ts i && safeT L (movT ts i)) = true := List.any_eq_true.2 ⟨i, by simpa using hi, by rw [hp, hs]; rfl⟩
  rw [this, Bool.or_true]
set_option maxRecDepth 100000 in
set_option maxHeartbeats 4000000 in
theorem finish_any (vL : Value) (L T : List Int) (bm N : Nat) (hN : 8 ^ T.length = N) : ∀ (ts : List Tn) (vt : Value) (w : World) (M : Nat → Bool), Val L T ts → SlI w vL L → SlT w vt ts → Mt w bm N M → InvM L T M (leftT ts + 1) →
    Calls Try.prog 71 #[vL, vt, .slice (some ⟨bm, 0, none⟩) N N] w (FinR L T bm N ts w M) := by
  intro ts
  induction hn : leftT ts using Nat.strongRecOn generalizing ts with
  | _ n ih =>
  intro vt w M hv hL ht hm hi
  have hvt := vt_of hv.1
  have hnum : num ts < N := by
    have := numN_lt hvt ts.length (Nat.le_refl _)
    rw [← hN, ← hv.2, tos_len]
    exact this
  have hN5 : N ≤ 32768 := by
    rw [← hN, ← hv.2, tos_len]
    have : 8 ^ ts.length ≤ 8 ^ 5 := Nat.pow_le_pow_right (by omega) hvt.t5
    simpa using this
  have HN := Lib.hid hn
  have h83 := fun W (hb : Below w.heap.size w W) => number_any vt L ts W (ht.below hb (Nat.le_refl _)) hvt
  have H83 := Lib.hid h83
  obtain ⟨ad, cap, hvv, hmt, hct⟩ := ht
  subst hvv
  have ht : SlT w (.slice ad ts.length cap) ts := ⟨ad, cap, rfl, hmt, hct⟩
  clear hct hn h83
  have hmc := hm.cell hnum
  obtain ⟨mb, hmb⟩ : ∃ mb, mb = M (num ts) := ⟨_, rfl⟩
  rw [← hmb] at hmc
  have HMB := Lib.hid hmb
  have hli : leftT ts = n := HN.out
  clear hmb
  cases mb
  rotate_left
  · have hu : safeT L ts = false := hi ts hv (by omega) HMB.out.symm
    have HU := Lib.hid hu
    have HI := Lib.hid hi
    clear hu hi hli
    go_enter Try.func71, Try.ntmps71
    go_wp2_with fail
    refine (H83.out _ (Below.refl _ _)).mono ?_
    rintro e w2 ⟨rfl, hb2⟩
    have hmc2 := (hb2.cell (p := ⟨bm, num ts, none⟩) hm.lt).trans hmc
    go_wp2
    go_ret2
    exact ⟨⟨none, 0, [], by rw [HU.out]; rfl, ⟨none, 0, rfl, by simp, fun h => by simp at h⟩, by simp⟩, Bm.of hb2, fun _ => ⟨M, hm.below hb2, by rw [HN.out] at *; exact HI.out, SameM.refl _ _ _ _⟩⟩
  have hinv1 : InvM L T (setM M (num ts)) (leftT ts) := setM_inv hv (by rw [hli]; exact hi)
  have hm1 := fun (W : World) (hb : Below w.heap.size w W) => (hm.below hb).set hnum
  have HV := Lib.hid hv
  have HL := Lib.hid hL
  have HT := Lib.hid ht
  have HI := Lib.hid hi
  have HI1 := Lib.hid hinv1
  have HM := Lib.hid hm
  have HM1 := Lib.hid hm1
  have hlm := hm.lt
  have HIH := Lib.hid ih
  have ht5 := hvt.t5
  have HVT := Lib.hid hvt
  clear hi hinv1 hm1 ih hv hL ht hvt
  obtain ⟨i3, hi3, hz1, hz2, hz3⟩ := info_parts info3
  go_enter Try.func71, Try.ntmps71
  go_wp2_with fail
  refine (H83.out _ (Below.refl _ _)).mono ?_
  rintro e w2 ⟨rfl, hb2⟩
  have hmc2 := (hb2.cell (p := ⟨bm, num ts, none⟩) hlm).trans hmc
  go_wp2_with fail
  refine (H83.out _ hb2).mono ?_
  rintro e w3 ⟨rfl, hb3'⟩
  have hb3 : Below w.heap.size w w3 := hb2.trans (hb3'.mono hb2.size)
  have hmc3 := (hb3.cell (p := ⟨bm, num ts, none⟩) hlm).trans hmc
  have hz3' := (HM.out.below hb3).free (i := num ts)
  have hM4 := HM1.out w3 hb3
  have hb4 : Bm bm w.heap.size w (w3.setCell ⟨bm, num ts, none⟩ (.bool true)) := (Bm.of hb3).trans ⟨rfl, rfl, rfl, by simp, fun k _ hne => heap_set_other hne⟩
  have HM4 := Lib.hid hM4
  clear hmc2 hb2 hb3' hM4 HM1
  go_wp2
  clear hmc3 hz3' hb3
  generalize World.setCell _ _ _ = w4 at *
  go_loopw [8, 9] (fun d i wr => ∃ (k : Nat) (M' : Nat → Bool), k ≤ ts.length ∧ i = .int .i64 k ∧ d = .bool (allT ts k) ∧ Mt wr bm N M' ∧ InvM L T M' (leftT ts) ∧ SameM L T (setM M (num ts)) M' (leftT ts) ∧ Bm bm w.heap.size w wr ∧ (∀ j, j < k → possT L ts j = true → safeT L (movT ts j) = false)) (fun _ i _ => ts.length - (intOf i).toNat)
  case atStart => exact ⟨0, setM M (num ts), Nat.zero_le _, rfl, rfl, HM4.out, HI1.out, SameM.refl _ _ _ _, hb4, fun _ h => by omega⟩
  case round =>
    obtain ⟨k, M', hk, rfl, rfl, hm', hi', hs', hb, hno⟩ := hrel
    have hLr := HL.out.mt HM.out hb
    have hTr := HT.out.mt HM.out hb
    have HNO := Lib.hid hno
    have HI' := Lib.hid hi'
    have HS' := Lib.hid hs'
    have HM' := Lib.hid hm'
    clear hno hi' hs' hm'
    by_cases hkn : k < ts.length
    · have hTr0 := hTr
      obtain ⟨_, _, hve, _, hct⟩ := hTr
      cases hve
      obtain ⟨b, off, rfl, hlb, hcell⟩ := hct (by omega)
      have h1 := (hcell k hkn).1
      have h2 := (hcell k hkn).2
      have h53 := fun W (hb' : Below wr.heap.size wr W) => poss_any vL _ L ts k W (hLr.below hb' (Nat.le_refl _)) (hTr0.below hb' (Nat.le_refl _)) HVT.out hkn
      have h62 := fun W (hb' : Below wr.heap.size wr W) => moved_any _ ts k W (hTr0.below hb' (Nat.le_refl _)) hkn (by omega) HVT.out.small
      have hcomb : (allT ts k = false ∧ allT ts (k + 1) = false) ∨ (allT ts k = true ∧ (tAt ts k == tTo ts k) = true ∧ allT ts (k + 1) = true) ∨ (allT ts k = true ∧ (tAt ts k == tTo ts k) = false ∧ allT ts (k + 1) = false) := by
        rw [allT_succ]
        cases allT ts k <;> cases (tAt ts k == tTo ts k) <;> simp
      have hmv : possT L ts k = true → Val L T (movT ts k) ∧ leftT (movT ts k) + 1 = leftT ts := fun hp => ⟨HV.out.mov hkn hp, leftT_mov HV.out hkn hp⟩
      have hsy : possT L ts k = true → safeT L (movT ts k) = true → safeT L ts = true := fun hp hs => safe_yes HV.out hkn hp hs
      have hnx : ∀ pp, pp = possT L ts k → (pp = false ∨ safeT L (movT ts k) = false) → ∀ j, j < k + 1 → possT L ts j = true → safeT L (movT ts j) = false := fun pp he hor j hj hp => by
        rcases (show j < k ∨ j = k by omega) with h | rfl
        · exact HNO.out j h hp
        · rcases hor with h | h
          · rw [← he, h] at hp; cases hp
          · exact h
      have HNX := Lib.hid hnx
      have HMV := Lib.hid hmv
      have HSY := Lib.hid hsy
      have H62 := Lib.hid h62
      obtain ⟨pp, hpp⟩ : ∃ pp, pp = possT L ts k := ⟨_, rfl⟩
      rw [← hpp] at h53
      have HPP := Lib.hid hpp
      have H53 := Lib.hid h53
      have HLR := Lib.hid hLr
      clear hnx hmv hsy h62 h53 hpp hcell hct hTr0 hLr
      generalize tAt ts k = p1 at *
      generalize tTo ts k = p2 at *
      generalize allT ts k = dk at *
      obtain ⟨dn, hdn⟩ : ∃ dn, dn = allT ts (k + 1) := ⟨_, rfl⟩
      rw [← hdn] at hcomb
      have HDN := Lib.hid hdn
      clear hdn
      rcases hcomb with ⟨rfl, rfl⟩ | ⟨rfl, e1, rfl⟩ | ⟨rfl, e1, rfl⟩
      all_goals
        cases pp
        · go_wp2
          go_quiet (fail)
          go_wp2_with fail
          refine (H53.out _ (below_drewN (Below.refl _ _) _)).mono ?_
          rintro e w5 ⟨rfl, hb5'⟩
          have hb5 : Below wr.heap.size wr w5 := (below_drewN (Below.refl _ _) _).trans (hb5'.mono (Nat.le_refl _))
          clear hb5'
          go_wp2
          go_roundw
          case rel => exact ⟨k + 1, M', by omega, by go_num, by rw [← HDN.out], HM'.out.below hb5, HI'.out, HS'.out, bm_below hb hb5 hb.size, HNX.out _ HPP.out (.inl rfl)⟩
          case measure => simp [intOf]; omega
        · go_wp2
          go_quiet (fail)
          go_wp2_with fail
          refine (H53.out _ (below_drewN (Below.refl _ _) _)).mono ?_
          rintro e w5 ⟨rfl, hb5'⟩
          have hb5 : Below wr.heap.size wr w5 := (below_drewN (Below.refl _ _) _).trans (hb5'.mono (Nat.le_refl _))
          clear hb5'
          go_wp2_with fail
          refine (H62.out _ hb5).mono ?_
          rintro e w6 ⟨x, rfl, hx, hb6'⟩
          have hb6 : Below wr.heap.size wr w6 := hb5.trans (hb6'.mono hb5.size)
          clear hb6' hb5
          have hmm := HMV.out HPP.out.symm
          have hcall := HIH.out (leftT (movT ts k)) (by omega) (movT ts k) rfl x w6 M' hmm.1 (HLR.out.below hb6 (Nat.le_refl _)) hx (HM'.out.below hb6) (by rw [hmm.2]; exact HI'.out)
          obtain ⟨sv, hsv⟩ : ∃ sv, sv = safeT L (movT ts k) := ⟨_, rfl⟩
          have HSV := Lib.hid hsv
          have HMM := Lib.hid hmm
          have HX := Lib.hid hx
          clear hsv hmm hx
          go_wp2_with fail
          refine hcall.mono ?_
          rintro e w7 ⟨⟨ad7, cap7, xs, rfl, hxs, hxl⟩, hb7, hno7⟩
          rw [← HSV.out]
          have hb17 : Bm bm w.heap.size w w7 := hb.trans ((Bm.of (hb6.mono hb.size)).trans (hb7.mono (Nat.le_trans hb.size hb6.size)))
          have HXS := Lib.hid hxs
          have HN7 := Lib.hid hno7
          clear hxs hno7 hcall
          cases sv
          · have h7 := HN7.out HSV.out.symm
            rw [HMM.out.2] at h7
            have H7 := Lib.hid h7
            clear h7
            go_wp2
            go_roundw
            case rel =>
              obtain ⟨M7, g1, g2, g3⟩ := H7.out
              exact ⟨k + 1, M7, by omega, by go_num, by rw [← HDN.out], g1, g2, HS'.out.trans g3, hb17, HNX.out _ HPP.out (.inr HSV.out.symm)⟩
            case measure => simp [intOf]; omega
          · have hty := HSY.out HPP.out.symm HSV.out.symm
            have HTY := Lib.hid hty
            have hl6 : leftT (movT ts k) + 1 = leftT ts := HMM.out.2
            have hl40 := leftT_le HV.out
            have hs7 := hb7.size
            have hown : (w7.alloc (.cells #[.int .i64 k] 3)).ownsRow w7.heap.size 3 1 (.slice (some ⟨w7.heap.size, 0, none⟩) 1 1) 1 [.int .i64 k] :=
              ⟨by simp, .inr ⟨w7.heap.size, 1, #[.int .i64 k], rfl, Nat.le_refl _, heap_newI rfl, Nat.le_refl _, by decide, rfl, rfl⟩⟩
            have hrd := (reads_of_sl HXS.out).alloc (Nat.le_refl _) (.cells #[.int .i64 k] 3)
            have HRD := Lib.hid hrd
            clear hty hrd
            go_wp2_with (at_builtin; refine wpList_append_any _ rfl (.tmp 56) (.tmp 57) 22 rfl w7.heap.size 3 i3 (.int .i64 0) 1 8 Try.underlying22 hi3 hz1 hz2 hz3 rfl (by decide) _ _ _ rfl hown w7.heap.size ad7 xs.length cap7 (xs.map (.int .i64)) rfl HRD.out (by simp [Value.oneCell']) (Nat.le_trans (by omega : 1 + xs.length ≤ 2000) (by decide)) (by omega) (by rw [World.size_alloc]; omega) ?_; intro v' w9 q1 q2 _)
            go_ret2
            have h9 : Below w7.heap.size w7 w9 := ⟨q2.os, q2.tape, q2.output, by have := q2.size; simp at this; omega, fun j hj => by rw [q2.block j (by simp; omega) (fun h => by have h3 : some j = some w7.heap.size := h; injection h3; omega)]; exact heap_oldI hj⟩
            obtain ⟨g9, cap9, rfl⟩ := Joins.ownsRow_form q1 (by omega)
            refine ⟨⟨some ⟨g9, 0, none⟩, cap9, (k : Int) :: xs, by rw [HTY.out]; simp [Nat.add_comm], ?_, by simp; omega⟩, bm_below hb17 h9 hb17.size, fun h => by rw [HTY.out] at h; cases h⟩
            refine slI_own (base := w7.heap.size) (W := w9) ?_ (by simp; omega) (Nat.le_refl _) (fun _ _ _ => rfl)
            simpa [Nat.add_comm] using q1
    · have hkn2 : k = ts.length := by omega
      have hsn : safeT L ts = allT ts k := by rw [hkn2]; exact safe_no HV.out (fun j hj => HNO.out j (by omega))
      have HSN := Lib.hid hsn
      clear hkn2 hsn
      go_wp2
      go_ret2
      refine ⟨⟨none, 0, [], by rw [HSN.out]; rfl, ⟨none, 0, rfl, by simp, fun h => by simp at h⟩, by simp⟩, hb, fun hu => ⟨M', HM'.out, ?_⟩⟩
      exact fin_inv HV.out (by rw [hli]; exact HI.out) HI'.out HS'.out hu
end Yteijenefhoconaa
end Go.Proofs
