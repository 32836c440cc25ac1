/- The reference: Safe, Stuck, good, Good. -/
import Derived.Test.YteijenefhoconaaRefP
open Go Go.RowKit Go.YteijenefhoconaaIt
namespace Go.Proofs
namespace Yteijenefhoconaa
set_option maxRecDepth 100000 in
set_option maxHeartbeats 1000000 in
theorem safe17_any (vL vt : Value) (L : List Int) (ts : List Tn) (w : World) (hL : SlI w vL L) (ht : SlT w vt ts) :
    Calls Try.prog 17 #[vL, vt] w fun e w' => e = .returned (.tuple #[.bool (if lineE L ts ≠ 0 then false else safeB L (tos ts) (pos ts)), .int .i64 (lineE L ts)]) ∧ Below w.heap.size w w' := by
  have h46 := check46_any vL vt L ts w hL ht
  by_cases he : lineE L ts = 0
  · have h50 := fun W (hb : Below w.heap.size w W) => plan50_any vL vt L ts W (hL.below hb (Nat.le_refl _)) (ht.below hb (Nat.le_refl _)) he
    have H50 := Lib.hid h50
    rw [he] at h46 ⊢
    rw [if_neg (by decide)]
    change Calls Try.prog 17 #[vL, vt] w fun e w' => e = .returned (.tuple #[.bool (safeT L ts), .int .i64 0]) ∧ Below w.heap.size w w'
    clear he h50
    go_enter Try.func17, Try.ntmps17
    go_wp2_with (first
      | (go_at_call 46; refine h46.mono ?_; rintro e w2 ⟨rfl, hb2⟩)
      | (go_at_call 50; refine (H50.out _ hb2).mono ?_; rintro e w3 ⟨⟨ad, cap, n, rfl⟩, hb3⟩))
    go_ret2
    exact ⟨rfl, hb2.trans (hb3.mono hb2.size)⟩
  · have hne : (lineE L ts != 0) = true := bne_iff_ne.2 he
    rw [if_pos he]
    go_enter Try.func17, Try.ntmps17
    go_wp2_with (go_at_call 46; refine h46.mono ?_; rintro e w2 ⟨rfl, hb2⟩)
    go_ret2
    exact ⟨rfl, hb2⟩
def canT (L : List Int) (ts : List Tn) (k : Nat) : Bool := (List.range k).any (possT L ts)
theorem canT_succ (L : List Int) (ts : List Tn) (k : Nat) : canT L ts (k + 1) = (canT L ts k || possT L ts k) := by
  unfold canT; rw [List.range_succ, List.any_append]; simp
def wayT (ts : List Tn) (k : Nat) : Bool := (List.range k).any fun i => tAt ts i != tTo ts i
theorem wayT_succ (ts : List Tn) (k : Nat) : wayT ts (k + 1) = (wayT ts k || tAt ts k != tTo ts k) := by
  unfold wayT; rw [List.range_succ, List.any_append]; simp
theorem stuckB_eq {L : List Int} {ts : List Tn} (he : lineE L ts = 0) : stuckB L ts = (wayT ts ts.length && !canT L ts ts.length) := by
  have h5 := (vt_of he).t5
  unfold stuckB
  rw [he, movL_eq h5]
  have h1 : ((List.range ts.length).filter (possT L ts)).isEmpty = !canT L ts ts.length := by
    unfold canT
    rw [Bool.eq_iff_iff]
    simp [List.filter_eq_nil_iff]
  have h2 : (!decide (wayL (pos ts) (tos ts) = [])) = wayT ts ts.length := by
    unfold wayT wayL
    rw [tos_len, Bool.eq_iff_iff]
    simp only [Bool.not_eq_true', decide_eq_false_iff_not, List.filter_eq_nil_iff, List.any_eq_true, List.mem_range]
    constructor
    · intro h
      apply Classical.byContradiction
      intro hn
      apply h
      intro i hi ho
      apply hn
      refine ⟨i, hi, ?_⟩
      unfold onw at ho
      rwa [pos_at h5 hi, tos_at hi] at ho
    · rintro ⟨i, hi, h⟩ hn
      apply hn i hi
      unfold onw
      rwa [pos_at h5 hi, tos_at hi]
  rw [h1, h2]
  cases wayT ts ts.length <;> cases canT L ts ts.length <;> rfl
set_option maxRecDepth 100000 in
set_option maxHeartbeats 4000000 in
theorem stuck19_any (vL vt : Value) (L : List Int) (ts : List Tn) (w : World) (hL : SlI w vL L) (ht : SlT w vt ts) :
    Calls Try.prog 19 #[vL, vt] w fun e w' => e = .returned (.tuple #[.bool (stuckB L ts), .int .i64 (lineE L ts)]) ∧ Below w.heap.size w w' := by
  have h46 := check46_any vL vt L ts w hL ht
  have hL0 := hL
  have ht0 := ht
  obtain ⟨ad, cap, rfl, hm, hc⟩ := ht
  by_cases he : lineE L ts = 0
  · have hv := vt_of he
    have HS := Lib.hid (stuckB_eq he)
    have HE := Lib.hid he
    have HC := Lib.hid hc
    have h53 := Lib.hid (fun (k : Nat) (hk : k < ts.length) W (hb : Below w.heap.size w W) => poss_any vL _ L ts k W (hL0.below hb (Nat.le_refl _)) (ht0.below hb (Nat.le_refl _)) hv hk)
    rw [he] at h46 ⊢
    clear he hc
    go_enter Try.func19, Try.ntmps19
    go_wp2_with fail
    refine h46.mono ?_
    rintro e w2 ⟨rfl, hb2⟩
    go_wp2
    go_loopw [7, 8, 9] (fun a c i wr => ∃ k : Nat, k ≤ ts.length ∧ i = .int .i64 k ∧ a = .bool (wayT ts k) ∧ c = .bool (canT L ts k) ∧ Below w.heap.size w wr) (fun _ _ i _ => ts.length - (intOf i).toNat)
    case atStart => exact ⟨0, Nat.zero_le _, rfl, rfl, rfl, hb2⟩
    case round =>
      obtain ⟨k, hk, rfl, rfl, rfl, hb⟩ := hrel
      by_cases hkn : k < ts.length
      · obtain ⟨b, off, rfl, hlb, hcell⟩ := HC.out (by omega)
        have h1 := (hb.cell (p := ⟨b, off + k * 2, none⟩) hlb).trans (hcell k hkn).1
        have h2 := (hb.cell (p := ⟨b, off + k * 2 + 1, none⟩) hlb).trans (hcell k hkn).2
        have hcomb : (wayT ts k = true ∧ wayT ts (k + 1) = true) ∨ (wayT ts k = false ∧ (tAt ts k != tTo ts k) = true ∧ wayT ts (k + 1) = true) ∨ (wayT ts k = false ∧ (tAt ts k != tTo ts k) = false ∧ wayT ts (k + 1) = false) := by
          rw [wayT_succ]
          cases wayT ts k <;> cases (tAt ts k != tTo ts k) <;> simp
        have hcomb2 : (canT L ts k = true ∧ canT L ts (k + 1) = true) ∨ (canT L ts k = false ∧ canT L ts (k + 1) = possT L ts k) := by
          rw [canT_succ]
          cases canT L ts k <;> simp
        have hcall := fun W (hb' : Below wr.heap.size wr W) => h53.out k hkn W (hb.trans (hb'.mono hb.size))
        have HCALL := Lib.hid hcall
        generalize tAt ts k = p1 at *
        generalize tTo ts k = p2 at *
        generalize wayT ts k = wk at *
        generalize canT L ts k = ck at *
        obtain ⟨wn, hwn⟩ : ∃ x, x = wayT ts (k + 1) := ⟨_, rfl⟩
        obtain ⟨cn, hcn⟩ : ∃ x, x = canT L ts (k + 1) := ⟨_, rfl⟩
        rw [← hwn] at hcomb
        rw [← hcn] at hcomb2
        have HW := Lib.hid hwn
        have HCN := Lib.hid hcn
        clear hwn hcn hcell hcall
        rcases hcomb2 with ⟨rfl, rfl⟩ | ⟨rfl, rfl⟩
        · rcases hcomb with ⟨rfl, rfl⟩ | ⟨rfl, e1, rfl⟩ | ⟨rfl, e1, rfl⟩
          all_goals
            go_wp2
            go_quiet (fail)
            go_wp2
            go_roundw
            case rel => exact ⟨k + 1, by omega, by go_num, by rw [← HW.out], by rw [← HCN.out], below_drewN hb _⟩
            case measure => simp [intOf]; omega
        · rcases hcomb with ⟨rfl, rfl⟩ | ⟨rfl, e1, rfl⟩ | ⟨rfl, e1, rfl⟩
          all_goals
            go_wp2
            go_quiet (fail)
            go_wp2_with fail
            refine (HCALL.out _ (below_drewN (Below.refl _ _) _)).mono ?_
            rintro e w5 ⟨rfl, hb5⟩
            go_wp2
            go_roundw
            case rel => exact ⟨k + 1, by omega, by go_num, by rw [← HW.out], by rw [← HCN.out], (below_drewN hb _).trans (hb5.mono hb.size)⟩
            case measure => simp [intOf]; omega
      · have hkn2 : k = ts.length := by omega
        have hst : stuckB L ts = (wayT ts k && !canT L ts k) := by rw [HS.out, hkn2]
        have HST := Lib.hid hst
        clear hst hkn2
        generalize wayT ts k = wk at *
        generalize canT L ts k = ck at *
        cases wk <;> cases ck
        all_goals
          go_wp2
          go_ret2
          exact ⟨by rw [HST.out]; rfl, hb⟩
  · have hS : stuckB L ts = false := by unfold stuckB; simp [he]
    have hne : (lineE L ts != 0) = true := bne_iff_ne.2 he
    have HS := Lib.hid hS
    clear hS hc
    go_enter Try.func19, Try.ntmps19
    go_wp2_with fail
    refine h46.mono ?_
    rintro e w2 ⟨rfl, hb2⟩
    go_wp2
    go_ret2
    exact ⟨by rw [HS.out]; rfl, hb2⟩
end Yteijenefhoconaa
end Go.Proofs
