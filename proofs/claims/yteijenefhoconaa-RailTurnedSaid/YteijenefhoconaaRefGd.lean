/- The reference: good, Good. -/
import Derived.Test.YteijenefhoconaaRefS
open Go Go.RowKit Go.YteijenefhoconaaIt
namespace Go.Proofs
namespace Yteijenefhoconaa
def gdT (L : List Int) (ts : List Tn) (i : Nat) : Bool := possT L ts i && safeT L (movT ts i)
def gdN (L : List Int) (ts : List Tn) (k : Nat) : List Int := ((List.range k).filter (gdT L ts)).map fun (i : Nat) => (i : Int)
theorem gdN_succ (L : List Int) (ts : List Tn) (k : Nat) : gdN L ts (k + 1) = gdN L ts k ++ if gdT L ts k then [(k : Int)] else [] := by
  unfold gdN; rw [List.range_succ, List.filter_append, List.map_append]; congr 1
  by_cases h : gdT L ts k = true <;> simp [h]
theorem gdN_le (L : List Int) (ts : List Tn) (k : Nat) : (gdN L ts k).length ≤ k := by
  unfold gdN; rw [List.length_map]; exact Nat.le_trans (List.length_filter_le _ _) (by simp)
theorem goodL_eq {L : List Int} {ts : List Tn} (h5 : ts.length ≤ 5) : goodL L (tos ts) (pos ts) = gdN L ts ts.length := by
  unfold goodL gdN
  rw [movL_eq h5, List.filter_filter]
  congr 1
  refine filter_range_congr (fun i hi => ?_)
  unfold gdT safeT
  cases hp : possT L ts i with
  | false => simp
  | true => rw [(poss_way h5 hi hp).2.2, tos_movT]; simp
set_option maxRecDepth 100000 in
set_option maxHeartbeats 4000000 in
theorem good56_any (vL vt : Value) (L : List Int) (ts : List Tn) (w : World) (hL : SlI w vL L) (ht : SlT w vt ts) (he : lineE L ts = 0) :
    Calls Try.prog 56 #[vL, vt] w fun e w' => ∃ v, e = .returned v ∧ SlI w' v (goodL L (tos ts) (pos ts)) ∧ Below w.heap.size w w' := by
  have hL0 := hL
  have ht0 := ht
  obtain ⟨ad, cap, rfl, hm, hc⟩ := ht
  have hv := vt_of he
  have h5 := hv.t5
  have HG := Lib.hid (goodL_eq (L := L) h5)
  have h53 := Lib.hid (fun (k : Nat) (hk : k < ts.length) W (hb : Below w.heap.size w W) => poss_any vL _ L ts k W (hL0.below hb (Nat.le_refl _)) (ht0.below hb (Nat.le_refl _)) hv hk)
  have h62 := Lib.hid (fun (k : Nat) (hk : k < ts.length) W (hb : Below w.heap.size w W) => moved_any _ ts k W (ht0.below hb (Nat.le_refl _)) hk (by omega) hv.small)
  have h50 := Lib.hid (fun (k : Nat) (hk : k < ts.length) (hp : possT L ts k = true) (x : Value) W (hb : Below w.heap.size w W) (hx : SlT W x (movT ts k)) => plan50_any vL x L (movT ts k) W (hL0.below hb (Nat.le_refl _)) hx (lineE_mov he hk hp))
  obtain ⟨i3, hi3, hz1, hz2, hz3⟩ := info_parts info3
  clear hc he
  go_enter Try.func56, Try.ntmps56
  go_wp2
  go_loopw [5, 6] (fun v i wr => ∃ k : Nat, k ≤ ts.length ∧ i = .int .i64 k ∧ Below w.heap.size w wr ∧ wr.ownsRow w.heap.size 3 1 v (gdN L ts k).length ((gdN L ts k).map (.int .i64))) (fun _ i _ => ts.length - (intOf i).toNat)
  case atStart => exact ⟨0, Nat.zero_le _, rfl, Below.refl _ _, World.ownsRow_nil _ _ _ _⟩
  case round =>
    obtain ⟨k, hk, rfl, hb, ho⟩ := hrel
    by_cases hkn : k < ts.length
    · have hcall := h53.out k hkn wr hb
      have hc62 := Lib.hid (h62.out k hkn)
      have hc50 := Lib.hid (h50.out k hkn)
      have hsu := gdN_succ L ts k
      have hpl := gdN_le L ts k
      unfold gdT at hsu
      obtain ⟨pp, hpp⟩ : ∃ pp, pp = possT L ts k := ⟨_, rfl⟩
      obtain ⟨sv, hsv⟩ : ∃ sv, sv = safeT L (movT ts k) := ⟨_, rfl⟩
      rw [← hpp] at hcall
      rw [← hpp, ← hsv] at hsu
      have HS := Lib.hid hsu
      have HPP := Lib.hid hpp
      have HSV := Lib.hid hsv
      clear hsu hpp hsv
      cases pp
      · have HN := Lib.hid (show gdN L ts (k + 1) = gdN L ts k by rw [HS.out]; simp)
        go_wp2_with fail
        refine hcall.mono ?_
        rintro e w3 ⟨rfl, hb3⟩
        go_wp2
        go_roundw
        case rel => exact ⟨k + 1, by omega, by go_num, hb.trans (hb3.mono hb.size), by rw [HN.out]; exact Stb.row (B := 0) _ _ (Gr.below hb3) ho⟩
        case measure => simp [intOf]; omega
      · go_wp2_with fail
        refine hcall.mono ?_
        rintro e w3 ⟨rfl, hb3'⟩
        have hb3 := hb.trans (hb3'.mono hb.size)
        have ho3 := Stb.row (B := 0) _ _ (Gr.below hb3') ho
        clear hb3' ho hcall
        go_wp2_with fail
        refine (hc62.out _ hb3).mono ?_
        rintro e w4 ⟨x, rfl, hx, hb4'⟩
        have hb4 := hb3.trans (hb4'.mono hb3.size)
        have ho4 := Stb.row (B := 0) _ _ (Gr.below hb4') ho3
        have HX := Lib.hid hx
        clear hb4' ho3 hx
        go_wp2_with fail
        refine (hc50.out HPP.out.symm _ _ hb4 HX.out).mono ?_
        rintro e w5 ⟨⟨ad5, cap5, n5, rfl⟩, hb5'⟩
        have hb5 := hb4.trans (hb5'.mono hb4.size)
        have ho5 := Stb.row (B := 0) _ _ (Gr.below hb5') ho4
        have hs5 := hb5.size
        clear hb5' ho4
        rw [← HSV.out]
        cases sv
        · have HN := Lib.hid (show gdN L ts (k + 1) = gdN L ts k by rw [HS.out]; simp)
          go_wp2
          go_roundw
          case rel => exact ⟨k + 1, by omega, by go_num, hb5, by rw [HN.out]; exact ho5⟩
          case measure => simp [intOf]; omega
        · have HN := Lib.hid (show gdN L ts (k + 1) = gdN L ts k ++ [(k : Int)] by rw [HS.out]; simp)
          go_wp2_with (at_builtin; refine wpList_append_own _ rfl _ _ 22 rfl w.heap.size 3 i3 (.int .i64 0) 1 8 Try.underlying22 hi3 hz1 hz2 hz3 rfl (by decide) _ _ _ rfl (ho5.alloc _) ⟨w5.heap.size, 0, none⟩ 1 1 [.int .i64 k] rfl rfl (cell_new1 rfl) (by simp [Value.oneCell']) (Nat.le_trans (by omega : (gdN L ts k).length + 1 ≤ 2000) (by decide)) (by omega) (by rw [World.size_alloc]; omega) ?_; intro v' w9 p1 p2 _)
          go_roundw
          case rel => exact ⟨k + 1, by omega, by go_num, grown_more ho5 p2 hs5 hb5 (Nat.le_refl _), by rw [HN.out, List.length_append, List.map_append]; exact p1⟩
          case measure => simp [intOf]; omega
    · have hkn2 : k = ts.length := by omega
      have HCP := Lib.hid (show gdN L ts k = goodL L (tos ts) (pos ts) by rw [HG.out, hkn2])
      have hpl := gdN_le L ts k
      clear hkn2
      obtain ⟨adv, capv, rfl⟩ : ∃ ad cap, u5 = .slice ad (gdN L ts k).length cap := by
        rcases Joins.ownsRow_forms ho with ⟨h, h0⟩ | ⟨g, cap, h⟩
        · exact ⟨none, 0, by rw [h0]; exact h⟩
        · exact ⟨_, _, h⟩
      go_wp2
      go_ret
      exact ⟨_, rfl, by rw [← HCP.out]; exact slI_own ho (by omega) (Nat.le_refl _) (fun _ _ _ => rfl), hb⟩
set_option maxRecDepth 100000 in
set_option maxHeartbeats 1000000 in
theorem good24_any (vL vt : Value) (L : List Int) (ts : List Tn) (w : World) (hL : SlI w vL L) (ht : SlT w vt ts) :
    Calls Try.prog 24 #[vL, vt] w fun e w' => Below w.heap.size w w' ∧
      ((lineE L ts ≠ 0 ∧ e = .returned (.tuple #[.slice none 0 0, .int .i64 (lineE L ts)])) ∨
       (lineE L ts = 0 ∧ ∃ v, e = .returned (.tuple #[v, .int .i64 0]) ∧ SlI w' v (goodL L (tos ts) (pos ts)))) := by
  have h46 := check46_any vL vt L ts w hL ht
  by_cases he : lineE L ts = 0
  · have h56 := fun W (hb : Below w.heap.size w W) => good56_any vL vt L ts W (hL.below hb (Nat.le_refl _)) (ht.below hb (Nat.le_refl _)) he
    have H56 := Lib.hid h56
    have HE := Lib.hid he
    rw [he] at h46
    clear he h56
    go_enter Try.func24, Try.ntmps24
    go_wp2_with (first
      | (go_at_call 46; refine h46.mono ?_; rintro e w2 ⟨rfl, hb2⟩)
      | (go_at_call 56; refine (H56.out _ hb2).mono ?_; rintro e w3 ⟨v, rfl, hv, hb3⟩))
    go_ret2
    exact ⟨hb2.trans (hb3.mono hb2.size), .inr ⟨HE.out, v, rfl, hv⟩⟩
  · have hne : (lineE L ts != 0) = true := bne_iff_ne.2 he
    go_enter Try.func24, Try.ntmps24
    go_wp2_with (go_at_call 46; refine h46.mono ?_; rintro e w2 ⟨rfl, hb2⟩)
    go_ret2
    exact ⟨hb2, .inl ⟨he, rfl⟩⟩
end Yteijenefhoconaa
end Go.Proofs
