/- The reference: Possible; what the law hands over to it, and the comparison; Verify. -/
import Derived.Test.YteijenefhoconaaRefE
open Go Go.RowKit Go.YteijenefhoconaaIt
namespace Go.Proofs
namespace Yteijenefhoconaa
theorem grown_more {W w1 X : World} {base n0 : Nat} {e : TypeId} {sz : Nat} {v : Value} {n : Nat} {xs : List Value} {o : Obj} (ho : W.ownsRow base e sz v n xs) (hg : (W.alloc o).grownBy w1 v.ownBlock) (hb : base ≤ W.heap.size) (hX : Below n0 X W) (hn : n0 ≤ base) : Below n0 X w1 :=
  hX.trans (((grown_same ho hg).2.2 hb).mono hn)
def possN (L : List Int) (ts : List Tn) (k : Nat) : List Int := ((List.range k).filter (possT L ts)).map fun (i : Nat) => (i : Int)
theorem possN_succ (L : List Int) (ts : List Tn) (k : Nat) : possN L ts (k + 1) = possN L ts k ++ if possT L ts k then [(k : Int)] else [] := by
  unfold possN; rw [List.range_succ, List.filter_append, List.map_append]; congr 1
  by_cases h : possT L ts k = true <;> simp [h]
theorem possN_le (L : List Int) (ts : List Tn) (k : Nat) : (possN L ts k).length ≤ k := by
  unfold possN; rw [List.length_map]; exact Nat.le_trans (List.length_filter_le _ _) (by simp)
set_option maxRecDepth 100000 in
set_option maxHeartbeats 1000000 in
theorem poss43_any (vL vt : Value) (L : List Int) (ts : List Tn) (w : World) (hL : SlI w vL L) (ht : SlT w vt ts) :
    Calls Try.prog 43 #[vL, vt] w fun e w' => Below w.heap.size w w' ∧
      ((lineE L ts ≠ 0 ∧ e = .returned (.tuple #[.slice none 0 0, .int .i64 (lineE L ts)])) ∨
       (lineE L ts = 0 ∧ ∃ v, e = .returned (.tuple #[v, .int .i64 0]) ∧ SlI w' v (canL L (tos ts) (pos ts)))) := by
  have hL0 := hL
  have ht0 := ht
  have h46 := check46_any vL vt L ts w hL ht
  obtain ⟨ad, cap, rfl, hm, hc⟩ := ht
  by_cases he : lineE L ts = 0
  · have hv := vt_of he
    have h5 := hv.t5
    have HCA := Lib.hid (canL_eq (L := L) h5)
    rw [he] at h46
    have HE := Lib.hid he
    have h53 := Lib.hid (fun (k : Nat) (hk : k < ts.length) W (hb : Below w.heap.size w W) => poss_any vL _ L ts k W (hL0.below hb (Nat.le_refl _)) (ht0.below hb (Nat.le_refl _)) hv hk)
    clear he hc
    go_enter Try.func43, Try.ntmps43
    go_wp2_with fail
    refine h46.mono ?_
    rintro e w2 ⟨rfl, hb2⟩
    have hs2 := hb2.size
    go_wp2
    go_loopw [7, 8] (fun v i wr => ∃ k : Nat, k ≤ ts.length ∧ i = .int .i64 k ∧ Below w.heap.size w wr ∧ wr.ownsRow w.heap.size 3 1 v (possN L ts k).length ((possN L ts k).map (.int .i64))) (fun _ i _ => ts.length - (intOf i).toNat)
    case atStart => exact ⟨0, Nat.zero_le _, rfl, hb2, World.ownsRow_nil _ _ _ _⟩
    case round =>
      obtain ⟨k, hk, rfl, hb, ho⟩ := hrel
      by_cases hkn : k < ts.length
      · have hcall := h53.out k hkn wr hb
        have hsu := possN_succ L ts k
        have hpl := possN_le L ts k
        obtain ⟨pp, hpp⟩ : ∃ pp, pp = possT L ts k := ⟨_, rfl⟩
        rw [← hpp] at hcall hsu
        have HS := Lib.hid hsu
        clear hsu hpp
        obtain ⟨i3, hi3, hz1, hz2, hz3⟩ := info_parts info3
        cases pp
        · have hn : possN L ts (k + 1) = possN L ts k := by rw [HS.out]; simp
          have HN := Lib.hid hn
          clear hn
          go_wp2_with fail
          refine hcall.mono ?_
          rintro e w3 ⟨rfl, hb3⟩
          go_wp2
          go_roundw
          case rel => exact ⟨k + 1, by omega, by go_num, hb.trans (hb3.mono hb.size), by rw [HN.out]; exact Stb.row (B := 0) _ _ (Gr.below hb3) ho⟩
          case measure => simp [intOf]; omega
        · have hn : possN L ts (k + 1) = possN L ts k ++ [(k : Int)] := by rw [HS.out]; simp
          have HN := Lib.hid hn
          clear hn
          go_wp2_with fail
          refine hcall.mono ?_
          rintro e w3 ⟨rfl, hb3⟩
          have ho3 := Stb.row (B := 0) _ _ (Gr.below hb3) ho
          have hB3 := hb.trans (hb3.mono hb.size)
          have hs3 := hB3.size
          clear ho hb3 hcall
          go_wp2_with (at_builtin; refine wpList_append_own _ rfl _ _ 22 rfl w.heap.size 3 i3 (.int .i64 0) 1 8 Try.underlying22 hi3 hz1 hz2 hz3 rfl (by decide) _ _ _ rfl (ho3.alloc _) ⟨w3.heap.size, 0, none⟩ 1 1 [.int .i64 k] rfl rfl (cell_new1 rfl) (by simp [Value.oneCell']) (Nat.le_trans (by omega : (possN L ts k).length + 1 ≤ 2000) (by decide)) (by omega) (by rw [World.size_alloc]; omega) ?_; intro v' w9 p1 p2 _)
          go_roundw
          case rel => exact ⟨k + 1, by omega, by go_num, grown_more ho3 p2 hs3 hB3 (Nat.le_refl _), by rw [HN.out, List.length_append, List.map_append]; exact p1⟩
          case measure => simp [intOf]; omega
      · have hkn2 : k = ts.length := by omega
        have hcp : possN L ts k = canL L (tos ts) (pos ts) := by rw [HCA.out, hkn2]; rfl
        have HCP := Lib.hid hcp
        clear hkn2 hcp
        have hpl := possN_le L ts k
        obtain ⟨adv, capv, rfl⟩ : ∃ ad cap, u7 = .slice ad (possN L ts k).length cap := by
          rcases Joins.ownsRow_forms ho with ⟨h, h0⟩ | ⟨g, cap, h⟩
          · exact ⟨none, 0, by rw [h0]; exact h⟩
          · exact ⟨_, _, h⟩
        go_wp2
        go_ret2
        exact ⟨hb, .inr ⟨HE.out, _, rfl, by rw [← HCP.out]; exact slI_own ho (by omega) (Nat.le_refl _) (fun _ _ _ => rfl)⟩⟩
  · have hne : (lineE L ts != 0) = true := bne_iff_ne.2 he
    clear hc
    go_enter Try.func43, Try.ntmps43
    go_wp2_with fail
    refine h46.mono ?_
    rintro e w2 ⟨rfl, hb2⟩
    go_wp2
    go_ret2
    exact ⟨hb2, .inl ⟨he, rfl⟩⟩
set_option maxRecDepth 100000 in
set_option maxHeartbeats 1000000 in
theorem given_any (vt : Value) (ts : List Tn) (w : World) (ht : SlT w vt ts) (h20 : ts.length ≤ 20) :
    Calls Try.prog 15 #[vt] w fun e w' => ∃ v, e = .returned v ∧ SlT w' v ts ∧ Below w.heap.size w w' := by
  obtain ⟨ad, cap, rfl, hm, hc⟩ := ht
  have HC := Lib.hid hc
  clear hc
  obtain ⟨i81, hi81, hz1, hz2, hz3⟩ := info_parts info81
  go_enter Try.func15, Try.ntmps15
  go_wp2
  go_loopw [3, 4] (fun v i wr => ∃ k : Nat, k ≤ ts.length ∧ i = .int .i64 k ∧ Below w.heap.size w wr ∧ wr.ownsRow w.heap.size 81 2 v (ts.take k).length (flat (ts.take k))) (fun _ i _ => ts.length - (intOf i).toNat)
  case atStart => exact ⟨0, Nat.zero_le _, rfl, Below.refl _ _, World.ownsRow_nil _ _ _ _⟩
  case round =>
    obtain ⟨k, hk, rfl, hb, ho⟩ := hrel
    have hlt : (ts.take k).length = k := by simp; omega
    rw [hlt] at ho
    by_cases hkn : k < ts.length
    · obtain ⟨b, off, rfl, hlb, hcell⟩ := HC.out (by omega)
      have h1 := (hb.cell (p := ⟨b, off + k * 2, none⟩) hlb).trans (hcell k hkn).1
      have h2 := (hb.cell (p := ⟨b, off + k * 2 + 1, none⟩) hlb).trans (hcell k hkn).2
      have hpush := flat_take hkn
      have hlt2 : (ts.take (k + 1)).length = k + 1 := by simp; omega
      generalize tAt ts k = p1 at *
      generalize tTo ts k = p2 at *
      have HP := Lib.hid (And.intro hpush hlt2)
      have hs := hb.size
      clear hpush hlt2 hlt hcell
      go_wp2_with (at_builtin; refine wpList_append_own _ rfl _ _ 26 rfl w.heap.size 81 i81 (.agg #[.int .i64 0, .int .i64 0]) 2 16 Try.underlying26 hi81 hz1 hz2 hz3 rfl (by decide) _ _ _ rfl (ho.alloc _) ⟨wr.heap.size, 0, none⟩ 1 1 [.int .i64 p1, .int .i64 p2] rfl rfl (cell_new2 rfl) (by simp [Value.oneCell']) (Nat.le_trans (by omega : k + 1 ≤ 2000) (by decide)) (by omega) (by rw [World.size_alloc]; omega) ?_; intro v' w9 q1 q2 _)
      go_roundw
      case rel => exact ⟨k + 1, by omega, by go_num, grown_more ho q2 hs hb (Nat.le_refl _), by rw [HP.out.2, ← HP.out.1]; exact q1⟩
      case measure => simp [intOf]; omega
    · have hkn2 : k = ts.length := by omega
      have htk : ts.take k = ts := List.take_of_length_le (by omega)
      rw [htk] at ho
      have HK2 := Lib.hid hkn2
      clear hkn2 htk hlt
      obtain ⟨adv, capv, rfl⟩ : ∃ ad cap, u3 = .slice ad k cap := by
        rcases Joins.ownsRow_forms ho with ⟨h, h0⟩ | ⟨g, cap, h⟩
        · exact ⟨none, 0, by rw [h0]; exact h⟩
        · exact ⟨_, _, h⟩
      go_wp2
      go_ret
      exact ⟨_, rfl, slT_own' (e := 81) (by rw [← HK2.out]; exact ho) (by omega), hb⟩
theorem neq81 (a1 a2 b1 b2 : Int) (W : World) : (binOp .neq 81 (.agg #[.int .i64 a1, .int .i64 a2]) (.agg #[.int .i64 b1, .int .i64 b2])).run Try.prog W = .ok (.bool (!decide (a1 = b1 ∧ a2 = b2))) W := by
  rw [run_neq_struct, run_equalIn_agg W 9999 81 _ _ (by kernel_rfl) (by kernel_rfl)]
  simp [Program.fieldsOf, Try.underlying81, Op.eqFields, go_sem]
  by_cases h1 : a1 = b1 <;> by_cases h2 : a2 = b2 <;> simp [h1, h2]
end Yteijenefhoconaa
end Go.Proofs
