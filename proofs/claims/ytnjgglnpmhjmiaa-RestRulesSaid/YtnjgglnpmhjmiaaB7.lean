/- Laws of rotation: slices.Concat of two slices of lists. -/
import Derived.Test.YtnjgglnpmhjmiaaB6
import Derived.Lib.AppendZerosOnto
import Derived.Lib.SliceRun
import Derived.Lib.Walk
open Go Go.RowKit Go.YtnjgglnpmhjmiaaIt
open Rest
namespace Go.Proofs
namespace Ytnjgglnpmhjmiaa
set_option maxRecDepth 100000 in
set_option maxHeartbeats 4000000 in
theorem grow101_any (n : Nat) (hn : n ≤ 10000) (w : World) : Calls Try.prog 101 #[.slice none 0 0, .int .i64 (n : Nat)] w fun e w' => ∃ v, e = .returned v ∧ w'.ownsRow w.heap.size 40 1 v 0 [] ∧ Below w.heap.size w w' := by
 have h1 : ¬ ((n : Int) < 0) := by omega
 by_cases h0 : n = 0
 ·subst h0
  go_enter Try.func101, Try.ntmps101
  go_wp2
  go_ret
  exact ⟨_, rfl, ⟨rfl, .inl ⟨rfl, rfl⟩⟩, Below.refl _ _⟩
 obtain ⟨i40, hi40, hy1, hy2, hy3⟩ := info_parts info40
 have hu3 : Try.prog.underlying 3 = some (.int .i64) := Try.underlying3
 have hrz : (Builtin.append_ #[22, 3] 22 #[.slice none 0 0, .int .i64 (n : Nat)]).run Try.prog w =
   .ok (.slice (some ⟨w.heap.size, 0, none⟩) n (grownCap w n 0 40)) (w.drew.alloc (.cells (#[] ++ Builtin.zeroCells (Value.slice none 0 0).cells n ++ Builtin.zeroCells (Value.slice none 0 0).cells (grownCap w n 0 40 - n)) 40)) := by
  have h := Lib.run_append_grow_zeros w 22 3 22 40 i40 (.slice none 0 0) .i64 .i64 Try.underlying22 hu3 hi40 hy1 none 0 0 [] (run_firstCells_none w.drew i40.size 0 0 0) n (by omega) (by rw [hy2]; decide) (by omega) (by omega) (by rw [hy3]; omega) (by rw [hy3]; exact growslice_fits (by omega) (by omega))
  simpa using h
 have hGn : n ≤ grownCap w n 0 40 := grownCap_ge w _ _ _
 have hGm := grownCap_le_maxLen w n 0 40 (by unfold maxLen; omega)
 obtain ⟨G, hG⟩ : ∃ G, G = grownCap w n 0 40 := ⟨_, rfl⟩
 rw [← hG] at hrz hGn hGm
 have hG63 : G ≤ 9223372036854775807 := by unfold maxLen at hGm; omega
 have hn1 : (0 : Int) < (n : Int) := by omega
 have hw0 : wrap64 ((n : Int) - 0) = (n : Int) := by rw [Int.sub_zero]; exact IntWalk.wrap64_in _ (by omega)
 clear hG h0
 go_enter Try.func101, Try.ntmps101
 go_wp2_with (at_builtin; refine Lib.wpList_append_run _ rfl _ _ _ _ rfl _ _ rfl rfl _ _ hrz ?_)
 go_ret
 refine ⟨_, rfl, ⟨rfl, .inr ⟨w.heap.size, G, _, rfl, Nat.le_refl _, heap_newI (w := w.drew) rfl, Nat.zero_le _, hGm, ?_, by simp⟩⟩, (Below.refl _ _).drew.alloc (Nat.le_refl _) _⟩
 simp [Builtin.zeroCells]
 omega
def catN (n1 n2 k : Nat) : Nat := if k = 0 then 0 else if k = 1 then n1 else n1 + n2
def catR (vs us : List Value) (k : Nat) : List Value := if k = 0 then [] else if k = 1 then vs else vs ++ us
set_option maxRecDepth 100000 in
set_option maxHeartbeats 4000000 in
theorem concat75_any {va vb : Value} {ss es : List (List Int)} {g : Nat} {w : World} (h0 : w.heap[g]? = some (.cells #[va, vb] 22 (0, 0))) (ha : SlII w va ss) (hb : SlII w vb es) (hla : ss.length ≤ 4000) (hlb : es.length ≤ 4000) :
  Calls Try.prog 75 #[.slice (some ⟨g, 0, none⟩) 2 2] w fun e w' => ∃ v, e = .returned v ∧ SlII w' v (ss ++ es) ∧ Below w.heap.size w w' := by
 obtain ⟨vs, hvs, hl1, hr1⟩ := ha
 obtain ⟨us, hus, hl2, hr2⟩ := hb
 have hv0 := hvs
 have hu0 := hus
 obtain ⟨aa, ca, rfl, -, hca, -⟩ := hvs
 obtain ⟨ab, cb, rfl, -, hcb, -⟩ := hus
 have c0 := cell_blk (i := 0) h0
 have c1 := cell_blk (i := 1) h0
 simp only [List.getElem?_toArray, List.getElem?_cons_zero, List.getElem?_cons_succ] at c0 c1
 have lg := lt_blk h0
 have HS := Lib.hid (And.intro hv0 (And.intro hu0 (And.intro hl1 (And.intro hl2 (And.intro hr1 hr2)))))
 have HL := Lib.hid (And.intro hla hlb)
 obtain ⟨n1, hn1⟩ : ∃ n, n = vs.length := ⟨_, rfl⟩
 obtain ⟨n2, hn2⟩ : ∃ n, n = us.length := ⟨_, rfl⟩
 rw [← hn1] at c0 hca
 rw [← hn2] at c1 hcb
 have HN := Lib.hid (And.intro hn1 hn2)
 have b1 : n1 ≤ 4000 := by omega
 have b2 : n2 ≤ 4000 := by omega
 clear hv0 hu0 hl1 hl2 hr1 hr2 hla hlb hn1 hn2 h0
 go_enter Try.func75, Try.ntmps75
 refine wp_noP ?_
 refine wp_seq_k (fun K hK => ?_)
 have HK := Lib.hid hK; clear hK
 go_wp2
 refine HK.out _ _ ?_; clear HK
 have hpart : ∀ k, k < 2 → ∃ A m c, w.cell? ⟨g, k, none⟩ = some (.slice A m c) ∧ m ≤ 4000 ∧ catN n1 n2 (k + 1) = catN n1 n2 k + m ∧ catN n1 n2 k ≤ 4000 ∧ ∃ ns, SlV w (.slice A m c) ns ∧ ns.length = m ∧ catR vs us (k + 1) = catR vs us k ++ ns ∧ ∀ u ∈ ns, u.oneCell' = true := fun k hk => by
  obtain ⟨hv0, hu0, hl1, hl2, hr1, hr2⟩ := HS.out
  obtain ⟨hn1, hn2⟩ := HN.out
  have one : ∀ (xs : List Value) (rows : List (List Int)), xs.length = rows.length → (∀ i (h : i < xs.length) (h' : i < rows.length), SlI w xs[i] rows[i]) → ∀ u ∈ xs, u.oneCell' = true := fun xs rows hl hr u hu => by
   obtain ⟨i, hi, rfl⟩ := List.getElem_of_mem hu
   obtain ⟨ad, c, e⟩ := slI_form (hr i hi (by omega))
   rw [e]; rfl
  rcases (show k = 0 ∨ k = 1 by omega) with rfl | rfl
  ·exact ⟨aa, n1, ca, c0, b1, by simp [catN], by simp [catN], vs, by rw [hn1]; exact hv0, hn1.symm, by simp [catR], one vs ss hl1 hr1⟩
  ·exact ⟨ab, n2, cb, c1, b2, by simp [catN], by simp [catN]; omega, us, by rw [hn2]; exact hu0, hn2.symm, by simp [catR], one us es hl2 hr2⟩
 have HP := Lib.hid hpart
 have hN2 : catN n1 n2 2 = n1 + n2 := by simp [catN]
 have HN2 := Lib.hid hN2
 clear hpart c0 c1 hN2
 refine wp_seq_k (fun K hK => ?_)
 have HK := Lib.hid hK; clear hK
 go_wp2
 refine HK.out _ _ ?_; clear HK
 refine wp_seq_k (fun K hK => ?_)
 have HK := Lib.hid hK; clear hK
 go_wp2
 go_loopw [3, 11] (fun s i wr => ∃ k : Nat, k ≤ 2 ∧ i = .int .i64 k ∧ s = .int .i64 (catN n1 n2 k : Nat) ∧ w = wr) (fun _ i _ => 2 - (intOf i).toNat)
 case atStart => exact ⟨0, by omega, rfl, rfl, rfl⟩
 case round =>
  obtain ⟨k, hk, rfl, rfl, rfl⟩ := hrel
  by_cases hk2 : k < 2
  ·have hki : (k : Int) < 2 := by omega
   obtain ⟨A, m, c, c0, hm, hN, hN4, -⟩ := HP.out k hk2
   obtain ⟨q, hq⟩ : ∃ q, q = catN n1 n2 k := ⟨_, rfl⟩
   rw [← hq] at hN hN4 ⊢
   have HNN := Lib.hid hN
   have hneg : ¬ ((q : Int) + (m : Int) < 0) := by omega
   clear hq hN
   go_wp2
   refine ⟨⟨k + 1, by omega, by go_num, by rw [HNN.out]; go_num, trivial⟩, ?_⟩
   simp only [intOf]; omega
  ·have hki : ¬ (k : Int) < 2 := by omega
   have hke : k = 2 := by omega
   subst hke
   rw [HN2.out]
   go_wp2
   refine HK.out _ _ ?_; clear HK
   have H101 := Lib.hid (grow101_any (n1 + n2) (by omega) w)
   refine wp_seq_k (fun K hK => ?_)
   have HK := Lib.hid hK; clear hK
   go_wp2_with (go_at_call 101; refine H101.out.mono ?_; rintro e w3 ⟨v3, rfl, hr3, hb3⟩; have H3 := Lib.hid (And.intro hr3 hb3); clear hr3 hb3)
   refine HK.out _ _ ?_; clear HK
   refine wp_seq_k (fun K hK => ?_)
   have HK := Lib.hid hK; clear hK
   go_wp2
   go_loopw [6, 27] (fun v i wr => ∃ k : Nat, k ≤ 2 ∧ i = .int .i64 k ∧ Hid (wr.ownsRow w.heap.size 40 1 v (catN n1 n2 k) (catR vs us k)) ∧ Below w.heap.size w wr) (fun _ i _ => 2 - (intOf i).toNat)
   case atStart => exact ⟨0, by omega, rfl, Lib.hid (by simpa [catN, catR] using H3.out.1), H3.out.2⟩
   case round =>
    obtain ⟨k, hk, rfl, HR, hbr⟩ := hrel
    obtain ⟨wo, rfl⟩ : ∃ q, q = wr := ⟨_, rfl⟩
    obtain ⟨av, cv, rfl⟩ := form_of HR.out
    by_cases hk2 : k < 2
    ·have hki : (k : Int) < 2 := by omega
     obtain ⟨A, m, c, c0, hm, hN, hN4, ns, hns, hnl, hcat, hone⟩ := HP.out k hk2
     have c0' := (hbr.cell (p := ⟨g, k, none⟩) lg).trans c0
     have hrd := reads_of_slV (hns.below hbr (Nat.le_refl _))
     obtain ⟨q, hq⟩ : ∃ q, q = catN n1 n2 k := ⟨_, rfl⟩
     rw [← hq] at hN hN4 HR ⊢
     have HX := Lib.hid (And.intro hN (And.intro hcat (And.intro hone (And.intro hrd (And.intro hnl hN4)))))
     have HBR := Lib.hid hbr
     clear hq hN hcat hone hrd hns c0 hbr hnl
     go_wp2_with (at_builtin; refine cutme ?_)
     refine ⟨?_⟩
     refine wpList_plain rfl fun K1 hK1 => ?_
     have HK1' := Lib.hid hK1; clear hK1
     obtain ⟨hN, hcat, hone, hrd, hnl, -⟩ := HX.out
     obtain ⟨i40, hi40, hy1, hy2, hy3⟩ := info_parts info40
     refine wp_append_any wo (.tmp 31) (.tmp 32) 22 rfl w.heap.size 40 i40 (.slice none 0 0) 1 24 Try.underlying22 hi40 hy1 hy2 hy3 rfl (by decide) _ q _ rfl HR.out wo.heap.size A m c ns rfl hrd hone (Nat.le_trans (by omega : q + m ≤ 8000) (by decide)) (by omega) HBR.out.size ?_
     intro v' w' r1 r2 r3
     refine HK1'.out _ _ ?_; clear HK1'
     have HB5 := Lib.hid (grown_below r2 HR.out (Nat.le_refl _) HBR.out.size HBR.out)
     have HR5 : Hid (w'.ownsRow w.heap.size 40 1 v' (catN n1 n2 (k + 1)) (catR vs us (k + 1))) := Lib.hid (by rw [hN, hcat]; exact r1)
     clear hN hcat hone hrd hnl r1 r2 r3
     go_wp2
     refine ⟨⟨k + 1, by omega, by go_num, HR5, HB5.out⟩, ?_⟩
     simp only [intOf]; omega
    ·have hki : ¬ (k : Int) < 2 := by omega
     have hke : k = 2 := by omega
     subst hke
     have HBR := Lib.hid hbr
     clear hbr
     rw [HN2.out] at HR ⊢
     go_wp2
     refine HK.out _ _ ?_; clear HK
     go_wp2
     refine noP_ret (bodyPost_ret (results_tmp rfl _ _ _) rfl ⟨_, rfl, ?_, HBR.out⟩)
     obtain ⟨hv0, hu0, hl1, hl2, hr1, hr2⟩ := HS.out
     obtain ⟨hn1, hn2⟩ := HN.out
     have hcr : catR vs us 2 = vs ++ us := by simp [catR]
     have hown := HR.out
     rw [hcr] at hown
     refine ⟨vs ++ us, slV_own hown (by simp [hn1, hn2]) (by simp; omega), by simp [hl1, hl2], fun i hi hi' => ?_⟩
     by_cases h1 : i < vs.length
     ·have e2 : (vs ++ us)[i] = vs[i] := List.getElem_append_left h1
      have e3 : (ss ++ es)[i] = ss[i]'(by omega) := List.getElem_append_left (by omega)
      rw [e2, e3]
      exact (hr1 i h1 (by omega)).below HBR.out (Nat.le_refl _)
     ·have e2 : (vs ++ us)[i] = us[i - vs.length]'(by simp at hi; omega) := List.getElem_append_right (by omega)
      have e3 : (ss ++ es)[i] = es[i - vs.length]'(by simp at hi; omega) := by rw [List.getElem_append_right (by omega)]; simp [hl1]
      rw [e2, e3]
      exact (hr2 _ (by simp at hi; omega) (by simp at hi; omega)).below HBR.out (Nat.le_refl _)
end Ytnjgglnpmhjmiaa
end Go.Proofs

