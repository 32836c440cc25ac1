/- Laws of rotation: the reference: the first list, and that by which two laws differ. -/
import Derived.Test.YtnjgglnpmhjmiaaSb
import Derived.Test.YtnjgglnpmhjmiaaRz
open Go Go.RowKit Go.YtnjgglnpmhjmiaaIt
open Rest
namespace Go.Proofs
namespace Ytnjgglnpmhjmiaa
set_option maxRecDepth 100000 in
set_option maxHeartbeats 2000000 in
theorem rdiffer_any {va vb : Value} {la lb : Lw} {w : World} (ha : LawA w va la) (hb : LawA w vb lb) : Calls Try.prog 28 #[va, vb] w fun e w' => ∃ vy, e = .returned (.tuple #[vy, .int .i64 (firstE (chk2E la lb) (diffS la lb (0, 0)))]) ∧ SlI w' vy (nI (firstY (chk2E la lb) (diffS la lb (0, 0)))) ∧ Below w.heap.size w w' := by
  obtain ⟨an, ag, rfl, ha1, ha2⟩ := ha
  obtain ⟨bn, bg, rfl, hb1, hb2⟩ := hb
  have hA0 := LawA.box (⟨_, _, rfl, ha1, ha2⟩ : LawA w (.agg #[an, ag]) la) 29
  have hA := hA0.below ((Below.refl _ _).alloc (Nat.le_refl _) (.cells #[bn, bg] 29))
  have hBl : LawA (w.alloc (.cells #[an, ag] 29)) (.agg #[bn, bg]) lb := LawA.below (⟨_, _, rfl, hb1, hb2⟩ : LawA w (.agg #[bn, bg]) lb) ((Below.refl _ _).alloc (Nat.le_refl _) _) (Nat.le_refl _)
  have hBX := hBl.box 29
  rw [World.size_alloc] at hBX
  obtain ⟨c1, c2, hB1, hz1⟩ := blkE2 (w := w) (a := .cells #[an, ag] 29) (b := .cells #[bn, bg] 29) rfl
  obtain ⟨w1, hw1⟩ : ∃ q, q = (w.alloc (.cells #[an, ag] 29)).alloc (.cells #[bn, bg] 29) := ⟨_, rfl⟩
  obtain ⟨g, hgw⟩ : ∃ q, q = w.heap.size := ⟨_, rfl⟩
  have HW := Lib.hid (And.intro hw1 hgw)
  rw [← hw1] at hA hBX hB1
  rw [← hgw] at hA hBX hB1
  have HA := Lib.hid hA
  have HBX := Lib.hid hBX
  have HB1 := Lib.hid hB1
  have HGW := Lib.hid (show g ≤ w1.heap.size from Nat.le_of_lt (lt_blk HA.out.blk))
  have H73 := Lib.hid (fun W (hW : Below w1.heap.size w1 W) => rtwo_any (HA.out.below hW).law (HBX.out.below hW).law)
  obtain ⟨E, hE⟩ : ∃ E, E = chk2E la lb := ⟨_, rfl⟩
  rw [← hE] at H73 ⊢
  have HE := Lib.hid hE
  clear ha1 ha2 hb1 hb2 hA0 hA hBl hBX c1 c2 hz1 hw1 hgw hE hB1
  go_enter Try.func28, Try.ntmps28
  refine wp_seq_k (fun K hK => ?_)
  have HK := Lib.hid hK; clear hK
  go_wp2
  refine HK.out _ _ ?_; clear HK
  rw [← HW.out.1, ← HW.out.2]
  clear HW
  refine wp_seq_k (fun K hK => ?_)
  have HK := Lib.hid hK; clear hK
  go_wp2_with (first | (refine wpList_load_blk rfl 29 (.tmp 2) rfl _ rfl HA.out.blk Try.underlying29 rfl size29 rfl ?_) | (refine wpList_load_blk rfl 29 (.tmp 3) rfl _ rfl HBX.out.blk Try.underlying29 rfl size29 rfl ?_) | (go_at_call 73; refine (H73.out _ (Below.refl _ _)).mono ?_; rintro e w2 ⟨rfl, hb2⟩; have HB2 := Lib.hid hb2; clear hb2))
  refine HK.out _ _ ?_; clear HK
  by_cases h0 : E = 0
  case neg =>
    have hb0 : (E != 0) = true := by simpa using h0
    have e1 : firstE E (diffS la lb (0, 0)) = E := by unfold firstE; rw [if_neg h0]
    have e2 : firstY E (diffS la lb (0, 0)) = [] := by unfold firstY; rw [if_neg h0]
    rw [e1, e2]
    clear h0 e1 e2
    go_wp2
    exact bodyPost_ret (results_tmp2 rfl _ _ _) rfl ⟨_, rfl, slI_nil _, HB1.out.trans (HB2.out.mono HGW.out)⟩
  subst h0
  have HOK := Lib.hid (chk2_ok (a := la) (b := lb) HE.out.symm)
  have H68 := Lib.hid (rapart_any (s1 := 0) (s2 := 0) (HA.out.below HB2.out).law (HBX.out.below HB2.out).law HOK.out.1 HOK.out.2.1 HOK.out.2.2 ⟨HOK.out.1.fit.st0, HOK.out.2.1.fit.st0⟩)
  have HX2 := Lib.hid (And.intro (HA.out.below HB2.out).blk (HBX.out.below HB2.out).blk)
  have hb0 : ((0 : Int) != 0) = false := rfl
  have e1 : firstE 0 (diffS la lb (0, 0)) = if (firstO (diffS la lb (0, 0))).isSome = true then 0 else 5 := by unfold firstE; rw [if_pos rfl]
  have e2 : firstY 0 (diffS la lb (0, 0)) = (firstO (diffS la lb (0, 0))).getD [] := by unfold firstY; rw [if_pos rfl]
  rw [e1, e2]
  clear e1 e2
  obtain ⟨o, ho⟩ : ∃ o, o = firstO (diffS la lb (0, 0)) := ⟨_, rfl⟩
  rw [← ho] at H68 ⊢
  clear ho
  refine wp_seq_k (fun K hK => ?_)
  have HK := Lib.hid hK; clear hK
  go_wp2
  refine HK.out _ _ ?_; clear HK
  refine wp_seq_k (fun K hK => ?_)
  have HK := Lib.hid hK; clear hK
  go_wp2_with (first | (refine wpList_load_blk rfl 29 (.tmp 2) rfl _ rfl HX2.out.1 Try.underlying29 rfl size29 rfl ?_) | (refine wpList_load_blk rfl 29 (.tmp 3) rfl _ rfl HX2.out.2 Try.underlying29 rfl size29 rfl ?_) | (go_at_call 68; refine H68.out.mono ?_; rintro e w3 ⟨v, rfl, hv, hnv, hb3⟩; have H3 := Lib.hid (And.intro hv hb3); clear hv hnv hb3))
  refine HK.out _ _ ?_; clear HK
  have HF := Lib.hid (And.intro H3.out.1 (show Below g w w3 from HB1.out.trans ((HB2.out.trans (H3.out.2.mono HB2.out.size)).mono HGW.out)))
  clear H3
  cases o with
  | none =>
    simp only [Option.isSome_none, Option.getD_none, Bool.false_eq_true, if_false] at HF ⊢
    go_wp2
    exact bodyPost_ret (results_tmp2 rfl _ _ _) rfl ⟨_, rfl, slI_nil _, HF.out.2⟩
  | some ys =>
    simp only [Option.isSome_some, Option.getD_some, if_true] at HF ⊢
    go_wp2
    exact bodyPost_ret (results_tmp2 rfl _ _ _) rfl ⟨_, rfl, HF.out.1, HF.out.2⟩
/-- The law that allows nothing. -/
def noL (k : Nat) : Lw := ⟨[List.replicate k 0], [false]⟩
theorem noL_k (k : Nat) : (noL k).k = k := by simp [noL, Lw.k]
theorem noL_ok {k : Nat} (h1 : 1 ≤ k) (h4 : k ≤ 4) : (noL k).Ok where
  n1 := by simp [noL]
  n40 := by simp [noL]
  k1 := by rw [noL_k]; exact h1
  k4 := by rw [noL_k]; exact h4
  gd := rfl
  row := fun i h => by
    rw [noL_k]
    have : i = 0 := by simp [noL] at h; exact h
    subst this; simp [noL]
  ent := fun i h s hs => by
    have : i = 0 := by simp [noL] at h; exact h
    subst this
    simp [noL] at hs
    simp [noL, hs.2]
theorem noL_at (k c : Nat) : (noL k).at 0 c = 0 := by
  unfold Lw.at noL
  simp only [Int.toNat_zero, List.getD_cons_zero]
  rw [List.getD_eq_getElem?_getD, List.getElem?_replicate]
  split <;> rfl
theorem firstO_no {l : Lw} (h : l.Ok) : firstO (diffS l (noL l.k) (0, 0)) = firstO (sysL l) := by
  obtain ⟨L, hL, -, -⟩ := h.walk
  have h2 := hL.map (diffS l (noL l.k) (0, 0)) (fun s => (s, (0 : Int))) (fun _ => True) rfl rfl trivial (fun _ _ _ _ => trivial) (fun s c _ _ => by
    show ((l.at s c, (noL l.k).at 0 c) : P2) = _
    rw [noL_at]; rfl) (fun s t _ _ e => by injection e)
  unfold firstO
  rw [theW_eq hL, theW_eq h2, List.find?_map]
  have hg : ∀ p : Int × List Nat, ((fun p : P2 × List Nat => (diffS l (noL l.k) (0, 0)).gd p.1) ∘ fun p => ((p.1, (0 : Int)), p.2)) p = (sysL l).gd p.1 := fun p => by
    show (l.good p.1 != (noL l.k).good 0) = l.good p.1
    have : (noL l.k).good 0 = false := rfl
    rw [this]; simp
  rw [show ((fun p : P2 × List Nat => (diffS l (noL l.k) (0, 0)).gd p.1) ∘ fun p => ((p.1, (0 : Int)), p.2)) = fun p : Int × List Nat => (sysL l).gd p.1 from funext hg]
  cases L.find? fun p => (sysL l).gd p.1 <;> rfl
theorem slV_blk1 {w : World} {g : Nat} {v : Value} {t : TypeId} (h : w.heap[g]? = some (.cells #[v] t)) : SlV w (.slice (some ⟨g, 0, none⟩) 1 1) [v] :=
  ⟨_, _, rfl, by simp, by simp, fun _ => ⟨g, 0, rfl, lt_blk h, fun i hi => by
    have : i = 0 := by simpa using hi
    subst this
    exact cell_blk (i := 0) h⟩⟩
set_option maxRecDepth 100000 in
set_option maxHeartbeats 2000000 in
theorem rfirst_any {v : Value} {l : Lw} {w : World} (h : LawA w v l) : Calls Try.prog 26 #[v] w fun e w' => ∃ vy, e = .returned (.tuple #[vy, .int .i64 (firstE (chkL l) (sysL l))]) ∧ SlI w' vy (nI (firstY (chkL l) (sysL l))) ∧ Below w.heap.size w w' := by
  obtain ⟨vn, vg, rfl, hn, hg⟩ := h
  have hX := LawA.box (⟨_, _, rfl, hn, hg⟩ : LawA w (.agg #[vn, vg]) l) 29
  have hB1 : Below w.heap.size w (w.alloc (.cells #[vn, vg] 29)) := (Below.refl _ _).alloc (Nat.le_refl _) _
  obtain ⟨w1, hw1⟩ : ∃ q, q = w.alloc (.cells #[vn, vg] 29) := ⟨_, rfl⟩
  obtain ⟨g, hgw⟩ : ∃ q, q = w.heap.size := ⟨_, rfl⟩
  have HW := Lib.hid (And.intro hw1 hgw)
  rw [← hw1] at hX hB1
  rw [← hgw] at hX hB1
  have HX := Lib.hid hX
  have HB1 := Lib.hid hB1
  have HGW := Lib.hid (show g ≤ w1.heap.size from Nat.le_of_lt (lt_blk HX.out.blk))
  have H53 := Lib.hid (rcheck_any HX.out.law)
  obtain ⟨E, hE⟩ : ∃ E, E = chkL l := ⟨_, rfl⟩
  rw [← hE] at H53 ⊢
  have HE := Lib.hid hE
  clear hn hg hX hB1 hw1 hgw hE
  go_enter Try.func26, Try.ntmps26
  refine wp_seq_k (fun K hK => ?_)
  have HK := Lib.hid hK; clear hK
  go_wp2
  refine HK.out _ _ ?_; clear HK
  rw [← HW.out.1, ← HW.out.2]
  refine wp_seq_k (fun K hK => ?_)
  have HK := Lib.hid hK; clear hK
  go_wp2_with (first | (refine wpList_load_blk rfl 29 _ rfl _ rfl HX.out.blk Try.underlying29 rfl size29 rfl ?_) | (go_at_call 53; refine H53.out.mono ?_; rintro e w2 ⟨rfl, hb2⟩; have HB2 := Lib.hid hb2; clear hb2))
  refine HK.out _ _ ?_; clear HK
  by_cases h0 : E = 0
  case neg =>
    have hb0 : (E != 0) = true := by simpa using h0
    have e1 : firstE E (sysL l) = E := by unfold firstE; rw [if_neg h0]
    have e2 : firstY E (sysL l) = [] := by unfold firstY; rw [if_neg h0]
    rw [e1, e2]
    clear h0 e1 e2
    go_wp2
    exact bodyPost_ret (results_tmp2 rfl _ _ _) rfl ⟨_, rfl, slI_nil _, HB1.out.trans (HB2.out.mono HGW.out)⟩
  subst h0
  have HOK := Lib.hid (chkL_ok (l := l) HE.out.symm)
  have HX2 := Lib.hid (HX.out.below HB2.out)
  have H65 := Lib.hid (rcrops_any HX2.out.law HOK.out.fit.ne)
  obtain ⟨kk, hkk⟩ : ∃ q, q = l.k := ⟨_, rfl⟩
  have hk4 : kk ≤ 4 := by rw [hkk]; exact HOK.out.k4
  rw [← hkk] at H65
  have HKQ := Lib.hid hkk
  have e1 : firstE 0 (sysL l) = if (firstO (sysL l)).isSome = true then 0 else 5 := by unfold firstE; rw [if_pos rfl]
  have e2 : firstY 0 (sysL l) = (firstO (sysL l)).getD [] := by unfold firstY; rw [if_pos rfl]
  rw [e1, e2, ← firstO_no HOK.out]
  clear e1 e2 hkk
  have H68 := Lib.hid (fun W (hW : Below w2.heap.size w2 W) v (hv : LawA W v (noL l.k)) => rapart_any (s1 := 0) (s2 := 0) (HX2.out.below hW).law hv HOK.out (noL_ok HOK.out.k1 HOK.out.k4) (noL_k l.k).symm ⟨HOK.out.fit.st0, (noL_ok HOK.out.k1 HOK.out.k4).fit.st0⟩)
  obtain ⟨o, ho⟩ : ∃ o, o = firstO (diffS l (noL l.k) (0, 0)) := ⟨_, rfl⟩
  rw [← ho] at H68 ⊢
  clear ho
  have hb0 : ((0 : Int) != 0) = false := rfl
  obtain ⟨i3, hi3, hy1, hy2, hy3⟩ := info_parts info3
  have HI := Lib.hid (And.intro hi3 (And.intro hy1 (And.intro hy2 hy3)))
  clear hi3 hy1 hy2 hy3
  refine wp_seq_k (fun K hK => ?_)
  have HK := Lib.hid hK; clear hK
  go_wp2
  refine HK.out _ _ ?_; clear HK
  refine wp_seq_k (fun K hK => ?_)
  have HK := Lib.hid hK; clear hK
  go_wp2_with (first | (refine wpList_load_blk rfl 29 _ rfl _ rfl HX2.out.blk Try.underlying29 rfl size29 rfl ?_) | (go_at_call 65; refine H65.out.mono ?_; rintro e w3 ⟨rfl, hb3⟩; have HB3 := Lib.hid hb3; clear hb3) | (at_make; refine wpList_make_full w3 rfl (.tmp 14) (.tmp 14) 40 rfl w3.heap.size 3 i3 (.int .i64 0) 1 Try.underlying40 HI.out.1 HI.out.2.1 HI.out.2.2.1 .i64 .i64 _ _ kk rfl rfl rfl rfl (by rw [HI.out.2.2.2]; omega) (Nat.le_trans (by omega : kk ≤ 100) (by decide)) (Nat.le_refl _) ?_; intro w4 q1 q2; refine cutme ?_))
  refine ⟨?_⟩
  rw [made_rep _ rfl] at q1
  have hb4 : Below w3.heap.size w3 w4 := ⟨q2.os, q2.tape, q2.output, q2.size, fun k hk => q2.block k hk (by simp)⟩
  obtain ⟨f0, hf0⟩ : ∃ f, f = w3.heap.size := ⟨_, rfl⟩
  rw [← hf0] at q1 ⊢
  have hsl : SlI w4 (.slice (some ⟨f0, 0, none⟩) kk kk) (List.replicate kk 0) := by
    have h := slI_own (xs := List.replicate kk (0 : Int)) (n := kk) (by rw [List.map_replicate]; exact q1) (by rw [List.length_replicate]) (by rw [List.length_replicate]; omega)
    exact h
  have hbA : Below w4.heap.size w4 ((w4.alloc (.cells #[.slice (some ⟨f0, 0, none⟩) kk kk] 40)).alloc (.cells #[.bool false] 4)) := ((Below.refl _ _).alloc (Nat.le_refl _) _).alloc (by rw [World.size_alloc]; omega) _
  have hL6 : LawA ((w4.alloc (.cells #[.slice (some ⟨f0, 0, none⟩) kk kk] 40)).alloc (.cells #[.bool false] 4)) (.agg #[.slice (some ⟨w4.heap.size, 0, none⟩) 1 1, .slice (some ⟨w4.heap.size + 1, 0, none⟩) 1 1]) (noL l.k) := by
    refine ⟨_, _, rfl, ?_, ?_⟩
    · have h := slII_one hsl
      rw [HKQ.out] at h
      unfold noL
      rw [HKQ.out]
      exact h.below ((Below.refl _ _).alloc (Nat.le_refl _) _) (Nat.le_refl _)
    · exact slV_blk1 (heap_newI (by rw [World.size_alloc]))
  have HL6 := Lib.hid hL6
  have HB6 := Lib.hid (show Below w2.heap.size w2 ((w4.alloc (.cells #[.slice (some ⟨f0, 0, none⟩) kk kk] 40)).alloc (.cells #[.bool false] 4)) from (btr HB3.out hb4 (Nat.le_refl _)).trans (hbA.mono (by have := HB3.out.size; have := hb4.size; omega)))
  clear hL6 hbA hsl hb4 q1 q2 hf0
  go_wp2_with (refine wpList_store_blk rfl 29 _ _ rfl _ rfl rfl (heap_newI rfl) size29 rfl rfl HL6.out.one ?_)
  refine HK.out _ _ ?_; clear HK
  have hx7 := HL6.out.box 29
  have hb7 := (Below.refl _ ((w4.alloc (.cells #[.slice (some ⟨f0, 0, none⟩) kk kk] 40)).alloc (.cells #[.bool false] 4))).alloc (Nat.le_refl _) (.cells #[.slice (some ⟨w4.heap.size, 0, none⟩) 1 1, .slice (some ⟨w4.heap.size + 1, 0, none⟩) 1 1] 29)
  obtain ⟨w7, hw7⟩ : ∃ q, q = ((w4.alloc (.cells #[.slice (some ⟨f0, 0, none⟩) kk kk] 40)).alloc (.cells #[.bool false] 4)).alloc (.cells #[.slice (some ⟨w4.heap.size, 0, none⟩) 1 1, .slice (some ⟨w4.heap.size + 1, 0, none⟩) 1 1] 29) := ⟨_, rfl⟩
  rw [← hw7] at hx7 hb7 ⊢
  simp only [World.size_alloc] at hx7 hb7 ⊢
  obtain ⟨g5, hg5⟩ : ∃ g, g = w4.heap.size + 1 + 1 := ⟨_, rfl⟩
  rw [← hg5] at hx7 ⊢
  have HX7 := Lib.hid hx7
  have HB7 := Lib.hid (HB6.out.trans (show Below w2.heap.size _ w7 from hb7.mono (by have := HB6.out.size; simp only [World.size_alloc] at this; omega)))
  have HD7 := Lib.hid (HX2.out.below HB7.out).blk
  have H8 := Lib.hid (H68.out w7 HB7.out _ HX7.out.law)
  clear hx7 hb7 hw7 hg5 HL6 HB6 H68
  refine wp_seq_k (fun K hK => ?_)
  have HK := Lib.hid hK; clear hK
  go_wp2_with (first | (refine wpList_load_blk rfl 29 (.tmp 1) rfl _ rfl HD7.out Try.underlying29 rfl size29 rfl ?_) | (refine wpList_load_blk rfl 29 (.tmp 5) rfl _ rfl HX7.out.blk Try.underlying29 rfl size29 rfl ?_) | (go_at_call 68; refine H8.out.mono ?_; rintro e w8 ⟨v, rfl, hv, hnv, hb8⟩; have H3 := Lib.hid (And.intro hv hb8); clear hv hnv hb8))
  refine HK.out _ _ ?_; clear HK
  have HF := Lib.hid (And.intro H3.out.1 (show Below g w w8 from HB1.out.trans ((HB2.out.trans ((HB7.out.trans (H3.out.2.mono HB7.out.size)).mono HB2.out.size)).mono HGW.out)))
  clear H3
  cases o with
  | none =>
    simp only [Option.isSome_none, Option.getD_none, Bool.false_eq_true, if_false] at HF ⊢
    go_wp2
    exact bodyPost_ret (results_tmp2 rfl _ _ _) rfl ⟨_, rfl, slI_nil _, HF.out.2⟩
  | some ys =>
    simp only [Option.isSome_some, Option.getD_some, if_true] at HF ⊢
    go_wp2
    exact bodyPost_ret (results_tmp2 rfl _ _ _) rfl ⟨_, rfl, HF.out.1, HF.out.2⟩
end Ytnjgglnpmhjmiaa
end Go.Proofs
