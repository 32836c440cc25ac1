/- Pans: Pace, Table, Hold, Kept. -/
import Derived.Test.YteileadcmekkoaaQ14
import Derived.Lib.SliceRun
open Go Go.RowKit Go.YteileadcmekkoaaIt
namespace Go.Proofs
namespace Yteileadcmekkoaa
/-- What slowest answers, by the pace's own names. -/
theorem slow2_any (m : Nat) (v : Value) (ws : List Wa) (w : World) (hV : Val m ws) (hs : NS ws) (hv : SlA w v ws) :
    Calls Try.prog 52 #[.agg #[.int .i64 m, v]] w fun e w' => ∃ l t c, e = .returned (.tuple #[.agg #[.int .i64 (pnum m ws : Nat), .int .i64 (pden m ws : Nat)], t, c]) ∧ Slow m ws (pnum m ws) (pden m ws) (ptab m ws) l ∧
      SlI w' t ((List.range m).map (ptab m ws)) ∧ NilOr w.heap.size w' c (l.map fun (i : Nat) => (i : Int)) ∧ Below w.heap.size w w' := by
  refine (slow_any m v ws w hV hs hv).mono ?_
  rintro e w' ⟨num, den, X, l, t, c, rfl, h1, h2, h3, h4⟩
  obtain ⟨e1, e2, e3⟩ := pace_eq hV hs h1
  subst e1 e2
  have : X = ptab m ws := funext e3
  subst this
  exact ⟨l, t, c, rfl, h1, h2, h3, h4⟩
set_option maxRecDepth 100000 in
set_option maxHeartbeats 4000000 in
theorem pace_any (n : Int) (v : Value) (ws : List Wa) (w : World) (hv : SlA w v ws) :
    Calls Try.prog 18 #[.agg #[.int .i64 n, v]] w fun e w' => e = .returned (.tuple #[.agg #[.int .i64 (pnum n ws : Nat), .int .i64 (pden n ws : Nat)], .int .i64 (chkE n ws)]) ∧ Below w.heap.size w w' := by
  have HV := Lib.hid hv
  obtain ⟨ad, cap, rfl, -, -, -⟩ := hv
  go_enter Try.func18, Try.ntmps18
  refine wp_seq_k (fun K hK => ?_)
  have HK := Lib.hid hK; clear hK
  go_wp2
  refine HK.out _ _ ?_; clear HK K
  generalize hw1 : World.alloc _ _ = w1
  obtain ⟨b1, b2, hB, hs1⟩ := blk2 hw1
  clear hw1
  have h22 := check_any n _ ws w1 (HV.out.below hB (Nat.le_refl _))
  obtain ⟨E, hE⟩ : ∃ E, E = chkE n ws := ⟨_, rfl⟩
  rw [← hE] at h22 ⊢
  have HE := Lib.hid hE
  clear hE
  by_cases h0 : E = 0
  · obtain ⟨m, l0, rfl, hV, hns, -⟩ := pace_ok (HE.out.symm.trans h0)
    subst h0
    have h52 := fun W hW => slow2_any m _ ws W hV hns (HV.out.below hW (Nat.le_refl _))
    have HH := Lib.hid h52
    clear h52
    have H22 := Lib.hid h22
    clear h22 HE
    go_wp2_with (first | (refine wpList_load_blk rfl 24 _ rfl _ rfl b12 Try.underlying24 rfl size24 rfl ?_) | (refine wpList_load_blk rfl 24 _ rfl _ rfl b1 Try.underlying24 rfl size24 rfl ?_) | (go_at_call 22; refine H22.out.mono ?_; rintro e w2 ⟨rfl, hb2⟩; have b12 := blk_keep b1 hb2; have b22 := blk_keep b2 hb2; have hB2 := btr hB hb2 (Nat.le_refl _)) |
      (go_at_call 52; refine (HH.out w2 hB2).mono ?_; rintro e w3 ⟨l, t, c, rfl, -, -, -, hb3⟩; have b23 := blk_keep b22 hb3; have hB3 := btr hB2 hb3 (Nat.le_refl _); have b24 := fun o => (heap_oldI (w := w3) (o := o) (lt_blk b23)).trans b23) |
      (refine wpList_store_blk rfl 26 _ _ rfl _ rfl rfl (b24 _) size26 rfl rfl (by simp [Value.oneCell']) ?_))
    exact bodyPost_ret (results_agg_tmp rfl _ _ (w.heap.size + 1) rfl (World.putObj_heap_same (lt_blk (b24 _))) Try.underlying26 rfl size26 rfl) rfl ⟨rfl, below_putObj (hB3.alloc hB3.size _) (by omega)⟩
  · have hne : (E != 0) = true := by simpa using h0
    obtain ⟨p1, p2⟩ := pace_err (by rw [← HE.out]; exact h0 : chkE n ws ≠ 0)
    rw [p1, p2]
    have H22 := Lib.hid h22
    clear h22 HE h0
    go_wp2_with (first | (refine wpList_load_blk rfl 24 _ rfl _ rfl b1 Try.underlying24 rfl size24 rfl ?_) | (go_at_call 22; refine H22.out.mono ?_; rintro e w2 ⟨rfl, hb2⟩; have b22 := blk_keep b2 hb2; have hB2 := btr hB hb2 (Nat.le_refl _)) | (refine wpList_store_blk rfl 26 _ _ rfl _ rfl rfl b22 size26 rfl rfl (by simp [Value.oneCell']) ?_))
    exact bodyPost_ret (results_agg_tmp rfl _ _ (w.heap.size + 1) rfl (World.putObj_heap_same (lt_blk b22)) Try.underlying26 rfl size26 rfl) rfl ⟨rfl, below_putObj hB2 (by omega)⟩
open Classical in
/-- The timetable that is returned. -/
noncomputable def tabL (n : Int) (ws : List Wa) : List Int := if chkE n ws = 0 then (List.range n.toNat).map (ptab n ws) else []
theorem tabL_ok {m : Nat} {ws : List Wa} (h : chkE (m : Int) ws = 0) : tabL (m : Int) ws = (List.range m).map (ptab m ws) := by unfold tabL; rw [if_pos h]; rfl
theorem tabL_err {n : Int} {ws : List Wa} (h : chkE n ws ≠ 0) : tabL n ws = [] := by unfold tabL; rw [if_neg h]
noncomputable def holdE (n : Int) (ws : List Wa) : Int := if chkE n ws ≠ 0 then chkE n ws else if pnum n ws = 0 then 5 else 0
theorem holdE_err {n : Int} {ws : List Wa} (h : chkE n ws ≠ 0) : holdE n ws = chkE n ws := by unfold holdE; rw [if_pos h]
theorem holdE_none {n : Int} {ws : List Wa} (h : chkE n ws = 0) (h1 : pnum n ws = 0) : holdE n ws = 5 := by unfold holdE; rw [if_neg (by simpa using h), if_pos h1]
theorem holdE_ok {n : Int} {ws : List Wa} (h : chkE n ws = 0) (h1 : 1 ≤ pnum n ws) : holdE n ws = 0 := by unfold holdE; rw [if_neg (by simpa using h), if_neg (by omega)]
/-- The cycle that is returned. -/
def HoldL (n : Int) (ws : List Wa) (l : List Nat) : Prop := (l = [] ∧ holdE n ws ≠ 0) ∨ ∃ m : Nat, n = m ∧ Val m ws ∧ NS ws ∧ CycP m ws (pnum n ws) (pden n ws) l ∧ 1 ≤ pnum n ws ∧ chkE n ws = 0
set_option maxRecDepth 100000 in
set_option maxHeartbeats 4000000 in
theorem table_any (n : Int) (v : Value) (ws : List Wa) (w : World) (hv : SlA w v ws) :
    Calls Try.prog 28 #[.agg #[.int .i64 n, v]] w fun e w' => (∃ t, e = .returned (.tuple #[t, .int .i64 (chkE n ws)]) ∧ SlI w' t (tabL n ws)) ∧ Below w.heap.size w w' := by
  have HV := Lib.hid hv
  obtain ⟨ad, cap, rfl, -, -, -⟩ := hv
  have qT : ∀ (w : World) (a : Option Addr) (n c n' c' : Nat), (binOp .eql 45 (.slice a n c) (.slice none n' c')).run Try.prog w = .ok (.bool a.isNone) w := fun w a n c n' c' => Lib.run_eql_slice_nil w _ _ a n c n' c' Try.underlying45
  go_enter Try.func28, Try.ntmps28
  refine wp_seq_k (fun K hK => ?_)
  have HK := Lib.hid hK; clear hK
  go_wp2
  refine HK.out _ _ ?_; clear HK K
  generalize hw1 : World.alloc _ _ = w1
  obtain ⟨b1, hB, hs1⟩ := blk1 hw1
  clear hw1
  have h22 := check_any n _ ws w1 (HV.out.below hB (Nat.le_refl _))
  obtain ⟨E, hE⟩ : ∃ E, E = chkE n ws := ⟨_, rfl⟩
  rw [← hE] at h22
  have HE := Lib.hid hE
  clear hE
  by_cases h0 : E = 0
  · obtain ⟨m, l0, rfl, hV, hns, -⟩ := pace_ok (HE.out.symm.trans h0)
    subst h0
    have h52 := fun W hW => slow2_any m _ ws W hV hns (HV.out.below hW (Nat.le_refl _))
    have HH := Lib.hid h52
    have hVn := hV.n1
    clear h52
    have H22 := Lib.hid h22
    clear h22
    refine wp_seq_k (fun K hK => ?_)
    have HK := Lib.hid hK; clear hK
    go_wp2_with (first | (refine wpList_load_blk rfl 24 _ rfl _ rfl b1 Try.underlying24 rfl size24 rfl ?_) | (go_at_call 22; refine H22.out.mono ?_; rintro e w2 ⟨rfl, hb2⟩))
    refine HK.out _ _ ?_; clear HK K H22
    replace b1 := blk_keep b1 hb2
    replace hB := btr hB hb2 (Nat.le_refl _)
    have h52 := HH.out _ hB
    clear HH
    refine wp_seq_k (fun K hK => ?_)
    have HK := Lib.hid hK; clear hK
    go_wp2_with (first | (refine wpList_load_blk rfl 24 _ rfl _ rfl b1 Try.underlying24 rfl size24 rfl ?_) | (go_at_call 52; refine h52.mono ?_; rintro e w3 ⟨l, t, c, rfl, hsl, ht, hc, hb3⟩))
    refine HK.out _ _ ?_; clear HK K
    replace hB := (btr hB hb3 (Nat.le_refl _)).alloc (btr hB hb3 (Nat.le_refl _)).size (.cells #[.int .i64 (pnum m ws : Nat), .int .i64 (pden m ws : Nat)] 26)
    have ht2 := ht.below (show Below w3.heap.size w3 (w3.alloc (.cells #[.int .i64 (pnum m ws : Nat), .int .i64 (pden m ws : Nat)] 26)) from (Below.refl _ _).alloc (Nat.le_refl _) _) (Nat.le_refl _)
    have hc2 := hc.below (show Below w3.heap.size w3 (w3.alloc (.cells #[.int .i64 (pnum m ws : Nat), .int .i64 (pden m ws : Nat)] 26)) from (Below.refl _ _).alloc (Nat.le_refl _) _) (Nat.le_refl _)
    clear h52 ht hc
    go_wp2
    go_ret2
    exact ⟨⟨t, by rw [← HE.out]; rfl, by rw [tabL_ok HE.out.symm]; exact ht2⟩, hB⟩
  · have hne : (E != 0) = true := by simpa using h0
    have H22 := Lib.hid h22
    have H0 := Lib.hid h0
    clear h22 h0
    go_wp2_with (first | (refine wpList_load_blk rfl 24 _ rfl _ rfl b1 Try.underlying24 rfl size24 rfl ?_) | (go_at_call 22; refine H22.out.mono ?_; rintro e w2 ⟨rfl, hb2⟩; have hB2 := btr hB hb2 (Nat.le_refl _)))
    go_ret2
    exact ⟨⟨_, by rw [HE.out]; rfl, by rw [tabL_err (by rw [← HE.out]; exact H0.out)]; exact slI_nil _⟩, hB2⟩
set_option maxRecDepth 100000 in
set_option maxHeartbeats 4000000 in
theorem hold_any (n : Int) (v : Value) (ws : List Wa) (w : World) (hv : SlA w v ws) :
    Calls Try.prog 24 #[.agg #[.int .i64 n, v]] w fun e w' => (∃ c l, e = .returned (.tuple #[c, .int .i64 (holdE n ws)]) ∧ NilOr w.heap.size w' c (l.map fun (i : Nat) => (i : Int)) ∧ HoldL n ws l) ∧ Below w.heap.size w w' := by
  have HV := Lib.hid hv
  obtain ⟨ad, cap, rfl, -, -, -⟩ := hv
  have qT : ∀ (w : World) (a : Option Addr) (n c n' c' : Nat), (binOp .eql 45 (.slice a n c) (.slice none n' c')).run Try.prog w = .ok (.bool a.isNone) w := fun w a n c n' c' => Lib.run_eql_slice_nil w _ _ a n c n' c' Try.underlying45
  go_enter Try.func24, Try.ntmps24
  refine wp_seq_k (fun K hK => ?_)
  have HK := Lib.hid hK; clear hK
  go_wp2
  refine HK.out _ _ ?_; clear HK K
  generalize hw1 : World.alloc _ _ = w1
  obtain ⟨b1, hB, hs1⟩ := blk1 hw1
  clear hw1
  have h22 := check_any n _ ws w1 (HV.out.below hB (Nat.le_refl _))
  obtain ⟨E, hE⟩ : ∃ E, E = chkE n ws := ⟨_, rfl⟩
  rw [← hE] at h22
  have HE := Lib.hid hE
  clear hE
  by_cases h0 : E = 0
  · obtain ⟨m, l0, rfl, hV, hns, -⟩ := pace_ok (HE.out.symm.trans h0)
    subst h0
    have h52 := fun W hW => slow2_any m _ ws W hV hns (HV.out.below hW (Nat.le_refl _))
    have HH := Lib.hid h52
    have hVn := hV.n1
    clear h52
    have H22 := Lib.hid h22
    clear h22
    refine wp_seq_k (fun K hK => ?_)
    have HK := Lib.hid hK; clear hK
    go_wp2_with (first | (refine wpList_load_blk rfl 24 _ rfl _ rfl b1 Try.underlying24 rfl size24 rfl ?_) | (go_at_call 22; refine H22.out.mono ?_; rintro e w2 ⟨rfl, hb2⟩))
    refine HK.out _ _ ?_; clear HK K H22
    replace b1 := blk_keep b1 hb2
    replace hB := btr hB hb2 (Nat.le_refl _)
    have h52 := HH.out _ hB
    clear HH
    refine wp_seq_k (fun K hK => ?_)
    have HK := Lib.hid hK; clear hK
    go_wp2_with (first | (refine wpList_load_blk rfl 24 _ rfl _ rfl b1 Try.underlying24 rfl size24 rfl ?_) | (go_at_call 52; refine h52.mono ?_; rintro e w3 ⟨l, t, c, rfl, hsl, ht, hc, hb3⟩))
    refine HK.out _ _ ?_; clear HK K
    replace hB := (btr hB hb3 (Nat.le_refl _)).alloc (btr hB hb3 (Nat.le_refl _)).size (.cells #[.int .i64 (pnum m ws : Nat), .int .i64 (pden m ws : Nat)] 26)
    have ht2 := ht.below (show Below w3.heap.size w3 (w3.alloc (.cells #[.int .i64 (pnum m ws : Nat), .int .i64 (pden m ws : Nat)] 26)) from (Below.refl _ _).alloc (Nat.le_refl _) _) (Nat.le_refl _)
    have hc2 := hc.below (show Below w3.heap.size w3 (w3.alloc (.cells #[.int .i64 (pnum m ws : Nat), .int .i64 (pden m ws : Nat)] 26)) from (Below.refl _ _).alloc (Nat.le_refl _) _) (Nat.le_refl _)
    clear h52 ht hc
    have hnc := hsl.cyc
    rcases hnc with ⟨rfl, hn0, hd1⟩ | ⟨hcp, hn1⟩
    · obtain rfl : c = .slice none 0 0 := hc2.2.1 rfl
      have HN0 := Lib.hid hn0
      clear hn0 hd1
      go_wp2
      go_ret2
      exact ⟨⟨_, [], by rw [holdE_none HE.out.symm HN0.out]; rfl, ⟨slI_nil _, fun _ => rfl, fun h => absurd rfl h⟩, .inl ⟨rfl, by rw [holdE_none HE.out.symm HN0.out]; decide⟩⟩, hB⟩
    · have hlne : l ≠ [] := by obtain ⟨u, hu⟩ := hcp.cyc; exact hu.ne
      obtain ⟨g, cn, cc, rfl, hg⟩ := hc2.2.2 (fun e => hlne (List.map_eq_nil_iff.1 e))
      go_wp2
      go_ret2
      exact ⟨⟨_, l, by rw [holdE_ok HE.out.symm hn1]; rfl, nilOr_lo (by have := hB.size; have := hb2.size; omega) hc2, .inr ⟨m, rfl, hV, hns, hcp, hn1, HE.out.symm⟩⟩, hB⟩
  · have hne : (E != 0) = true := by simpa using h0
    have H22 := Lib.hid h22
    have H0 := Lib.hid h0
    clear h22 h0
    go_wp2_with (first | (refine wpList_load_blk rfl 24 _ rfl _ rfl b1 Try.underlying24 rfl size24 rfl ?_) | (go_at_call 22; refine H22.out.mono ?_; rintro e w2 ⟨rfl, hb2⟩; have hB2 := btr hB hb2 (Nat.le_refl _)))
    go_ret2
    exact ⟨⟨_, [], by rw [holdE_err (by rw [← HE.out]; exact H0.out), ← HE.out]; rfl, ⟨slI_nil _, fun _ => rfl, fun h => absurd rfl h⟩, .inl ⟨rfl, by rw [holdE_err (by rw [← HE.out]; exact H0.out), ← HE.out]; exact H0.out⟩⟩, hB2⟩
noncomputable def keptE (n : Int) (ws : List Wa) (num den : Int) : Int := if chkE n ws ≠ 0 then chkE n ws else if goodP num den = true then 0 else 2
noncomputable def keptB (n : Int) (ws : List Wa) (num den : Int) : Bool := if chkE n ws ≠ 0 then false else if goodP num den = true then !decide (num * (pden n ws : Nat) < (pnum n ws : Nat) * den) else false
set_option maxRecDepth 100000 in
set_option maxHeartbeats 4000000 in
theorem kept_any (n : Int) (v : Value) (ws : List Wa) (num den : Int) (w : World) (hv : SlA w v ws) :
    Calls Try.prog 20 #[.agg #[.int .i64 n, v], .agg #[.int .i64 num, .int .i64 den]] w fun e w' => e = .returned (.tuple #[.bool (keptB n ws num den), .int .i64 (keptE n ws num den)]) ∧ Below w.heap.size w w' := by
  have HV := Lib.hid hv
  obtain ⟨ad, cap, rfl, -, -, -⟩ := hv
  go_enter Try.func20, Try.ntmps20
  refine wp_seq_k (fun K hK => ?_)
  have HK := Lib.hid hK; clear hK
  go_wp2
  refine HK.out _ _ ?_; clear HK K
  generalize hw1 : World.alloc _ _ = w1
  obtain ⟨b1, b2, hB, hs1⟩ := blk2 hw1
  clear hw1
  have h18 := pace_any n _ ws w1 (HV.out.below hB (Nat.le_refl _))
  obtain ⟨E, hE⟩ : ∃ E, E = chkE n ws := ⟨_, rfl⟩
  obtain ⟨N, hN⟩ : ∃ N, N = pnum n ws := ⟨_, rfl⟩
  obtain ⟨D, hD⟩ : ∃ D, D = pden n ws := ⟨_, rfl⟩
  rw [← hE, ← hN, ← hD] at h18
  unfold keptB keptE
  rw [← hE, ← hN, ← hD]
  have HE := Lib.hid (And.intro hE (And.intro hN hD))
  clear hE hN hD
  refine wp_seq_k (fun K hK => ?_)
  have HK := Lib.hid hK; clear hK
  go_wp2_with (first | (refine wpList_load_blk rfl 24 _ rfl _ rfl b1 Try.underlying24 rfl size24 rfl ?_) | (go_at_call 18; refine h18.mono ?_; rintro e w2 ⟨rfl, hb2⟩))
  refine HK.out _ _ ?_; clear HK K h18
  have hb3 : Below w1.heap.size w1 (w2.alloc (.cells #[.int .i64 N, .int .i64 D] 26)) := hb2.alloc hb2.size _
  replace b2 := blk_keep b2 hb3
  have b6 : (w2.alloc (.cells #[.int .i64 N, .int .i64 D] 26)).heap[w2.heap.size]? = some (.cells #[.int .i64 N, .int .i64 D] 26 (0, 0)) := heap_newI rfl
  replace hB := btr hB hb3 (Nat.le_refl _)
  generalize World.alloc w2 _ = w3 at *
  clear b1 hb2 hb3
  by_cases h0 : E = 0
  · subst h0
    obtain ⟨m, l0, -, -, -, hsl⟩ := pace_ok HE.out.1.symm
    rw [← HE.out.2.1, ← HE.out.2.2] at hsl
    have hb := hsl.b
    clear hsl
    have h54 := fun W => pgood_any num den W
    rw [if_neg (by simp : ¬ ((0 : Int) ≠ 0)), if_neg (by simp : ¬ ((0 : Int) ≠ 0))]
    obtain ⟨G, hG⟩ : ∃ G, G = goodP num den := ⟨_, rfl⟩
    rw [← hG] at h54 ⊢
    have HG := Lib.hid hG
    clear hG
    cases G
    · rw [if_neg (by simp), if_neg (by simp)]
      go_wp2_with (first | (refine wpList_load_blk rfl 26 _ rfl _ rfl b2 Try.underlying26 rfl size26 rfl ?_) | (go_at_call 54; refine (h54 _).mono ?_; rintro e w4 ⟨rfl, hb4⟩))
      go_ret2
      exact ⟨rfl, btr hB hb4 (Nat.le_refl _)⟩
    · rw [if_pos rfl, if_pos rfl]
      have hg := HG.out.symm
      unfold goodP at hg
      rw [Bool.and_eq_true, btw_true, btw_true] at hg
      obtain ⟨⟨g1, g2⟩, g3, g4⟩ := hg
      have p1 : 0 ≤ num * (D : Int) := Int.mul_nonneg g1 (by omega)
      have p2 : num * (D : Int) ≤ 1000000000 * 40 := Int.mul_le_mul g2 (by omega) (by omega) (by omega)
      have p3 : 0 ≤ (N : Int) * den := Int.mul_nonneg (by omega) (by omega)
      have p4 : (N : Int) * den ≤ 100000 * 1000 := Int.mul_le_mul (by omega) g4 (by omega) (by omega)
      have q1 : IntKind.i64.wrap (num * (D : Int)) = num * (D : Int) := by rw [IntKind.wrap_i64]; omega
      have q2 : IntKind.i64.wrap ((N : Int) * den) = (N : Int) * den := by rw [IntKind.wrap_i64]; omega
      have h55 := fun W => pless_any num den N D W q1 q2
      have H55 := Lib.hid h55
      clear p1 p2 p3 p4 q1 q2 h55
      refine wp_seq_k (fun K hK => ?_)
      have HK := Lib.hid hK; clear hK
      go_wp2_with (first | (refine wpList_load_blk rfl 26 _ rfl _ rfl b2 Try.underlying26 rfl size26 rfl ?_) | (go_at_call 54; refine (h54 _).mono ?_; rintro e w4 ⟨rfl, hb4⟩))
      refine HK.out _ _ ?_; clear HK K h54
      replace b2 := blk_keep b2 hb4
      replace b6 := blk_keep b6 hb4
      replace hB := btr hB hb4 (Nat.le_refl _)
      generalize hlt : decide (num * (D : Int) < (N : Int) * den) = lt at *
      clear hlt
      go_wp2_with (first | (refine wpList_load_blk rfl 26 _ rfl _ rfl b2 Try.underlying26 rfl size26 rfl ?_) | (refine wpList_load_blk rfl 26 _ rfl _ rfl b6 Try.underlying26 rfl size26 rfl ?_) | (go_at_call 55; refine (H55.out _).mono ?_; rintro e w5 ⟨rfl, hb5⟩))
      go_ret2
      exact ⟨rfl, btr hB hb5 (Nat.le_refl _)⟩
  · have hne : (E != 0) = true := by simpa using h0
    rw [if_pos h0, if_pos h0]
    clear h0
    go_wp2
    go_ret2
    exact ⟨rfl, hB⟩
end Yteileadcmekkoaa
end Go.Proofs
