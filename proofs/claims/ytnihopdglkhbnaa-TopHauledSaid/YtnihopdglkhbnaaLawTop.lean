/- The law TopHauled returns true. -/
import Derived.Test.YtnihopdglkhbnaaAsk
open Go Go.RowKit Go.YtnihopdglkhbnaaIt
namespace Go.Proofs
namespace Ytnihopdglkhbnaa
theorem lnK_len (R : List Int) {k : Nat} (h : k ≤ R.length) : (lnK R k).length = k + 1 := by
  unfold lnK; rw [List.length_cons, List.length_map, List.length_take]; omega
theorem lnK_succ {R : List Int} {k : Nat} (h : k < R.length) : lnK R (k + 1) = lnK R k ++ [1 + at0 R k % 2] := by
  unfold lnK; rw [List.take_succ_eq_append_getElem h, List.map_append, at0_lt h]; rfl
theorem rows_apart {W : World} {B1 B2 : Nat} {e1 e2 : TypeId} {s1 s2 n1 n2 : Nat} {v1 v2 : Value} {xs1 xs2 : List Value} (h1 : W.ownsRow B1 e1 s1 v1 n1 xs1) (h2 : W.ownsRow B2 e2 s2 v2 n2 xs2) (hne : e1 ≠ e2) : v1.ownBlock = none ∨ v1.ownBlock ≠ v2.ownBlock := by
  rcases Joins.ownsRow_forms h1 with ⟨rfl, -⟩ | ⟨g, cap, rfl⟩
  · exact .inl rfl
  · obtain ⟨cur, hc⟩ := row_block h1
    have := own_ne h2 hc hne
    exact .inr (fun h => this h.symm)
theorem hfs_row3 {qs : List T3} {i : Nat} (h : i < (hfs qs).length) : (tabR (hfs qs) i).length = 3 := by
  obtain ⟨q, _, _, h⟩ := hfs_row h
  rw [h]; rfl
theorem sum_bnd : ∀ l : List Int, (∀ x ∈ l, 0 ≤ x ∧ x ≤ 1000000) → 0 ≤ l.sum ∧ l.sum ≤ 1000000 * l.length
  | [], _ => by simp
  | x :: l, h => by
    have h1 := sum_bnd l (fun y hy => h y (by simp [hy]))
    have h2 := h x (by simp)
    rw [List.sum_cons, List.length_cons]
    push_cast
    omega
theorem take_bnd {fs : List (List Int)} (ok : FOk fs) {i : Nat} (hi : i < fs.length) (c : Nat) : 0 ≤ ((tabR fs i).take c).sum ∧ ((tabR fs i).take c).sum ≤ 10000000 := by
  have h := sum_bnd ((tabR fs i).take c) (fun x hx => by
    obtain ⟨j, hj, rfl⟩ := List.getElem_of_mem (List.mem_of_mem_take hx)
    have := ok.good i hi j hj
    rwa [at0_lt hj] at this)
  have h2 := ok.row i hi
  have h3 : ((tabR fs i).take c).length ≤ 10 := by rw [List.length_take]; omega
  omega
theorem take_next {xs : List Int} {c : Nat} (h : c < xs.length) : (xs.take (c + 1)).sum = (xs.take c).sum + at0 xs c := by
  rw [List.take_succ_eq_append_getElem h, List.sum_append, at0_lt h]; simp
def sumF (fs : List (List Int)) (P fo : List Int) (k : Nat) : Int := ((fo.take (k - 1)).map fun x => preS fs P x.toNat).sum
theorem sumF_succ {fs : List (List Int)} {P fo : List Int} {j : Nat} (h : j < fo.length) : sumF fs P fo (j + 1 + 1) = sumF fs P fo (j + 1) + preS fs P (at0 fo j).toNat := by
  unfold sumF
  rw [show j + 1 + 1 - 1 = j + 1 from rfl, show j + 1 - 1 = j from rfl, List.take_succ_eq_append_getElem h, List.map_append, List.sum_append, at0_lt h]; simp
theorem sumF_bnd {fs : List (List Int)} (ok : FOk fs) {P fo : List Int} (hf : fo = ofK P fs.length) (h4 : fo.length ≤ 4) (k : Nat) : 0 ≤ sumF fs P fo k ∧ sumF fs P fo k ≤ 40000000 := by
  have key : ∀ l : List Int, (∀ x ∈ l, x.toNat < fs.length) → 0 ≤ (l.map fun x => preS fs P x.toNat).sum ∧ (l.map fun x => preS fs P x.toNat).sum ≤ 10000000 * l.length := fun l => by
    induction l with
    | nil => intro _; simp
    | cons x l ih =>
      intro h
      have h1 := ih (fun y hy => h y (by simp [hy]))
      have h2 := take_bnd ok (h x (by simp)) (at0 P x.toNat).toNat
      rw [List.map_cons, List.sum_cons, List.length_cons]
      unfold preS at *
      push_cast
      omega
  have h := key (fo.take (k - 1)) (fun x hx => by
    rw [hf] at hx
    obtain ⟨i, hi, rfl, _⟩ := ofK_mem (List.mem_of_mem_take hx)
    simpa using hi)
  have : (fo.take (k - 1)).length ≤ 4 := by rw [List.length_take]; omega
  unfold sumF
  omega
theorem sumF_end {fs : List (List Int)} {P fo : List Int} (hf : fo = ofK P fs.length) {N : Nat} (hN : N = 1 + fo.length) : sumF fs P fo N = ((List.range fs.length).map (preS fs P)).sum := by
  unfold sumF
  rw [List.take_of_length_le (by omega), hf]
  exact ofK_sum P (preS fs P) (fun i hi => by unfold preS; rw [show (at0 P i).toNat = 0 by omega]; simp) fs.length
set_option maxRecDepth 100000 in
set_option maxHeartbeats 40000000 in
theorem topHauled_any (tv : Value) (qs : List T3) (g1 r1 r2 r3 r4 r5 r6 : Int) (av : Value) (os : List Int) (w : World) (hto : ∀ q ∈ qs, q.ok) (ht : SlT3 w tv qs) (hg : 0 ≤ g1 ∧ g1 < 256) (hr : ∀ x ∈ [r1, r2, r3, r4, r5, r6], 0 ≤ x ∧ x < 256) (ho : SlY w av os) :
    Calls Try.prog 3 #[tv, .int .u8 g1, .agg #[.int .u8 r1, .int .u8 r2, .int .u8 r3, .int .u8 r4, .int .u8 r5, .int .u8 r6], av] w fun e w' => e = .returned (.bool true) ∧ Below w.heap.size w w' := by
  have HO := Lib.hid ho
  have h4 := fun (W : World) (hW : Below w.heap.size w W) => hfields_any tv qs W hto (ht.below hW (Nat.le_refl _))
  have H4 := Lib.hid h4
  have hok := hfs_ok hto
  have h12 := hfs_12 (qs := qs)
  have hn4 : (hfs qs).length ≤ 4 := by rw [hfs_len]; omega
  have hr3 := fun i (h : i < (hfs qs).length) => hfs_row3 h
  obtain ⟨adt, capt, rfl, -, -⟩ := ht
  obtain ⟨⟨ado, capo, rfl, hmo, -⟩, -⟩ := id ho
  clear ho h4 hto
  obtain ⟨fs, hfs0⟩ : ∃ fs, fs = hfs qs := ⟨_, rfl⟩
  rw [← hfs0] at hok h12 hn4 hr3 H4
  clear hfs0
  have HF := Lib.hid (And.intro hok (And.intro h12 hr3))
  clear hok h12 hr3
  obtain ⟨i3, hi3, hz1, hz2, hz3⟩ := info_parts info3
  have HI := Lib.hid (And.intro hi3 (And.intro hz1 (And.intro hz2 hz3)))
  clear hi3 hz1 hz2 hz3
  have hRl : ([r1, r2, r3, r4, r5, r6] : List Int).length = 6 := rfl
  have HRl := Lib.hid hRl
  have HR := Lib.hid hr
  have b1 := hr r1 (by simp)
  have b2 := hr r2 (by simp)
  have b3 := hr r3 (by simp)
  have b4 := hr r4 (by simp)
  have b5 := hr r5 (by simp)
  have b6 := hr r6 (by simp)
  clear hr hRl
  go_enter Try.func3, Try.ntmps3
  refine wp_seq_k (fun K hK => ?_)
  have HK := Lib.hid hK; clear hK
  go_wp2
  refine HK.out _ _ ?_; clear HK K
  generalize hw1 : World.alloc _ _ = w1
  obtain ⟨k6, hB, hs1⟩ := blk1 hw1
  clear hw1
  have h4 := H4.out w1 hB
  have hg9 : g1.tmod 9 = g1 % 9 := Int.tmod_eq_emod_of_nonneg hg.1
  go_wp2_with (first | (go_at_call 4; refine h4.mono ?_; rintro e w2 ⟨vf, rfl, hF, hb2⟩; have HFS := Lib.hid hF; obtain ⟨af, cf, rfl, hmf, hcf, -⟩ := hF.opened) | (go_at_call 5; refine (gbest_any _ fs (g1 % 9) w2 HF.out.1 HF.out.2.1 (by omega) HFS.out).mono ?_; rintro e w3 ⟨u, P, s, rfl, hP, hPl, hsum, hPb, hb3⟩; have k63 := blk_keep (blk_keep k6 hb2) hb3; have HP := Lib.hid (And.intro hP (And.intro hPl (And.intro hsum hPb))); clear hsum hPb; obtain ⟨ap, cp, rfl, hmp, -⟩ := id hP; rw [hPl]) | (refine wpList_load_blk rfl 23 _ rfl _ rfl ((heap_oldI (lt_blk k63)).trans k63) Try.underlying23 rfl (by kernel_rfl) rfl ?_))
  have hB23 := btr hb2 hb3 (Nat.le_refl _)
  have hBw3 := btr hB hB23 (Nat.le_refl _)
  clear h4 k6 k63 hs1 hF hg9 hP hPl
  go_loopw [14, 55] (fun q i wr => ∃ k : Nat, k ≤ 6 ∧ i = .int .i64 k ∧ wr.ownsRow w3.heap.size 3 1 q (1 + k) ((lnK [r1, r2, r3, r4, r5, r6] k).map (.int .i64)) ∧ Below w3.heap.size w3 wr) (fun _ i _ => 6 - (intOf i).toNat)
  case atStart => exact ⟨0, by omega, rfl, World.ownsRow_lit w3 #[.int .i64 2] 1 (Nat.le_refl _) (by decide) rfl, (Below.refl _ _).alloc (Nat.le_refl _) _⟩
  case round =>
    obtain ⟨k, hk, rfl, hrow, hb⟩ := hrel
    have hsz := hb.size
    obtain ⟨aq, cq, rfl⟩ := form_of hrow
    rcases (show k = 0 ∨ k = 1 ∨ k = 2 ∨ k = 3 ∨ k = 4 ∨ k = 5 ∨ k = 6 by omega) with rfl | rfl | rfl | rfl | rfl | rfl | rfl
    · as_aux_lemma =>
      have hix : ∀ W, (Instr.index 23 (.agg #[.int .u8 r1, .int .u8 r2, .int .u8 r3, .int .u8 r4, .int .u8 r5, .int .u8 r6]) (.int .i64 0)).run Try.prog W = .ok (.int .u8 r1) W := fun W => by kernel_rfl
      have htm : r1.tmod 2 = r1 % 2 := Int.tmod_eq_emod_of_nonneg b1.1
      go_wp2_with (at_builtin; (refine wpList_append_own _ rfl _ _ 31 rfl w3.heap.size 3 i3 (.int .i64 0) 1 8 Try.underlying31 HI.out.1 HI.out.2.1 HI.out.2.2.1 HI.out.2.2.2 rfl (by decide) _ _ _ rfl (hrow.alloc _) ⟨wr.heap.size, 0, none⟩ 1 1 [.int .i64 (1 + r1 % 2)] rfl rfl (cell_new1 rfl) (by simp [Value.oneCell']) (Nat.le_trans (by omega : 1 + 0 + 1 ≤ 50) (by decide)) (by omega) (by rw [World.size_alloc]; omega) ?_; intro v' w6 q1 q2 _; obtain ⟨a6, c6, rfl⟩ := form_of q1))
      go_roundw
      case rel => exact ⟨1, by omega, by go_num, by simpa [lnK] using q1, grown_below1 q2 hrow (Nat.le_refl _) hsz hb⟩
      case measure => simp [intOf]
    · as_aux_lemma =>
      have hix : ∀ W, (Instr.index 23 (.agg #[.int .u8 r1, .int .u8 r2, .int .u8 r3, .int .u8 r4, .int .u8 r5, .int .u8 r6]) (.int .i64 1)).run Try.prog W = .ok (.int .u8 r2) W := fun W => by kernel_rfl
      have htm : r2.tmod 2 = r2 % 2 := Int.tmod_eq_emod_of_nonneg b2.1
      go_wp2_with (at_builtin; (refine wpList_append_own _ rfl _ _ 31 rfl w3.heap.size 3 i3 (.int .i64 0) 1 8 Try.underlying31 HI.out.1 HI.out.2.1 HI.out.2.2.1 HI.out.2.2.2 rfl (by decide) _ _ _ rfl (hrow.alloc _) ⟨wr.heap.size, 0, none⟩ 1 1 [.int .i64 (1 + r2 % 2)] rfl rfl (cell_new1 rfl) (by simp [Value.oneCell']) (Nat.le_trans (by omega : 1 + 1 + 1 ≤ 50) (by decide)) (by omega) (by rw [World.size_alloc]; omega) ?_; intro v' w6 q1 q2 _; obtain ⟨a6, c6, rfl⟩ := form_of q1))
      go_roundw
      case rel => exact ⟨2, by omega, by go_num, by simpa [lnK] using q1, grown_below1 q2 hrow (Nat.le_refl _) hsz hb⟩
      case measure => simp [intOf]
    · as_aux_lemma =>
      have hix : ∀ W, (Instr.index 23 (.agg #[.int .u8 r1, .int .u8 r2, .int .u8 r3, .int .u8 r4, .int .u8 r5, .int .u8 r6]) (.int .i64 2)).run Try.prog W = .ok (.int .u8 r3) W := fun W => by kernel_rfl
      have htm : r3.tmod 2 = r3 % 2 := Int.tmod_eq_emod_of_nonneg b3.1
      go_wp2_with (at_builtin; (refine wpList_append_own _ rfl _ _ 31 rfl w3.heap.size 3 i3 (.int .i64 0) 1 8 Try.underlying31 HI.out.1 HI.out.2.1 HI.out.2.2.1 HI.out.2.2.2 rfl (by decide) _ _ _ rfl (hrow.alloc _) ⟨wr.heap.size, 0, none⟩ 1 1 [.int .i64 (1 + r3 % 2)] rfl rfl (cell_new1 rfl) (by simp [Value.oneCell']) (Nat.le_trans (by omega : 1 + 2 + 1 ≤ 50) (by decide)) (by omega) (by rw [World.size_alloc]; omega) ?_; intro v' w6 q1 q2 _; obtain ⟨a6, c6, rfl⟩ := form_of q1))
      go_roundw
      case rel => exact ⟨3, by omega, by go_num, by simpa [lnK] using q1, grown_below1 q2 hrow (Nat.le_refl _) hsz hb⟩
      case measure => simp [intOf]
    · as_aux_lemma =>
      have hix : ∀ W, (Instr.index 23 (.agg #[.int .u8 r1, .int .u8 r2, .int .u8 r3, .int .u8 r4, .int .u8 r5, .int .u8 r6]) (.int .i64 3)).run Try.prog W = .ok (.int .u8 r4) W := fun W => by kernel_rfl
      have htm : r4.tmod 2 = r4 % 2 := Int.tmod_eq_emod_of_nonneg b4.1
      go_wp2_with (at_builtin; (refine wpList_append_own _ rfl _ _ 31 rfl w3.heap.size 3 i3 (.int .i64 0) 1 8 Try.underlying31 HI.out.1 HI.out.2.1 HI.out.2.2.1 HI.out.2.2.2 rfl (by decide) _ _ _ rfl (hrow.alloc _) ⟨wr.heap.size, 0, none⟩ 1 1 [.int .i64 (1 + r4 % 2)] rfl rfl (cell_new1 rfl) (by simp [Value.oneCell']) (Nat.le_trans (by omega : 1 + 3 + 1 ≤ 50) (by decide)) (by omega) (by rw [World.size_alloc]; omega) ?_; intro v' w6 q1 q2 _; obtain ⟨a6, c6, rfl⟩ := form_of q1))
      go_roundw
      case rel => exact ⟨4, by omega, by go_num, by simpa [lnK] using q1, grown_below1 q2 hrow (Nat.le_refl _) hsz hb⟩
      case measure => simp [intOf]
    · as_aux_lemma =>
      have hix : ∀ W, (Instr.index 23 (.agg #[.int .u8 r1, .int .u8 r2, .int .u8 r3, .int .u8 r4, .int .u8 r5, .int .u8 r6]) (.int .i64 4)).run Try.prog W = .ok (.int .u8 r5) W := fun W => by kernel_rfl
      have htm : r5.tmod 2 = r5 % 2 := Int.tmod_eq_emod_of_nonneg b5.1
      go_wp2_with (at_builtin; (refine wpList_append_own _ rfl _ _ 31 rfl w3.heap.size 3 i3 (.int .i64 0) 1 8 Try.underlying31 HI.out.1 HI.out.2.1 HI.out.2.2.1 HI.out.2.2.2 rfl (by decide) _ _ _ rfl (hrow.alloc _) ⟨wr.heap.size, 0, none⟩ 1 1 [.int .i64 (1 + r5 % 2)] rfl rfl (cell_new1 rfl) (by simp [Value.oneCell']) (Nat.le_trans (by omega : 1 + 4 + 1 ≤ 50) (by decide)) (by omega) (by rw [World.size_alloc]; omega) ?_; intro v' w6 q1 q2 _; obtain ⟨a6, c6, rfl⟩ := form_of q1))
      go_roundw
      case rel => exact ⟨5, by omega, by go_num, by simpa [lnK] using q1, grown_below1 q2 hrow (Nat.le_refl _) hsz hb⟩
      case measure => simp [intOf]
    · as_aux_lemma =>
      have hix : ∀ W, (Instr.index 23 (.agg #[.int .u8 r1, .int .u8 r2, .int .u8 r3, .int .u8 r4, .int .u8 r5, .int .u8 r6]) (.int .i64 5)).run Try.prog W = .ok (.int .u8 r6) W := fun W => by kernel_rfl
      have htm : r6.tmod 2 = r6 % 2 := Int.tmod_eq_emod_of_nonneg b6.1
      go_wp2_with (at_builtin; (refine wpList_append_own _ rfl _ _ 31 rfl w3.heap.size 3 i3 (.int .i64 0) 1 8 Try.underlying31 HI.out.1 HI.out.2.1 HI.out.2.2.1 HI.out.2.2.2 rfl (by decide) _ _ _ rfl (hrow.alloc _) ⟨wr.heap.size, 0, none⟩ 1 1 [.int .i64 (1 + r6 % 2)] rfl rfl (cell_new1 rfl) (by simp [Value.oneCell']) (Nat.le_trans (by omega : 1 + 5 + 1 ≤ 50) (by decide)) (by omega) (by rw [World.size_alloc]; omega) ?_; intro v' w6 q1 q2 _; obtain ⟨a6, c6, rfl⟩ := form_of q1))
      go_roundw
      case rel => exact ⟨6, by omega, by go_num, by simpa [lnK] using q1, grown_below1 q2 hrow (Nat.le_refl _) hsz hb⟩
      case measure => simp [intOf]
    · simp only [show (1 + 6 : Nat) = 7 from rfl, show ((6 : Nat) : Int) = 6 from rfl] at hrow ⊢
      have hll : (lnK [r1, r2, r3, r4, r5, r6] 6).length = 7 := by rw [lnK_len _ (by simp)]
      have hL : SlI wr (.slice aq 7 cq) (lnK [r1, r2, r3, r4, r5, r6] 6) := slI_own (base := w3.heap.size) (W := wr) (by rw [hll]; exact hrow) (by rw [hll]; omega) (Nat.le_refl _) (fun _ _ _ => rfl)
      have HL := Lib.hid (And.intro hL hll)
      clear hL hll hrow
      have hPl := HP.out.2.1
      have h4n := hn4
      generalize wr = w4 at *
      obtain ⟨n, hn0⟩ : ∃ n, n = fs.length := ⟨_, rfl⟩
      rw [← hn0] at hmf hcf hn4 hPl ⊢
      have HN := Lib.hid hn0
      clear hn0 h4n
      obtain ⟨i33, hi33, hy1, hy2, hy3⟩ := info_parts info69
      have HJ := Lib.hid (And.intro hi33 (And.intro hy1 (And.intro hy2 hy3)))
      clear hi33 hy1 hy2 hy3 hk
      go_wp2
      go_loopw [17, 18, 70] (fun q o i wr => ∃ k : Nat, k ≤ n ∧ i = .int .i64 k ∧ wr.ownsRow w4.heap.size 33 2 q (usK P k).length (flat (usK P k)) ∧ wr.ownsRow w4.heap.size 3 1 o (ofK P k).length ((ofK P k).map (.int .i64)) ∧ Below w4.heap.size w4 wr) (fun _ _ i _ => n - (intOf i).toNat)
      case atStart => exact ⟨0, Nat.zero_le _, rfl, World.ownsRow_lit w4 #[.int .i64 0, .int .i64 6] 1 (Nat.le_refl _) (by decide) rfl, World.ownsRow_nil _ _ _ _, (Below.refl _ _).alloc (Nat.le_refl _) _⟩
      case round =>
        obtain ⟨k, hk, rfl, hq, ho, hb4⟩ := hrel
        have hsz4 := hb4.size
        have hB4 := btr hb hb4 (Nat.le_refl _)
        obtain ⟨hk1, hk2⟩ := trK_len P k
        have hul : (usK P k).length = 1 + (ofK P k).length := by unfold usK; rw [List.length_cons, hk1]; omega
        rw [hk1] at hk2
        have hu5 : (usK P k).length ≤ 5 := by omega
        have HUL := Lib.hid (And.intro hul hk1)
        clear hul hk1
        by_cases hkn : k < n
        · obtain ⟨bP, oP, rfl, hlP, hcP⟩ := slI_at HP.out.1 (k := k) (by rw [hPl]; exact hkn)
          have cP := (hB4.cell (p := ⟨bP, oP + k, none⟩) hlP).trans (hcP k (by rw [hPl]; exact hkn))
          have hkf : k < fs.length := by rw [← HN.out]; exact hkn
          obtain ⟨ad', cap', he, -, -, hcell⟩ := HFS.out.opened
          obtain ⟨bf, off, ad2, cap2, e4, hlf, hcf2, -⟩ := hcell k hkf
          injection he with e1 e2 e3
          rw [e4] at e1
          subst e1
          clear hcell e2 e3 e4 hcP
          rw [HF.out.2.2 k hkf] at hcf2
          have cF := ((btr hb3 hB4 (Nat.le_refl _)).cell (p := ⟨bf, off + k, none⟩) hlf).trans hcf2
          have hPb := HP.out.2.2.2 k hkf
          rw [HF.out.2.2 k hkf] at hPb
          have hu1 := trK_succ P k
          have ho1 := ofK_succ P k
          obtain ⟨x, hx⟩ : ∃ x, x = at0 P k := ⟨_, rfl⟩
          rw [← hx] at cP hPb hu1 ho1
          clear hx hcf2
          obtain ⟨aq2, cq2, rfl⟩ := form_of hq
          obtain ⟨ao, co, rfl⟩ := form_of ho
          have hap := rows_apart ho hq (by decide)
          by_cases hx0 : 0 < x
          · rw [if_pos hx0] at hu1 ho1
            have e17 : flat (usK P (k + 1)) = flat (usK P k) ++ [.int .i64 (2 + k), .int .i64 0] := by unfold usK; rw [hu1]; simp [flat]
            have e18 : (ofK P (k + 1)).map (Value.int .i64) = (ofK P k).map (.int .i64) ++ [.int .i64 k] := by rw [ho1]; simp
            have l17 : (usK P (k + 1)).length = (usK P k).length + 1 := by unfold usK; rw [hu1]; simp
            have l18 : (ofK P (k + 1)).length = (ofK P k).length + 1 := by rw [ho1]; simp
            have HE := Lib.hid (And.intro e17 (And.intro e18 (And.intro l17 l18)))
            clear hu1 ho1 e17 e18 l17 l18
            go_wp2_with (first | (at_builtin; (refine wpList_append_own _ rfl _ _ 27 rfl w4.heap.size 3 i3 (.int .i64 0) 1 8 Try.underlying27 HI.out.1 HI.out.2.1 HI.out.2.2.1 HI.out.2.2.2 rfl (by decide) _ _ _ rfl (h18.alloc _) ⟨w6.heap.size, 0, none⟩ 1 1 [.int .i64 k] rfl rfl (cell_new1 rfl) (by simp [Value.oneCell']) (Nat.le_trans (by omega : (ofK P k).length + 1 ≤ 50) (by decide)) (by omega) (by rw [World.size_alloc]; omega) ?_; intro v8 w8 q3 q4 _; obtain ⟨a8, c8, rfl⟩ := form_of q3)) | (at_builtin; (refine wpList_append_own _ rfl _ _ 34 rfl w4.heap.size 33 i33 (.agg #[.int .i64 0, .int .i64 0]) 2 16 Try.underlying34 HJ.out.1 HJ.out.2.1 HJ.out.2.2.1 HJ.out.2.2.2 rfl (by decide) _ _ _ rfl (hq.alloc _) ⟨wr.heap.size, 0, none⟩ 1 1 [.int .i64 (2 + k), .int .i64 0] rfl rfl (cell_new2 rfl) (by simp [Value.oneCell']) (Nat.le_trans (by omega : (usK P k).length + 1 ≤ 50) (by decide)) (by omega) (by rw [World.size_alloc]; omega) ?_; intro v6 w6 q1 q2 _; obtain ⟨a6, c6, rfl⟩ := form_of q1; have h18 := (ho.alloc _).kept q2 hap; have hb6 := grown_below1 q2 hq (Nat.le_refl _) hsz4 hb4; have hsz6 := hb6.size)))
            go_roundw
            case rel =>
              refine ⟨k + 1, by omega, by go_num, ?_, ?_, grown_below1 q4 h18 (Nat.le_refl _) hsz6 hb6⟩
              · rw [HE.out.1, HE.out.2.2.1]; exact (q1.alloc _).kept q4 (rows_apart q1 h18 (by decide))
              · rw [HE.out.2.1, HE.out.2.2.2]; exact q3
            case measure => simp [intOf]; omega
          · rw [if_neg hx0, List.append_nil] at hu1 ho1
            have hue : usK P (k + 1) = usK P k := by unfold usK; rw [hu1]
            have HE := Lib.hid (And.intro hue ho1)
            clear hu1 ho1 hue
            go_wp2
            go_roundw
            case rel => exact ⟨k + 1, by omega, by go_num, by rw [HE.out.1]; exact hq, by rw [HE.out.2]; exact ho, hb4⟩
            case measure => simp [intOf]; omega
        · have hkn2 : k = n := by omega
          subst hkn2
          obtain ⟨aq2, cq2, rfl⟩ := form_of hq
          obtain ⟨ao, co, rfl⟩ := form_of ho
          have hV := val_us r1 r2 r3 r4 r5 r6 P hn4
          have hT : SlT wr (.slice aq2 (usK P k).length cq2) (usK P k) := slT_own hq (by omega)
          have hO : SlI wr (.slice ao (ofK P k).length co) (ofK P k) := slI_own ho (by omega) (Nat.le_refl _) (fun _ _ _ => rfl)
          have hL := HL.out.1.below hb4 (Nat.le_refl _)
          obtain ⟨us, hus⟩ : ∃ us, us = usK P k := ⟨_, rfl⟩
          obtain ⟨fo, hfo⟩ : ∃ fo, fo = ofK P k := ⟨_, rfl⟩
          rw [← hus] at hT hV hu5 ⊢
          rw [← hfo] at hO hk2 ⊢
          have hul := HUL.out.1
          rw [← hus, ← hfo] at hul
          have HUS := Lib.hid (And.intro hus hfo)
          obtain ⟨N, hN⟩ : ∃ N, N = us.length := ⟨_, rfl⟩
          obtain ⟨M, hM⟩ : ∃ M, M = fo.length := ⟨_, rfl⟩
          rw [← hN] at hu5 hul ⊢
          rw [← hM] at hk2 hul ⊢
          have hNM1 : N ≤ 1 + M := by omega
          have hNM2 : 1 + M ≤ N := by omega
          have HNN := Lib.hid (And.intro hN hM)
          have HV := Lib.hid hV
          clear hq ho hus hfo hul hN hM hV
          obtain ⟨b, hbs⟩ : ∃ b, safeT (lnK [r1, r2, r3, r4, r5, r6] 6) us = b := ⟨_, rfl⟩
          have HBS := Lib.hid hbs
          have HX := Lib.hid (And.intro hL (And.intro hT hO))
          rw [← HNN.out.1, ← HNN.out.2] at HX
          clear hbs hL hT hO
          go_wp2_with (first | (go_at_call 6; refine (y16 HV.out HBS.out _ HX.out.1 HX.out.2.1).mono ?_; rintro e w5 ⟨rfl, hb5⟩))
          have hB5 := btr hB4 hb5 (Nat.le_refl _)
          have HO5 := Lib.hid (HO.out.below (btr hBw3 hB5 (Nat.le_refl _)) (Nat.le_refl _))
          go_loopw [22, 23] (fun v i wr => ∃ r : Nat, r ≤ 40 ∧ i = .int .i64 r ∧ Below w5.heap.size w5 wr ∧ wr.ownsRow w5.heap.size 3 1 v (r * N) ((asksN (os.map (2 * ·)) N r).map (.int .i64))) (fun _ i _ => 40 - (intOf i).toNat)
          case atStart => exact ⟨0, Nat.zero_le _, rfl, Below.refl _ _, by rw [Nat.zero_mul]; exact World.ownsRow_nil _ _ _ _⟩
          case round =>
            obtain ⟨r, hr, rfl, hb6, ho3⟩ := hrel
            have hsz6 := hb6.size
            by_cases hr40 : r < 40
            · have hrn : r * N ≤ 195 := Nat.le_trans (Nat.mul_le_mul (by omega : r ≤ 39) hu5) (by decide)
              have dr : decide ((r : Int) < 40) = true := decide_eq_true (by omega)
              have HO6 := Lib.hid (HO5.out.below hb6 (Nat.le_refl _))
              have hfb := fromO_bnd HO5.out r
              have hse : asksN (os.map (2 * ·)) N (r + 1) = asksN (os.map (2 * ·)) N r ++ askK N (2 * fromO os r) N := by rw [← fromO_two]; rfl
              have HSE := Lib.hid hse
              clear hse
              by_cases hos : os.length = 0
              · have hf0 : fromO os r = 0 := by unfold fromO; rw [if_pos hos]
                rw [hf0] at HSE
                have hos0 : os.length ≤ 0 := by omega
                have dos : decide (0 < os.length) = false := decide_eq_false (by omega)
                clear hos hfb hf0
                go_wp2
                go_loopw [22, 124] (fun v i wr => ∃ k : Nat, k ≤ N ∧ i = .int .i64 k ∧ Below w5.heap.size w5 wr ∧ wr.ownsRow w5.heap.size 3 1 v (r * N + k) ((asksN (os.map (2 * ·)) N r ++ askK N (2 * 0) k).map (.int .i64))) (fun _ i _ => N - (intOf i).toNat)
                case atStart => exact ⟨0, Nat.zero_le _, rfl, hb6, by simpa [askK] using ho3⟩
                case round =>
                  clear hb6 ho3
                  obtain ⟨i, hi, rfl, hb6, ho3⟩ := hrel
                  have hsz6 := hb6.size
                  by_cases hin : i < N
                  · have hnn : ¬ N = 0 := by omega
                    have hrl : ((asksN (os.map (2 * ·)) N r ++ askK N (2 * 0) i).map (Value.int .i64)) ++ [.int .i64 (((i : Int) + 0) % N)] = (asksN (os.map (2 * ·)) N r ++ askK N (2 * 0) (i + 1)).map (.int .i64) := by rw [askK_succ, ask1_two]; simp
                    have HRL := Lib.hid hrl
                    clear hrl
                    have h00 : (i : Int) + 0 = i := by omega
                    rw [h00] at HRL
                    go_wp2_with (at_builtin; (refine wpList_append_own _ rfl _ _ 27 rfl w5.heap.size 3 i3 (.int .i64 0) 1 8 Try.underlying27 HI.out.1 HI.out.2.1 HI.out.2.2.1 HI.out.2.2.2 rfl (by decide) _ _ _ rfl (ho3.alloc _) ⟨wr.heap.size, 0, none⟩ 1 1 [.int .i64 ((i : Int) % N)] rfl rfl (cell_new1 rfl) (by simp [Value.oneCell']) (Nat.le_trans (by omega : (r * N + i) + 1 ≤ 2000) (by decide)) (by omega) (by rw [World.size_alloc]; omega) ?_; intro v' w6 q1 q2 _))
                    go_roundw
                    case rel => exact ⟨i + 1, by omega, by go_num, grown_below1 q2 ho3 (Nat.le_refl _) hsz6 hb6, by rw [← HRL.out]; exact q1⟩
                    case measure => simp [intOf]; omega
                  · have hix : i = N := by omega
                    have hfin : wr.ownsRow w5.heap.size 3 1 u22 ((r + 1) * N) ((asksN (os.map (2 * ·)) N (r + 1)).map (.int .i64)) := by
                      rw [HSE.out, Nat.succ_mul]; rw [hix] at ho3; exact ho3
                    clear hin hi ho3
                    subst hix
                    go_wp2
                    go_roundw
                    case rel => exact ⟨r + 1, by omega, by go_num, hb6, hfin⟩
                    case measure => simp [intOf]; omega
              · have hf1 : fromO os r = at0 os (r % os.length) := by unfold fromO; rw [if_neg hos]
                obtain ⟨bo, oo, rfl, -, hco⟩ := slY_cell HO6.out (k := r % os.length) (Nat.mod_lt _ (by omega))
                rw [← hf1] at hco
                have hos1 : 0 < os.length := by omega
                have dos : decide (0 < os.length) = true := decide_eq_true (by omega)
                have hr0 : 0 ≤ (r : Int) % (os.length : Int) := Int.emod_nonneg _ (by omega)
                have hr1 : (r : Int) % (os.length : Int) < os.length := Int.emod_lt_of_pos _ (by omega)
                generalize fromO os r = f at *
                clear hf1 hos
                go_wp2
                go_loopw [22, 124] (fun v i wr => ∃ k : Nat, k ≤ N ∧ i = .int .i64 k ∧ Below w5.heap.size w5 wr ∧ wr.ownsRow w5.heap.size 3 1 v (r * N + k) ((asksN (os.map (2 * ·)) N r ++ askK N (2 * f) k).map (.int .i64))) (fun _ i _ => N - (intOf i).toNat)
                case atStart => exact ⟨0, Nat.zero_le _, rfl, hb6, by simpa [askK] using ho3⟩
                case round =>
                  clear hb6 ho3
                  obtain ⟨i, hi, rfl, hb6, ho3⟩ := hrel
                  have hsz6 := hb6.size
                  by_cases hin : i < N
                  · have hnn : ¬ N = 0 := by omega
                    have hrl : ((asksN (os.map (2 * ·)) N r ++ askK N (2 * f) i).map (Value.int .i64)) ++ [.int .i64 (((i : Int) + f) % N)] = (asksN (os.map (2 * ·)) N r ++ askK N (2 * f) (i + 1)).map (.int .i64) := by rw [askK_succ, ask1_two]; simp
                    have HRL := Lib.hid hrl
                    clear hrl
                    go_wp2_with (at_builtin; (refine wpList_append_own _ rfl _ _ 27 rfl w5.heap.size 3 i3 (.int .i64 0) 1 8 Try.underlying27 HI.out.1 HI.out.2.1 HI.out.2.2.1 HI.out.2.2.2 rfl (by decide) _ _ _ rfl (ho3.alloc _) ⟨wr.heap.size, 0, none⟩ 1 1 [.int .i64 (((i : Int) + f) % N)] rfl rfl (cell_new1 rfl) (by simp [Value.oneCell']) (Nat.le_trans (by omega : (r * N + i) + 1 ≤ 2000) (by decide)) (by omega) (by rw [World.size_alloc]; omega) ?_; intro v' w6 q1 q2 _))
                    go_roundw
                    case rel => exact ⟨i + 1, by omega, by go_num, grown_below1 q2 ho3 (Nat.le_refl _) hsz6 hb6, by rw [← HRL.out]; exact q1⟩
                    case measure => simp [intOf]; omega
                  · have hix : i = N := by omega
                    have hfin : wr.ownsRow w5.heap.size 3 1 u22 ((r + 1) * N) ((asksN (os.map (2 * ·)) N (r + 1)).map (.int .i64)) := by
                      rw [HSE.out, Nat.succ_mul]; rw [hix] at ho3; exact ho3
                    clear hin hi ho3
                    subst hix
                    go_wp2
                    go_roundw
                    case rel => exact ⟨r + 1, by omega, by go_num, hb6, hfin⟩
                    case measure => simp [intOf]; omega
            · have hrx : r = 40 := by omega
              subst hrx
              obtain ⟨aA, cA, rfl⟩ := form_of ho3
              obtain ⟨AS, hAS⟩ : ∃ AS, AS = asksN (os.map (2 * ·)) N 40 := ⟨_, rfl⟩
              have hlen := asksN_len (os.map (2 * ·)) N 40
              have hbd := asksN_bnd (os := os.map (2 * ·)) (n := N) 40
              rw [← hAS] at hlen hbd ho3
              have hA : SlI wr (.slice aA (40 * N) cA) AS := slI_own (base := w5.heap.size) (W := wr) (v := .slice aA (40 * N) cA) (xs := AS) (by rw [hlen]; exact ho3) (by rw [hlen]; omega) (Nat.le_refl _) (fun _ _ _ => rfl)
              have hn200 : 40 * N ≤ 200 := by omega
              have HA := Lib.hid (And.intro hA (And.intro hlen (And.intro hbd hAS)))
              have hb56 := btr hb5 hb6 (Nat.le_refl _)
              have HX6 := Lib.hid (And.intro (HX.out.1.below hb56 (Nat.le_refl _)) (And.intro (HX.out.2.1.below hb56 (Nat.le_refl _)) (HX.out.2.2.below hb56 (Nat.le_refl _))))
              have hB6 := btr hB5 hb6 (Nat.le_refl _)
              clear ho3 hA hlen hbd hAS hr hr40
              cases b
              · as_aux_lemma =>
                go_wp2_with (first | (go_at_call 7; refine (y25n HV.out HBS.out _ HX6.out.1 HX6.out.2.1 HA.out.1).mono ?_; rintro e w7 ⟨rfl, hb7⟩) | (go_at_call 8; refine (hworks_any _).mono ?_; rintro e w8 ⟨rfl, hb8⟩))
                go_ret
                exact ⟨rfl, btr (btr hBw3 hB6 (Nat.le_refl _)) (btr hb7 hb8 (Nat.le_refl _)) (Nat.le_refl _)⟩
              · go_wp2_with fail
                refine (y25 HV.out HBS.out (by rw [← HNN.out.1]; exact HA.out.2.2.1) (by rw [HA.out.2.1]; omega) _ HX6.out.1 HX6.out.2.1 HA.out.1).mono ?_
                rintro e w7 ⟨vl, ve, rfl, hlet, hend, hb7⟩
                have hal := all_in HV.out HBS.out (by rw [HL.out.2]; omega) os
                rw [← HNN.out.1, ← HA.out.2.2.2] at hal
                generalize (dispT (lnK [r1, r2, r3, r4, r5, r6] 6) us AS).2 = D at *
                obtain ⟨al, cl, rfl, -, -⟩ := hlet
                have hdl := hal.1
                have HE := Lib.hid (And.intro hend hal)
                obtain ⟨ae, ce, rfl, -, -⟩ := hend
                rw [hdl]
                have HX7 := Lib.hid (HX6.out.2.2.below hb7 (Nat.le_refl _))
                have hB7 := btr hB6 hb7 (Nat.le_refl _)
                clear hdl hal
                go_wp2
                go_loopw [28, 163] (fun s2 i wr => ∃ k : Nat, k ≤ N ∧ i = .int .i64 k ∧ s2 = .int .i64 (sumF fs P fo k) ∧ Below w7.heap.size w7 wr) (fun _ i _ => N - (intOf i).toNat)
                case atStart => exact ⟨0, Nat.zero_le _, rfl, by simp [sumF], Below.refl _ _⟩
                case round =>
                  obtain ⟨kk, hkk, rfl, rfl, hb8⟩ := hrel
                  by_cases hkN : kk < N
                  · obtain ⟨ae', ce', he, -, hce⟩ := HE.out.1
                    rw [HE.out.2.1] at hce
                    obtain ⟨be, oe, rfl, hle, hcE⟩ := hce (by omega)
                    injection he with he1 he2 he3
                    subst he1
                    clear he2 he3 hce
                    obtain ⟨e0, e1⟩ := hcE kk hkN
                    rw [← HE.out.2.2 kk hkN] at e1
                    replace e0 := (hb8.cell (p := ⟨be, oe + kk * 2, none⟩) hle).trans e0
                    replace e1 := (hb8.cell (p := ⟨be, oe + kk * 2 + 1, none⟩) hle).trans e1
                    clear hcE
                    generalize tAt D kk = ta at *
                    obtain ⟨S, hS⟩ : ∃ S, S = sumF fs P fo kk := ⟨_, rfl⟩
                    have hSb := sumF_bnd HF.out.1 (P := P) (fo := fo) (by rw [HUS.out.2, HN.out]) (by rw [← HNN.out.2]; omega) kk
                    rw [← hS] at hSb ⊢
                    have HS := Lib.hid hS
                    clear hS
                    rcases Nat.eq_zero_or_pos kk with hk0 | hk0
                    · subst hk0
                      simp only [Nat.zero_mul, Nat.add_zero] at e0 e1
                      have hs1 : sumF fs P fo 1 = S := by rw [HS.out]; rfl
                      have HS1 := Lib.hid hs1
                      clear hs1
                      go_wp2
                      go_roundw
                      case rel => exact ⟨1, by omega, by go_num, by rw [HS1.out], hb8.alloc (by have := hb8.size; omega) _⟩
                      case measure => simp [intOf]; omega
                    · obtain ⟨j, rfl⟩ : ∃ j, kk = j + 1 := ⟨kk - 1, by omega⟩
                      have hjM : j < fo.length := by rw [← HNN.out.2]; omega
                      have hsucc := sumF_succ (fs := fs) (P := P) hjM
                      rw [← HS.out] at hsucc
                      obtain ⟨xn, hxn, hxe, hxp⟩ := ofK_mem (P := P) (k := k) (x := at0 fo j) (by rw [← HUS.out.2, at0_lt hjM]; exact List.getElem_mem hjM)
                      rw [hxe, Int.toNat_natCast] at hsucc
                      unfold preS at hsucc
                      obtain ⟨bo2, oo2, rfl, hlo2, hco2⟩ := slI_at HX7.out hjM
                      have fO := hco2 j hjM
                      rw [hxe] at fO
                      obtain ⟨bP, oP, rfl, hlP, hcP⟩ := slI_at HP.out.1 (k := xn) (by rw [hPl]; exact hxn)
                      have fP := (hB7.cell (p := ⟨bP, oP + xn, none⟩) hlP).trans (hcP xn (by rw [hPl]; exact hxn))
                      have hkf : xn < fs.length := by rw [← HN.out]; exact hxn
                      obtain ⟨ad', cap', he, -, -, hcell⟩ := HFS.out.opened
                      obtain ⟨bf, off, ad2, cap2, e4, hlf, hcf2, hrw⟩ := hcell xn hkf
                      injection he with he1 he2 he3
                      rw [e4] at he1
                      subst he1
                      clear hcell he2 he3 e4 hcP hco2
                      have h3 := HF.out.2.2 xn hkf
                      have hB27 := btr hb3 hB7 (Nat.le_refl _)
                      obtain ⟨br, orr, rfl, hlr, hcr⟩ := slI_at hrw (k := 0) (by rw [h3]; omega)
                      rw [h3] at hcf2
                      have fF := (hB27.cell (p := ⟨bf, off + xn, none⟩) hlf).trans hcf2
                      have fR := fun c (hc : c < 3) => (hB27.cell (p := ⟨br, orr + c, none⟩) hlr).trans (hcr c (by rw [h3]; exact hc))
                      have hlf7 := Nat.lt_of_lt_of_le hlf hB27.size
                      have hlr7 := Nat.lt_of_lt_of_le hlr hB27.size
                      have hlP7 := Nat.lt_of_lt_of_le hlP hB7.size
                      have hPb := HP.out.2.2.2 xn hkf
                      rw [h3] at hPb
                      have htn := fun c (hc : c < 3) => take_next (xs := tabR fs xn) (c := c) (by rw [h3]; exact hc)
                      have htb := fun c => take_bnd HF.out.1 hkf c
                      have hgd := HF.out.1.good xn hkf
                      rw [h3] at hgd
                      obtain ⟨Q, hQ⟩ : ∃ Q : Nat, (Q : Int) = at0 P xn := ⟨(at0 P xn).toNat, by omega⟩
                      rw [← hQ] at fP hPb hxp hsucc
                      rw [Int.toNat_natCast] at hsucc
                      have hQ3 : Q ≤ 3 := by omega
                      have HSU := Lib.hid (And.intro hsucc (And.intro htn (And.intro htb hgd)))
                      have FR := Lib.hid fR
                      clear hQ hxe hsucc htn htb hgd fR hcr hcf2 hrw h3 hxp hPb
                      have gO := (hb8.cell (p := ⟨bo2, oo2 + j, none⟩) hlo2).trans fO
                      have gP := (hb8.cell (p := ⟨bP, oP + xn, none⟩) hlP7).trans fP
                      go_wp2
                      go_loopw [28, 31] (fun s2 i wr => ∃ c : Nat, c ≤ Q ∧ i = .int .i64 c ∧ s2 = .int .i64 (S + ((tabR fs xn).take c).sum) ∧ Below w7.heap.size w7 wr) (fun _ i _ => Q - (intOf i).toNat)
                      case atStart => exact ⟨0, Nat.zero_le _, rfl, by simp, hb8.alloc (by have := hb8.size; omega) _⟩
                      case round =>
                        clear hb8 gO gP e0 e1
                        obtain ⟨c, hc, rfl, rfl, hb8⟩ := hrel
                        have gO := (hb8.cell (p := ⟨bo2, oo2 + j, none⟩) hlo2).trans fO
                        have gP := (hb8.cell (p := ⟨bP, oP + xn, none⟩) hlP7).trans fP
                        have gF := (hb8.cell (p := ⟨bf, off + xn, none⟩) hlf7).trans fF
                        have htb := HSU.out.2.2.1 c
                        by_cases hcQ : c < Q
                        · have gR := (hb8.cell (p := ⟨br, orr + c, none⟩) hlr7).trans (FR.out c (by omega))
                          have hgd := HSU.out.2.2.2 c (by omega)
                          have hnx := HSU.out.2.1 c (by omega)
                          have HNX := Lib.hid hnx
                          clear hnx
                          generalize at0 (tabR fs xn) c = xv at *
                          generalize ((tabR fs xn).take c).sum = T at *
                          go_wp2
                          go_roundw
                          case rel => exact ⟨c + 1, by omega, by go_num, by rw [HNX.out, Int.add_assoc], hb8⟩
                          case measure => simp [intOf]; omega
                        · have hcx : c = Q := by omega
                          subst hcx
                          rw [← HSU.out.1]
                          go_wp2
                          go_roundw
                          case rel => exact ⟨j + 1 + 1, by omega, by go_num, rfl, hb8⟩
                          case measure => simp [intOf]; omega
                  · have hkN2 : kk = N := by omega
                    subst hkN2
                    have hend2 := sumF_end (fs := fs) (P := P) (fo := fo) (N := kk) (by rw [HUS.out.2, HN.out]) (by rw [← HNN.out.2]; omega)
                    rw [← HP.out.2.2.1] at hend2
                    rw [hend2]
                    clear hend2
                    go_wp2_with (first | (go_at_call 8; refine (hworks_any _).mono ?_; rintro e w8 ⟨rfl, hb9⟩))
                    go_ret
                    exact ⟨rfl, btr (btr hBw3 (btr hB7 hb8 (Nat.le_refl _)) (Nat.le_refl _)) hb9 (Nat.le_refl _)⟩
end Ytnihopdglkhbnaa
end Go.Proofs
