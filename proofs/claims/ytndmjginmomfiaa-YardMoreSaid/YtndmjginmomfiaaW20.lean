/- The laws' own small functions: equal lists, equal tables, the chapter's yard. -/
import Derived.Test.YtndmjginmomfiaaEx
open Go Go.RowKit Go.YtndmjginmomfiaaIt
namespace Go.Proofs
namespace Ytndmjginmomfiaa
set_option maxRecDepth 100000 in
set_option maxHeartbeats 1000000 in
theorem numbers_any (v u : Value) (xs ys : List Int) (w : World) (hx : SlI w v xs) (hy : SlI w u ys) :
    Calls Try.prog 27 #[v, u] w fun e w' => e = .returned (.bool (decide (xs = ys))) ∧ Below w.heap.size w w' := by
  obtain ⟨ad, cap, rfl, hm, -, hc⟩ := hx
  obtain ⟨ad', cap', rfl, hm', -, hc'⟩ := hy
  obtain ⟨n, hn⟩ : ∃ n, n = xs.length := ⟨_, rfl⟩
  by_cases hl : xs.length = ys.length
  · rw [← hl] at hc' ⊢
    rw [← hn] at hm hc hc' ⊢
    have H := Lib.hid (And.intro hl hn)
    clear hl hn hm'
    go_enter Try.func27, Try.ntmps27
    go_wp2
    go_loopw [5] (fun i wr => ∃ k : Nat, k ≤ n ∧ i = .int .i64 k ∧ (∀ j, j < k → at0 xs j = at0 ys j) ∧ Below w.heap.size w wr) (fun i _ => n - (intOf i).toNat)
    case atStart => exact ⟨0, Nat.zero_le _, rfl, fun _ h => by omega, Below.refl _ _⟩
    case round =>
      obtain ⟨k, hk, rfl, heq, hb⟩ := hrel
      by_cases hkn : k < n
      · obtain ⟨b, off, rfl, hlt, hcell⟩ := hc (by omega)
        obtain ⟨b', off', rfl, hlt', hcell'⟩ := hc' (by omega)
        have h1 := (hb.cell (p := ⟨b, off + k, none⟩) hlt).trans (hcell k hkn)
        have h2 := (hb.cell (p := ⟨b', off' + k, none⟩) hlt').trans (hcell' k hkn)
        have HE := Lib.hid heq
        clear heq hcell hcell' hc hc'
        by_cases he : at0 xs k = at0 ys k
        · go_wp2
          go_quiet (fail)
          go_wp2
          go_roundw
          case rel => exact ⟨k + 1, by omega, by go_num, fun j hj => by rcases (show j < k ∨ j = k by omega) with h | rfl; exact HE.out j h; exact he, below_drewN hb _⟩
          case measure => simp [intOf]; omega
        · have hf : decide (xs = ys) = false := by simp; rintro rfl; exact he rfl
          have hne : (at0 xs k != at0 ys k) = true := by rw [bne_iff_ne]; exact he
          have HF := Lib.hid hf
          clear hf
          go_wp2
          go_quiet (fail)
          go_wp2
          go_ret
          exact ⟨by rw [HF.out]; rfl, below_drewN hb _⟩
      · have hf : decide (xs = ys) = true := by simp; exact eq_of_at0 H.out.1 (fun i hi => heq i (by have := H.out.2; omega))
        have HF := Lib.hid hf
        have HE := Lib.hid heq
        clear hf heq
        go_wp2
        go_ret
        exact ⟨by rw [HF.out]; rfl, hb⟩
  · have hf : decide (xs = ys) = false := by simp; rintro rfl; exact hl rfl
    have hb : ((xs.length : Int) != ys.length) = true := by rw [bne_iff_ne]; omega
    have HF := Lib.hid hf
    clear hf hl
    go_enter Try.func27, Try.ntmps27
    go_wp2
    go_ret
    exact ⟨by rw [HF.out]; rfl, Below.refl _ _⟩
theorem eq_of_tabR : ∀ {xs ys : List (List Int)}, xs.length = ys.length → (∀ i, i < xs.length → tabR xs i = tabR ys i) → xs = ys := by
  intro xs ys hl h
  apply List.ext_getElem hl
  intro i h1 h2
  rw [← tabR_lt h1, ← tabR_lt h2]; exact h i h1
set_option maxRecDepth 100000 in
set_option maxHeartbeats 2000000 in
theorem tables_any (v u : Value) (xs ys : List (List Int)) (w : World) (hx : SlII w v xs) (hy : SlII w u ys) :
    Calls Try.prog 20 #[v, u] w fun e w' => e = .returned (.bool (decide (xs = ys))) ∧ Below w.heap.size w w' := by
  obtain ⟨ad, cap, rfl, hm, -, hc⟩ := hx.opened
  obtain ⟨ad', cap', rfl, hm', -, hc'⟩ := hy.opened
  obtain ⟨n, hn⟩ : ∃ n, n = xs.length := ⟨_, rfl⟩
  by_cases hl : xs.length = ys.length
  · rw [← hl] at hc' ⊢
    rw [← hn] at hm hc hc' ⊢
    have H := Lib.hid (And.intro hl hn)
    have HC := Lib.hid (And.intro hc hc')
    clear hl hn hm' hc hc' hx hy
    go_enter Try.func20, Try.ntmps20
    go_wp2
    go_loopw [5] (fun i wr => ∃ k : Nat, k ≤ n ∧ i = .int .i64 k ∧ (∀ j, j < k → tabR xs j = tabR ys j) ∧ Below w.heap.size w wr) (fun i _ => n - (intOf i).toNat)
    case atStart => exact ⟨0, Nat.zero_le _, rfl, fun _ h => by omega, Below.refl _ _⟩
    case round =>
      obtain ⟨k, hk, rfl, heq, hb⟩ := hrel
      have HE := Lib.hid heq
      clear heq
      by_cases hkn : k < n
      · obtain ⟨b, off, adx, capx, rfl, hlt, hcell, hrow⟩ := HC.out.1 k hkn
        obtain ⟨b', off', ady, capy, rfl, hlt', hcell', hrow'⟩ := HC.out.2 k hkn
        have h1 := (hb.cell (p := ⟨b, off + k, none⟩) hlt).trans hcell
        have h2 := (hb.cell (p := ⟨b', off' + k, none⟩) hlt').trans hcell'
        have hl1 := Nat.lt_of_lt_of_le hlt hb.size
        have hl2 := Nat.lt_of_lt_of_le hlt' hb.size
        have hnum := fun (W : World) (hW : Below wr.heap.size wr W) => numbers_any _ _ _ _ W (hrow.below (hb.trans (hW.mono hb.size)) (Nat.le_refl _)) (hrow'.below (hb.trans (hW.mono hb.size)) (Nat.le_refl _))
        have hf : decide (tabR xs k = tabR ys k) = false → decide (xs = ys) = false := by
          intro h
          simp at h ⊢
          rintro rfl
          exact h rfl
        have hf2 : decide (tabR xs k = tabR ys k) = true → tabR xs k = tabR ys k := by simp
        have HF := Lib.hid (And.intro hf hf2)
        generalize decide (tabR xs k = tabR ys k) = d at *
        generalize (tabR xs k).length = lx at *
        generalize (tabR ys k).length = ly at *
        clear hcell hcell' hrow hrow' hf hf2
        have e1 := fun (x : Ab wr.heap.size wr) => (x.ok.cell (p := ⟨b, off + k, none⟩) hl1).trans h1
        have e2 := fun (x : Ab wr.heap.size wr) => (x.ok.cell (p := ⟨b', off' + k, none⟩) hl2).trans h2
        have e3 := fun (x : Ab wr.heap.size wr) => hnum x.val x.ok
        cases d
        · have hff := Lib.hid (HF.out.1 rfl)
          clear HF
          go_wp2
          refine wp_region_ab wr.heap.size wr (by kernel_rfl) (by kernel_rfl) (Below.refl _ _) ?_
          unfold AbC
          repeat go_big_quiet_step (first | (go_at_call 27; exact Calls.ab _ (Nat.le_refl _) (e3 _)))
          refine wpQuiet_nil ?_
          rintro W' ⟨z, rfl⟩
          have hz := hb.trans (z.ok.mono hb.size)
          go_wp2
          go_ret
          exact ⟨by rw [hff.out]; rfl, hz⟩
        · have hff := Lib.hid (HF.out.2 rfl)
          clear HF
          go_wp2
          refine wp_region_ab wr.heap.size wr (by kernel_rfl) (by kernel_rfl) (Below.refl _ _) ?_
          unfold AbC
          repeat go_big_quiet_step (first | (go_at_call 27; exact Calls.ab _ (Nat.le_refl _) (e3 _)))
          refine wpQuiet_nil ?_
          rintro W' ⟨z, rfl⟩
          have hz := hb.trans (z.ok.mono hb.size)
          go_wp2
          go_roundw
          case rel => exact ⟨k + 1, by omega, by go_num, fun j hj => by rcases (show j < k ∨ j = k by omega) with h | rfl; exact HE.out j h; exact hff.out, hz⟩
          case measure => simp [intOf]; omega
      · have hf : decide (xs = ys) = true := by simp; exact eq_of_tabR H.out.1 (fun i hi => HE.out i (by have := H.out.2; omega))
        have HF := Lib.hid hf
        clear hf
        go_wp2
        go_ret
        exact ⟨by rw [HF.out]; rfl, hb⟩
  · have hf : decide (xs = ys) = false := by simp; rintro rfl; exact hl rfl
    have hb : ((xs.length : Int) != ys.length) = true := by rw [bne_iff_ne]; omega
    have HF := Lib.hid hf
    clear hf hl hc hc' hx hy
    go_enter Try.func20, Try.ntmps20
    go_wp2
    go_ret
    exact ⟨by rw [HF.out]; rfl, Below.refl _ _⟩
theorem size56 : (Try.prog.info? 56).map (·.size) = some 2 := by kernel_rfl
set_option maxRecDepth 100000 in
theorem span_any (lo hi : Int) (w : World) :
    Calls Try.prog 63 #[.int .i64 lo, .int .i64 hi] w fun e w' => e = .returned (.agg #[.int .i64 lo, .int .i64 hi]) ∧ Below w.heap.size w w' := by
  go_enter Try.func63, Try.ntmps63
  go_wp2
  exact bodyPost_ret (results_blk rfl _ _ w.heap.size rfl (heap_newI rfl) Try.underlying56 rfl size56 rfl) rfl ⟨rfl, (Below.refl _ _).alloc (Nat.le_refl _) _⟩
set_option maxRecDepth 100000 in
set_option maxHeartbeats 1000000 in
theorem E_any (r : Int) (w : World) :
    Calls Try.prog 39 #[.int .i64 r] w fun e w' => ∃ v, e = .returned (.agg (encY ⟨r, 6, 3, [⟨1000, 3, 4, 3⟩, ⟨500, 2, 3, 3⟩]⟩ v)) ∧ SlW w' v [⟨1000, 3, 4, 3⟩, ⟨500, 2, 3, 3⟩] ∧ Below w.heap.size w w' := by
  go_enter Try.func39, Try.ntmps39
  refine wp_seq_k (fun K hK => ?_)
  have HK := Lib.hid hK; clear hK
  go_wp2
  refine HK.out _ _ ?_; clear HK K
  generalize hw1 : World.alloc _ _ = w1
  obtain ⟨b1, hB, hs1⟩ := blk1 hw1
  clear hw1
  have f0 := free_blk (i := 0) b1
  have c0 := cell_blk (i := 0) b1
  go_wp2_with (first | (go_at_call 63; first | (refine (span_any 3 4 _).mono ?_; rintro e w2 ⟨rfl, hb2⟩) | (refine (span_any 2 3 _).mono ?_; rintro e w3 ⟨rfl, hb3⟩; have b13 := blk_keep (blk_keep b1 hb2) hb3; have hlt := lt_blk b13)) | (refine wpList_store_blk rfl 24 _ _ rfl _ rfl rfl ((heap_oldI hlt).trans b13) size24 rfl rfl (by simp [Value.oneCell']) ?_))
  have hX : Below w.heap.size w (w3.alloc (.cells #[.int .i64 1000, .int .i64 3, .int .i64 4, .int .i64 3, .int .i64 500, .int .i64 2, .int .i64 3, .int .i64 3] 58)) := ((hB.trans (hb2.mono (by omega))).trans (hb3.mono (by have := hb2.size; omega))).alloc (by have := hb2.size; have := hb3.size; omega) _
  have h4 : (w3.alloc (.cells #[.int .i64 1000, .int .i64 3, .int .i64 4, .int .i64 3, .int .i64 500, .int .i64 2, .int .i64 3, .int .i64 3] 58)).heap[w3.heap.size]? = some (.cells (([⟨1000, 3, 4, 3⟩, ⟨500, 2, 3, 3⟩] : List Wt).flatMap encW).toArray 58 (0, 0)) := heap_newI rfl
  refine bodyPost_ret (results_blk rfl _ _ w.heap.size rfl (World.putObj_heap_same (by rw [World.size_alloc]; omega)) Try.underlying24 rfl size24 rfl) rfl ⟨.slice (some ⟨w3.heap.size, 0, none⟩) 2 2, rfl, slG_new encW_len (by decide) (by decide) ((World.putObj_heap_other (by omega)).trans h4), below_putObj hX (Nat.le_refl _)⟩
end Ytndmjginmomfiaa
end Go.Proofs
