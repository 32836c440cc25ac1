/- Pans: the laws' own small functions. -/
import Derived.Test.YteileadcmekkoaaQ2
open Go Go.RowKit Go.YteileadcmekkoaaIt
namespace Go.Proofs
namespace Yteileadcmekkoaa
set_option maxRecDepth 100000 in
set_option maxHeartbeats 1000000 in
theorem numbers_any (v u : Value) (xs ys : List Int) (w : World) (hx : SlI w v xs) (hy : SlI w u ys) :
    Calls Try.prog 30 #[v, u] w fun e w' => e = .returned (.bool (decide (xs = ys))) ∧ Below w.heap.size w w' := by
  obtain ⟨ad, cap, rfl, hm, -, hc⟩ := hx
  obtain ⟨ad', cap', rfl, hm', -, hc'⟩ := hy
  obtain ⟨n, hn⟩ : ∃ n, n = xs.length := ⟨_, rfl⟩
  by_cases hl : xs.length = ys.length
  · rw [← hl] at hc' ⊢
    rw [← hn] at hm hc hc' ⊢
    have H := Lib.hid (And.intro hl hn)
    clear hl hn hm'
    go_enter Try.func30, Try.ntmps30
    go_wp2
    go_loopw [5] (fun i wr => ∃ k : Nat, k ≤ n ∧ i = .int .i64 k ∧ (∀ j, j < k → at0 xs j = at0 ys j) ∧ Below w.heap.size w wr) (fun i _ => n - (intOf i).toNat)
    case atStart => exact ⟨0, Nat.zero_le _, rfl, fun _ h => by omega, Below.refl _ _⟩
    case round =>
      obtain ⟨k, hk, rfl, heq, hb⟩ := hrel
      by_cases hkn : k < n
      · obtain ⟨b, off, rfl, hlt, hcell⟩ := hc (by omega)
        obtain ⟨b', off', rfl, hlt', hcell'⟩ := hc' (by omega)
        have h1 := (hb.cell (p := ⟨b, off + k, none⟩) hlt).trans (hcell k hkn)
        have h2 := (hb.cell (p := ⟨b', off' + k, none⟩) hlt').trans (hcell' k hkn)
        have HE := Lib.hid heq
        clear heq hcell hcell' hc hc'
        by_cases he : at0 xs k = at0 ys k
        · go_wp2
          go_quiet (fail)
          go_wp2
          go_roundw
          case rel => exact ⟨k + 1, by omega, by go_num, fun j hj => by rcases (show j < k ∨ j = k by omega) with h | rfl; exact HE.out j h; exact he, below_drewN hb _⟩
          case measure => simp [intOf]; omega
        · have hf : decide (xs = ys) = false := by simp; rintro rfl; exact he rfl
          have hne : (at0 xs k != at0 ys k) = true := by rw [bne_iff_ne]; exact he
          have HF := Lib.hid hf
          clear hf
          go_wp2
          go_quiet (fail)
          go_wp2
          go_ret
          exact ⟨by rw [HF.out]; rfl, below_drewN hb _⟩
      · have hf : decide (xs = ys) = true := by simp; exact eq_of_at0 H.out.1 (fun i hi => heq i (by have := H.out.2; omega))
        have HF := Lib.hid hf
        have HE := Lib.hid heq
        clear hf heq
        go_wp2
        go_ret
        exact ⟨by rw [HF.out]; rfl, hb⟩
  · have hf : decide (xs = ys) = false := by simp; rintro rfl; exact hl rfl
    have hb : ((xs.length : Int) != ys.length) = true := by rw [bne_iff_ne]; omega
    have HF := Lib.hid hf
    clear hf hl
    go_enter Try.func30, Try.ntmps30
    go_wp2
    go_ret
    exact ⟨by rw [HF.out]; rfl, Below.refl _ _⟩
theorem size80 : (Try.prog.info? 80).map (·.size) = some 2 := by kernel_rfl
theorem span_any (a b : Int) (w : World) : Calls Try.prog 45 #[.int .i64 a, .int .i64 b] w fun e w' => e = .returned (.agg #[.int .i64 a, .int .i64 b]) ∧ Below w.heap.size w w' := by
  go_enter Try.func45, Try.ntmps45
  go_wp2
  exact bodyPost_ret (results_blk rfl _ _ w.heap.size rfl (heap_newI rfl) Try.underlying80 rfl size80 rfl) rfl ⟨rfl, (Below.refl _ _).alloc (Nat.le_refl _) _⟩
theorem per_any (a b : Int) (w : World) : Calls Try.prog 40 #[.int .i64 a, .int .i64 b] w fun e w' => e = .returned (.agg #[.int .i64 a, .int .i64 b]) ∧ Below w.heap.size w w' := by
  go_enter Try.func40, Try.ntmps40
  go_wp2
  exact bodyPost_ret (results_blk rfl _ _ w.heap.size rfl (heap_newI rfl) Try.underlying26 rfl size26 rfl) rfl ⟨rfl, (Below.refl _ _).alloc (Nat.le_refl _) _⟩
theorem point_any (a : Int) (w : World) : Calls Try.prog 51 #[.int .i64 a] w fun e w' => e = .returned (.agg #[.int .i64 a, .int .i64 a]) ∧ Below w.heap.size w w' := by
  have h := fun W => span_any a a W
  go_enter Try.func51, Try.ntmps51
  go_wp2_with (first | (go_at_call 45; refine (h _).mono ?_; rintro e w2 ⟨rfl, hb⟩; have b2 : w2.heap[w.heap.size]? = some (.cells #[.int .i64 0, .int .i64 0] 80 (0, 0)) := blk_keep (heap_newI rfl) hb) | (refine wpList_store_blk rfl 80 _ _ rfl _ rfl rfl b2 size80 rfl rfl (by simp [Value.oneCell']) ?_))
  have hB : Below w.heap.size w w2 := ((Below.refl _ w).alloc (Nat.le_refl _) _).trans (hb.mono (by rw [World.size_alloc]; omega))
  exact bodyPost_ret (results_blk rfl _ _ w.heap.size rfl (World.putObj_heap_same (lt_blk b2)) Try.underlying80 rfl size80 rfl) rfl ⟨rfl, below_putObj hB (Nat.le_refl _)⟩
end Yteileadcmekkoaa
end Go.Proofs
