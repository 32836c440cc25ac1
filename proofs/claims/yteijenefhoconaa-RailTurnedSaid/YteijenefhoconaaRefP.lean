/- The reference: plan, Safe, Stuck, good, Good, Dispatch. -/
import Derived.Test.YteijenefhoconaaFin
import Derived.Test.YteijenefhoconaaDisp
open Go Go.RowKit Go.YteijenefhoconaaIt
namespace Go.Proofs
namespace Yteijenefhoconaa
theorem shl_any {n : Nat} (h : n ≤ 5) : wrap64 (2 ^ (3 * n)) = ((8 ^ n : Nat) : Int) := by
  rcases (show n = 0 ∨ n = 1 ∨ n = 2 ∨ n = 3 ∨ n = 4 ∨ n = 5 by omega) with rfl | rfl | rfl | rfl | rfl | rfl <;> decide +kernel
theorem mt_made {W : World} {b N : Nat} (h : W.ownsRow b 4 1 (.slice (some ⟨b, 0, none⟩) N N) N (madeCells (Value.bool false).cells (N * 1)).toList) : Mt W b N (fun _ => false) := by
  have hc := h.cellAt
  rcases h.2 with ⟨h', _⟩ | ⟨g, cap, cur, hv, _, hh, _, _, hs, _⟩
  · cases h'
  · injection hv with e1 _ e3
    injection e1 with e1
    injection e1 with e1
    subst e1
    subst e3
    refine ⟨cur, hh, by omega, fun i hi => ?_⟩
    have := hc i (by omega)
    rw [cell_blk hh] at this
    have e : (Value.bool false).cells = #[Value.bool false] := rfl
    rw [this, e, toList_madeCells_one, List.getElem?_replicate, if_pos (by omega)]
set_option maxRecDepth 100000 in
set_option maxHeartbeats 1000000 in
theorem plan50_any (vL vt : Value) (L : List Int) (ts : List Tn) (w : World) (hL : SlI w vL L) (ht : SlT w vt ts) (he : lineE L ts = 0) :
    Calls Try.prog 50 #[vL, vt] w fun e w' => (∃ ad cap n, e = .returned (.tuple #[.slice ad n cap, .bool (safeT L ts)])) ∧ Below w.heap.size w w' := by
  have h5 := (vt_of he).t5
  have hL0 := hL
  have ht0 := ht
  obtain ⟨ad, cap, rfl, hm, hc⟩ := ht
  have hsh := shl_any h5
  obtain ⟨N, hN⟩ : ∃ N, N = 8 ^ ts.length := ⟨_, rfl⟩
  have hN5 : N ≤ 32768 := by
    rw [hN]
    have : 8 ^ ts.length ≤ 8 ^ 5 := Nat.pow_le_pow_right (by omega) h5
    simpa using this
  rw [← hN] at hsh
  have HN := Lib.hid hN
  have HSH := Lib.hid hsh
  clear hN hc hsh
  obtain ⟨i4, hi4, hz1, hz2, hz3⟩ := info_parts info4
  go_enter Try.func50, Try.ntmps50
  refine wp_seq_k (fun K hK => ?_)
  have HK := Lib.hid hK; clear hK
  go_wp2
  refine HK.out _ _ ?_; clear HK K
  have h71 := fun (w2 : World) (hb : Below w.heap.size w w2) (hmt : Mt w2 w.heap.size N (fun _ => false)) =>
    finish_any vL L (tos ts) w.heap.size N (by rw [tos_len]; exact HN.out.symm) ts (.slice ad ts.length cap) w2 (fun _ => false) ⟨he, rfl⟩ (hL0.below hb (Nat.le_refl _)) (ht0.below hb (Nat.le_refl _)) hmt (fun _ _ _ h => by cases h)
  have H71 := Lib.hid h71
  clear h71
  go_wp2_with (first
    | (refine wpList_make_full w rfl (.tmp 11) (.tmp 11) 41 rfl w.heap.size 4 i4 (.bool false) 1 Try.underlying41 hi4 hz1 hz2 .i64 .i64 _ _ N rfl rfl HSH.out HSH.out (by rw [hz3]; omega) (Nat.le_trans hN5 (by decide)) (Nat.le_refl _) ?_; intro w2 q1 q2; have hb2 : Below w.heap.size w w2 := ⟨q2.os, q2.tape, q2.output, q2.size, fun k hk => q2.block k hk (by simp)⟩; have hM2 := mt_made q1)
    | (go_at_call 71; refine (H71.out _ hb2 hM2).mono ?_; rintro e w3 ⟨⟨ad3, cap3, xs, rfl, -, -⟩, hb3, -⟩))
  go_ret2
  exact ⟨⟨_, _, _, rfl⟩, hb2.trans ⟨hb3.os, hb3.tape, hb3.output, hb3.size, fun k hk => hb3.block k (Nat.lt_of_lt_of_le hk hb2.size) (by omega)⟩⟩
end Yteijenefhoconaa
end Go.Proofs
