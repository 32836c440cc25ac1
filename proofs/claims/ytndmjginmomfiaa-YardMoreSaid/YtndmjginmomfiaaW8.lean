/- The term of a state. -/
import Derived.Test.YtndmjginmomfiaaW7
open Go Go.RowKit Go.YtndmjginmomfiaaIt
namespace Go.Proofs
namespace Ytndmjginmomfiaa
def noT (m s : Nat) (x : List Nat) : Bool := !hasN (x.getD m 0) s s
theorem noT_lay {y : Yd} (ok : Ok y) {s m : Nat} (hs : s ≤ y.room.toNat) (d : Nat) : noT m s (lay y d) = !keepB y d s m := by
  have h1 := ok.room1
  unfold noT keepB
  rw [hasN_one (by omega) (by omega)]; rfl
theorem idx_term {y : Yd} (ok : Ok y) {k : Nat} (hk : Stab y k) {s m : Nat} (hs : s ≤ y.room.toNat) (hm : m < y.ws.length) :
    (idx (noT m s) (layL y k) = -1 ∧ termP y s m = never) ∨ (∃ t : Nat, idx (noT m s) (layL y k) = (t : Int) + 1 ∧ termP y s m = t ∧ t ≤ 244) := by
  have hc := term_lt ok
  rcases term_cases ok hs hm with ⟨h1, h2⟩ | ⟨t, h1, h2, h3, h4⟩
  · refine .inl ⟨idx_none _ fun j hj => ?_, h1⟩
    rw [layL_get, noT_lay ok hs, h2]; rfl
  · refine .inr ⟨t, ?_, h1, by omega⟩
    have htk : t + 1 ≤ k := by
      refine Classical.byContradiction fun hn => ?_
      have e : lay y (t + 1) = lay y t := (hk.all (by omega)).trans (hk.all (by omega)).symm
      unfold keepB at h3 h4
      rw [e, h3] at h4; cases h4
    have h := idx_at (noT m s) (xs := layL y k) (k := t + 1) (by rw [layL_len]; omega) (fun j hj => by
      rw [layL_get, noT_lay ok hs, keep_anti ok (d := j) (d' := t) (by omega) h3]; rfl) (by rw [layL_get, noT_lay ok hs, h4]; rfl)
    rw [h]; rfl
set_option maxRecDepth 100000 in
set_option maxHeartbeats 1000000 in
theorem test67_any (x : List Nat) (m s bw bs : Nat) (w : World) (hx : Lw x) (hm : m < 4) (h1 : w.heap[bw]? = some (.cells #[.int .i64 m] 3 (0, 0))) (h2 : w.heap[bs]? = some (.cells #[.int .i64 s] 3 (0, 0))) :
    Calls Try.prog 67 #[.agg (encL x), .pointer (some ⟨bw, 0, none⟩), .pointer (some ⟨bs, 0, none⟩)] w fun e w' => e = .returned (.bool (noT m s x)) ∧ Below w.heap.size w w' := by
  unfold noT
  go_enter Try.func67, Try.ntmps67
  refine wp_seq_k (fun K hK => ?_)
  have HK := Lib.hid hK; clear hK
  go_wp2
  refine HK.out _ _ ?_; clear HK K
  generalize hw1 : World.alloc _ _ = w1
  obtain ⟨b1, hb1, hs1⟩ := blk1 hw1
  clear hw1
  have h3 := blk_keep h1 hb1
  have h4 := blk_keep h2 hb1
  have c1 := (cell_blk (i := m) b1).trans (encL_get (by rw [hx.len]; exact hm))
  have c3 := cell_blk (i := 0) h3
  have c4 := cell_blk (i := 0) h4
  simp only [List.getElem?_toArray, List.getElem?_cons_zero] at c3 c4
  have hxl := hx.lt m
  generalize x.getD m 0 = z at *
  have hi0 : (0 : Int) ≤ (m : Int) := by omega
  have hi4 : (m : Int) < 4 := by omega
  refine wp_seq_k (fun K hK => ?_)
  have HK := Lib.hid hK; clear hK
  refine wp_region_ab w1.heap.size w1 (by kernel_rfl) (by kernel_rfl) (Below.refl _ _) ?_
  have e1 := fun (z : Ab w1.heap.size w1) => (z.ok.cell (p := ⟨w.heap.size, m, none⟩) (lt_blk b1)).trans c1
  have e3 := fun (z : Ab w1.heap.size w1) => (z.ok.cell (p := ⟨bw, 0, none⟩) (lt_blk h3)).trans c3
  have e4 := fun (z : Ab w1.heap.size w1) => (z.ok.cell (p := ⟨bs, 0, none⟩) (lt_blk h4)).trans c4
  unfold AbC
  repeat go_big_quiet_step (first | (go_at_call 60; exact Calls.ab _ (Nat.le_refl _) (has_any z s s _ hxl (Int.le_refl _))))
  refine wpQuiet_nil ?_
  rintro W' ⟨q, rfl⟩
  refine HK.out _ _ ?_; clear HK
  have hq := hb1.trans (q.ok.mono hb1.size)
  go_wp2
  go_ret
  exact ⟨rfl, hq⟩
set_option maxRecDepth 100000 in
set_option maxHeartbeats 1000000 in
theorem term_any (y : Yd) (v vl : Value) (g k s m : Nat) (w : World) (ok : Ok y) (hg : Gm w g y v vl (layL y k)) (hk : Stab y k) (hs : s ≤ y.room.toNat) (hm : m < y.ws.length) :
    Calls Try.prog 41 #[.pointer (some ⟨g, 0, none⟩), .int .i64 s, .int .i64 m] w fun e w' => e = .returned (.int .i64 (termP y s m)) ∧ Below w.heap.size w w' := by
  have hmf := hmf
  have hr := ok.room1
  have hn1 := ok.n1
  have hit := idx_term ok hk hs hm
  obtain ⟨T, hT⟩ : ∃ T, T = termP y s m := ⟨_, rfl⟩
  rw [← hT] at hit ⊢
  have HT := Lib.hid hit
  clear hT hit
  go_enter Try.func41, Try.ntmps41
  refine wp_seq_k (fun K hK => ?_)
  have HK := Lib.hid hK; clear hK
  go_wp2
  refine HK.out _ _ ?_; clear HK K
  generalize hw1 : World.alloc _ _ = w1
  obtain ⟨b1, b2, hb1, hs1⟩ := blk2 hw1
  clear hw1
  have hgb := blk_keep hg.blk hb1
  have c4 := cell_blk (i := 4) hgb
  simp only [List.getElem?_toArray, List.getElem?_cons_zero, List.getElem?_cons_succ] at c4
  have h66 := index66_any vl (layL y k) 67 #[.pointer (some ⟨w.heap.size + 1, 0, none⟩), .pointer (some ⟨w.heap.size, 0, none⟩)] (noT m s) w1
    (fun x hx => by simp [layL] at hx; obtain ⟨d, _, rfl⟩ := hx; exact lay_len y d) (hg.ly.below hb1 (Nat.le_refl _)) (enters_of Try.func67 (by kernel_rfl) rfl)
    (fun x hx W hW => by
      simp [layL] at hx; obtain ⟨d, _, rfl⟩ := hx
      exact test67_any (lay y d) m s (w.heap.size + 1) w.heap.size W (lay_lw ok d) (by omega) (blk_keep b2 hW) (blk_keep b1 hW))
  have H66 := Lib.hid h66
  clear h66 b1 b2 hgb
  rcases HT.out with ⟨hi, hT⟩ | ⟨t, hi, hT, ht⟩
  · rw [hi] at H66
    subst hT
    clear hi HT
    go_wp2_with (go_at_call 66; refine H66.out.mono ?_; rintro e w2 ⟨rfl, hb2⟩)
    go_ret
    exact ⟨rfl, hb1.trans (hb2.mono hb1.size)⟩
  · rw [hi] at H66
    subst hT
    clear hi HT
    go_wp2_with (go_at_call 66; refine H66.out.mono ?_; rintro e w2 ⟨rfl, hb2⟩)
    go_ret
    exact ⟨rfl, hb1.trans (hb2.mono hb1.size)⟩
end Ytndmjginmomfiaa
end Go.Proofs
