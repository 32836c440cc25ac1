/- Plan. -/
import Derived.Test.YteijenefhoconaaPlan
open Go Go.RowKit Go.YteijenefhoconaaIt
namespace Go.Proofs
namespace Yteijenefhoconaa
theorem sum_le {l : List Nat} {b : Nat} (h : ∀ x ∈ l, x ≤ b) : l.sum ≤ l.length * b := by
  induction l with
  | nil => simp
  | cons x l ih =>
    have h1 := h x (by simp)
    have h2 := ih (fun y hy => h y (by simp [hy]))
    simp only [List.sum_cons, List.length_cons, Nat.add_mul]
    omega
theorem left_le {L T A : List Int} (ok : Okt L T A) : left A T ≤ 40 := by
  unfold left
  have h := sum_le (l := (List.range T.length).map fun i => (at0 A i - at0 T i).natAbs) (b := 8) (fun x hx => by
    simp only [List.mem_map, List.mem_range] at hx
    obtain ⟨i, hi, rfl⟩ := hx
    have h1 := ok.at_ i hi
    have h2 := ok.to_ i hi
    have h3 := ok.l8
    omega)
  have := ok.t5
  simp only [List.length_map, List.length_range] at h
  omega
set_option maxRecDepth 100000 in
set_option maxHeartbeats 4000000 in
theorem planX_any (vL vt : Value) (L : List Int) (ts : List Tn) (w : World) (hL : SlI w vL L) (ht : SlT w vt ts) :
    Calls Try.prog 20 #[vL, vt] w fun e w' => Below w.heap.size w w' ∧
      ((lineE L ts ≠ 0 ∧ e = .returned (.tuple #[.slice none 0 0, .int .i64 (lineE L ts)])) ∨
       (lineE L ts = 0 ∧ safeB L (tos ts) (pos ts) = false ∧ e = .returned (.tuple #[.slice none 0 0, .int .i64 16])) ∨
       (lineE L ts = 0 ∧ safeB L (tos ts) (pos ts) = true ∧ ∃ v, e = .returned (.tuple #[v, .int .i64 0]) ∧ SlI w' v (planL L (tos ts) (pos ts)))) := by
  have h48 := track_any vL vt L ts w hL ht
  have H := Lib.hid h48
  clear h48
  have hP : (arr (pos ts)).size = 5 := by rw [arr_size]; exact posK_len _ _
  go_enter Try.func20, Try.ntmps20
  iterate 2
    refine wp_seq_k (fun K hK => ?_)
    have HK := Lib.hid hK; clear hK
    go_wp2_with (first | (refine wpList_store_blk rfl 84 _ _ rfl _ rfl rfl (heap_newI rfl) size84 (by first | exact (arr_size _).trans hA | exact hP) rfl (arr_one _) ?_) | (go_at_call 48; refine H.out.mono ?_; rintro e w2 ⟨hb2, hcs⟩; rcases hcs with ⟨hne, A, hA, rfl⟩ | ⟨he, bx, bm, vT, rfl, hT2, hM2, hbm⟩))
    all_goals refine HK.out _ _ ?_; clear HK K
  · have hneb : (lineE L ts != 0) = true := bne_iff_ne.2 hne
    go_wp2
    go_ret2
    exact ⟨below_putObj (hb2.alloc hb2.size _) hb2.size, .inl ⟨hne, rfl⟩⟩
  generalize hw3 : World.putObj _ _ _ = w3
  have b7 : w3.heap[w2.heap.size]? = some (.cells (arr (pos ts)) 84 (0, 0)) := by rw [← hw3]; exact World.putObj_heap_same (by rw [World.size_alloc]; omega)
  have hbf : Below w2.heap.size w2 w3 := by rw [← hw3]; exact below_putObj ((Below.refl _ _).alloc (Nat.le_refl _) _) (Nat.le_refl _)
  have hB3 : Below w.heap.size w w3 := hb2.trans (hbf.mono hb2.size)
  have hT3 : Tk w3 bx bm vL vT L (tos ts) := hT2.below hbf (Nat.le_refl _)
  have hM3 : Memo w3 bm (GSafe L (tos ts)) := hM2.below hbf hM2.lt
  have hs3 : w2.heap.size + 1 ≤ w3.heap.size := by rw [← hw3]; simp
  have hlm := hM2.lt
  have ok := okt_of he
  have he0 : (lineE L ts != 0) = false := by simp [he]
  clear hw3
  have h49 := safe_any bx bm vL vT L (tos ts) (pos ts) w3 ok hT3 hM3
  obtain ⟨sb, hsb⟩ : ∃ sb, sb = safeB L (tos ts) (pos ts) := ⟨_, rfl⟩
  rw [← hsb] at h49
  have HSB := Lib.hid hsb
  clear hsb
  have hl40 := left_le ok
  have hB4 : ∀ W, Bm bm w3.heap.size w3 W → Below w.heap.size w W := fun W h => hB3.trans ⟨h.os, h.tape, h.output, h.size, fun k hk => h.block k (Nat.lt_of_lt_of_le hk hB3.size) (by omega)⟩
  cases sb
  · go_wp2_with (first
      | (go_at_call 49; refine h49.mono ?_; rintro e w4 ⟨rfl, -, hb4⟩)
      | (refine wpList_load_blk rfl 84 _ rfl _ rfl b7 Try.underlying84 rfl size84 hP ?_))
    go_ret2
    exact ⟨hB4 _ hb4, .inr (.inl ⟨he, HSB.out.symm, rfl⟩)⟩
  · have hsf := Lib.hid HSB.out.symm
    go_wp2_with (first
      | (go_at_call 49; refine h49.mono ?_; rintro e w4 ⟨rfl, hM4, hb4⟩; have b7' := (hb4.block _ (lt_blk b7) (by omega)).trans b7; have h54 := plan_any bx bm vL vT L (tos ts) (pos ts) w4 ok hsf.out (hT3.bm hM3 hb4) hM4 (by omega))
      | (refine wpList_load_blk rfl 84 _ rfl _ rfl b7 Try.underlying84 rfl size84 hP ?_)
      | (refine wpList_load_blk rfl 84 _ rfl _ rfl b7' Try.underlying84 rfl size84 hP ?_)
      | (go_at_call 54; refine h54.mono ?_; rintro e w5 ⟨v, rfl, hv, hb5⟩))
    go_ret2
    exact ⟨hB4 _ (hb4.trans (hb5.mono hb4.size)), .inr (.inr ⟨he, hsf.out, v, rfl, hv⟩)⟩
end Yteijenefhoconaa
end Go.Proofs
