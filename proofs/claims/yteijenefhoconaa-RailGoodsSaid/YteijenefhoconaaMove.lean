/- One train's move, and the trains of a state. -/
import Derived.Test.YteijenefhoconaaChk
open Go Go.RowKit Go.YteijenefhoconaaIt
namespace Go.Proofs
namespace Yteijenefhoconaa

/-- What a move answers: the state, and the error. -/
def moveE (L T A : List Int) (i : Int) : Int :=
  if btw 0 i (T.length - 1) then (if at0 A i.toNat = at0 T i.toNat then 22 else if canGo L T A i.toNat then 0 else 15) else 5
def moveS (L T A : List Int) (i : Int) : List Int :=
  if moveE L T A i = 0 then after L T A i.toNat else A
set_option maxRecDepth 100000 in
set_option maxHeartbeats 4000000 in
theorem move_any (bx bm : Nat) (vL vT : Value) (L T A : List Int) (i : Int) (w : World) (ok : Okt L T A) (hT : Tk w bx bm vL vT L T) :
    Calls Try.prog 55 #[.pointer (some ⟨bx, 0, none⟩), .agg (arr A), .int .i64 i] w fun e w' => e = .returned (.tuple #[.agg (arr (moveS L T A i)), .int .i64 (moveE L T A i)]) ∧ Below w.heap.size w w' := by
  have hA5 : (arr A).size = 5 := by rw [arr_size, ok.a5]
  obtain ⟨ad, capT, rfl, hmT, hcT⟩ := hT.st
  have c1 := cell_blk (i := 1) hT.blk
  simp at c1
  have hbx := lt_blk hT.blk
  go_enter Try.func55, Try.ntmps55
  refine wp_seq_k (fun K hK => ?_)
  have HK := Lib.hid hK; clear hK
  go_wp2
  refine HK.out _ _ ?_; clear HK K
  generalize hw1 : World.alloc _ _ = w1
  have bA : w1.heap[w.heap.size]? = some (.cells (arr A) 84 (0, 0)) := by rw [← hw1]; simp (disch := first | omega | (simp only [World.size_alloc]; done) | (simp only [World.size_alloc]; omega)) only [heap_newI, heap_oldI]
  have bR : w1.heap[w.heap.size + 1]? = some (.cells (arr [0, 0, 0, 0, 0]) 84 (0, 0)) := by rw [zero3, ← hw1]; simp (disch := first | omega | (simp only [World.size_alloc]; done) | (simp only [World.size_alloc]; omega)) only [heap_newI]
  have hb1 : Below w.heap.size w w1 := by rw [← hw1]; go_grown
  have hs1 : w.heap.size + 2 ≤ w1.heap.size := by rw [← hw1]; simp
  clear hw1
  have hT1 : Tk w1 bx bm vL _ L T := hT.below hb1 (Nat.le_refl _)
  have d1 := (hb1.cell (p := ⟨bx, 1, none⟩) hbx).trans c1
  obtain ⟨o, ho⟩ : ∃ o, o = btw 0 i ((T.length : Int) - 1) := ⟨_, rfl⟩
  have hbt : ∀ w, Calls Try.prog 59 #[.int .i64 0, .int .i64 i, .int .i64 ((T.length : Int) - 1)] w fun e w' => e = .returned (.bool o) ∧ w = w' := by rw [ho]; exact fun w => between_any _ _ _ w
  have HO := Lib.hid ho
  clear ho
  cases o with
  | false =>
    have hE : moveE L T A i = 5 := by unfold moveE; rw [← HO.out]; rfl
    have hS : moveS L T A i = A := by unfold moveS; rw [hE]; rfl
    go_wp2_with (first | (refine wpList_load_blk rfl 84 _ rfl _ rfl bA Try.underlying84 rfl size84 hA5 ?_) | (refine wpList_store_blk rfl 84 _ _ rfl _ rfl rfl bR size84 hA5 rfl (arr_one _) ?_) | (go_at_call 59; refine (hbt _).mono ?_; rintro e w' ⟨rfl, rfl⟩))
    refine bodyPost_ret (results_agg_tmp rfl _ _ _ rfl (World.putObj_heap_same (lt_blk bR)) Try.underlying84 rfl size84 hA5) rfl ⟨?_, below_putObj hb1 (by omega)⟩
    rw [hE, hS]; rfl
  | true =>
    have hi := HO.out
    simp [btw] at hi
    obtain ⟨j, rfl⟩ := Int.eq_ofNat_of_zero_le hi.1
    have hj : j < T.length := by omega
    obtain ⟨b, off, rfl, hlt, hcell⟩ := hcT (by omega)
    have c3 := hcell j hj
    have d3 := (hb1.cell (p := ⟨b, off + j, none⟩) hlt).trans c3
    have hai := arr_get (A := A) (i := j) (by have := ok.a5; have := ok.t5; omega)
    have dA := (cell_blk (i := j) bA).trans hai
    have hj5 : j < 5 := by have := ok.t5; omega
    have hbx1 : bx < w1.heap.size := Nat.lt_of_lt_of_le hbx hb1.size
    have hlt1 : b < w1.heap.size := Nat.lt_of_lt_of_le hlt hb1.size
    clear c1 c3 hai hcell
    have hE : moveE L T A j = if at0 A j = at0 T j then 22 else if canGo L T A j then 0 else 15 := by unfold moveE; rw [← HO.out, if_pos rfl]; rfl
    go_wp2_with (first | (refine wpList_load_blk rfl 84 _ rfl _ rfl bA Try.underlying84 rfl size84 hA5 ?_) | (refine wpList_store_blk rfl 84 _ _ rfl _ rfl rfl bR size84 hA5 rfl (arr_one _) ?_) | (go_at_call 59; refine (hbt _).mono ?_; rintro e w' ⟨rfl, rfl⟩))
    by_cases hst : at0 A j = at0 T j
    · have h1 : (at0 A j == at0 T j) = true := by rw [beq_iff_eq]; exact hst
      rw [if_pos hst] at hE
      have hS : moveS L T A j = A := by unfold moveS; rw [hE]; rfl
      have HE := Lib.hid hE
      have HS := Lib.hid hS
      clear hE hS hst
      go_quiet (fail)
      generalize hw2 : World.drewN _ _ = w2
      have bA2 : w2.heap[w.heap.size]? = some (.cells (arr A) 84 (0, 0)) := by rw [← hw2]; exact bA
      have bR2 : w2.heap[w.heap.size + 1]? = some (.cells (arr [0, 0, 0, 0, 0]) 84 (0, 0)) := by rw [← hw2]; exact bR
      have hb2 : Below w.heap.size w w2 := by rw [← hw2]; exact below_drewN hb1 _
      clear hw2 bA bR hb1 hT1 d1 d3 dA hs1 hbx1 hlt1
      go_wp2_with (first | (refine wpList_load_blk rfl 84 _ rfl _ rfl bA2 Try.underlying84 rfl size84 hA5 ?_) | (refine wpList_store_blk rfl 84 _ _ rfl _ rfl rfl bR2 size84 hA5 rfl (arr_one _) ?_))
      refine bodyPost_ret (results_agg_tmp rfl _ _ _ rfl (World.putObj_heap_same (lt_blk bR2)) Try.underlying84 rfl size84 hA5) rfl ⟨?_, below_putObj hb2 (by omega)⟩
      rw [HE.out, HS.out]; rfl
    · have h1 : (at0 A j == at0 T j) = false := by rw [beq_eq_false_iff_ne]; exact hst
      rw [if_neg hst] at hE
      have hnx := fun w hw => next_any bx bm vL (.slice (some ⟨b, off, none⟩) T.length capT) L T A j w ok hj hst hw
      have hN5' := (ok.after hj hst).a5
      have HN := Lib.hid hnx
      have HE := Lib.hid hE
      clear hE hst hnx
      go_quiet (fail)
      generalize hw2 : World.drewN _ _ = w2
      have bA2 : w2.heap[w.heap.size]? = some (.cells (arr A) 84 (0, 0)) := by rw [← hw2]; exact bA
      have bR2 : w2.heap[w.heap.size + 1]? = some (.cells (arr [0, 0, 0, 0, 0]) 84 (0, 0)) := by rw [← hw2]; exact bR
      have hb2 : Below w.heap.size w w2 := by rw [← hw2]; exact below_drewN hb1 _
      have hT2 : Tk w2 bx bm vL (.slice (some ⟨b, off, none⟩) T.length capT) L T := by rw [← hw2]; exact hT1.below (below_drewN (Below.refl _ _) _) (Nat.le_refl _)
      have hs2 : w.heap.size + 2 ≤ w2.heap.size := by rw [← hw2]; exact hs1
      clear hw2 bA bR hb1 hT1 d1 d3 dA hs1 hbx1 hlt1
      have hN5 : (arr (after L T A j)).size = 5 := by rw [arr_size]; exact hN5'
      obtain ⟨g, hg⟩ : ∃ g, g = canGo L T A j := ⟨_, rfl⟩
      have hcall := HN.out w2 hT2
      rw [← hg] at hcall
      have HG := Lib.hid hg
      clear hg
      cases g
      all_goals
        go_wp2_with (first
          | (refine wpList_load_blk rfl 84 _ rfl _ rfl bA2 Try.underlying84 rfl size84 hA5 ?_)
          | (go_at_call 74; refine hcall.mono ?_; rintro e w3 ⟨rfl, hb3⟩; have hs3 := hb3.size; have bA3 := blk_below bA2 hb3 (by omega); have bR3 := blk_below bR2 hb3 (by omega); have hB3 : Below w.heap.size w w3 := hb2.trans (hb3.mono (by omega)))
          | (refine wpList_store_blk rfl 84 _ _ rfl _ rfl rfl (heap_newI rfl) size84 hN5 rfl (arr_one _) ?_)
          | (refine wpList_load_blk rfl 84 _ rfl _ rfl (World.putObj_heap_same (by rw [World.size_alloc]; omega)) Try.underlying84 rfl size84 hN5 ?_)
          | (refine wpList_load_blk rfl 84 _ rfl _ rfl ((World.putObj_heap_other (by omega)).trans ((heap_oldI (by omega)).trans bA3)) Try.underlying84 rfl size84 hA5 ?_)
          | (refine wpList_store_blk rfl 84 _ _ rfl _ rfl rfl ((World.putObj_heap_other (by omega)).trans ((heap_oldI (by omega)).trans bR3)) size84 (by first | exact hN5 | exact hA5) rfl (arr_one _) ?_))
      · have hE : moveE L T A j = 15 := by rw [HE.out, ← HG.out]; rfl
        have hS : moveS L T A j = A := by unfold moveS; rw [hE]; rfl
        refine bodyPost_ret (results_agg_tmp rfl _ _ _ rfl (World.putObj_heap_same (by have := lt_blk bR3; simp; omega)) Try.underlying84 rfl size84 hA5) rfl ⟨?_, below_putObj (below_putObj (hB3.alloc hB3.size _) hB3.size) (by omega)⟩
        rw [hE, hS]; rfl
      · have hE : moveE L T A j = 0 := by rw [HE.out, ← HG.out]; rfl
        have hS : moveS L T A j = after L T A j := by unfold moveS; rw [hE]; rfl
        refine bodyPost_ret (results_agg_tmp rfl _ _ _ rfl (World.putObj_heap_same (by have := lt_blk bR3; simp; omega)) Try.underlying84 rfl size84 hN5) rfl ⟨?_, below_putObj (below_putObj (hB3.alloc hB3.size _) hB3.size) (by omega)⟩
        rw [hE, hS]; rfl
theorem moveS_okt {L T A : List Int} {i : Int} (ok : Okt L T A) : Okt L T (moveS L T A i) := by
  unfold moveS
  split
  · rename_i h
    unfold moveE at h
    split at h
    · rename_i hb
      simp [btw] at hb
      split at h
      · cases h
      · rename_i hne
        exact ok.after (by omega) hne
    · cases h
  · exact ok
end Yteijenefhoconaa
end Go.Proofs
