/- Check, and Possible. -/
import Derived.Test.YtnihopdglkhbnaaTrack
import Derived.Test.YtnihopdglkhbnaaGrow
import Derived.OwnWalkIn
open Go Go.RowKit Go.YtnihopdglkhbnaaIt
namespace Go.Proofs
namespace Ytnihopdglkhbnaa
end Ytnihopdglkhbnaa
end Go.Proofs
/- One train's move, and the trains of a state. -/
open Go Go.RowKit Go.YtnihopdglkhbnaaIt
namespace Go.Proofs
namespace Ytnihopdglkhbnaa

/-- What a move answers: the state, and the error. -/
def moveE (L T A : List Int) (i : Int) : Int :=
  if btw 0 i (T.length - 1) then (if at0 A i.toNat = at0 T i.toNat then 22 else if canGo L T A i.toNat then 0 else 15) else 5
def moveS (L T A : List Int) (i : Int) : List Int :=
  if moveE L T A i = 0 then after L T A i.toNat else A
set_option maxRecDepth 100000 in
set_option maxHeartbeats 4000000 in
theorem move_any (bx bm : Nat) (vL vT : Value) (L T A : List Int) (i : Int) (w : World) (ok : Okt L T A) (hT : Tk w bx bm vL vT L T) :
    Calls Try.prog 16 #[.pointer (some ⟨bx, 0, none⟩), .agg (arr A), .int .i64 i] w fun e w' => e = .returned (.tuple #[.agg (arr (moveS L T A i)), .int .i64 (moveE L T A i)]) ∧ Below w.heap.size w w' := by
  have hA5 : (arr A).size = 5 := by rw [arr_size, ok.a5]
  obtain ⟨ad, capT, rfl, hmT, hcT⟩ := hT.st
  have c1 := cell_blk (i := 1) hT.blk
  simp at c1
  have hbx := lt_blk hT.blk
  go_enter Try.func16, Try.ntmps16
  refine wp_seq_k (fun K hK => ?_)
  have HK := Lib.hid hK; clear hK
  go_wp2
  refine HK.out _ _ ?_; clear HK K
  generalize hw1 : World.alloc _ _ = w1
  have bA : w1.heap[w.heap.size]? = some (.cells (arr A) 49 (0, 0)) := by rw [← hw1]; simp (disch := first | omega | (simp only [World.size_alloc]; done) | (simp only [World.size_alloc]; omega)) only [heap_newI, heap_oldI]
  have bR : w1.heap[w.heap.size + 1]? = some (.cells (arr [0, 0, 0, 0, 0]) 49 (0, 0)) := by rw [zero3, ← hw1]; simp (disch := first | omega | (simp only [World.size_alloc]; done) | (simp only [World.size_alloc]; omega)) only [heap_newI]
  have hb1 : Below w.heap.size w w1 := by rw [← hw1]; go_grown
  have hs1 : w.heap.size + 2 ≤ w1.heap.size := by rw [← hw1]; simp
  clear hw1
  have hT1 : Tk w1 bx bm vL _ L T := hT.below hb1 (Nat.le_refl _)
  have d1 := (hb1.cell (p := ⟨bx, 1, none⟩) hbx).trans c1
  obtain ⟨o, ho⟩ : ∃ o, o = btw 0 i ((T.length : Int) - 1) := ⟨_, rfl⟩
  have hbt : ∀ w, Calls Try.prog 15 #[.int .i64 0, .int .i64 i, .int .i64 ((T.length : Int) - 1)] w fun e w' => e = .returned (.bool o) ∧ w = w' := by rw [ho]; exact fun w => between_any _ _ _ w
  have HO := Lib.hid ho
  clear ho
  cases o with
  | false =>
    have hE : moveE L T A i = 5 := by unfold moveE; rw [← HO.out]; rfl
    have hS : moveS L T A i = A := by unfold moveS; rw [hE]; rfl
    go_wp2_with (first | (refine wpList_load_blk rfl 49 _ rfl _ rfl bA Try.underlying49 rfl size84 hA5 ?_) | (refine wpList_store_blk rfl 49 _ _ rfl _ rfl rfl bR size84 hA5 rfl (arr_one _) ?_) | (go_at_call 15; refine (hbt _).mono ?_; rintro e w' ⟨rfl, rfl⟩))
    refine bodyPost_ret (results_agg_tmp rfl _ _ _ rfl (World.putObj_heap_same (lt_blk bR)) Try.underlying49 rfl size84 hA5) rfl ⟨?_, below_putObj hb1 (by omega)⟩
    rw [hE, hS]; rfl
  | true =>
    have hi := HO.out
    simp [btw] at hi
    obtain ⟨j, rfl⟩ := Int.eq_ofNat_of_zero_le hi.1
    have hj : j < T.length := by omega
    obtain ⟨b, off, rfl, hlt, hcell⟩ := hcT (by omega)
    have c3 := hcell j hj
    have d3 := (hb1.cell (p := ⟨b, off + j, none⟩) hlt).trans c3
    have hai := arr_get (A := A) (i := j) (by have := ok.a5; have := ok.t5; omega)
    have dA := (cell_blk (i := j) bA).trans hai
    have hj5 : j < 5 := by have := ok.t5; omega
    have hbx1 : bx < w1.heap.size := Nat.lt_of_lt_of_le hbx hb1.size
    have hlt1 : b < w1.heap.size := Nat.lt_of_lt_of_le hlt hb1.size
    clear c1 c3 hai hcell
    have hE : moveE L T A j = if at0 A j = at0 T j then 22 else if canGo L T A j then 0 else 15 := by unfold moveE; rw [← HO.out, if_pos rfl]; rfl
    go_wp2_with (first | (refine wpList_load_blk rfl 49 _ rfl _ rfl bA Try.underlying49 rfl size84 hA5 ?_) | (refine wpList_store_blk rfl 49 _ _ rfl _ rfl rfl bR size84 hA5 rfl (arr_one _) ?_) | (go_at_call 15; refine (hbt _).mono ?_; rintro e w' ⟨rfl, rfl⟩))
    by_cases hst : at0 A j = at0 T j
    · have h1 : (at0 A j == at0 T j) = true := by rw [beq_iff_eq]; exact hst
      rw [if_pos hst] at hE
      have hS : moveS L T A j = A := by unfold moveS; rw [hE]; rfl
      have HE := Lib.hid hE
      have HS := Lib.hid hS
      clear hE hS hst
      go_quiet (fail)
      generalize hw2 : World.drewN _ _ = w2
      have bA2 : w2.heap[w.heap.size]? = some (.cells (arr A) 49 (0, 0)) := by rw [← hw2]; exact bA
      have bR2 : w2.heap[w.heap.size + 1]? = some (.cells (arr [0, 0, 0, 0, 0]) 49 (0, 0)) := by rw [← hw2]; exact bR
      have hb2 : Below w.heap.size w w2 := by rw [← hw2]; exact below_drewN hb1 _
      clear hw2 bA bR hb1 hT1 d1 d3 dA hs1 hbx1 hlt1
      go_wp2_with (first | (refine wpList_load_blk rfl 49 _ rfl _ rfl bA2 Try.underlying49 rfl size84 hA5 ?_) | (refine wpList_store_blk rfl 49 _ _ rfl _ rfl rfl bR2 size84 hA5 rfl (arr_one _) ?_))
      refine bodyPost_ret (results_agg_tmp rfl _ _ _ rfl (World.putObj_heap_same (lt_blk bR2)) Try.underlying49 rfl size84 hA5) rfl ⟨?_, below_putObj hb2 (by omega)⟩
      rw [HE.out, HS.out]; rfl
    · have h1 : (at0 A j == at0 T j) = false := by rw [beq_eq_false_iff_ne]; exact hst
      rw [if_neg hst] at hE
      have hnx := fun w hw => next_any bx bm vL (.slice (some ⟨b, off, none⟩) T.length capT) L T A j w ok hj hst hw
      have hN5' := (ok.after hj hst).a5
      have HN := Lib.hid hnx
      have HE := Lib.hid hE
      clear hE hst hnx
      go_quiet (fail)
      generalize hw2 : World.drewN _ _ = w2
      have bA2 : w2.heap[w.heap.size]? = some (.cells (arr A) 49 (0, 0)) := by rw [← hw2]; exact bA
      have bR2 : w2.heap[w.heap.size + 1]? = some (.cells (arr [0, 0, 0, 0, 0]) 49 (0, 0)) := by rw [← hw2]; exact bR
      have hb2 : Below w.heap.size w w2 := by rw [← hw2]; exact below_drewN hb1 _
      have hT2 : Tk w2 bx bm vL (.slice (some ⟨b, off, none⟩) T.length capT) L T := by rw [← hw2]; exact hT1.below (below_drewN (Below.refl _ _) _) (Nat.le_refl _)
      have hs2 : w.heap.size + 2 ≤ w2.heap.size := by rw [← hw2]; exact hs1
      clear hw2 bA bR hb1 hT1 d1 d3 dA hs1 hbx1 hlt1
      have hN5 : (arr (after L T A j)).size = 5 := by rw [arr_size]; exact hN5'
      obtain ⟨g, hg⟩ : ∃ g, g = canGo L T A j := ⟨_, rfl⟩
      have hcall := HN.out w2 hT2
      rw [← hg] at hcall
      have HG := Lib.hid hg
      clear hg
      cases g
      all_goals
        go_wp2_with (first
          | (refine wpList_load_blk rfl 49 _ rfl _ rfl bA2 Try.underlying49 rfl size84 hA5 ?_)
          | (go_at_call 33; refine hcall.mono ?_; rintro e w3 ⟨rfl, hb3⟩; have hs3 := hb3.size; have bA3 := blk_below bA2 hb3 (by omega); have bR3 := blk_below bR2 hb3 (by omega); have hB3 : Below w.heap.size w w3 := hb2.trans (hb3.mono (by omega)))
          | (refine wpList_store_blk rfl 49 _ _ rfl _ rfl rfl (heap_newI rfl) size84 hN5 rfl (arr_one _) ?_)
          | (refine wpList_load_blk rfl 49 _ rfl _ rfl (World.putObj_heap_same (by rw [World.size_alloc]; omega)) Try.underlying49 rfl size84 hN5 ?_)
          | (refine wpList_load_blk rfl 49 _ rfl _ rfl ((World.putObj_heap_other (by omega)).trans ((heap_oldI (by omega)).trans bA3)) Try.underlying49 rfl size84 hA5 ?_)
          | (refine wpList_store_blk rfl 49 _ _ rfl _ rfl rfl ((World.putObj_heap_other (by omega)).trans ((heap_oldI (by omega)).trans bR3)) size84 (by first | exact hN5 | exact hA5) rfl (arr_one _) ?_))
      · have hE : moveE L T A j = 15 := by rw [HE.out, ← HG.out]; rfl
        have hS : moveS L T A j = A := by unfold moveS; rw [hE]; rfl
        refine bodyPost_ret (results_agg_tmp rfl _ _ _ rfl (World.putObj_heap_same (by have := lt_blk bR3; simp; omega)) Try.underlying49 rfl size84 hA5) rfl ⟨?_, below_putObj (below_putObj (hB3.alloc hB3.size _) hB3.size) (by omega)⟩
        rw [hE, hS]; rfl
      · have hE : moveE L T A j = 0 := by rw [HE.out, ← HG.out]; rfl
        have hS : moveS L T A j = after L T A j := by unfold moveS; rw [hE]; rfl
        refine bodyPost_ret (results_agg_tmp rfl _ _ _ rfl (World.putObj_heap_same (by have := lt_blk bR3; simp; omega)) Try.underlying49 rfl size84 hN5) rfl ⟨?_, below_putObj (below_putObj (hB3.alloc hB3.size _) hB3.size) (by omega)⟩
        rw [hE, hS]; rfl
theorem moveS_okt {L T A : List Int} {i : Int} (ok : Okt L T A) : Okt L T (moveS L T A i) := by
  unfold moveS
  split
  · rename_i h
    unfold moveE at h
    split at h
    · rename_i hb
      simp [btw] at hb
      split at h
      · cases h
      · rename_i hne
        exact ok.after (by omega) hne
    · cases h
  · exact ok
end Ytnihopdglkhbnaa
end Go.Proofs
/- The trains of a state. -/
open Go Go.RowKit Go.YtnihopdglkhbnaaIt
namespace Go.Proofs
namespace Ytnihopdglkhbnaa

def tsOf (A T : List Int) : List Tn := (List.range T.length).map fun i => (at0 A i, at0 T i)
theorem tsOf_len (A T : List Int) : (tsOf A T).length = T.length := by simp [tsOf]
def flat (ts : List Tn) : List Value := ts.flatMap fun x => [.int .i64 x.1, .int .i64 x.2]
theorem flat_at (ts : List Tn) : ∀ i, i < ts.length → (flat ts)[i * 2]? = some (.int .i64 (tAt ts i)) ∧ (flat ts)[i * 2 + 1]? = some (.int .i64 (tTo ts i)) := by
  induction ts with
  | nil => intro i hi; simp at hi
  | cons x ts ih =>
    intro i hi
    cases i with
    | zero => simp [flat, tAt, tTo]
    | succ i =>
      have h := ih i (by simpa using hi)
      have e1 : (i + 1) * 2 = i * 2 + 2 := by omega
      rw [e1]
      simpa [flat, tAt, tTo] using h
theorem flat_take {ts : List Tn} {k : Nat} (hk : k < ts.length) : flat (ts.take k) ++ [.int .i64 (tAt ts k), .int .i64 (tTo ts k)] = flat (ts.take (k + 1)) := by
  rw [List.take_succ_eq_append_getElem hk, tAt_lt hk, tTo_lt hk]
  simp only [flat, List.flatMap_append, List.flatMap_cons, List.flatMap_nil, List.append_nil]
theorem slT_own {W : World} {base : Nat} {v : Value} {ts : List Tn} (h : W.ownsRow base 33 2 v ts.length (flat ts)) (hm : ts.length ≤ 8796093022208) : SlT W v ts := by
  rcases Joins.ownsRow_forms h with ⟨rfl, h0⟩ | ⟨g, cap, rfl⟩
  · exact ⟨none, 0, by rw [h0], hm, fun h1 => by omega⟩
  · have hl := h.lt g rfl
    refine ⟨_, cap, rfl, hm, fun _ => ⟨g, 0, rfl, hl.2, fun i hi => ?_⟩⟩
    have f := flat_at ts i hi
    have c1 := h.cellAt (i * 2) (by omega)
    have c2 := h.cellAt (i * 2 + 1) (by omega)
    rw [Nat.zero_add]
    exact ⟨c1.trans f.1, c2.trans f.2⟩
theorem cell_new2 {W : World} {x y : Value} {t : TypeId} {g : Nat} (hg : g = W.heap.size) : ∀ j u, [x, y][j]? = some u → (W.alloc (.cells #[x, y] t)).cell? ((⟨g, 0, none⟩ : Addr).add j) = some u := by
  subst hg
  intro j u h
  match j with
  | 0 => simp at h; subst h; simp [Addr.add]
  | 1 => simp at h; subst h; simp [Addr.add]
  | j + 2 => simp at h
theorem grown_below1 {W W' X : World} {o : Obj} {v : Value} {B n m : Nat} {xs : List Value} {e : TypeId} {sz : Nat} (h : (W.alloc o).grownBy W' v.ownBlock) (ho : W.ownsRow B e sz v n xs) (hb : m ≤ B) (hB : B ≤ W.heap.size) (hx : Below m X W) : Below m X W' := by
  have hsz : (W.alloc o).heap.size = W.heap.size + 1 := by rw [World.size_alloc]
  refine ⟨h.os.trans hx.os, h.tape.trans hx.tape, h.output.trans hx.output, Nat.le_trans hx.size (Nat.le_trans (by omega) h.size), fun k hk => ?_⟩
  rw [h.block k (by omega) (fun h2 => by have := (ho.lt k h2.symm).1; omega), heap_oldI (by omega)]
  exact hx.block k hk
theorem info69 : (Try.prog.info? 33).map (fun i => (i.zero, i.size, i.bytes)) = some (some (.agg #[.int .i64 0, .int .i64 0]), 2, 16) := by kernel_rfl

set_option maxRecDepth 100000 in
set_option maxHeartbeats 4000000 in
theorem trains_any (bx bm : Nat) (vL vT : Value) (L T A : List Int) (w : World) (hA : A.length = 5) (hT5 : T.length ≤ 5) (hT : Tk w bx bm vL vT L T) :
    Calls Try.prog 17 #[.pointer (some ⟨bx, 0, none⟩), .agg (arr A)] w fun e w' => ∃ v, e = .returned v ∧ SlT w' v (tsOf A T) ∧ Below w.heap.size w w' := by
  obtain ⟨ad, capT, rfl, hmT, hcT⟩ := hT.st
  have c1 := cell_blk (i := 1) hT.blk
  simp at c1
  have hbx := lt_blk hT.blk
  obtain ⟨n, hn⟩ : ∃ n, n = T.length := ⟨_, rfl⟩
  rw [← hn] at c1 hcT hT5
  have HN := Lib.hid hn
  clear hT hmT
  clear hn
  obtain ⟨i6, hi6, hz1, hz2, hz3⟩ := info_parts info69
  go_enter Try.func17, Try.ntmps17
  iterate 2
    refine wp_seq_k (fun K hK => ?_)
    have HK := Lib.hid hK; clear hK
    go_wp2
    refine HK.out _ _ ?_; clear HK K
  generalize hw1 : World.alloc _ _ = w1
  have bA : w1.heap[w.heap.size]? = some (.cells (arr A) 49 (0, 0)) := by rw [← hw1]; exact heap_newI rfl
  have hb1 : Below w.heap.size w w1 := by rw [← hw1]; go_grown
  have hs1 : w.heap.size + 1 ≤ w1.heap.size := by rw [← hw1]; simp
  clear hw1
  have d1 := (hb1.cell (p := ⟨bx, 1, none⟩) hbx).trans c1
  refine wp_seq_k (fun K hK => ?_)
  have HK := Lib.hid hK; clear hK
  go_wp2
  go_loopw [5, 13] (fun v i wr => ∃ k : Nat, k ≤ n ∧ i = .int .i64 k ∧ Below w1.heap.size w1 wr ∧ wr.ownsRow w1.heap.size 33 2 v k (flat ((tsOf A T).take k))) (fun _ i _ => n - (intOf i).toNat)
  case atStart => exact ⟨0, Nat.zero_le _, rfl, Below.refl _ _, World.ownsRow_nil _ _ _ _⟩
  case round =>
    obtain ⟨k, hk, rfl, hb, ho⟩ := hrel
    have hsz := hb.size
    by_cases hkn : k < n
    · obtain ⟨b, off, rfl, hlt, hcell⟩ := hcT (by omega)
      have d3 := (hb.cell (p := ⟨b, off + k, none⟩) (Nat.lt_of_lt_of_le hlt hb1.size)).trans ((hb1.cell (p := ⟨b, off + k, none⟩) hlt).trans (hcell k hkn))
      have dA := (hb.cell (p := ⟨w.heap.size, k, none⟩) (lt_blk bA)).trans ((cell_blk (i := k) bA).trans (arr_get (by omega)))
      have hk5 : k < 5 := by omega
      have hkt : k < (tsOf A T).length := by rw [tsOf_len, ← HN.out]; exact hkn
      have hft := flat_take hkt
      have ht1 : tAt (tsOf A T) k = at0 A k := by rw [tAt_lt hkt]; simp [tsOf]
      have ht2 : tTo (tsOf A T) k = at0 T k := by rw [tTo_lt hkt]; simp [tsOf]
      rw [ht1, ht2] at hft
      have HF := Lib.hid hft
      clear hft ht1 ht2 hcell hcT hkt
      go_wp2_with (at_builtin; refine wpList_append_own _ rfl _ _ 34 rfl w1.heap.size 33 i6 (.agg #[.int .i64 0, .int .i64 0]) 2 16 Try.underlying34 hi6 hz1 hz2 hz3 rfl (by decide) _ _ _ rfl (ho.alloc _) ⟨wr.heap.size, 0, none⟩ 1 1 [.int .i64 (at0 A k), .int .i64 (at0 T k)] rfl rfl (cell_new2 rfl) (fun x hx => by simp at hx; rcases hx with rfl | rfl <;> rfl) (Nat.le_trans (by omega : k + 1 ≤ 6) (by decide)) (by omega) (by rw [World.size_alloc]; omega) ?_; intro v' w6 r1 r2 _)
      go_roundw
      case rel => exact ⟨k + 1, by omega, by go_num, grown_below1 r2 ho (Nat.le_refl _) hsz hb, by rw [← HF.out]; exact r1⟩
      case measure => simp [intOf]; omega
    · have hkn2 : k = n := by omega
      go_wp2
      refine HK.out _ _ ?_
      go_wp2
      go_ret
      refine ⟨_, rfl, ?_, hb1.trans (hb.mono (by omega))⟩
      rw [hkn2, HN.out, ← tsOf_len A T, List.take_of_length_le (Nat.le_refl _)] at ho
      exact slT_own ho (by rw [tsOf_len, ← HN.out]; omega)
end Ytnihopdglkhbnaa
end Go.Proofs
/- Move. -/
open Go Go.RowKit Go.YtnihopdglkhbnaaIt
namespace Go.Proofs
namespace Ytnihopdglkhbnaa
end Ytnihopdglkhbnaa
end Go.Proofs

