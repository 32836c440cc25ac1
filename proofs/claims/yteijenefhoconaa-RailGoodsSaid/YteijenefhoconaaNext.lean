/- The state after a move. -/
import Derived.Test.YteijenefhoconaaCount
open Go Go.RowKit Go.YteijenefhoconaaIt
namespace Go.Proofs
namespace Yteijenefhoconaa

/-- The section that a train moves to. -/
def nxt (a t : Int) : Int := if t < a then a - 1 else a + 1

set_option maxRecDepth 100000 in
theorem room_any (v : Value) (L : List Int) (s : Int) (w : World) (hL : SlI w v L) (h0 : 0 ≤ s) (h1 : s < L.length) :
    Calls Try.prog 70 #[v, .int .i64 s] w fun e w' => e = .returned (.int .i64 (at0 L s.toNat)) ∧ Below w.heap.size w w' := by
  obtain ⟨ad, cap, rfl, hm, hc⟩ := hL
  obtain ⟨b, off, rfl, hlt, hcell⟩ := hc (by omega)
  obtain ⟨k, rfl⟩ := Int.eq_ofNat_of_zero_le h0
  have hk : k < L.length := by omega
  have h := hcell k hk
  clear hcell hc h0 h1
  go_enter Try.func70, Try.ntmps70
  go_wp2
  go_ret
  exact ⟨rfl, Below.refl _ _⟩

/-- Train i, which is on the way, can move. -/
def canGo (L T A : List Int) (i : Nat) : Bool :=
  nxt (at0 A i) (at0 T i) == at0 T i || decide ((cnt A T (nxt (at0 A i) (at0 T i)) : Int) < at0 L (nxt (at0 A i) (at0 T i)).toNat)
def after (L T A : List Int) (i : Nat) : List Int := if canGo L T A i then A.set i (nxt (at0 A i) (at0 T i)) else A

theorem arr_one (A : List Int) : (arr A).all (·.oneCell') = true := by simp [arr, Value.oneCell']
theorem arr_set (A : List Int) (i : Nat) (x : Int) : (arr A).setIfInBounds i (.int .i64 x) = arr (A.set i x) := by simp [arr]

/-- Trains and a line within the program's bounds. -/
structure Okt (L T A : List Int) : Prop where
  a5 : A.length = 5
  t5 : T.length ≤ 5
  l8 : L.length ≤ 8
  at_ : ∀ i, i < T.length → 0 ≤ at0 A i ∧ at0 A i < L.length
  to_ : ∀ i, i < T.length → 0 ≤ at0 T i ∧ at0 T i < L.length
  bnd : ∀ x ∈ A, 0 ≤ x ∧ x < 100

set_option maxRecDepth 100000 in
set_option maxHeartbeats 4000000 in
theorem next_any (bx bm : Nat) (vL vT : Value) (L T A : List Int) (i : Nat) (w : World) (ok : Okt L T A) (hi : i < T.length) (ho : at0 A i ≠ at0 T i) (hT : Tk w bx bm vL vT L T) :
    Calls Try.prog 74 #[.pointer (some ⟨bx, 0, none⟩), .agg (arr A), .int .i64 i] w fun e w' => e = .returned (.tuple #[.agg (arr (after L T A i)), .bool (canGo L T A i)]) ∧ Below w.heap.size w w' := by
  obtain ⟨ha0, ha1⟩ := ok.at_ i hi
  obtain ⟨ht0, ht1⟩ := ok.to_ i hi
  have hl8 := ok.l8
  have ht5 := ok.t5
  have hA5 : (arr A).size = 5 := by rw [arr_size, ok.a5]
  obtain ⟨adT, capT, hvT, hmT, hcT⟩ := hT.st
  obtain ⟨b, off, hadT, hlt, hcell⟩ := hcT (by omega)
  subst hvT hadT
  have c3 := hcell i hi
  have c1 := cell_blk (i := 1) hT.blk
  have c0 := cell_blk (i := 0) hT.blk
  simp at c1 c0
  have hbx := lt_blk hT.blk
  obtain ⟨s, hs⟩ : ∃ s, s = nxt (at0 A i) (at0 T i) := ⟨_, rfl⟩
  have hs0 : 0 ≤ s := by rw [hs]; unfold nxt; split <;> omega
  have hs1 : s < L.length := by rw [hs]; unfold nxt; split <;> omega
  have hai := arr_get (A := A) (i := i) (by have := ok.a5; omega)
  have hi5 : i < 5 := by omega
  clear hcT hcell
  go_enter Try.func74, Try.ntmps74
  refine wp_seq_k (fun K hK => ?_)
  have HK := Lib.hid hK; clear hK
  go_wp2
  refine HK.out _ _ ?_; clear HK K
  generalize hw1 : World.alloc _ _ = w1
  have bA : w1.heap[w.heap.size]? = some (.cells (arr A) 84 (0, 0)) := by rw [← hw1]; simp (disch := first | omega | (simp only [World.size_alloc]; done) | (simp only [World.size_alloc]; omega)) only [heap_newI, heap_oldI]
  have bR : w1.heap[w.heap.size + 1]? = some (.cells (arr [0, 0, 0, 0, 0]) 84 (0, 0)) := by rw [← hw1]; simp (disch := first | omega | (simp only [World.size_alloc]; done) | (simp only [World.size_alloc]; omega)) only [heap_newI]; rfl
  have hb1 : Below w.heap.size w w1 := by rw [← hw1]; go_grown
  have hs1' : w.heap.size + 2 ≤ w1.heap.size := by rw [← hw1]; simp
  clear hw1
  have hT1 : Tk w1 bx bm vL _ L T := hT.below hb1 (Nat.le_refl _)
  have d0 := (hb1.cell (p := ⟨bx, 0, none⟩) hbx).trans c0
  have d1 := (hb1.cell (p := ⟨bx, 1, none⟩) hbx).trans c1
  have d3 := (hb1.cell (p := ⟨b, off + i, none⟩) hlt).trans c3
  have dA := (cell_blk (i := i) bA).trans hai
  have hr : (if canGo L T A i then A.set i s else A) = after L T A i := by rw [hs]; rfl
  have hcg : canGo L T A i = (s == at0 T i || decide ((cnt A T s : Int) < at0 L s.toNat)) := by rw [hs]; rfl
  have HR := Lib.hid hr
  have HCG := Lib.hid hcg
  have a5 := ok.a5
  clear hr hcg c0 c1 c3 hai hT ok ho
  have hdir : (at0 T i < at0 A i ∧ at0 A i - 1 = s) ∨ (¬ at0 T i < at0 A i ∧ at0 A i + 1 = s) := by
    by_cases hd : at0 T i < at0 A i
    · exact .inl ⟨hd, by rw [hs, nxt, if_pos hd]⟩
    · exact .inr ⟨hd, by rw [hs, nxt, if_neg hd]⟩
  clear hs
  rcases hdir with ⟨hd, hse⟩ | ⟨hd, hse⟩
  all_goals
    refine wp_seq_k (fun K hK => ?_)
    have HK := Lib.hid hK; clear hK
    go_wp2
    refine HK.out _ _ ?_; clear HK K
    refine wp_seq_k (fun K hK => ?_)
    have HK := Lib.hid hK; clear hK
    go_wp2
    go_quiet (fail)
    go_wp2
    refine HK.out _ _ ?_; clear HK K
    generalize hw2 : World.drewN _ _ = w2
    have bA2 : w2.heap[w.heap.size]? = some (.cells (arr A) 84 (0, 0)) := by rw [← hw2]; exact bA
    have bR2 : w2.heap[w.heap.size + 1]? = some (.cells (arr [0, 0, 0, 0, 0]) 84 (0, 0)) := by rw [← hw2]; exact bR
    have hb2 : Below w.heap.size w w2 := by rw [← hw2]; exact below_drewN hb1 _
    have hs2 : w.heap.size + 2 ≤ w2.heap.size := by rw [← hw2]; exact hs1'
    have hT2 : Tk w2 bx bm vL (.slice (some ⟨b, off, none⟩) T.length capT) L T := by rw [← hw2]; exact hT1.below (below_drewN (Below.refl _ _) _) (Nat.le_refl _)
    have e0 : w2.cell? ⟨bx, 0, none⟩ = some vL := by rw [← hw2]; exact d0
    have e1 : w2.cell? ⟨bx, 1, none⟩ = some (.slice (some ⟨b, off, none⟩) T.length capT) := by rw [← hw2]; exact d1
    have e3 : w2.cell? ⟨b, off + i, none⟩ = some (.int .i64 (at0 T i)) := by rw [← hw2]; exact d3
    have hbx2 : bx < w2.heap.size := by omega
    have hlt2 : b < w2.heap.size := by omega
    clear hw2 bA bR hb1 hs1' hT1 d0 d1 d3 dA hd hse
    refine wp_seq_k (fun K hK => ?_)
    have HK := Lib.hid hK; clear hK
    by_cases hst : s = at0 T i
    · have h1 : (s != at0 T i) = false := by rw [bne_eq_false_iff_eq]; exact hst
      have hgo : canGo L T A i = true := by rw [HCG.out, hst]; simp
      have HG := Lib.hid hgo
      have HS := Lib.hid hst
      clear hgo hst
      refine wp_seq_k (fun K2 hK2 => ?_)
      have HK2 := Lib.hid hK2; clear hK2
      go_quiet (fail)
      go_wp2
      refine HK2.out _ _ ?_; clear HK2 K2
      generalize hw3 : World.drewN _ _ = w3
      have bA3 : w3.heap[w.heap.size]? = some (.cells (arr A) 84 (0, 0)) := by rw [← hw3]; exact bA2
      have bR3 : w3.heap[w.heap.size + 1]? = some (.cells (arr [0, 0, 0, 0, 0]) 84 (0, 0)) := by rw [← hw3]; exact bR2
      have hb3 : Below w.heap.size w w3 := by rw [← hw3]; exact below_drewN hb2 _
      clear hw3 bA2 bR2 hb2 hs2 hT2 e0 e1 e3
      go_wp2
      refine HK.out _ _ ?_; clear HK K
      have cA := (cell_blk (i := i) bA3).trans (arr_get (A := A) (i := i) (by omega))
      have fA := free_blk (i := i) bA3
      refine wp_seq_k (fun K hK => ?_)
      have HK := Lib.hid hK; clear hK
      go_wp2
      refine HK.out _ _ ?_; clear HK K
      have bA4 : (w3.setCell ⟨w.heap.size, i, none⟩ (.int .i64 s)).heap[w.heap.size]? = some (.cells (arr (A.set i s)) 84 (0, 0)) := by rw [heap_set_blk bA3, arr_set]
      have bR4 : (w3.setCell ⟨w.heap.size, i, none⟩ (.int .i64 s)).heap[w.heap.size + 1]? = some (.cells (arr [0, 0, 0, 0, 0]) 84 (0, 0)) := by rw [heap_set_other (by omega)]; exact bR3
      have hb4 : Below w.heap.size w (w3.setCell ⟨w.heap.size, i, none⟩ (.int .i64 s)) := hb3.setCell (by simp) _
      generalize World.setCell _ _ _ = w4 at *
      clear cA fA bA3 bR3 hb3
      have hA6 : (arr (A.set i s)).size = 5 := by rw [arr_size, List.length_set]; exact a5
      go_wp2_with (first | (refine wpList_load_blk rfl 84 _ rfl _ rfl bA4 Try.underlying84 rfl size84 hA6 ?_) | (refine wpList_store_blk rfl 84 _ _ rfl _ rfl rfl bR4 size84 hA6 rfl (arr_one _) ?_))
      have bR5 := World.putObj_heap_same (w := w4) (o := .cells (arr (A.set i s)) 84 (0, 0)) (lt_blk bR4)
      refine bodyPost_ret (results_agg_tmp rfl _ _ _ rfl bR5 Try.underlying84 rfl size84 hA6) rfl ⟨?_, below_putObj hb4 (by omega)⟩
      rw [← HR.out, HG.out]; rfl
    · have h1 : (s != at0 T i) = true := by rw [bne_iff_ne]; exact hst
      refine wp_seq_k (fun K2 hK2 => ?_)
      have HK2 := Lib.hid hK2; clear hK2
      have hcnt := fun (x : Ab w2.heap.size w2) => count_any bx bm vL _ L T A s x.val a5 ht5 (hT2.below x.ok (Nat.le_refl _))
      have hroom := fun (x : Ab w2.heap.size w2) => room_any vL L s x.val ((hT2.below x.ok (Nat.le_refl _)).sl) hs0 hs1
      have g0 := fun (x : Ab w2.heap.size w2) => (x.ok.cell (p := ⟨bx, 0, none⟩) hbx2).trans e0
      have g1 := fun (x : Ab w2.heap.size w2) => (x.ok.cell (p := ⟨bx, 1, none⟩) hbx2).trans e1
      have g3 := fun (x : Ab w2.heap.size w2) => (x.ok.cell (p := ⟨b, off + i, none⟩) hlt2).trans e3
      refine wp_region_ab w2.heap.size w2 (by kernel_rfl) (by kernel_rfl) (Below.refl _ _) ?_
      clear e0 e1 e3
      unfold AbC
      have hBA : ∀ W, (∃ x : Ab w2.heap.size w2, W = x.val) → W.heap[w.heap.size]? = some (.cells (arr A) 84 (0, 0)) := by rintro W ⟨x, rfl⟩; exact blk_below bA2 x.ok (by omega)
      repeat (first | (refine wpQuiet_load_blk rfl 84 _ rfl _ rfl hBA Try.underlying84 rfl size84 hA5 ?_; simp only [Act.put, List.setIfInBounds_toArray, List.set_cons_succ, List.set_cons_zero]) | go_big_quiet_step (first | (go_at_call 69; exact Calls.ab _ (Nat.le_refl _) (hcnt _)) | (go_at_call 70; exact Calls.ab _ (Nat.le_refl _) (hroom _))))
      refine wpQuiet_nil ?_
      rintro W' ⟨x, rfl⟩
      refine HK2.out _ _ ?_; clear HK2 K2
      have bA3 := blk_below bA2 x.ok (by omega)
      have bR3 := blk_below bR2 x.ok (by omega)
      have hb3 : Below w.heap.size w x.val := hb2.trans (x.ok.mono (by omega))
      clear hcnt hroom g0 g1 g3 hBA bA2 bR2 hb2 hs2 hT2
      generalize x.val = w3 at *
      by_cases hf : at0 L s.toNat ≤ cnt A T s
      · have hgo : canGo L T A i = false := by rw [HCG.out]; simp; exact ⟨hst, hf⟩
        have HG := Lib.hid hgo
        clear hgo
        go_wp2_with (first | (refine wpList_load_blk rfl 84 _ rfl _ rfl bA3 Try.underlying84 rfl size84 hA5 ?_) | (refine wpList_store_blk rfl 84 _ _ rfl _ rfl rfl bR3 size84 hA5 rfl (arr_one _) ?_))
        have bR5 := World.putObj_heap_same (w := w3) (o := .cells (arr A) 84 (0, 0)) (lt_blk bR3)
        refine bodyPost_ret (results_agg_tmp rfl _ _ _ rfl bR5 Try.underlying84 rfl size84 hA5) rfl ⟨?_, below_putObj hb3 (by omega)⟩
        rw [← HR.out, HG.out]; rfl
      · have hgo : canGo L T A i = true := by rw [HCG.out]; simp; right; omega
        have HG := Lib.hid hgo
        clear hgo
        go_wp2
        refine HK.out _ _ ?_; clear HK K
        have cA := (cell_blk (i := i) bA3).trans (arr_get (A := A) (i := i) (by omega))
        have fA := free_blk (i := i) bA3
        refine wp_seq_k (fun K hK => ?_)
        have HK := Lib.hid hK; clear hK
        go_wp2
        refine HK.out _ _ ?_; clear HK K
        have bA4 : (w3.setCell ⟨w.heap.size, i, none⟩ (.int .i64 s)).heap[w.heap.size]? = some (.cells (arr (A.set i s)) 84 (0, 0)) := by rw [heap_set_blk bA3, arr_set]
        have bR4 : (w3.setCell ⟨w.heap.size, i, none⟩ (.int .i64 s)).heap[w.heap.size + 1]? = some (.cells (arr [0, 0, 0, 0, 0]) 84 (0, 0)) := by rw [heap_set_other (by omega)]; exact bR3
        have hb4 : Below w.heap.size w (w3.setCell ⟨w.heap.size, i, none⟩ (.int .i64 s)) := hb3.setCell (by simp) _
        generalize World.setCell _ _ _ = w4 at *
        clear cA fA bA3 bR3 hb3
        have hA6 : (arr (A.set i s)).size = 5 := by rw [arr_size, List.length_set]; exact a5
        go_wp2_with (first | (refine wpList_load_blk rfl 84 _ rfl _ rfl bA4 Try.underlying84 rfl size84 hA6 ?_) | (refine wpList_store_blk rfl 84 _ _ rfl _ rfl rfl bR4 size84 hA6 rfl (arr_one _) ?_))
        have bR5 := World.putObj_heap_same (w := w4) (o := .cells (arr (A.set i s)) 84 (0, 0)) (lt_blk bR4)
        refine bodyPost_ret (results_agg_tmp rfl _ _ _ rfl bR5 Try.underlying84 rfl size84 hA6) rfl ⟨?_, below_putObj hb4 (by omega)⟩
        rw [← HR.out, HG.out]; rfl
end Yteijenefhoconaa
end Go.Proofs
