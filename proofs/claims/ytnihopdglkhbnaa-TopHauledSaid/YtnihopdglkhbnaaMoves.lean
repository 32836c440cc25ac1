/- The state after a move. -/
import Derived.Test.YtnihopdglkhbnaaCount
open Go Go.RowKit Go.YtnihopdglkhbnaaIt
namespace Go.Proofs
namespace Ytnihopdglkhbnaa

/-- The section that a train moves to. -/
def nxt (a t : Int) : Int := if t < a then a - 1 else a + 1

set_option maxRecDepth 100000 in
theorem room_any (v : Value) (L : List Int) (s : Int) (w : World) (hL : SlI w v L) (h0 : 0 ≤ s) (h1 : s < L.length) :
    Calls Try.prog 29 #[v, .int .i64 s] w fun e w' => e = .returned (.int .i64 (at0 L s.toNat)) ∧ Below w.heap.size w w' := by
  obtain ⟨ad, cap, rfl, hm, hc⟩ := hL
  obtain ⟨b, off, rfl, hlt, hcell⟩ := hc (by omega)
  obtain ⟨k, rfl⟩ := Int.eq_ofNat_of_zero_le h0
  have hk : k < L.length := by omega
  have h := hcell k hk
  clear hcell hc h0 h1
  go_enter Try.func29, Try.ntmps29
  go_wp2
  go_ret
  exact ⟨rfl, Below.refl _ _⟩

/-- Train i, which is on the way, can move. -/
def canGo (L T A : List Int) (i : Nat) : Bool :=
  nxt (at0 A i) (at0 T i) == at0 T i || decide ((cnt A T (nxt (at0 A i) (at0 T i)) : Int) < at0 L (nxt (at0 A i) (at0 T i)).toNat)
def after (L T A : List Int) (i : Nat) : List Int := if canGo L T A i then A.set i (nxt (at0 A i) (at0 T i)) else A

theorem arr_one (A : List Int) : (arr A).all (·.oneCell') = true := by simp [arr, Value.oneCell']
theorem arr_set (A : List Int) (i : Nat) (x : Int) : (arr A).setIfInBounds i (.int .i64 x) = arr (A.set i x) := by simp [arr]

/-- Trains and a line within the program's bounds. -/
structure Okt (L T A : List Int) : Prop where
  a5 : A.length = 5
  t5 : T.length ≤ 5
  l8 : L.length ≤ 8
  at_ : ∀ i, i < T.length → 0 ≤ at0 A i ∧ at0 A i < L.length
  to_ : ∀ i, i < T.length → 0 ≤ at0 T i ∧ at0 T i < L.length
  bnd : ∀ x ∈ A, 0 ≤ x ∧ x < 100

set_option maxRecDepth 100000 in
set_option maxHeartbeats 4000000 in
theorem next_any (bx bm : Nat) (vL vT : Value) (L T A : List Int) (i : Nat) (w : World) (ok : Okt L T A) (hi : i < T.length) (ho : at0 A i ≠ at0 T i) (hT : Tk w bx bm vL vT L T) :
    Calls Try.prog 33 #[.pointer (some ⟨bx, 0, none⟩), .agg (arr A), .int .i64 i] w fun e w' => e = .returned (.tuple #[.agg (arr (after L T A i)), .bool (canGo L T A i)]) ∧ Below w.heap.size w w' := by
  obtain ⟨ha0, ha1⟩ := ok.at_ i hi
  obtain ⟨ht0, ht1⟩ := ok.to_ i hi
  have hl8 := ok.l8
  have ht5 := ok.t5
  have hA5 : (arr A).size = 5 := by rw [arr_size, ok.a5]
  obtain ⟨adT, capT, hvT, hmT, hcT⟩ := hT.st
  obtain ⟨b, off, hadT, hlt, hcell⟩ := hcT (by omega)
  subst hvT hadT
  have c3 := hcell i hi
  have c1 := cell_blk (i := 1) hT.blk
  have c0 := cell_blk (i := 0) hT.blk
  simp at c1 c0
  have hbx := lt_blk hT.blk
  obtain ⟨s, hs⟩ : ∃ s, s = nxt (at0 A i) (at0 T i) := ⟨_, rfl⟩
  have hs0 : 0 ≤ s := by rw [hs]; unfold nxt; split <;> omega
  have hs1 : s < L.length := by rw [hs]; unfold nxt; split <;> omega
  have hai := arr_get (A := A) (i := i) (by have := ok.a5; omega)
  have hi5 : i < 5 := by omega
  clear hcT hcell
  go_enter Try.func33, Try.ntmps33
  refine wp_seq_k (fun K hK => ?_)
  have HK := Lib.hid hK; clear hK
  go_wp2
  refine HK.out _ _ ?_; clear HK K
  generalize hw1 : World.alloc _ _ = w1
  have bA : w1.heap[w.heap.size]? = some (.cells (arr A) 49 (0, 0)) := by rw [← hw1]; simp (disch := first | omega | (simp only [World.size_alloc]; done) | (simp only [World.size_alloc]; omega)) only [heap_newI, heap_oldI]
  have bR : w1.heap[w.heap.size + 1]? = some (.cells (arr [0, 0, 0, 0, 0]) 49 (0, 0)) := by rw [← hw1]; simp (disch := first | omega | (simp only [World.size_alloc]; done) | (simp only [World.size_alloc]; omega)) only [heap_newI]; rfl
  have hb1 : Below w.heap.size w w1 := by rw [← hw1]; go_grown
  have hs1' : w.heap.size + 2 ≤ w1.heap.size := by rw [← hw1]; simp
  clear hw1
  have hT1 : Tk w1 bx bm vL _ L T := hT.below hb1 (Nat.le_refl _)
  have d0 := (hb1.cell (p := ⟨bx, 0, none⟩) hbx).trans c0
  have d1 := (hb1.cell (p := ⟨bx, 1, none⟩) hbx).trans c1
  have d3 := (hb1.cell (p := ⟨b, off + i, none⟩) hlt).trans c3
  have dA := (cell_blk (i := i) bA).trans hai
  have hr : (if canGo L T A i then A.set i s else A) = after L T A i := by rw [hs]; rfl
  have hcg : canGo L T A i = (s == at0 T i || decide ((cnt A T s : Int) < at0 L s.toNat)) := by rw [hs]; rfl
  have HR := Lib.hid hr
  have HCG := Lib.hid hcg
  have a5 := ok.a5
  clear hr hcg c0 c1 c3 hai hT ok ho
  have hdir : (at0 T i < at0 A i ∧ at0 A i - 1 = s) ∨ (¬ at0 T i < at0 A i ∧ at0 A i + 1 = s) := by
    by_cases hd : at0 T i < at0 A i
    · exact .inl ⟨hd, by rw [hs, nxt, if_pos hd]⟩
    · exact .inr ⟨hd, by rw [hs, nxt, if_neg hd]⟩
  clear hs
  rcases hdir with ⟨hd, hse⟩ | ⟨hd, hse⟩
  all_goals
    refine wp_seq_k (fun K hK => ?_)
    have HK := Lib.hid hK; clear hK
    go_wp2
    refine HK.out _ _ ?_; clear HK K
    refine wp_seq_k (fun K hK => ?_)
    have HK := Lib.hid hK; clear hK
    go_wp2
    go_quiet (fail)
    go_wp2
    refine HK.out _ _ ?_; clear HK K
    generalize hw2 : World.drewN _ _ = w2
    have bA2 : w2.heap[w.heap.size]? = some (.cells (arr A) 49 (0, 0)) := by rw [← hw2]; exact bA
    have bR2 : w2.heap[w.heap.size + 1]? = some (.cells (arr [0, 0, 0, 0, 0]) 49 (0, 0)) := by rw [← hw2]; exact bR
    have hb2 : Below w.heap.size w w2 := by rw [← hw2]; exact below_drewN hb1 _
    have hs2 : w.heap.size + 2 ≤ w2.heap.size := by rw [← hw2]; exact hs1'
    have hT2 : Tk w2 bx bm vL (.slice (some ⟨b, off, none⟩) T.length capT) L T := by rw [← hw2]; exact hT1.below (below_drewN (Below.refl _ _) _) (Nat.le_refl _)
    have e0 : w2.cell? ⟨bx, 0, none⟩ = some vL := by rw [← hw2]; exact d0
    have e1 : w2.cell? ⟨bx, 1, none⟩ = some (.slice (some ⟨b, off, none⟩) T.length capT) := by rw [← hw2]; exact d1
    have e3 : w2.cell? ⟨b, off + i, none⟩ = some (.int .i64 (at0 T i)) := by rw [← hw2]; exact d3
    have hbx2 : bx < w2.heap.size := by omega
    have hlt2 : b < w2.heap.size := by omega
    clear hw2 bA bR hb1 hs1' hT1 d0 d1 d3 dA hd hse
    refine wp_seq_k (fun K hK => ?_)
    have HK := Lib.hid hK; clear hK
    by_cases hst : s = at0 T i
    · have h1 : (s != at0 T i) = false := by rw [bne_eq_false_iff_eq]; exact hst
      have hgo : canGo L T A i = true := by rw [HCG.out, hst]; simp
      have HG := Lib.hid hgo
      have HS := Lib.hid hst
      clear hgo hst
      refine wp_seq_k (fun K2 hK2 => ?_)
      have HK2 := Lib.hid hK2; clear hK2
      go_quiet (fail)
      go_wp2
      refine HK2.out _ _ ?_; clear HK2 K2
      generalize hw3 : World.drewN _ _ = w3
      have bA3 : w3.heap[w.heap.size]? = some (.cells (arr A) 49 (0, 0)) := by rw [← hw3]; exact bA2
      have bR3 : w3.heap[w.heap.size + 1]? = some (.cells (arr [0, 0, 0, 0, 0]) 49 (0, 0)) := by rw [← hw3]; exact bR2
      have hb3 : Below w.heap.size w w3 := by rw [← hw3]; exact below_drewN hb2 _
      clear hw3 bA2 bR2 hb2 hs2 hT2 e0 e1 e3
      go_wp2
      refine HK.out _ _ ?_; clear HK K
      have cA := (cell_blk (i := i) bA3).trans (arr_get (A := A) (i := i) (by omega))
      have fA := free_blk (i := i) bA3
      refine wp_seq_k (fun K hK => ?_)
      have HK := Lib.hid hK; clear hK
      go_wp2
      refine HK.out _ _ ?_; clear HK K
      have bA4 : (w3.setCell ⟨w.heap.size, i, none⟩ (.int .i64 s)).heap[w.heap.size]? = some (.cells (arr (A.set i s)) 49 (0, 0)) := by rw [heap_set_blk bA3, arr_set]
      have bR4 : (w3.setCell ⟨w.heap.size, i, none⟩ (.int .i64 s)).heap[w.heap.size + 1]? = some (.cells (arr [0, 0, 0, 0, 0]) 49 (0, 0)) := by rw [heap_set_other (by omega)]; exact bR3
      have hb4 : Below w.heap.size w (w3.setCell ⟨w.heap.size, i, none⟩ (.int .i64 s)) := hb3.setCell (by simp) _
      generalize World.setCell _ _ _ = w4 at *
      clear cA fA bA3 bR3 hb3
      have hA6 : (arr (A.set i s)).size = 5 := by rw [arr_size, List.length_set]; exact a5
      go_wp2_with (first | (refine wpList_load_blk rfl 49 _ rfl _ rfl bA4 Try.underlying49 rfl size84 hA6 ?_) | (refine wpList_store_blk rfl 49 _ _ rfl _ rfl rfl bR4 size84 hA6 rfl (arr_one _) ?_))
      have bR5 := World.putObj_heap_same (w := w4) (o := .cells (arr (A.set i s)) 49 (0, 0)) (lt_blk bR4)
      refine bodyPost_ret (results_agg_tmp rfl _ _ _ rfl bR5 Try.underlying49 rfl size84 hA6) rfl ⟨?_, below_putObj hb4 (by omega)⟩
      rw [← HR.out, HG.out]; rfl
    · have h1 : (s != at0 T i) = true := by rw [bne_iff_ne]; exact hst
      refine wp_seq_k (fun K2 hK2 => ?_)
      have HK2 := Lib.hid hK2; clear hK2
      have hcnt := fun (x : Ab w2.heap.size w2) => count_any bx bm vL _ L T A s x.val a5 ht5 (hT2.below x.ok (Nat.le_refl _))
      have hroom := fun (x : Ab w2.heap.size w2) => room_any vL L s x.val ((hT2.below x.ok (Nat.le_refl _)).sl) hs0 hs1
      have g0 := fun (x : Ab w2.heap.size w2) => (x.ok.cell (p := ⟨bx, 0, none⟩) hbx2).trans e0
      have g1 := fun (x : Ab w2.heap.size w2) => (x.ok.cell (p := ⟨bx, 1, none⟩) hbx2).trans e1
      have g3 := fun (x : Ab w2.heap.size w2) => (x.ok.cell (p := ⟨b, off + i, none⟩) hlt2).trans e3
      refine wp_region_ab w2.heap.size w2 (by kernel_rfl) (by kernel_rfl) (Below.refl _ _) ?_
      clear e0 e1 e3
      unfold AbC
      have hBA : ∀ W, (∃ x : Ab w2.heap.size w2, W = x.val) → W.heap[w.heap.size]? = some (.cells (arr A) 49 (0, 0)) := by rintro W ⟨x, rfl⟩; exact blk_below bA2 x.ok (by omega)
      repeat (first | (refine wpQuiet_load_blk rfl 49 _ rfl _ rfl hBA Try.underlying49 rfl size84 hA5 ?_; simp only [Act.put, List.setIfInBounds_toArray, List.set_cons_succ, List.set_cons_zero]) | go_big_quiet_step (first | (go_at_call 28; exact Calls.ab _ (Nat.le_refl _) (hcnt _)) | (go_at_call 29; exact Calls.ab _ (Nat.le_refl _) (hroom _))))
      refine wpQuiet_nil ?_
      rintro W' ⟨x, rfl⟩
      refine HK2.out _ _ ?_; clear HK2 K2
      have bA3 := blk_below bA2 x.ok (by omega)
      have bR3 := blk_below bR2 x.ok (by omega)
      have hb3 : Below w.heap.size w x.val := hb2.trans (x.ok.mono (by omega))
      clear hcnt hroom g0 g1 g3 hBA bA2 bR2 hb2 hs2 hT2
      generalize x.val = w3 at *
      by_cases hf : at0 L s.toNat ≤ cnt A T s
      · have hgo : canGo L T A i = false := by rw [HCG.out]; simp; exact ⟨hst, hf⟩
        have HG := Lib.hid hgo
        clear hgo
        go_wp2_with (first | (refine wpList_load_blk rfl 49 _ rfl _ rfl bA3 Try.underlying49 rfl size84 hA5 ?_) | (refine wpList_store_blk rfl 49 _ _ rfl _ rfl rfl bR3 size84 hA5 rfl (arr_one _) ?_))
        have bR5 := World.putObj_heap_same (w := w3) (o := .cells (arr A) 49 (0, 0)) (lt_blk bR3)
        refine bodyPost_ret (results_agg_tmp rfl _ _ _ rfl bR5 Try.underlying49 rfl size84 hA5) rfl ⟨?_, below_putObj hb3 (by omega)⟩
        rw [← HR.out, HG.out]; rfl
      · have hgo : canGo L T A i = true := by rw [HCG.out]; simp; right; omega
        have HG := Lib.hid hgo
        clear hgo
        go_wp2
        refine HK.out _ _ ?_; clear HK K
        have cA := (cell_blk (i := i) bA3).trans (arr_get (A := A) (i := i) (by omega))
        have fA := free_blk (i := i) bA3
        refine wp_seq_k (fun K hK => ?_)
        have HK := Lib.hid hK; clear hK
        go_wp2
        refine HK.out _ _ ?_; clear HK K
        have bA4 : (w3.setCell ⟨w.heap.size, i, none⟩ (.int .i64 s)).heap[w.heap.size]? = some (.cells (arr (A.set i s)) 49 (0, 0)) := by rw [heap_set_blk bA3, arr_set]
        have bR4 : (w3.setCell ⟨w.heap.size, i, none⟩ (.int .i64 s)).heap[w.heap.size + 1]? = some (.cells (arr [0, 0, 0, 0, 0]) 49 (0, 0)) := by rw [heap_set_other (by omega)]; exact bR3
        have hb4 : Below w.heap.size w (w3.setCell ⟨w.heap.size, i, none⟩ (.int .i64 s)) := hb3.setCell (by simp) _
        generalize World.setCell _ _ _ = w4 at *
        clear cA fA bA3 bR3 hb3
        have hA6 : (arr (A.set i s)).size = 5 := by rw [arr_size, List.length_set]; exact a5
        go_wp2_with (first | (refine wpList_load_blk rfl 49 _ rfl _ rfl bA4 Try.underlying49 rfl size84 hA6 ?_) | (refine wpList_store_blk rfl 49 _ _ rfl _ rfl rfl bR4 size84 hA6 rfl (arr_one _) ?_))
        have bR5 := World.putObj_heap_same (w := w4) (o := .cells (arr (A.set i s)) 49 (0, 0)) (lt_blk bR4)
        refine bodyPost_ret (results_agg_tmp rfl _ _ _ rfl bR5 Try.underlying49 rfl size84 hA6) rfl ⟨?_, below_putObj hb4 (by omega)⟩
        rw [← HR.out, HG.out]; rfl
end Ytnihopdglkhbnaa
end Go.Proofs
/- The trains that can move, each with the state after it. -/
open Go Go.RowKit Go.YtnihopdglkhbnaaIt
namespace Go.Proofs
namespace Ytnihopdglkhbnaa

def movL (L T A : List Int) : List Nat := (wayL A T).filter (canGo L T A)
def movY (L T A : List Int) : List (Array Value) := (movL L T A).map fun (i : Nat) => #[.int .i64 (i : Int), .agg (arr (after L T A i))]
def movN (L T A : List Int) (k : Nat) : Nat := (((wayL A T).take k).filter (canGo L T A)).length
theorem movN_succ (L T A : List Int) {k : Nat} (h : k < (wayL A T).length) : movN L T A (k + 1) = movN L T A k + if canGo L T A (wayL A T)[k] then 1 else 0 := by
  unfold movN; rw [List.take_succ_eq_append_getElem h, List.filter_append, List.length_append]; congr 1
  by_cases hc : canGo L T A (wayL A T)[k] = true <;> simp [hc]
theorem movN_end (L T A : List Int) : movN L T A (wayY A T).length = (movY L T A).length := by simp [movN, movY, movL, wayY]
theorem movY_get (L T A : List Int) {k : Nat} (h : k < (wayL A T).length) (hc : canGo L T A (wayL A T)[k] = true) :
    ∃ hk : movN L T A k < (movY L T A).length, (movY L T A)[movN L T A k] = #[.int .i64 ((wayL A T)[k] : Int), .agg (arr (after L T A (wayL A T)[k]))] := by
  have e : wayL A T = (wayL A T).take k ++ ((wayL A T)[k] :: (wayL A T).drop (k + 1)) := by
    rw [← List.drop_eq_getElem_cons h, List.take_append_drop]
  have h1 : (movL L T A)[movN L T A k]? = some (wayL A T)[k] := by
    unfold movL movN
    conv => lhs; rw [show List.filter (canGo L T A) (wayL A T) = List.filter (canGo L T A) ((wayL A T).take k ++ ((wayL A T)[k] :: (wayL A T).drop (k + 1))) from by rw [← e]]
    rw [List.filter_append, List.getElem?_append_right (Nat.le_refl _), List.filter_cons_of_pos hc, Nat.sub_self]; rfl
  obtain ⟨hl, he⟩ := List.getElem?_eq_some_iff.1 h1
  exact ⟨by simpa [movY] using hl, by simp [movY, he]⟩
theorem way_mem {A T : List Int} {i : Nat} (h : i ∈ wayL A T) : i < T.length ∧ at0 A i ≠ at0 T i := by
  simp [wayL, onw] at h; exact h

theorem KeW.below {W W' : World} {B b1 b2 bx bm : Nat} {vL vT : Value} {L T A : List Int} (h : KeW b1 b2 bx bm vL vT L T A W) (hb : Below B W W') (hB : W.heap.size ≤ B) : KeW b1 b2 bx bm vL vT L T A W' :=
  ⟨blk_below h.x hb (Nat.lt_of_lt_of_le (lt_blk h.x) hB), blk_below h.at_ hb (Nat.lt_of_lt_of_le (lt_blk h.at_) hB), h.tk.below hb hB⟩

/-- The types of the iterators' own variables. -/
def TTm (t : TypeId) : Prop := t = 94 ∨ t = 47 ∨ t = 49
def okF (f : FuncId) : Prop := (Try.prog.funcs[f]?).isSome = true

set_option maxRecDepth 100000 in
set_option maxHeartbeats 4000000 in
theorem moves_iter (TT : TypeId → Prop) (hTT : ∀ t, TTm t → TT t) (b1 b2 bx bm : Nat) (vL vT : Value) (L T A : List Int) (ok : Okt L T A) :
    Iter Try.prog TT 44 #[.pointer (some ⟨b1, 0, none⟩), .pointer (some ⟨b2, 0, none⟩)] (movY L T A) (KeW b1 b2 bx bm vL vT L T A) := by
  intro l W J Jx Jp hK sJ sJx sJp hY h0
  have hk0 := hK 0 W h0
  have hA5 : (arr A).size = 5 := by rw [arr_size, ok.a5]
  refine calls_of_wpV (V := okF) Try.func44 rfl (by unfold okF; rw [Try.func44]; rfl) ?_
  simp only [Try.ntmps44, List.size_toArray, List.length_cons, List.length_nil, Nat.reduceAdd, Nat.reduceSub, Array.replicate_succ, Array.replicate_zero, List.push_toArray, List.append_toArray, List.nil_append, List.cons_append]
  refine wpV_then (fun K hK => ?_)
  have HK := Lib.hid hK; clear hK
  gi_wp2
  refine HK.out _ _ ?_; clear HK K
  generalize hw1 : World.alloc _ _ = w1
  have by1 : w1.heap[W.heap.size]? = some (.cells #[.func (.yield l) #[] #[]] 94 (0, 0)) := by rw [← hw1]; exact heap_newI rfl
  have hb1 : Below W.heap.size W w1 := by rw [← hw1]; go_grown
  have hs1 : W.heap.size + 1 ≤ w1.heap.size := by rw [← hw1]; simp
  clear hw1
  have hk1 := hk0.below hb1 (Nat.le_refl _)
  have hJ1 : J 0 w1 := sJ 0 _ _ (Gr.below hb1) h0
  have c1 := cell_blk (i := 0) hk1.x
  simp at c1
  refine wpV_then (fun K hK => ?_)
  have HK := Lib.hid hK; clear hK
  gi_wp2_with (first | (refine wpListIn_load_blk rfl 49 _ rfl _ rfl hk1.at_ Try.underlying49 rfl size84 hA5 ?_) | (gi_at_call 43; refine callsTo (way_any bx bm vL vT L T A w1 hk1.tk) ?_; rintro e w2 ⟨rfl, hke, hb2, -⟩))
  refine HK.out _ _ ?_; clear HK K
  have hs2 := hb2.size
  have by2 := blk_below by1 hb2 (by omega)
  have hJ2 : J 0 w2 := sJ 0 _ _ (Gr.below hb2) hJ1
  refine wpV_block ?_
  have hit := way_iter TT w1.heap.size (w1.heap.size + 1) bx bm vL vT L T A ok.a5 ok.t5
  refine wpV_rangeR (gf := 47) (lb := #[.pointer (some ⟨w1.heap.size, 0, none⟩), .pointer (some ⟨w1.heap.size + 1, 0, none⟩)]) ?hg ?eg hit ?hps
    (fun k V => (V.heap[w1.heap.size]? = some (.cells #[.pointer (some ⟨bx, 0, none⟩)] 47 (0, 0)) ∧ V.heap[w1.heap.size + 1]? = some (.cells (arr A) 49 (0, 0))) ∧ V.heap[W.heap.size]? = some (.cells #[.func (.yield l) #[] #[]] 94 (0, 0)) ∧ W.heap.size ≤ V.heap.size ∧ J (movN L T A k) V)
    (fun c V => c = .ret ∧ Jx V) (fun ch V => Jp ch V) ?hval ?hK ?sI ?sIx ?sIp ?h0 ?round ?done ?stop ?panic
  case hg => rfl
  case eg => exact (enters_of Try.func47 (by kernel_rfl) rfl)
  case hps => intro y hy; simp [wayY] at hy; obtain ⟨i, _, rfl⟩ := hy; rfl
  case hval => exact fun _ fn h => h
  case hK => exact fun k V ⟨⟨h1, h2⟩, _, _, h5⟩ => ⟨h1, h2, (hK _ _ h5).tk⟩
  case sI => exact fun k => (Stb.cells.and Stb.cells).and (Stb.cells.and (Stb.and (fun _ _ g h => Nat.le_trans h g.size) ((sJ _).mono (by omega))))
  case sIx => exact fun c => Stb.pure.and (sJx.mono (by omega))
  case sIp => exact fun ch => (sJp ch).mono (by omega)
  case h0 => exact ⟨⟨hke.x, hke.at_⟩, by2, by omega, hJ2⟩
  case stop =>
    rintro c V ⟨rfl, hx⟩ hD
    refine wpV_of (n := 0) ?_
    refine wpIn_ret ?_
    refine leave_mark rfl hD (results_none rfl _ _ _) (.inl ⟨⟨_, rfl⟩, .inr (sJx _ _ (Gr.putObj _ (by omega) hD rfl) hx)⟩)
  case panic =>
    intro ch V hp hD
    exact leave_mark_panic rfl hD (.inr ⟨ch, rfl, sJp ch _ _ (Gr.putObj _ (by omega) hD rfl) hp⟩)
  case done =>
    rintro V ⟨-, -, -, hj⟩ hD
    rw [movN_end] at hj
    exact leave_mark_end rfl hD (results_none rfl _ _ _) (.inl ⟨⟨_, rfl⟩, .inl (sJ _ _ _ (Gr.putObj _ (by omega) hD rfl) hj)⟩)
  case round =>
    intro k hk l2 V hI
    have hk' : k < (wayL A T).length := by simpa [wayY] using hk
    have hyk : (wayY A T)[k] = #[.int .i64 (((wayL A T)[k] : Nat) : Int), .int .i64 (at0 A (wayL A T)[k])] := by simp [wayY]
    have hmem := way_mem (List.getElem_mem hk')
    have hms := movN_succ L T A hk'
    have hmg := movY_get L T A hk'
    rw [hyk]
    generalize (wayL A T)[k] = i at *
    have HI := Lib.hid hI
    have HMS := Lib.hid hms
    have HMG := Lib.hid hmg
    have HM := Lib.hid hmem
    clear hmg hmem hms hyk hI hJ2 hJ1 by1 by2 c1 hke hk1 hit hk hk' hk0 h0
    simp only [List.zip_toArray, List.zip_cons_cons, List.zip_nil_right, List.foldl_toArray', List.size_toArray, List.length_cons, List.length_nil, List.foldl_cons, List.foldl_nil, List.setIfInBounds_toArray, List.set_cons_succ, List.set_cons_zero]
    refine wpV_of (n := 0) ?_
    gi_wp2
    refine ⟨Kx.refl _ _ _, fun V => (V.heap[w1.heap.size]? = some (.cells #[.pointer (some ⟨bx, 0, none⟩)] 47 (0, 0)) ∧ V.heap[w1.heap.size + 1]? = some (.cells (arr A) 49 (0, 0))) ∧ V.heap[W.heap.size]? = some (.cells #[.func (.yield l) #[] #[]] 94 (0, 0)) ∧ W.heap.size ≤ V.heap.size ∧ J (movN L T A k) V,
      (Stb.cells.and Stb.cells).and (Stb.cells.and (Stb.and (fun _ _ g h => Nat.le_trans h g.size) ((sJ _).mono (by omega)))), HI.out, ?_⟩
    clear HI
    rintro V2 - ⟨⟨g1, g2⟩, g3, g4, g5⟩
    have hkk := hK _ _ g5
    have hsV := hs2
    have c1 := cell_blk (i := 0) hkk.x
    simp at c1
    obtain ⟨hi, hio⟩ := HM.out
    refine wpV_of (n := 0) ?_
    refine wpIn_block ?_
    refine wpIn_seq_k (fun K hK' => ?_)
    have HK := Lib.hid hK'; clear hK'
    have hA6 : (arr (after L T A i)).size = 5 := by rw [arr_size]; unfold after; split <;> simp [ok.a5]
    have hnext := next_any bx bm vL vT L T A i V2 ok hi hio hkk.tk
    clear hi
    by_cases hc : canGo L T A i = true
    · have HC := Lib.hid hc
      gi_wp2_with (first | (refine wpListIn_load_blk rfl 49 _ rfl _ rfl hkk.at_ Try.underlying49 rfl size84 hA5 ?_) | (refine wpListIn_store_blk rfl 49 _ _ rfl _ rfl rfl (World.alloc_heap_new _ _) size84 hA6 rfl (arr_one _) ?_) | (gi_at_call 33; refine callsTo hnext ?_; rintro e w3 ⟨rfl, hb3⟩))
      refine HK.out _ _ ?_; clear HK K
      have hb4 : Below V2.heap.size V2 ((w3.alloc (.cells #[.int .i64 0, .int .i64 0, .int .i64 0, .int .i64 0, .int .i64 0] 49)).putObj w3.heap.size (.cells (arr (after L T A i)) 49 (0, 0))) :=
        below_putObj (hb3.alloc hb3.size _) hb3.size
      have b5 : ((w3.alloc (.cells #[.int .i64 0, .int .i64 0, .int .i64 0, .int .i64 0, .int .i64 0] 49)).putObj w3.heap.size (.cells (arr (after L T A i)) 49 (0, 0))).heap[w3.heap.size]? = some (.cells (arr (after L T A i)) 49 (0, 0)) := World.putObj_heap_same (by simp)
      generalize World.putObj _ _ _ = w4 at *
      have hs4 := hb4.size
      have hJ4 : J (movN L T A k) w4 := sJ _ _ _ (Gr.below hb4) g5
      have b3 := blk_below g3 hb4 (lt_blk g3)
      have cy := cell_blk (i := 0) b3
      simp at cy
      obtain ⟨hlen, hyk⟩ := HMG.out hc
      have hy := hY (movN L T A k) hlen w4 (by omega) hJ4
      rw [hyk] at hy
      obtain ⟨fn, tmps, assign, body, hy, hR⟩ := hy
      have hms : movN L T A (k + 1) = movN L T A k + 1 := by rw [HMS.out, hc]; rfl
      have HS := Lib.hid hms
      have HYK := Lib.hid hyk
      have g1' := blk_below g1 hb4 (lt_blk g1)
      have g2' := blk_below g2 hb4 (lt_blk g2)
      clear hms hyk hY hnext g5 g3 g2 g1 hkk c1
      gi_wp2_with (first | (refine wpListIn_load_blk rfl 49 _ rfl _ rfl b5 Try.underlying49 rfl size84 hA6 ?_))
      refine RoundIn.mono (F := Fence.wide) hR ?_
      clear hy hR
      rintro e W' (⟨rfl, hJ', hs'⟩ | ⟨rfl, hx', hs'⟩ | ⟨ch, rfl, hp', hs'⟩)
      · gi_wp2
        refine ⟨(Kx.below hb4).trans ⟨hs'.size, fun k' o hk' => hs'.same k' o (by omega), hs'.typed⟩, ⟨hs'.typed _ _ _ _ g1' (hTT _ (.inr (.inl rfl))), hs'.typed _ _ _ _ g2' (hTT _ (.inr (.inr rfl)))⟩, hs'.typed _ _ _ _ b3 (hTT _ (.inl rfl)), ?_, ?_⟩
        · have := hs'.size; omega
        · rw [HS.out]; exact hJ'
      · gi_wp2
        exact ⟨(Kx.below hb4).trans ⟨hs'.size, fun k' o hk' => hs'.same k' o (by omega), hs'.typed⟩, rfl, hx'⟩
      · exact ⟨rfl, (Kx.below hb4).trans ⟨hs'.size, fun k' o hk' => hs'.same k' o (by omega), hs'.typed⟩, hp'⟩
    · have hcf : canGo L T A i = false := by simpa using hc
      have HC := Lib.hid hcf
      clear hc hY
      gi_wp2_with (first | (refine wpListIn_load_blk rfl 49 _ rfl _ rfl hkk.at_ Try.underlying49 rfl size84 hA5 ?_) | (refine wpListIn_store_blk rfl 49 _ _ rfl _ rfl rfl (World.alloc_heap_new _ _) size84 hA6 rfl (arr_one _) ?_) | (gi_at_call 33; refine callsTo hnext ?_; rintro e w3 ⟨rfl, hb3⟩))
      refine HK.out _ _ ?_; clear HK K
      have hb4 : Below V2.heap.size V2 ((w3.alloc (.cells #[.int .i64 0, .int .i64 0, .int .i64 0, .int .i64 0, .int .i64 0] 49)).putObj w3.heap.size (.cells (arr (after L T A i)) 49 (0, 0))) :=
        below_putObj (hb3.alloc hb3.size _) hb3.size
      generalize World.putObj _ _ _ = w4 at *
      have hs4 := hb4.size
      have hJ4 : J (movN L T A (k + 1)) w4 := by rw [HMS.out, HC.out]; exact sJ _ _ _ (Gr.below hb4) g5
      have g1' := blk_below g1 hb4 (lt_blk g1)
      have g2' := blk_below g2 hb4 (lt_blk g2)
      have g3' := blk_below g3 hb4 (lt_blk g3)
      clear hnext g5 g3 g2 g1 hkk c1
      gi_wp2
      exact ⟨Kx.below hb4, ⟨g1', g2'⟩, g3', by omega, hJ4⟩
end Ytnihopdglkhbnaa
end Go.Proofs

