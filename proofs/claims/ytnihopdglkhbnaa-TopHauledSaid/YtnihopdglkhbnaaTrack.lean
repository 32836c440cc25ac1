/- The track of a line, and the state of its trains. -/
import Derived.Test.YtnihopdglkhbnaaTr
import Derived.Laws.EntriesVeiled
import Derived.Lib.SmallJoins
open Go Go.RowKit Go.YtnihopdglkhbnaaIt
namespace Go.Proofs
namespace Ytnihopdglkhbnaa

/-- Where the first k trains are; the others at 0. -/
def posK (ts : List Tn) (k : Nat) : List Int := (List.range 5).map fun i => if i < k then tAt ts i else 0
theorem posK_len (ts : List Tn) (k : Nat) : (posK ts k).length = 5 := by simp [posK]
theorem posK_at {ts : List Tn} {k i : Nat} (hi : i < 5) : at0 (posK ts k) i = if i < k then tAt ts i else 0 := by
  rw [at0_lt (by rw [posK_len]; exact hi)]; simp [posK]
theorem posK_set {ts : List Tn} {k : Nat} (_ : k < 5) : (posK ts k).set k (tAt ts k) = posK ts (k + 1) := by
  apply List.ext_getElem (by simp [posK])
  intro i h1 h2
  have h5 : i < 5 := by simpa [posK] using h2
  simp only [List.getElem_set, posK, List.getElem_map, List.getElem_range]
  by_cases h : k = i
  · subst h; simp
  · rw [if_neg h]
    by_cases h3 : i < k
    · rw [if_pos h3, if_pos (by omega)]
    · rw [if_neg h3, if_neg (by omega)]
theorem posK_zero (ts : List Tn) : posK ts 0 = [0, 0, 0, 0, 0] := by simp [posK, List.range_succ]
def pos (ts : List Tn) : List Int := posK ts ts.length
def tos (ts : List Tn) : List Int := ts.map (·.2)
theorem tos_len (ts : List Tn) : (tos ts).length = ts.length := by simp [tos]
theorem tos_at {ts : List Tn} {i : Nat} (h : i < ts.length) : at0 (tos ts) i = tTo ts i := by
  rw [at0_lt (by rw [tos_len]; exact h), tTo_lt h]; simp [tos]

/-- The tests of a line and of trains. -/
def roomOut (L : List Int) : Bool := L.any fun n => !btw 1 n 5
def trainOut (L : List Int) (ts : List Tn) : Bool := ts.any fun x => !btw 0 x.1 (L.length - 1) || !btw 0 x.2 (L.length - 1)
def overFull (L : List Int) (ts : List Tn) : Bool := (List.range L.length).any fun (s : Nat) => decide (at0 L s < cnt (pos ts) (tos ts) s)
/-- The error of a line and a state. -/
def lineE (L : List Int) (ts : List Tn) : Int :=
  if L.length = 0 then 4 else if 8 < L.length then 1 else if roomOut L then 2 else if 5 < ts.length then 1 else if trainOut L ts then 17 else if overFull L ts then 15 else 0

theorem okt_of {L : List Int} {ts : List Tn} (h : lineE L ts = 0) : Okt L (tos ts) (pos ts) := by
  unfold lineE at h
  split at h; · cases h
  split at h; · cases h
  split at h; · cases h
  split at h; · cases h
  split at h; · cases h
  rename_i h1 h2 h3 h4 h5
  have ht : ∀ i (hi : i < ts.length), (0 ≤ tAt ts i ∧ tAt ts i < L.length) ∧ (0 ≤ tTo ts i ∧ tTo ts i < L.length) := by
    intro i hi
    have h6 : trainOut L ts = false := by simpa using h5
    unfold trainOut at h6
    rw [List.any_eq_false] at h6
    have := h6 _ (List.getElem_mem hi)
    simp [btw] at this
    rw [tAt_lt hi, tTo_lt hi]
    omega
  refine ⟨posK_len _ _, by rw [tos_len]; omega, by omega, ?_, ?_, ?_⟩
  · intro i hi
    rw [tos_len] at hi
    unfold pos
    rw [posK_at (by omega), if_pos hi]
    exact (ht i hi).1
  · intro i hi
    rw [tos_len] at hi
    rw [tos_at hi]
    exact (ht i hi).2
  · intro x hx
    simp only [pos, posK, List.mem_map, List.mem_range] at hx
    obtain ⟨i, hi, rfl⟩ := hx
    split
    · rename_i hl; have := (ht i hl).1; omega
    · omega

theorem below_drawn {n : Nat} {X W : World} (h : Below n X W) (k : Nat) : Below n X { W with drawn := k } := ⟨h.os, h.tape, h.output, h.size, h.block⟩
theorem lineE4 {L : List Int} {ts : List Tn} (h : L.length = 0) : lineE L ts = 4 := by unfold lineE; rw [if_pos h]
theorem lineE1 {L : List Int} {ts : List Tn} (h : 8 < L.length) : lineE L ts = 1 := by unfold lineE; rw [if_neg (by omega), if_pos h]
theorem lineE2 {L : List Int} {ts : List Tn} (h0 : L.length ≠ 0) (h : L.length ≤ 8) (h2 : true = roomOut L) : lineE L ts = 2 := by unfold lineE; rw [if_neg h0, if_neg (by omega), if_pos h2.symm]
theorem lineE5 {L : List Int} {ts : List Tn} (h0 : L.length ≠ 0) (h : L.length ≤ 8) (h2 : false = roomOut L) (h3 : 5 < ts.length) : lineE L ts = 1 := by unfold lineE; rw [if_neg h0, if_neg (by omega), ← h2, if_neg (by decide), if_pos h3]
theorem lineE17 {L : List Int} {ts : List Tn} (h0 : L.length ≠ 0) (h : L.length ≤ 8) (h2 : false = roomOut L) (h3 : ts.length ≤ 5) (h4 : true = trainOut L ts) : lineE L ts = 17 := by unfold lineE; rw [if_neg h0, if_neg (by omega), ← h2, if_neg (by decide), if_neg (by omega), if_pos h4.symm]
theorem lineEt {L : List Int} {ts : List Tn} (h0 : L.length ≠ 0) (h : L.length ≤ 8) (h2 : false = roomOut L) (h3 : ts.length ≤ 5) (h4 : false = trainOut L ts) : lineE L ts = if overFull L ts then 15 else 0 := by unfold lineE; rw [if_neg h0, if_neg (by omega), ← h2, if_neg (by decide), if_neg (by omega), ← h4, if_neg (by decide)]
theorem one_new {W : World} {x : Value} {t : TypeId} {g : Nat} (hg : g = W.heap.size) : ∀ j u, [x][j]? = some u → (W.alloc (.cells #[x] t)).cell? ((⟨g, 0, none⟩ : Addr).add j) = some u := by
  subst hg
  intro j u h
  cases j with
  | zero => simp at h; subst h; simp [Addr.add]
  | succ j => simp at h
theorem grown_blk {W W' : World} {o : Obj} {v : Value} {B b n : Nat} {xs : List Value} {e : TypeId} {sz : Nat} (h : (W.alloc o).drew.grownBy W' v.ownBlock) (ho : W.ownsRow B e sz v n xs) (hb : b < B) (hB : B ≤ W.heap.size) : W'.heap[b]? = W.heap[b]? := by
  have hsz : (W.alloc o).drew.heap.size = W.heap.size + 1 := by show (W.alloc o).heap.size = _; rw [World.size_alloc]
  rw [h.block b (by omega) (fun h2 => by have := (ho.lt b h2.symm).1; omega)]
  exact heap_oldI (show b < W.heap.size by omega)
theorem grown_below {W W' X : World} {o : Obj} {v : Value} {B n m : Nat} {xs : List Value} {e : TypeId} {sz : Nat} (h : (W.alloc o).drew.grownBy W' v.ownBlock) (ho : W.ownsRow B e sz v n xs) (hb : m ≤ B) (hB : B ≤ W.heap.size) (hx : Below m X W) : Below m X W' := by
  have hsz : (W.alloc o).drew.heap.size = W.heap.size + 1 := by show (W.alloc o).heap.size = _; rw [World.size_alloc]
  refine ⟨h.os.trans hx.os, h.tape.trans hx.tape, h.output.trans hx.output, Nat.le_trans hx.size (Nat.le_trans (by omega) h.size), fun k hk => ?_⟩
  rw [grown_blk h ho (by omega) hB]
  exact hx.block k hk
theorem slI_own {W W' : World} {base : Nat} {v : Value} {xs : List Int} (h : W.ownsRow base 3 1 v xs.length (xs.map (.int .i64))) (hm : xs.length ≤ 17592186044416) (hs : W.heap.size ≤ W'.heap.size) (hk : ∀ b, base ≤ b → b < W.heap.size → W'.heap[b]? = W.heap[b]?) : SlI W' v xs := by
  rcases Joins.ownsRow_forms h with ⟨rfl, h0⟩ | ⟨g, cap, rfl⟩
  · exact ⟨none, 0, by rw [h0], hm, fun h1 => by omega⟩
  · have hl := h.lt g rfl
    refine ⟨_, cap, rfl, hm, fun _ => ⟨g, 0, rfl, Nat.lt_of_lt_of_le hl.2 hs, fun i hi => ?_⟩⟩
    have := h.cellAt i (by omega)
    rw [Nat.zero_add, World.cell?_of_block (w := W) (hk g hl.1 hl.2), this]
    simp [at0_lt hi, hi]
theorem info3 : (Try.prog.info? 3).map (fun i => (i.zero, i.size, i.bytes)) = some (some (.int .i64 0), 1, 8) := by kernel_rfl
theorem zero3 : arr [0, 0, 0, 0, 0] = #[.int .i64 0, .int .i64 0, .int .i64 0, .int .i64 0, .int .i64 0] := rfl
set_option maxRecDepth 100000 in
set_option maxHeartbeats 4000000 in
theorem track_any (vL vt : Value) (L : List Int) (ts : List Tn) (w : World) (hL : SlI w vL L) (ht : SlT w vt ts) :
    Calls Try.prog 11 #[vL, vt] w fun e w' => Below w.heap.size w w' ∧
      ((lineE L ts ≠ 0 ∧ ∃ A : List Int, A.length = 5 ∧ e = .returned (.tuple #[.pointer none, .agg (arr A), .int .i64 (lineE L ts)])) ∨
       (lineE L ts = 0 ∧ ∃ bx bm vT, e = .returned (.tuple #[.pointer (some ⟨bx, 0, none⟩), .agg (arr (pos ts)), .int .i64 0]) ∧ Tk w' bx bm vL vT L (tos ts) ∧ Memo w' bm (GSafe L (tos ts)) ∧ w.heap.size ≤ bm)) := by
  have hmf : ∀ (fn : Fn) (first cap : Array Value) (w : World), (Instr.makeFunc fn first cap).run Try.prog w = .ok (.func fn first cap) w := fun _ _ _ _ => rfl
  have hmm := @run_makeMap Try.prog
  obtain ⟨adL, capL, hvL, hmL, hcL⟩ := hL
  obtain ⟨adt, capt, hvt, hmt, hct⟩ := ht
  have hL : SlI w vL L := ⟨adL, capL, hvL, hmL, hcL⟩
  have ht : SlT w vt ts := ⟨adt, capt, hvt, hmt, hct⟩
  have HL := Lib.hid hL
  have HT := Lib.hid ht
  clear hcL hct hL ht
  subst hvL hvt
  go_enter Try.func11, Try.ntmps11
  iterate 3
    refine wp_seq_k (fun K hK => ?_)
    have HK := Lib.hid hK; clear hK
    go_wp2
    refine HK.out _ _ ?_; clear HK K
  generalize hw1 : World.alloc _ _ = w1
  have b0 : w1.heap[w.heap.size]? = some (.cells #[.slice adL L.length capL] 31 (0, 0)) := by rw [← hw1]; simp (disch := first | omega | (simp only [World.size_alloc]; done) | (simp only [World.size_alloc]; omega)) only [heap_newI, heap_oldI]
  have b1 : w1.heap[w.heap.size + 1]? = some (.cells (arr [0, 0, 0, 0, 0]) 49 (0, 0)) := by rw [zero3, ← hw1]; simp (disch := first | omega | (simp only [World.size_alloc]; done) | (simp only [World.size_alloc]; omega)) only [heap_newI, heap_oldI]
  have b2 : w1.heap[w.heap.size + 1 + 1]? = some (.cells (arr [0, 0, 0, 0, 0]) 49 (0, 0)) := by rw [zero3, ← hw1]; simp (disch := first | omega | (simp only [World.size_alloc]; done) | (simp only [World.size_alloc]; omega)) only [heap_newI, heap_oldI]
  have b3 : w1.heap[w.heap.size + 1 + 1 + 1]? = some (.cells #[.func (.func 23) #[] #[.pointer (some ⟨w.heap.size, 0, none⟩)]] 55 (0, 0)) := by rw [← hw1]; simp (disch := first | omega | (simp only [World.size_alloc]; done) | (simp only [World.size_alloc]; omega)) only [heap_newI]
  have hb1 : Below w.heap.size w w1 := by rw [← hw1]; go_grown
  have hs1 : w.heap.size + 4 ≤ w1.heap.size := by rw [← hw1]; simp
  clear hw1
  have c0 := cell_blk (i := 0) b0
  simp at c0
  have hL1 : SlI w1 (.slice adL L.length capL) L := HL.out.below hb1 (Nat.le_refl _)
  have ht1 : SlT w1 (.slice adt ts.length capt) ts := HT.out.below hb1 (Nat.le_refl _)
  have h65 := any23_any _ L 25 #[] (fun n => !btw 1 n 5) w1 hL1 ⟨fun _ _ => rfl, fun x W _ => room_test x W⟩
  have h67 : ∀ W, Below w1.heap.size w1 W → Calls Try.prog 26 #[.slice adt ts.length capt, .func (.func 27) #[] #[.pointer (some ⟨w.heap.size + 1 + 1 + 1, 0, none⟩)]] W fun e w' => e = .returned (.bool (trainOut L ts)) ∧ Below W.heap.size W w' := by
    intro W hW
    refine any24_any _ ts 27 _ _ W (ht1.below hW (Nat.le_refl _)) ⟨fun _ _ => rfl, fun x W2 hW2 => ?_⟩
    have hb2 := hW.trans (hW2.mono hW.size)
    exact train_test w.heap.size (w.heap.size + 1 + 1 + 1) _ L x W2 (blk_below b0 hb2 (lt_blk b0)) (hL1.below hb2 (Nat.le_refl _)) (blk_below b3 hb2 (lt_blk b3))
  have hro : (L.any fun n => !btw 1 n 5) = roomOut L := rfl
  rw [hro] at h65
  clear hro
  have H65 := Lib.hid h65
  have H67 := Lib.hid h67
  clear h65 h67
  refine wp_seq_k (fun K hK => ?_)
  have HK := Lib.hid hK; clear hK
  obtain ⟨o1, ho1⟩ : ∃ o, o = roomOut L := ⟨_, rfl⟩
  obtain ⟨o2, ho2⟩ : ∃ o, o = trainOut L ts := ⟨_, rfl⟩
  rw [← ho1] at H65
  rw [← ho2] at H67
  have HO1 := Lib.hid ho1
  have HO2 := Lib.hid ho2
  clear ho1 ho2
  by_cases hz : L.length = 0
  · have hzb : ((L.length : Int) == 0) = true := by simp [hz]
    go_wp2
    have hk1 := b1
    have hk2 := b2
    have he := (lineE4 (L := L) (ts := ts) hz)
    have hbb := hb1
    refine wp_region_still_tail 2 (by kernel_rfl) (by kernel_rfl) ?_
    simp only [List.take_succ_cons, List.take_zero, List.drop_succ_cons, List.drop_zero]
    refine wpStill_load_blk rfl 49 _ rfl _ rfl hk2 Try.underlying49 rfl size84 (arr_size _) ?_
    simp only [Act.put, List.setIfInBounds_toArray, List.set_cons_succ, List.set_cons_zero]
    still_step
    refine wpStill_nil ?_
    refine wpList_store_blk rfl 49 _ _ rfl _ rfl rfl hk1 size84 (arr_size _) (arr_size _) (arr_one _) ?_
    go_wp2
    refine bodyPost_ret (results_tmp_agg_tmp rfl _ _ _ rfl (World.putObj_heap_same (lt_blk hk1)) Try.underlying49 rfl size84 (arr_size _)) rfl ⟨below_putObj (below_drawn hbb _) (by omega), .inl ?_⟩
    rw [he]
    refine ⟨by decide, _, ?_, rfl⟩
    first | rfl | exact posK_len _ _
  have hzb : ((L.length : Int) == 0) = false := beq_eq_false_iff_ne.2 (by omega)
  go_wp2_with (first
    | (go_at_call 24; refine H65.out.mono ?_; rintro e w2 ⟨rfl, hb2⟩; have hl2 := (hb2.cell (p := ⟨w.heap.size, 0, none⟩) (by simp; omega)).trans c0; cases o1)
    | (go_at_call 26; refine (H67.out _ hb2).mono ?_; rintro e w3 ⟨rfl, hb3'⟩; have hb3 := hb2.trans (hb3'.mono hb2.size); clear hb3'; cases o2))
  · have hk1 := b1
    have hk2 := b2
    have he := (lineE1 (L := L) (ts := ts) (by omega))
    have hbb := hb1
    refine wp_region_still_tail 2 (by kernel_rfl) (by kernel_rfl) ?_
    simp only [List.take_succ_cons, List.take_zero, List.drop_succ_cons, List.drop_zero]
    refine wpStill_load_blk rfl 49 _ rfl _ rfl hk2 Try.underlying49 rfl size84 (arr_size _) ?_
    simp only [Act.put, List.setIfInBounds_toArray, List.set_cons_succ, List.set_cons_zero]
    still_step
    refine wpStill_nil ?_
    refine wpList_store_blk rfl 49 _ _ rfl _ rfl rfl hk1 size84 (arr_size _) (arr_size _) (arr_one _) ?_
    go_wp2
    refine bodyPost_ret (results_tmp_agg_tmp rfl _ _ _ rfl (World.putObj_heap_same (lt_blk hk1)) Try.underlying49 rfl size84 (arr_size _)) rfl ⟨below_putObj (below_drawn hbb _) (by omega), .inl ?_⟩
    rw [he]
    refine ⟨by decide, _, ?_, rfl⟩
    first | rfl | exact posK_len _ _
  · have hk1 := (blk_below b1 hb2 (by omega))
    have hk2 := (blk_below b2 hb2 (by omega))
    have he := (lineE5 (L := L) (ts := ts) hz (by omega) HO1.out (by omega))
    have hbb := (hb1.trans (hb2.mono (by omega)))
    refine wp_region_still_tail 2 (by kernel_rfl) (by kernel_rfl) ?_
    simp only [List.take_succ_cons, List.take_zero, List.drop_succ_cons, List.drop_zero]
    refine wpStill_load_blk rfl 49 _ rfl _ rfl hk2 Try.underlying49 rfl size84 (arr_size _) ?_
    simp only [Act.put, List.setIfInBounds_toArray, List.set_cons_succ, List.set_cons_zero]
    still_step
    refine wpStill_nil ?_
    refine wpList_store_blk rfl 49 _ _ rfl _ rfl rfl hk1 size84 (arr_size _) (arr_size _) (arr_one _) ?_
    go_wp2
    refine bodyPost_ret (results_tmp_agg_tmp rfl _ _ _ rfl (World.putObj_heap_same (lt_blk hk1)) Try.underlying49 rfl size84 (arr_size _)) rfl ⟨below_putObj (below_drawn hbb _) (by omega), .inl ?_⟩
    rw [he]
    refine ⟨by decide, _, ?_, rfl⟩
    first | rfl | exact posK_len _ _
  rotate_left
  · have hk1 := (blk_below b1 hb3 (by omega))
    have hk2 := (blk_below b2 hb3 (by omega))
    have he := (lineE17 (L := L) (ts := ts) hz (by omega) HO1.out (by omega) HO2.out)
    have hbb := (hb1.trans (hb3.mono (by omega)))
    refine wp_region_still_tail 2 (by kernel_rfl) (by kernel_rfl) ?_
    simp only [List.take_succ_cons, List.take_zero, List.drop_succ_cons, List.drop_zero]
    refine wpStill_load_blk rfl 49 _ rfl _ rfl hk2 Try.underlying49 rfl size84 (arr_size _) ?_
    simp only [Act.put, List.setIfInBounds_toArray, List.set_cons_succ, List.set_cons_zero]
    still_step
    refine wpStill_nil ?_
    refine wpList_store_blk rfl 49 _ _ rfl _ rfl rfl hk1 size84 (arr_size _) (arr_size _) (arr_one _) ?_
    go_wp2
    refine bodyPost_ret (results_tmp_agg_tmp rfl _ _ _ rfl (World.putObj_heap_same (lt_blk hk1)) Try.underlying49 rfl size84 (arr_size _)) rfl ⟨below_putObj (below_drawn hbb _) (by omega), .inl ?_⟩
    rw [he]
    refine ⟨by decide, _, ?_, rfl⟩
    first | rfl | exact posK_len _ _
  · have hk1 := (blk_below b1 hb2 (by omega))
    have hk2 := (blk_below b2 hb2 (by omega))
    have he := (lineE2 (L := L) (ts := ts) hz (by omega) HO1.out)
    have hbb := (hb1.trans (hb2.mono (by omega)))
    refine wp_region_still_tail 2 (by kernel_rfl) (by kernel_rfl) ?_
    simp only [List.take_succ_cons, List.take_zero, List.drop_succ_cons, List.drop_zero]
    refine wpStill_load_blk rfl 49 _ rfl _ rfl hk2 Try.underlying49 rfl size84 (arr_size _) ?_
    simp only [Act.put, List.setIfInBounds_toArray, List.set_cons_succ, List.set_cons_zero]
    still_step
    refine wpStill_nil ?_
    refine wpList_store_blk rfl 49 _ _ rfl _ rfl rfl hk1 size84 (arr_size _) (arr_size _) (arr_one _) ?_
    go_wp2
    refine bodyPost_ret (results_tmp_agg_tmp rfl _ _ _ rfl (World.putObj_heap_same (lt_blk hk1)) Try.underlying49 rfl size84 (arr_size _)) rfl ⟨below_putObj (below_drawn hbb _) (by omega), .inl ?_⟩
    rw [he]
    refine ⟨by decide, _, ?_, rfl⟩
    first | rfl | exact posK_len _ _
  have hE := lineEt hz (by omega) HO1.out (by omega) HO2.out
  have hts : ts.length ≤ 5 := by omega
  have hL8 : L.length ≤ 8 := by omega
  refine HK.out _ _ ?_; clear HK K
  have g0 := blk_below b0 hb3 (by omega)
  have g1 := blk_below b1 hb3 (by omega)
  have g2 := blk_below b2 hb3 (by omega)
  have hB3 : Below w.heap.size w w3 := hb1.trans (hb3.mono (by omega))
  have hs3 : w.heap.size + 4 ≤ w3.heap.size := Nat.le_trans hs1 hb3.size
  clear b0 b1 b2 b3 hb1 hs1 hL1 ht1 hl2 hb2 hb3 H65 H67 HO1 HO2 c0
  have c0 := cell_blk (i := 0) g0
  simp at c0
  refine wp_seq_k (fun K hK => ?_)
  have HK := Lib.hid hK; clear hK
  go_wp2
  refine HK.out _ _ ?_; clear HK K
  generalize hw4 : World.alloc _ _ = w4
  have f0 : w4.heap[w.heap.size]? = some (.cells #[.slice adL L.length capL] 31 (0, 0)) := by rw [← hw4]; simp (disch := first | omega | (simp only [World.size_alloc]; done) | (simp only [World.size_alloc]; omega)) only [heap_oldI]; exact g0
  have f1 : w4.heap[w.heap.size + 1]? = some (.cells (arr [0, 0, 0, 0, 0]) 49 (0, 0)) := by rw [← hw4]; simp (disch := first | omega | (simp only [World.size_alloc]; done) | (simp only [World.size_alloc]; omega)) only [heap_oldI]; exact g1
  have f2 : w4.heap[w.heap.size + 1 + 1]? = some (.cells (arr (posK ts 0)) 49 (0, 0)) := by rw [posK_zero, ← hw4]; simp (disch := first | omega | (simp only [World.size_alloc]; done) | (simp only [World.size_alloc]; omega)) only [heap_oldI]; exact g2
  have fm : w4.heap[w3.heap.size]? = some (.map #[] 0) := by rw [← hw4]; simp (disch := first | omega | (simp only [World.size_alloc]; done) | (simp only [World.size_alloc]; omega)) only [heap_newI, heap_oldI]
  have fx : w4.heap[w3.heap.size + 1]? = some (.cells #[.slice adL L.length capL, .slice none 0 0, .map (some w3.heap.size)] 73 (0, 0)) := by rw [← hw4]; simp (disch := first | omega | (simp only [World.size_alloc]; done) | (simp only [World.size_alloc]; omega)) only [heap_newI]
  have hB4 : Below w.heap.size w w4 := by rw [← hw4]; exact hB3.trans (Below.mono (by go_grown) (by omega : w.heap.size ≤ w3.heap.size))
  have hs4 : w3.heap.size + 2 ≤ w4.heap.size := by rw [← hw4]; simp
  clear hw4 g0 g1 g2 c0 hB3
  generalize w3.heap.size = bm at *
  obtain ⟨n, hn⟩ : ∃ n, n = ts.length := ⟨_, rfl⟩
  rw [← hn] at hts hmt HT ⊢
  have HN := Lib.hid hn
  clear hn
  refine wp_seq_k (fun K hK => ?_)
  have HK := Lib.hid hK; clear hK
  go_wp2
  go_loopw [44] (fun i wr => ∃ (k : Nat) (vT : Value), k ≤ n ∧ i = .int .i64 k ∧ Below w.heap.size w wr ∧ w4.heap.size ≤ wr.heap.size ∧ wr.heap[w.heap.size]? = some (.cells #[.slice adL L.length capL] 31 (0, 0)) ∧
    wr.heap[w.heap.size + 1]? = some (.cells (arr [0, 0, 0, 0, 0]) 49 (0, 0)) ∧ wr.heap[w.heap.size + 1 + 1]? = some (.cells (arr (posK ts k)) 49 (0, 0)) ∧ wr.heap[bm]? = some (.map #[] 0) ∧
    wr.heap[bm + 1]? = some (.cells #[.slice adL L.length capL, vT, .map (some bm)] 73 (0, 0)) ∧ wr.ownsRow w4.heap.size 3 1 vT k (((tos ts).take k).map (.int .i64))) (fun i _ => n - (intOf i).toNat)
  case atStart => exact ⟨0, _, Nat.zero_le _, rfl, hB4, Nat.le_refl _, f0, f1, f2, fm, fx, World.ownsRow_nil _ _ _ _⟩
  case round =>
    obtain ⟨k, vT, hk, rfl, hb, hs, r0, r1, r2, rm, rx, ro⟩ := hrel
    by_cases hkn : k < n
    · obtain ⟨ad2, cap2, hv, -, hc⟩ := HT.out
      injection hv with e1 e2 e3
      obtain ⟨b, off, rfl, hlt, hcell⟩ := hc (by omega)
      have p2 := cell_blk (i := k) r2
      rw [arr_get (A := posK ts k) (by rw [posK_len]; omega)] at p2
      have h1 := (hb.cell (p := ⟨b, off + k * 2, none⟩) hlt).trans (hcell k (by omega)).1
      have h2 := (hb.cell (p := ⟨b, off + k * 2 + 1, none⟩) hlt).trans (hcell k (by omega)).2
      subst e1
      clear hcell hc HL e2 e3 hlt
      have fz := free_blk (i := k) r2
      have l0 := lt_blk r0
      have l1 := lt_blk r1
      have l2 := lt_blk r2
      have lm := lt_blk rm
      have lx := lt_blk rx
      go_wp2
      have e5 : Below w.heap.size w ((wr.setCell ⟨w.heap.size + 1 + 1, k, none⟩ (.int .i64 (tAt ts k))).alloc (.cells #[.int .i64 (tAt ts k), .int .i64 (tTo ts k)] 33)) := (hb.setCell (by simp; omega) _).alloc (by simp; exact hb.size) _
      have s5 : (wr.setCell ⟨w.heap.size + 1 + 1, k, none⟩ (.int .i64 (tAt ts k))).heap.size = wr.heap.size := by simp
      generalize hw5 : World.alloc _ _ = w5 at e5 ⊢
      have q0 : w5.heap[w.heap.size]? = some (.cells #[.slice adL L.length capL] 31 (0, 0)) := by rw [← hw5, heap_oldI (by rw [s5]; omega), heap_set_other (by omega)]; exact r0
      have q1 : w5.heap[w.heap.size + 1]? = some (.cells (arr [0, 0, 0, 0, 0]) 49 (0, 0)) := by rw [← hw5, heap_oldI (by rw [s5]; omega), heap_set_other (by omega)]; exact r1
      have q2 : w5.heap[w.heap.size + 1 + 1]? = some (.cells (arr (posK ts (k + 1))) 49 (0, 0)) := by rw [← hw5, heap_oldI (by rw [s5]; omega), heap_set_blk r2, arr_set, posK_set (by omega)]
      have qm : w5.heap[bm]? = some (.map #[] 0) := by rw [← hw5, heap_oldI (by rw [s5]; omega), heap_set_other (by omega)]; exact rm
      have qx : w5.heap[bm + 1]? = some (.cells #[.slice adL L.length capL, vT, .map (some bm)] 73 (0, 0)) := by rw [← hw5, heap_oldI (by rw [s5]; omega), heap_set_other (by omega)]; exact rx
      have qo : w5.ownsRow w4.heap.size 3 1 vT k (((tos ts).take k).map (.int .i64)) := by rw [← hw5]; exact (ownsRow_setCell_below ro (by simp; omega) _).alloc _
      have qt : w5.heap[wr.heap.size]? = some (.cells #[.int .i64 (tAt ts k), .int .i64 (tTo ts k)] 33 (0, 0)) := by rw [← hw5]; exact heap_newI s5.symm
      have hs5 : wr.heap.size + 1 ≤ w5.heap.size := by rw [← hw5]; simp
      clear hw5 r0 r1 r2 rm rx ro l0 l1 l2 lm lx fz p2 h1 h2 s5 hb
      generalize wr.heap.size = bt at *
      have hbt : bt < w5.heap.size := by omega
      have hlx : bm + 1 < w5.heap.size := by omega
      have x1 := cell_blk (i := 1) qx
      have t1 := cell_blk (i := 1) qt
      simp at x1 t1
      obtain ⟨i3, hi3, hz1, hz2, hz3⟩ := info_parts info3
      have fzx := free_blk (i := 1) qx
      have Q0 := Lib.hid q0
      go_region_law (refine step_append_own rfl (.tmp 57) (.tmp 60) 27 rfl w4.heap.size 3 i3 (.int .i64 0) 1 8 Try.underlying27 hi3 hz1 hz2 hz3 rfl (by decide) vT k _ (by simp [Act.eval]) (World.ownsRow.drew (qo.alloc _)) ⟨w5.heap.size, 0, none⟩ 1 1 [.int .i64 (tTo ts k)] (by simp [Act.eval]) rfl (one_new rfl) (by simp [Value.oneCell']) (Nat.le_trans (by omega : k + 1 ≤ 6) (by decide)) (by omega) (by show w4.heap.size ≤ (World.alloc w5 _).heap.size; rw [World.size_alloc]; omega) ?_; intro v' w6 r1 r2; obtain ⟨g, cap, rfl⟩ := Joins.ownsRow_form r1 (Nat.succ_pos _); have z1 : w6.cell? ⟨bm + 1, 1, none⟩ = some vT := (World.cell?_of_block (grown_blk r2 qo (by simp; omega) (by omega))).trans x1; have z2 : w6.frozen? ⟨bm + 1, 1, none⟩ = false := free_blk ((grown_blk r2 qo (by omega) (by omega)).trans qx))
      all_goals
        have y0 := (heap_set_other (v := .slice (some ⟨g, 0, none⟩) (k + 1) cap) (i := 1) (by omega : w.heap.size ≠ bm + 1)).trans ((grown_blk r2 qo (by omega) (by omega)).trans q0)
        have y1 := (heap_set_other (v := .slice (some ⟨g, 0, none⟩) (k + 1) cap) (i := 1) (by omega : w.heap.size + 1 ≠ bm + 1)).trans ((grown_blk r2 qo (by omega) (by omega)).trans q1)
        have y2 := (heap_set_other (v := .slice (some ⟨g, 0, none⟩) (k + 1) cap) (i := 1) (by omega : w.heap.size + 1 + 1 ≠ bm + 1)).trans ((grown_blk r2 qo (by omega) (by omega)).trans q2)
        have ym := (heap_set_other (v := .slice (some ⟨g, 0, none⟩) (k + 1) cap) (i := 1) (by omega : bm ≠ bm + 1)).trans ((grown_blk r2 qo (by omega) (by omega)).trans qm)
        have yx := heap_set_blk (v := .slice (some ⟨g, 0, none⟩) (k + 1) cap) (i := 1) ((grown_blk r2 qo (by omega) (by omega)).trans qx)
        have yo := ownsRow_setCell_below r1 (a := ⟨bm + 1, 1, none⟩) (by simp; omega) (.slice (some ⟨g, 0, none⟩) (k + 1) cap)
        have yb : Below w.heap.size w (w6.setCell ⟨bm + 1, 1, none⟩ (.slice (some ⟨g, 0, none⟩) (k + 1) cap)) := (grown_below r2 qo (by omega) (by omega) e5).setCell (by simp; omega) _
        have ys : w4.heap.size ≤ (w6.setCell ⟨bm + 1, 1, none⟩ (.slice (some ⟨g, 0, none⟩) (k + 1) cap)).heap.size := by
          have h7 := r2.size
          have h8 : (World.alloc w5 (.cells #[.int .i64 (tTo ts k)] 3)).heap.size ≤ w6.heap.size := h7
          rw [World.size_alloc] at h8
          rw [World.size_setCell]
          omega
        have hpush : ((tos ts).take k).map (Value.int .i64) ++ [.int .i64 (tTo ts k)] = ((tos ts).take (k + 1)).map (Value.int .i64) := by
          have hkl : k < (tos ts).length := by rw [tos_len, ← HN.out]; exact hkn
          rw [List.take_succ_eq_append_getElem hkl, List.map_append, ← at0_lt hkl, tos_at (by have := HN.out; omega)]
          rfl
        rw [hpush] at yo
        clear r1 r2 z1 z2 q0 q1 q2 qm qx qo qt x1 t1 e5 fzx Q0
        generalize World.setCell _ _ _ = w7 at *
        go_wp2
        go_roundw
        case rel => exact ⟨k + 1, _, by omega, by go_num, yb, ys, y0, y1, y2, ym, yx, yo⟩
        case measure => simp [intOf]; omega
    · have hkn2 : k = n := by omega
      clear hkn hk
      subst hkn2
      have RO := Lib.hid ro
      have hsl : SlI wr vT (tos ts) := by
        have hln : k = (tos ts).length := by rw [tos_len]; exact HN.out
        rw [List.take_of_length_le (by omega)] at ro
        rw [hln] at ro
        exact slI_own ro (by omega) (Nat.le_refl _) (fun _ _ _ => rfl)
      have hpk : posK ts k = pos ts := by rw [HN.out]; rfl
      rw [hpk] at r2
      have hTk : Tk wr (bm + 1) bm (.slice adL L.length capL) vT L (tos ts) := ⟨rx, HL.out.below hb (Nat.le_refl _), hsl⟩
      have hM : Memo wr bm (GSafe L (tos ts)) := ⟨#[], 0, rm, by simp⟩
      clear rm rx ro hsl hpk f0 f1 f2 fm fx hB4
      go_wp2
      refine HK.out _ _ ?_; clear HK
      have c0 := cell_blk (i := 0) r0
      simp at c0
      refine wp_seq_k (fun K hK => ?_)
      have HK := Lib.hid hK; clear hK
      go_wp2
      generalize wr = W5 at *
      go_loopw [67] (fun i w5 => ∃ j : Nat, j ≤ L.length ∧ i = .int .i64 j ∧ Below W5.heap.size W5 w5 ∧ ∀ s : Nat, s < j → (cnt (pos ts) (tos ts) s : Int) ≤ at0 L s) (fun i _ => L.length - (intOf i).toNat)
      case atStart => exact ⟨0, Nat.zero_le _, rfl, Below.refl _ _, fun _ h => by omega⟩
      case round =>
        obtain ⟨j, hj, rfl, hb5, hno⟩ := hrel
        have HNO := Lib.hid hno
        clear hno
        have l0 := lt_blk r0
        have l1 := lt_blk r1
        have l2 := lt_blk r2
        have lx := lt_blk hTk.blk
        have z1 := blk_below r1 hb5 l1
        have z2 := blk_below r2 hb5 l2
        have hB5 : Below w.heap.size w wr := hb.trans (hb5.mono (by omega))
        by_cases hjn : j < L.length
        · have HT5 := Lib.hid (hTk.below hb5 (Nat.le_refl _))
          have x0 := cell_blk (i := 0) HT5.out.blk
          simp at x0
          have lxr := lt_blk HT5.out.blk
          have hcnt := fun (x : Ab wr.heap.size wr) => count_any (bm + 1) bm (.slice adL L.length capL) vT L (tos ts) (pos ts) j x.val (posK_len _ _) (by rw [tos_len]; have := HN.out; omega) (HT5.out.below x.ok (Nat.le_refl _))
          have hroom := fun (x : Ab wr.heap.size wr) => room_any (.slice adL L.length capL) L j x.val ((HT5.out.below x.ok (Nat.le_refl _)).sl) (by omega) (by omega)
          simp only [Int.toNat_natCast] at hroom
          have g0 := fun (x : Ab wr.heap.size wr) => (x.ok.cell (p := ⟨bm + 1, 0, none⟩) lxr).trans x0
          go_wp2
          refine wp_region_ab wr.heap.size wr (by kernel_rfl) (by kernel_rfl) (Below.refl _ _) ?_
          clear x0
          unfold AbC
          have hBA : ∀ W, (∃ x : Ab wr.heap.size wr, W = x.val) → W.heap[w.heap.size + 1 + 1]? = some (.cells (arr (pos ts)) 49 (0, 0)) := by rintro W ⟨x, rfl⟩; exact blk_below z2 x.ok (lt_blk z2)
          have hA5 : (arr (pos ts)).size = 5 := by rw [arr_size]; exact posK_len _ _
          repeat (first | (refine wpQuiet_load_blk rfl 49 _ rfl _ rfl hBA Try.underlying49 rfl size84 hA5 ?_; simp only [Act.put, List.setIfInBounds_toArray, List.set_cons_succ, List.set_cons_zero]) | go_big_quiet_step (first | (go_at_call 28; exact Calls.ab _ (Nat.le_refl _) (hcnt _)) | (go_at_call 29; exact Calls.ab _ (Nat.le_refl _) (hroom _))))
          refine wpQuiet_nil ?_
          rintro W' ⟨x, rfl⟩
          have y1 := blk_below z1 x.ok (lt_blk z1)
          have y2 := blk_below z2 x.ok (lt_blk z2)
          have hb6 : Below W5.heap.size W5 x.val := hb5.trans (x.ok.mono hb5.size)
          have hB6 : Below w.heap.size w x.val := hB5.trans (x.ok.mono hB5.size)
          clear hcnt hroom g0 hBA z1 z2 hb5 hB5 HT5
          generalize x.val = w6 at *
          by_cases hov : at0 L j < cnt (pos ts) (tos ts) j
          · have h15 : lineE L ts = 15 := by
              rw [hE, if_pos]
              exact List.any_eq_true.2 ⟨j, List.mem_range.2 hjn, by simpa using hov⟩
            have H15 := Lib.hid h15
            clear h15 hE
            go_wp2
            have hk1 := y1
            have hk2 := y2
            have he := H15.out
            have hbb := hB6
            refine wp_region_still_tail 2 (by kernel_rfl) (by kernel_rfl) ?_
            simp only [List.take_succ_cons, List.take_zero, List.drop_succ_cons, List.drop_zero]
            refine wpStill_load_blk rfl 49 _ rfl _ rfl hk2 Try.underlying49 rfl size84 (arr_size _) ?_
            simp only [Act.put, List.setIfInBounds_toArray, List.set_cons_succ, List.set_cons_zero]
            still_step
            refine wpStill_nil ?_
            refine wpList_store_blk rfl 49 _ _ rfl _ rfl rfl hk1 size84 (arr_size _) (arr_size _) (arr_one _) ?_
            go_wp2
            refine bodyPost_ret (results_tmp_agg_tmp rfl _ _ _ rfl (World.putObj_heap_same (lt_blk hk1)) Try.underlying49 rfl size84 (arr_size _)) rfl ⟨below_putObj (below_drawn hbb _) (by omega), .inl ?_⟩
            rw [he]
            refine ⟨by decide, _, ?_, rfl⟩
            first | rfl | exact posK_len _ _
          · go_wp2
            go_roundw
            case rel => exact ⟨j + 1, by omega, by go_num, hb6, fun s hs => by rcases (show s < j ∨ s = j by omega) with h | rfl; exact HNO.out s h; omega⟩
            case measure => simp [intOf]; omega
        · have hjL : j = L.length := by omega
          have hE0 : lineE L ts = 0 := by
            rw [hE, if_neg]
            simp only [overFull, List.any_eq_true, List.mem_range, decide_eq_true_eq, not_exists, not_and]
            intro s hs
            have := HNO.out s (by omega)
            omega
          have HE0 := Lib.hid hE0
          have HT5 := Lib.hid (hTk.below hb5 (Nat.le_refl _))
          have HM5 := Lib.hid (hM.below hb5 hM.lt)
          clear hE0 hE
          go_wp2
          refine HK.out _ _ ?_; clear HK
          refine wp_seq_k (fun K hK => ?_)
          have HK := Lib.hid hK; clear hK
          refine wp_region_still_tail 3 (by kernel_rfl) (by kernel_rfl) ?_
          simp only [List.take_succ_cons, List.take_zero, List.drop_succ_cons, List.drop_zero]
          still_step
          have hsz : (arr (pos ts)).size = 5 := by rw [arr_size]; exact posK_len _ _
          refine wpStill_load_blk rfl 49 _ rfl _ rfl z2 Try.underlying49 rfl size84 hsz ?_
          simp only [Act.put, List.setIfInBounds_toArray, List.set_cons_succ, List.set_cons_zero]
          still_step
          refine wpStill_nil ?_
          refine wpList_store_blk rfl 49 _ _ rfl _ rfl rfl z1 size84 hsz (arr_size _) (arr_one _) ?_
          go_wp2
          refine HK.out _ _ ?_
          go_wp2
          have hBf : Below w.heap.size w (({ wr with drawn := wr.drawn + 1 } : World).putObj (w.heap.size + 1) (.cells (arr (pos ts)) 49 (0, 0))) := below_putObj (below_drawn hB5 _) (by omega)
          refine bodyPost_ret (results_tmp_agg_tmp rfl _ _ _ rfl (World.putObj_heap_same (lt_blk z1)) Try.underlying49 rfl size84 hsz) rfl ⟨hBf, .inr ⟨HE0.out, bm + 1, bm, vT, rfl, ⟨?_, HL.out.below hBf (Nat.le_refl _), ?_⟩, ?_, by omega⟩⟩
          · exact (World.putObj_heap_other (by omega)).trans HT5.out.blk
          · have hln : k = (tos ts).length := by rw [tos_len]; exact HN.out
            have ro := RO.out
            rw [List.take_of_length_le (by omega)] at ro
            rw [hln] at ro
            refine slI_own ro (by omega) (Nat.le_trans hb5.size (by simp)) (fun b h1 h2 => ?_)
            exact (World.putObj_heap_other (by omega)).trans (hb5.block b h2)
          · obtain ⟨es, clock, hm1, hm2⟩ := HM5.out
            exact ⟨es, clock, (World.putObj_heap_other (by omega)).trans hm1, hm2⟩
end Ytnihopdglkhbnaa
end Go.Proofs

