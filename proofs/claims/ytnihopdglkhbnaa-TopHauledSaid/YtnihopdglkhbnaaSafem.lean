/- Whether all trains have arrived. -/
import Derived.Test.YtnihopdglkhbnaaMoves
open Go Go.RowKit Go.YtnihopdglkhbnaaIt
namespace Go.Proofs
namespace Ytnihopdglkhbnaa

set_option maxRecDepth 100000 in
theorem moves_any (bx bm : Nat) (vL vT : Value) (L T A : List Int) (w : World) (hT : Tk w bx bm vL vT L T) :
    Calls Try.prog 31 #[.pointer (some ⟨bx, 0, none⟩), .agg (arr A)] w fun e w' =>
      e = .returned (.func (.func 44) #[] #[.pointer (some ⟨w.heap.size, 0, none⟩), .pointer (some ⟨w.heap.size + 1, 0, none⟩)]) ∧ KeW w.heap.size (w.heap.size + 1) bx bm vL vT L T A w' ∧ Below w.heap.size w w' := by
  have hmf : ∀ (fn : Fn) (first cap : Array Value) (w : World), (Instr.makeFunc fn first cap).run Try.prog w = .ok (.func fn first cap) w := fun _ _ _ _ => rfl
  go_enter Try.func31, Try.ntmps31
  go_wp2
  have h1 := heap_alloc2_old w (.cells #[.pointer (some ⟨bx, 0, none⟩)] 47) (.cells (arr A) 49)
  have h2 := heap_alloc2_new w (.cells #[.pointer (some ⟨bx, 0, none⟩)] 47) (.cells (arr A) 49)
  have hb : Below w.heap.size w ((w.alloc (.cells #[.pointer (some ⟨bx, 0, none⟩)] 47)).alloc (.cells (arr A) 49)) := by go_grown
  go_ret
  exact ⟨rfl, ⟨h1, h2, hT.below hb (Nat.le_refl _)⟩, hb⟩

set_option maxRecDepth 100000 in
set_option maxHeartbeats 1000000 in
theorem arrived_any (bx bm : Nat) (vL vT : Value) (L T A : List Int) (w : World) (ok : Okt L T A) (hT : Tk w bx bm vL vT L T) :
    Calls Try.prog 30 #[.pointer (some ⟨bx, 0, none⟩), .agg (arr A)] w fun e w' => e = .returned (.bool (decide (wayL A T = []))) ∧ Below w.heap.size w w' := by
  have hA5 : (arr A).size = 5 := by rw [arr_size, ok.a5]
  refine calls_of_wpM Try.func30 rfl ?_
  simp only [Try.ntmps30, List.size_toArray, List.length_cons, List.length_nil, Nat.reduceAdd, Nat.reduceSub, Array.replicate_succ, Array.replicate_zero, List.push_toArray, List.append_toArray, List.nil_append, List.cons_append]
  refine wpIn_seq_k (fun K hK => ?_)
  have HK := Lib.hid hK; clear hK
  gi_wp2
  refine HK.out _ _ ?_; clear HK K
  generalize hw1 : World.alloc _ _ = w1
  have b2 : w1.heap[w.heap.size]? = some (.cells (arr A) 49 (0, 0)) := by rw [← hw1]; simp (disch := first | omega | (simp only [World.size_alloc]; done) | (simp only [World.size_alloc]; omega)) only [heap_newI, heap_oldI]
  have b3 : w1.heap[w.heap.size + 1]? = some (.cells #[.bool false] 4 (0, 0)) := by rw [← hw1]; simp (disch := first | omega | (simp only [World.size_alloc]; done) | (simp only [World.size_alloc]; omega)) only [heap_newI]
  have hb1 : Below w.heap.size w w1 := by rw [← hw1]; go_grown
  have hs1 : w.heap.size + 2 ≤ w1.heap.size := by rw [← hw1]; simp
  have hT1 : Tk w1 bx bm vL vT L T := hT.below hb1 (Nat.le_refl _)
  clear hw1
  refine wpIn_seq_k (fun K hK => ?_)
  have HK := Lib.hid hK; clear hK
  refine wpIn_seq_k (fun K2 hK2 => ?_)
  have HK2 := Lib.hid hK2; clear hK2
  gi_wp2_with (first | (refine wpListIn_load_blk rfl 49 _ rfl _ rfl b2 Try.underlying49 rfl size84 hA5 ?_) | (gi_at_call 43; refine callsTo (way_any bx bm vL vT L T A w1 hT1) ?_; rintro e w2 ⟨rfl, hke, hb2, -⟩))
  refine HK2.out _ _ ?_; clear HK2 K2
  have c3 := blk_below b3 hb2 (by omega)
  have hb3 : Below w.heap.size w w2 := hb1.trans (hb2.mono (by omega))
  have hs2 := hb2.size
  clear b2 b3 hb1
  refine wpIn_block ?_
  have hit := way_iter (fun _ => False) w1.heap.size (w1.heap.size + 1) bx bm vL vT L T A ok.a5 ok.t5
  refine wpIn_range (gf := 47) (lb := #[.pointer (some ⟨w1.heap.size, 0, none⟩), .pointer (some ⟨w1.heap.size + 1, 0, none⟩)]) ?hg ?eg hit ?hps
    (fun k W => k = 0 ∧ (W.heap[w1.heap.size]? = some (.cells #[.pointer (some ⟨bx, 0, none⟩)] 47 (0, 0)) ∧ W.heap[w1.heap.size + 1]? = some (.cells (arr A) 49 (0, 0))) ∧ W.heap[w.heap.size + 1]? = some (.cells #[.bool false] 4 (0, 0)) ∧ Below w.heap.size w W)
    (fun c W => c = .ret ∧ wayL A T ≠ [] ∧ W.heap[w.heap.size + 1]? = some (.cells #[.bool false] 4 (0, 0)) ∧ Below w.heap.size w W) ?hK ?sI ?sIx ?h0 ?round ?done ?stop
  case hg => rfl
  case eg => exact (enters_of Try.func47 (by kernel_rfl) rfl)
  case hps => intro y hy; simp [wayY] at hy; obtain ⟨i, _, rfl⟩ := hy; rfl
  case hK => exact fun k W ⟨_, ⟨h1, h2⟩, _, h5⟩ => ⟨h1, h2, hT.below h5 (Nat.le_refl _)⟩
  case sIx => exact fun _ => Stb.pure.and (Stb.pure.and (Stb.cells.and (Stb.below (Nat.le_trans (by omega) hs2) (Nat.le_refl _))))
  case h0 => exact ⟨rfl, ⟨hke.x, hke.at_⟩, c3, hb3⟩
  case sI => exact fun k => Stb.pure.and ((Stb.cells.and Stb.cells).and (Stb.cells.and (Stb.below (Nat.le_trans (by omega) hs2) (Nat.le_refl _))))
  case stop =>
    rintro c W ⟨rfl, hne, g3, g5⟩ hD
    have hd : decide (wayL A T = []) = false := by simp [hne]
    have e1 : (W.putObj w2.heap.size (.deferred none)).cell? ⟨w.heap.size + 1, 0, none⟩ = some (.bool false) := by
      rw [cell_blk ((World.putObj_heap_other (by omega)).trans g3)]; rfl
    refine wpIn_ret ?_
    exact leave_mark rfl hD (results_one rfl _ _ (w.heap.size + 1) rfl e1 Try.underlying4 rfl) ⟨by rw [hd], below_putObj g5 (by omega)⟩
  case round =>
    rintro k hk l W ⟨rfl, -, g3, g5⟩
    have hne : wayL A T ≠ [] := by intro h; simp [wayY, h] at hk
    have hsz : ∃ x y, (wayY A T)[0] = #[x, y] := by simp [wayY]
    obtain ⟨x, y, hxy⟩ := hsz
    rw [hxy]
    clear hxy hit
    simp only [List.zip_toArray, List.zip_cons_cons, List.zip_nil_right, List.foldl_toArray', List.size_toArray, List.length_cons, List.length_nil, List.foldl_cons, List.foldl_nil, List.setIfInBounds_toArray, List.set_cons_succ, List.set_cons_zero]
    gi_wp2
    refine ⟨Kx.refl _ _ _, fun W => W.heap[w.heap.size + 1]? = some (.cells #[.bool false] 4 (0, 0)) ∧ Below w.heap.size w W, Stb.cells.and (Stb.below (Nat.le_trans (by omega) hs2) (Nat.le_refl _)), ⟨g3, g5⟩, ?_⟩
    clear g3 g5
    rintro W2 - ⟨g3, g5⟩
    have c1 := cell_blk (i := 0) g3
    have f1 := free_blk (i := 0) g3
    simp at c1
    gi_wp2
    refine ⟨Kx.setCell g3 (fun h => h), rfl, hne, ?_, g5.setCell (by simp) _⟩
    rw [heap_set_blk g3]; rfl
  case done =>
    rintro W ⟨h0, -, g3, g5⟩ hD
    have he : wayL A T = [] := by simpa [wayY] using h0
    have hd : decide (wayL A T = []) = true := by simp [he]
    refine HK.out _ _ ?_
    have c1 := cell_blk (i := 0) g3
    have f1 := free_blk (i := 0) g3
    simp at c1
    clear hit h0
    gi_wp2
    have g3' : (W.setCell ⟨w.heap.size + 1, 0, none⟩ (.bool true)).heap[w.heap.size + 1]? = some (.cells #[.bool true] 4 (0, 0)) := by rw [heap_set_blk g3]; rfl
    have e1 : ((W.setCell ⟨w.heap.size + 1, 0, none⟩ (.bool true)).putObj w2.heap.size (.deferred none)).cell? ⟨w.heap.size + 1, 0, none⟩ = some (.bool true) := by
      rw [cell_blk ((World.putObj_heap_other (by omega)).trans g3')]; rfl
    exact leave_mark rfl (by rw [heap_set_other (by omega)]; exact hD) (results_one rfl _ _ (w.heap.size + 1) rfl e1 Try.underlying4 rfl) ⟨by rw [hd], below_putObj (g5.setCell (by simp) _) (by omega)⟩
end Ytnihopdglkhbnaa
end Go.Proofs
/- What is safe, in plain words. -/
open Go Go.RowKit Go.YtnihopdglkhbnaaIt
namespace Go.Proofs
namespace Ytnihopdglkhbnaa

/-- How many moves trains still have to make. -/
def left (A T : List Int) : Nat := ((List.range T.length).map fun i => (at0 A i - at0 T i).natAbs).sum
def safeF : Nat → List Int → List Int → List Int → Bool
  | 0, _, T, A => decide (wayL A T = [])
  | n + 1, L, T, A => decide (wayL A T = []) || (movL L T A).any fun i => safeF n L T (after L T A i)
def safeB (L T A : List Int) : Bool := safeF (left A T) L T A

theorem at0_set {A : List Int} {i j : Nat} {x : Int} : at0 (A.set i x) j = if i = j ∧ i < A.length then x else at0 A j := by
  unfold at0
  simp only [List.getD_eq_getElem?_getD, List.getElem?_set]
  by_cases h : i = j
  · subst h
    by_cases hl : i < A.length
    · simp [hl]
    · simp [hl]
  · simp [h]
theorem nxt_near {a t : Int} (h : a ≠ t) : (nxt a t - t).natAbs + 1 = (a - t).natAbs := by unfold nxt; split <;> omega
theorem sum_change {n : Nat} {f g : Nat → Nat} {i : Nat} (hi : i < n) (h1 : g i + 1 = f i) (h2 : ∀ j, j ≠ i → g j = f j) : ((List.range n).map g).sum + 1 = ((List.range n).map f).sum := by
  induction n with
  | zero => omega
  | succ n ih =>
    simp only [List.range_succ, List.map_append, List.map_cons, List.map_nil, List.sum_append, List.sum_cons, List.sum_nil]
    by_cases he : i = n
    · subst he
      have : (List.range i).map g = (List.range i).map f := List.map_congr_left (fun j hj => h2 j (by simp at hj; omega))
      rw [this]; omega
    · have := ih (by omega)
      rw [h2 n (fun h => he h.symm)]; omega
theorem left_after {L T A : List Int} {i : Nat} (ok : Okt L T A) (hi : i < T.length) (ho : at0 A i ≠ at0 T i) (hc : canGo L T A i = true) : left (after L T A i) T + 1 = left A T := by
  unfold left after
  rw [if_pos hc]
  have hA := ok.a5
  have ht := ok.t5
  refine sum_change hi ?_ ?_
  · rw [at0_set, if_pos ⟨rfl, by omega⟩]; exact nxt_near ho
  · intro j hj
    rw [at0_set, if_neg (fun h => hj h.1.symm)]
theorem mov_mem {L T A : List Int} {i : Nat} (h : i ∈ movL L T A) : i < T.length ∧ at0 A i ≠ at0 T i ∧ canGo L T A i = true := by
  obtain ⟨h1, h2⟩ := List.mem_filter.1 h
  exact ⟨(way_mem h1).1, (way_mem h1).2, h2⟩
theorem Okt.after {L T A : List Int} (ok : Okt L T A) {i : Nat} (hi : i < T.length) (ho : at0 A i ≠ at0 T i) : Okt L T (after L T A i) := by
  obtain ⟨ha0, ha1⟩ := ok.at_ i hi
  obtain ⟨ht0, ht1⟩ := ok.to_ i hi
  unfold Ytnihopdglkhbnaa.after
  split
  · refine ⟨by rw [List.length_set]; exact ok.a5, ok.t5, ok.l8, ?_, ok.to_, ?_⟩
    rotate_left
    · intro x hx
      have := ok.l8
      rcases List.mem_or_eq_of_mem_set hx with h | rfl
      · exact ok.bnd x h
      · unfold nxt; split <;> omega
    intro j hj
    rw [at0_set]
    split
    · unfold nxt; split <;> omega
    · exact ok.at_ j hj
  · exact ok
theorem left_zero {T A : List Int} (h : left A T = 0) : wayL A T = [] := by
  unfold wayL
  rw [List.filter_eq_nil_iff]
  intro i hi
  have hi' : i < T.length := by simpa using hi
  unfold left at h
  have := List.sum_eq_zero_iff_forall_eq_nat.1 h ((at0 A i - at0 T i).natAbs) (List.mem_map.2 ⟨i, hi, rfl⟩)
  simp [onw]; omega
theorem mov_nil {L T A : List Int} (h : wayL A T = []) : movL L T A = [] := by unfold movL; rw [h]; rfl
theorem any_congr {α : Type} {l : List α} {f g : α → Bool} (h : ∀ x ∈ l, f x = g x) : l.any f = l.any g := by
  induction l with
  | nil => rfl
  | cons x l ih => simp only [List.any_cons]; rw [h x (by simp), ih (fun y hy => h y (by simp [hy]))]
theorem safeF_eq {L T : List Int} : ∀ (n : Nat) (A : List Int), Okt L T A → left A T ≤ n → safeF n L T A = safeB L T A := by
  intro n
  induction n with
  | zero => intro A _ h; unfold safeB; rw [show left A T = 0 by omega]
  | succ n ih =>
    intro A ok h
    unfold safeB
    cases hl : left A T with
    | zero =>
      have hw := left_zero hl
      simp [safeF, hw, mov_nil (L := L) hw]
    | succ m =>
      simp only [safeF]
      congr 1
      refine any_congr (fun i hi => ?_)
      obtain ⟨h1, h2, h3⟩ := mov_mem hi
      have hla := left_after ok h1 h2 h3
      rw [ih _ (ok.after h1 h2) (by omega)]
      unfold safeB
      rw [show left (Ytnihopdglkhbnaa.after L T A i) T = m by omega]
theorem safeB_step {L T A : List Int} (ok : Okt L T A) : safeB L T A = (decide (wayL A T = []) || (movL L T A).any fun i => safeB L T (after L T A i)) := by
  rw [← safeF_eq (left A T + 1) A ok (by omega)]
  simp only [safeF]
  congr 1
  refine any_congr (fun i hi => ?_)
  obtain ⟨h1, h2, h3⟩ := mov_mem hi
  have hla := left_after ok h1 h2 h3
  exact safeF_eq _ _ (ok.after h1 h2) (by omega)

end Ytnihopdglkhbnaa
end Go.Proofs

