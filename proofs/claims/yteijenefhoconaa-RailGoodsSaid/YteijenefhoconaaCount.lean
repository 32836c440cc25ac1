/- How many trains are in a section. -/
import Derived.Test.YteijenefhoconaaWay
open Go Go.RowKit Go.YteijenefhoconaaIt
namespace Go.Proofs
namespace Yteijenefhoconaa

theorem Tk.below {W W' : World} {B bx bm : Nat} {vL vT : Value} {L T : List Int} (h : Tk W bx bm vL vT L T) (hb : Below B W W') (hB : W.heap.size ≤ B) : Tk W' bx bm vL vT L T :=
  ⟨blk_below h.blk hb (Nat.lt_of_lt_of_le (lt_blk h.blk) hB), h.sl.below hb hB, h.st.below hb hB⟩

set_option maxRecDepth 100000 in
theorem way_any (bx bm : Nat) (vL vT : Value) (L T A : List Int) (w : World) (hT : Tk w bx bm vL vT L T) :
    Calls Try.prog 73 #[.pointer (some ⟨bx, 0, none⟩), .agg (arr A)] w fun e w' =>
      e = .returned (.func (.func 84) #[] #[.pointer (some ⟨w.heap.size, 0, none⟩), .pointer (some ⟨w.heap.size + 1, 0, none⟩)]) ∧ KeW w.heap.size (w.heap.size + 1) bx bm vL vT L T A w' ∧ Below w.heap.size w w' ∧ w'.heap.size = w.heap.size + 2 := by
  have hmf : ∀ (fn : Fn) (first cap : Array Value) (w : World), (Instr.makeFunc fn first cap).run Try.prog w = .ok (.func fn first cap) w := fun _ _ _ _ => rfl
  go_enter Try.func73, Try.ntmps73
  go_wp2
  have h1 := heap_alloc2_old w (.cells #[.pointer (some ⟨bx, 0, none⟩)] 82) (.cells (arr A) 84)
  have h2 := heap_alloc2_new w (.cells #[.pointer (some ⟨bx, 0, none⟩)] 82) (.cells (arr A) 84)
  have hb : Below w.heap.size w ((w.alloc (.cells #[.pointer (some ⟨bx, 0, none⟩)] 82)).alloc (.cells (arr A) 84)) := by go_grown
  go_ret
  exact ⟨rfl, ⟨h1, h2, hT.below hb (Nat.le_refl _)⟩, hb, by simp⟩

def cnt (A T : List Int) (s : Int) : Nat := ((wayL A T).filter (fun i => at0 A i == s)).length

set_option maxRecDepth 100000 in
set_option maxHeartbeats 1000000 in
theorem count_any (bx bm : Nat) (vL vT : Value) (L T A : List Int) (s : Int) (w : World) (hA : A.length = 5) (hn : T.length ≤ 5) (hT : Tk w bx bm vL vT L T) :
    Calls Try.prog 69 #[.pointer (some ⟨bx, 0, none⟩), .agg (arr A), .int .i64 s] w fun e w' => e = .returned (.int .i64 (cnt A T s)) ∧ Below w.heap.size w w' := by
  refine calls_of_wpM Try.func69 rfl ?_
  simp only [Try.ntmps69, List.size_toArray, List.length_cons, List.length_nil, Nat.reduceAdd, Nat.reduceSub, Array.replicate_succ, Array.replicate_zero, List.push_toArray, List.append_toArray, List.nil_append, List.cons_append]
  have hA5 : (arr A).size = 5 := by rw [arr_size, hA]
  refine wpIn_seq_k (fun K hK => ?_)
  have HK := Lib.hid hK; clear hK
  gi_wp2
  refine HK.out _ _ ?_; clear HK K
  refine wpIn_seq_k (fun K hK => ?_)
  have HK := Lib.hid hK; clear hK
  gi_wp2
  refine HK.out _ _ ?_; clear HK K
  generalize hw1 : World.alloc _ _ = w1
  have b2 : w1.heap[w.heap.size]? = some (.cells (arr A) 84 (0, 0)) := by rw [← hw1]; simp (disch := first | omega | (simp only [World.size_alloc]; done) | (simp only [World.size_alloc]; omega)) only [heap_newI, heap_oldI]
  have b3 : w1.heap[w.heap.size + 1]? = some (.cells #[.int .i64 s] 3 (0, 0)) := by rw [← hw1]; simp (disch := first | omega | (simp only [World.size_alloc]; done) | (simp only [World.size_alloc]; omega)) only [heap_newI, heap_oldI]
  have b4 : w1.heap[w.heap.size + 1 + 1]? = some (.cells #[.int .i64 0] 3 (0, 0)) := by rw [← hw1]; simp (disch := first | omega | (simp only [World.size_alloc]; done) | (simp only [World.size_alloc]; omega)) only [heap_newI]
  have hb1 : Below w.heap.size w w1 := by rw [← hw1]; go_grown
  have hs1 : w.heap.size + 3 ≤ w1.heap.size := by rw [← hw1]; simp
  have hT1 : Tk w1 bx bm vL vT L T := hT.below hb1 (Nat.le_refl _)
  clear hw1
  refine wpIn_seq_k (fun K hK => ?_)
  have HK := Lib.hid hK; clear hK
  refine wpIn_seq_k (fun K2 hK2 => ?_)
  have HK2 := Lib.hid hK2; clear hK2
  gi_wp2_with (first | (refine wpListIn_load_blk rfl 84 _ rfl _ rfl b2 Try.underlying84 rfl size84 hA5 ?_) | (gi_at_call 73; refine callsTo (way_any bx bm vL vT L T A w1 hT1) ?_; rintro e w2 ⟨rfl, hke, hb2, -⟩))
  refine HK2.out _ _ ?_; clear HK2 K2
  have c3 := blk_below b3 hb2 (by omega)
  have c4 := blk_below b4 hb2 (by omega)
  have hb3 : Below w.heap.size w w2 := hb1.trans (hb2.mono (by omega))
  have hs2 := hb2.size
  obtain ⟨cn, hcn⟩ : ∃ cn : Nat → Nat, cn = fun k => (((wayL A T).take k).filter (fun i => at0 A i == s)).length := ⟨_, rfl⟩
  have hc0 : cn 0 = 0 := by rw [hcn]; rfl
  have hce : cn (wayY A T).length = cnt A T s := by rw [hcn]; simp [wayY, cnt]
  have hcs : ∀ k (h : k < (wayL A T).length), cn (k + 1) = cn k + if at0 A (wayL A T)[k] == s then 1 else 0 := by
    intro k h
    rw [hcn]; simp only [List.take_succ_eq_append_getElem h, List.filter_append, List.length_append]
    congr 1
    by_cases hh : (at0 A (wayL A T)[k] == s) = true <;> simp [hh]
  have hcb : ∀ k, cn k ≤ 5 := by
    intro k
    rw [hcn]
    refine Nat.le_trans (List.length_filter_le _ _) (Nat.le_trans (List.length_take_le' _ _) ?_)
    unfold wayL
    exact Nat.le_trans (List.length_filter_le _ _) (by simpa using hn)
  clear hcn b2 b3 b4 hb1
  refine wpIn_block ?_
  have hit := way_iter (fun _ => False) w1.heap.size (w1.heap.size + 1) bx bm vL vT L T A hA hn
  refine wpIn_range (gf := 84) (lb := #[.pointer (some ⟨w1.heap.size, 0, none⟩), .pointer (some ⟨w1.heap.size + 1, 0, none⟩)]) ?hg ?eg hit ?hps
    (fun k W => (W.heap[w1.heap.size]? = some (.cells #[.pointer (some ⟨bx, 0, none⟩)] 82 (0, 0)) ∧ W.heap[w1.heap.size + 1]? = some (.cells (arr A) 84 (0, 0))) ∧ W.heap[w.heap.size + 1]? = some (.cells #[.int .i64 s] 3 (0, 0)) ∧ W.heap[w.heap.size + 1 + 1]? = some (.cells #[.int .i64 (cn k)] 3 (0, 0)) ∧ Below w.heap.size w W)
    (fun _ _ => False) ?hK ?sI ?sIx ?h0 ?round ?done ?stop
  case hg => rfl
  case eg => exact (enters_of Try.func84 (by kernel_rfl) rfl)
  case hps => intro y hy; simp [wayY] at hy; obtain ⟨i, _, rfl⟩ := hy; rfl
  case hK => exact fun k W ⟨⟨h1, h2⟩, _, _, h5⟩ => ⟨h1, h2, hT.below h5 (Nat.le_refl _)⟩
  case sIx => exact fun _ => Stb.pure
  case h0 => exact ⟨⟨hke.x, hke.at_⟩, c3, by rw [hc0]; exact c4, hb3⟩
  case stop => exact fun c W h => h.elim
  case sI => exact fun k => (Stb.cells.and Stb.cells).and (Stb.cells.and (Stb.cells.and (Stb.below (Nat.le_trans (by omega) hs2) (Nat.le_refl _))))
  case round =>
    intro k hk l W hI
    have hk' : k < (wayL A T).length := by simpa [wayY] using hk
    have hyk : (wayY A T)[k] = #[.int .i64 (((wayL A T)[k] : Nat) : Int), .int .i64 (at0 A (wayL A T)[k])] := by simp [wayY]
    rw [hyk]
    have hcs := hcs k hk'
    generalize (wayL A T)[k] = i at *
    have HC := Lib.hid hcs
    have HI := Lib.hid hI
    have hcb := hcb k
    clear hcs hyk hI hc0 hce hke c3 c4 hT1 hit
    simp only [List.zip_toArray, List.zip_cons_cons, List.zip_nil_right, List.foldl_toArray', List.size_toArray, List.length_cons, List.length_nil, List.foldl_cons, List.foldl_nil, List.setIfInBounds_toArray, List.set_cons_succ, List.set_cons_zero]
    gi_wp2
    refine ⟨Kx.refl _ _ _, fun W => (W.heap[w1.heap.size]? = some (.cells #[.pointer (some ⟨bx, 0, none⟩)] 82 (0, 0)) ∧ W.heap[w1.heap.size + 1]? = some (.cells (arr A) 84 (0, 0))) ∧ W.heap[w.heap.size + 1]? = some (.cells #[.int .i64 s] 3 (0, 0)) ∧ W.heap[w.heap.size + 1 + 1]? = some (.cells #[.int .i64 (cn k)] 3 (0, 0)) ∧ Below w.heap.size w W,
      (Stb.cells.and Stb.cells).and (Stb.cells.and (Stb.cells.and (Stb.below (Nat.le_trans (by omega) hs2) (Nat.le_refl _)))), HI.out, ?_⟩
    clear HI
    rintro W2 - ⟨⟨g1, g2⟩, g3, g4, g5⟩
    have d3 := cell_blk (i := 0) g3
    have d4 := cell_blk (i := 0) g4
    have f4 := free_blk (i := 0) g4
    simp at d3 d4
    have HG := Lib.hid (And.intro (And.intro g1 g2) (And.intro g3 (And.intro g4 g5)))
    clear g1 g2 g3 g4 g5
    by_cases hq : (at0 A i == s) = true
    · have hcs : cn (k + 1) = cn k + 1 := by rw [HC.out, hq]; rfl
      have HC2 := Lib.hid hcs
      clear hcs
      gi_wp2
      obtain ⟨⟨g1, g2⟩, g3, g4, g5⟩ := HG.out
      refine ⟨Kx.setCell g4 (fun h => h), ⟨?_, ?_⟩, ?_, ?_, ?_⟩
      · rw [heap_set_other (by omega)]; exact g1
      · rw [heap_set_other (by omega)]; exact g2
      · rw [heap_set_other (by omega)]; exact g3
      · rw [heap_set_blk g4, HC2.out]; rfl
      · exact g5.setCell (by simp; omega) _
    · have hq2 : (at0 A i == s) = false := by simpa using hq
      have hcs : cn (k + 1) = cn k := by rw [HC.out, hq2]; rfl
      have HC2 := Lib.hid hcs
      clear hcs hq
      gi_wp2
      obtain ⟨⟨g1, g2⟩, g3, g4, g5⟩ := HG.out
      exact ⟨Kx.refl _ _ _, ⟨g1, g2⟩, g3, by rw [HC2.out]; exact g4, g5⟩
  case done =>
    rintro W ⟨-, hs, hc, hbW⟩ hD
    refine HK.out _ _ ?_
    rw [hce] at hc
    have c1 := cell_blk (i := 0) hc
    simp at c1
    clear hc0 hce hcs hcb
    gi_wp2
    refine leave_mark rfl hD (results_tmp rfl _ _ _) ⟨rfl, below_putObj hbW (by omega)⟩
end Yteijenefhoconaa
end Go.Proofs
