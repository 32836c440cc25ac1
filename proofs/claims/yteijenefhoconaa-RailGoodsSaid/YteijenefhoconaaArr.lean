/- Whether all trains have arrived. -/
import Derived.Test.YteijenefhoconaaMoves
open Go Go.RowKit Go.YteijenefhoconaaIt
namespace Go.Proofs
namespace Yteijenefhoconaa

set_option maxRecDepth 100000 in
theorem moves_any (bx bm : Nat) (vL vT : Value) (L T A : List Int) (w : World) (hT : Tk w bx bm vL vT L T) :
    Calls Try.prog 51 #[.pointer (some ⟨bx, 0, none⟩), .agg (arr A)] w fun e w' =>
      e = .returned (.func (.func 72) #[] #[.pointer (some ⟨w.heap.size, 0, none⟩), .pointer (some ⟨w.heap.size + 1, 0, none⟩)]) ∧ KeW w.heap.size (w.heap.size + 1) bx bm vL vT L T A w' ∧ Below w.heap.size w w' := by
  have hmf : ∀ (fn : Fn) (first cap : Array Value) (w : World), (Instr.makeFunc fn first cap).run Try.prog w = .ok (.func fn first cap) w := fun _ _ _ _ => rfl
  go_enter Try.func51, Try.ntmps51
  go_wp2
  have h1 := heap_alloc2_old w (.cells #[.pointer (some ⟨bx, 0, none⟩)] 82) (.cells (arr A) 84)
  have h2 := heap_alloc2_new w (.cells #[.pointer (some ⟨bx, 0, none⟩)] 82) (.cells (arr A) 84)
  have hb : Below w.heap.size w ((w.alloc (.cells #[.pointer (some ⟨bx, 0, none⟩)] 82)).alloc (.cells (arr A) 84)) := by go_grown
  go_ret
  exact ⟨rfl, ⟨h1, h2, hT.below hb (Nat.le_refl _)⟩, hb⟩

set_option maxRecDepth 100000 in
set_option maxHeartbeats 1000000 in
theorem arrived_any (bx bm : Nat) (vL vT : Value) (L T A : List Int) (w : World) (ok : Okt L T A) (hT : Tk w bx bm vL vT L T) :
    Calls Try.prog 52 #[.pointer (some ⟨bx, 0, none⟩), .agg (arr A)] w fun e w' => e = .returned (.bool (decide (wayL A T = []))) ∧ Below w.heap.size w w' := by
  have hA5 : (arr A).size = 5 := by rw [arr_size, ok.a5]
  refine calls_of_wpM Try.func52 rfl ?_
  simp only [Try.ntmps52, List.size_toArray, List.length_cons, List.length_nil, Nat.reduceAdd, Nat.reduceSub, Array.replicate_succ, Array.replicate_zero, List.push_toArray, List.append_toArray, List.nil_append, List.cons_append]
  refine wpIn_seq_k (fun K hK => ?_)
  have HK := Lib.hid hK; clear hK
  gi_wp2
  refine HK.out _ _ ?_; clear HK K
  generalize hw1 : World.alloc _ _ = w1
  have b2 : w1.heap[w.heap.size]? = some (.cells (arr A) 84 (0, 0)) := by rw [← hw1]; simp (disch := first | omega | (simp only [World.size_alloc]; done) | (simp only [World.size_alloc]; omega)) only [heap_newI, heap_oldI]
  have b3 : w1.heap[w.heap.size + 1]? = some (.cells #[.bool false] 4 (0, 0)) := by rw [← hw1]; simp (disch := first | omega | (simp only [World.size_alloc]; done) | (simp only [World.size_alloc]; omega)) only [heap_newI]
  have hb1 : Below w.heap.size w w1 := by rw [← hw1]; go_grown
  have hs1 : w.heap.size + 2 ≤ w1.heap.size := by rw [← hw1]; simp
  have hT1 : Tk w1 bx bm vL vT L T := hT.below hb1 (Nat.le_refl _)
  clear hw1
  refine wpIn_seq_k (fun K hK => ?_)
  have HK := Lib.hid hK; clear hK
  refine wpIn_seq_k (fun K2 hK2 => ?_)
  have HK2 := Lib.hid hK2; clear hK2
  gi_wp2_with (first | (refine wpListIn_load_blk rfl 84 _ rfl _ rfl b2 Try.underlying84 rfl size84 hA5 ?_) | (gi_at_call 73; refine callsTo (way_any bx bm vL vT L T A w1 hT1) ?_; rintro e w2 ⟨rfl, hke, hb2, -⟩))
  refine HK2.out _ _ ?_; clear HK2 K2
  have c3 := blk_below b3 hb2 (by omega)
  have hb3 : Below w.heap.size w w2 := hb1.trans (hb2.mono (by omega))
  have hs2 := hb2.size
  clear b2 b3 hb1
  refine wpIn_block ?_
  have hit := way_iter (fun _ => False) w1.heap.size (w1.heap.size + 1) bx bm vL vT L T A ok.a5 ok.t5
  refine wpIn_range (gf := 84) (lb := #[.pointer (some ⟨w1.heap.size, 0, none⟩), .pointer (some ⟨w1.heap.size + 1, 0, none⟩)]) ?hg ?eg hit ?hps
    (fun k W => k = 0 ∧ (W.heap[w1.heap.size]? = some (.cells #[.pointer (some ⟨bx, 0, none⟩)] 82 (0, 0)) ∧ W.heap[w1.heap.size + 1]? = some (.cells (arr A) 84 (0, 0))) ∧ W.heap[w.heap.size + 1]? = some (.cells #[.bool false] 4 (0, 0)) ∧ Below w.heap.size w W)
    (fun c W => c = .ret ∧ wayL A T ≠ [] ∧ W.heap[w.heap.size + 1]? = some (.cells #[.bool false] 4 (0, 0)) ∧ Below w.heap.size w W) ?hK ?sI ?sIx ?h0 ?round ?done ?stop
  case hg => rfl
  case eg => exact (enters_of Try.func84 (by kernel_rfl) rfl)
  case hps => intro y hy; simp [wayY] at hy; obtain ⟨i, _, rfl⟩ := hy; rfl
  case hK => exact fun k W ⟨_, ⟨h1, h2⟩, _, h5⟩ => ⟨h1, h2, hT.below h5 (Nat.le_refl _)⟩
  case sIx => exact fun _ => Stb.pure.and (Stb.pure.and (Stb.cells.and (Stb.below (Nat.le_trans (by omega) hs2) (Nat.le_refl _))))
  case h0 => exact ⟨rfl, ⟨hke.x, hke.at_⟩, c3, hb3⟩
  case sI => exact fun k => Stb.pure.and ((Stb.cells.and Stb.cells).and (Stb.cells.and (Stb.below (Nat.le_trans (by omega) hs2) (Nat.le_refl _))))
  case stop =>
    rintro c W ⟨rfl, hne, g3, g5⟩ hD
    have hd : decide (wayL A T = []) = false := by simp [hne]
    have e1 : (W.putObj w2.heap.size (.deferred none)).cell? ⟨w.heap.size + 1, 0, none⟩ = some (.bool false) := by
      rw [cell_blk ((World.putObj_heap_other (by omega)).trans g3)]; rfl
    refine wpIn_ret ?_
    exact leave_mark rfl hD (results_one rfl _ _ (w.heap.size + 1) rfl e1 Try.underlying4 rfl) ⟨by rw [hd], below_putObj g5 (by omega)⟩
  case round =>
    rintro k hk l W ⟨rfl, -, g3, g5⟩
    have hne : wayL A T ≠ [] := by intro h; simp [wayY, h] at hk
    have hsz : ∃ x y, (wayY A T)[0] = #[x, y] := by simp [wayY]
    obtain ⟨x, y, hxy⟩ := hsz
    rw [hxy]
    clear hxy hit
    simp only [List.zip_toArray, List.zip_cons_cons, List.zip_nil_right, List.foldl_toArray', List.size_toArray, List.length_cons, List.length_nil, List.foldl_cons, List.foldl_nil, List.setIfInBounds_toArray, List.set_cons_succ, List.set_cons_zero]
    gi_wp2
    refine ⟨Kx.refl _ _ _, fun W => W.heap[w.heap.size + 1]? = some (.cells #[.bool false] 4 (0, 0)) ∧ Below w.heap.size w W, Stb.cells.and (Stb.below (Nat.le_trans (by omega) hs2) (Nat.le_refl _)), ⟨g3, g5⟩, ?_⟩
    clear g3 g5
    rintro W2 - ⟨g3, g5⟩
    have c1 := cell_blk (i := 0) g3
    have f1 := free_blk (i := 0) g3
    simp at c1
    gi_wp2
    refine ⟨Kx.setCell g3 (fun h => h), rfl, hne, ?_, g5.setCell (by simp) _⟩
    rw [heap_set_blk g3]; rfl
  case done =>
    rintro W ⟨h0, -, g3, g5⟩ hD
    have he : wayL A T = [] := by simpa [wayY] using h0
    have hd : decide (wayL A T = []) = true := by simp [he]
    refine HK.out _ _ ?_
    have c1 := cell_blk (i := 0) g3
    have f1 := free_blk (i := 0) g3
    simp at c1
    clear hit h0
    gi_wp2
    have g3' : (W.setCell ⟨w.heap.size + 1, 0, none⟩ (.bool true)).heap[w.heap.size + 1]? = some (.cells #[.bool true] 4 (0, 0)) := by rw [heap_set_blk g3]; rfl
    have e1 : ((W.setCell ⟨w.heap.size + 1, 0, none⟩ (.bool true)).putObj w2.heap.size (.deferred none)).cell? ⟨w.heap.size + 1, 0, none⟩ = some (.bool true) := by
      rw [cell_blk ((World.putObj_heap_other (by omega)).trans g3')]; rfl
    exact leave_mark rfl (by rw [heap_set_other (by omega)]; exact hD) (results_one rfl _ _ (w.heap.size + 1) rfl e1 Try.underlying4 rfl) ⟨by rw [hd], below_putObj (g5.setCell (by simp) _) (by omega)⟩
end Yteijenefhoconaa
end Go.Proofs
