/- Whether an order leads to stocks of a layer. -/
import Derived.Test.YtndmjginmomfiaaW3
open Go Go.RowKit Go.YtndmjginmomfiaaIt
namespace Go.Proofs
namespace Ytndmjginmomfiaa
theorem hmf : ∀ (fn : Fn) (first cap : Array Value) (w : World), (Instr.makeFunc fn first cap).run Try.prog w = .ok (.func fn first cap) w := fun _ _ _ _ => rfl
set_option maxRecDepth 100000 in
theorem orders_any (y : Yd) (v : Value) (w : World) :
    Calls Try.prog 54 #[.agg (encY y v)] w fun e w' => e = .returned (.func (.func 73) #[] #[.pointer (some ⟨w.heap.size, 0, none⟩)]) ∧ KeO w.heap.size v y w' ∧ Below w.heap.size w w' := by
  have h1 := heap_newI (w := w) (o := .cells (encY y v) 24 (0, 0)) rfl
  have hmf := hmf
  unfold KeO
  go_enter Try.func54, Try.ntmps54
  go_wp2
  go_ret
  exact ⟨rfl, h1, by go_grown⟩
set_option maxRecDepth 100000 in
theorem follows_any (y : Yd) (v : Value) (s : Int) (m : Nat) (o : Int) (w : World) (hw : SlW w v y.ws) :
    Calls Try.prog 59 #[.agg (encY y v), .int .i64 s, .int .i64 m, .int .i64 o] w fun e w' =>
      e = .returned (.func (.func 74) #[] #[.pointer (some ⟨w.heap.size, 0, none⟩), .pointer (some ⟨w.heap.size + 1, 0, none⟩), .pointer (some ⟨w.heap.size + 3, 0, none⟩), .pointer (some ⟨w.heap.size + 1 + 1, 0, none⟩)]) ∧ KeF w.heap.size (w.heap.size + 1) (w.heap.size + 3) (w.heap.size + 2) v y s m o w' ∧ Below w.heap.size w w' := by
  have hmf := hmf
  obtain ⟨w4, hw4⟩ : ∃ w4, w4 = (((w.alloc (.cells (encY y v) 24)).alloc (.cells #[.int .i64 s] 3)).alloc (.cells #[.int .i64 m] 3)).alloc (.cells #[.int .i64 o] 3) := ⟨_, rfl⟩
  have hb : Below w.heap.size w w4 := by rw [hw4]; go_grown
  have hk : KeF w.heap.size (w.heap.size + 1) (w.heap.size + 3) (w.heap.size + 2) v y s m o w4 := by
    obtain ⟨b1, b2, b3, b4, -, -⟩ := blk4 hw4.symm
    exact ⟨b1, b2, b4, b3, hw.below hb (Nat.le_refl _)⟩
  have HW := Lib.hid hw4
  clear hw4
  go_enter Try.func59, Try.ntmps59
  go_wp2
  go_ret
  have e := HW.out
  subst e
  exact ⟨rfl, hk, hb⟩
def encL (l : List Nat) : Array Value := (l.map fun (x : Nat) => Value.int .u64 x).toArray
theorem encL_size (l : List Nat) : (encL l).size = l.length := by simp [encL]
theorem encL_one (l : List Nat) : (encL l).all (·.oneCell') = true := by simp [encL, Value.oneCell']
theorem encL_get {l : List Nat} {m : Nat} (h : m < l.length) : (encL l)[m]? = some (.int .u64 (l.getD m 0 : Nat)) := by simp [encL, h]
theorem size110 : (Try.prog.info? 110).map (·.size) = some 4 := by kernel_rfl
theorem size24 : (Try.prog.info? 24).map (·.size) = some 4 := by kernel_rfl
/-- A layer's words. -/
structure Lw (l : List Nat) : Prop where
  len : l.length = 4
  lt : ∀ m, l.getD m 0 < 2 ^ 64
set_option maxRecDepth 100000 in
set_option maxHeartbeats 2000000 in
theorem leads_any (y : Yd) (v : Value) (l : List Nat) (s : Int) (m : Nat) (o : Int) (w : World) (ok : Ok y) (hl : Lw l) (hm : m < y.ws.length) (hs : 0 ≤ s ∧ s ≤ 60) (ho : 0 ≤ o ∧ o ≤ 80) (hw : SlW w v y.ws) :
    Calls Try.prog 55 #[.agg (encY y v), .agg (encL l), .int .i64 s, .int .i64 m, .int .i64 o] w fun e w' => e = .returned (.bool (leadsB y l s m o)) ∧ Below w.heap.size w w' := by
  refine calls_of_wpM Try.func55 rfl ?_
  simp only [Try.ntmps55, List.size_toArray, List.length_cons, List.length_nil, Nat.reduceAdd, Nat.reduceSub, Array.replicate_succ, Array.replicate_zero, List.push_toArray, List.append_toArray, List.nil_append, List.cons_append]
  have hl4 : (encL l).size = 4 := by rw [encL_size, hl.len]
  have hy4 : (encY y v).size = 4 := rfl
  refine wpIn_seq_k (fun K hK => ?_)
  have HK := Lib.hid hK; clear hK
  gi_wp2
  refine HK.out _ _ ?_; clear HK K
  generalize hw1 : World.alloc _ _ = w1
  obtain ⟨b1, b2, b3, hb1, hs1⟩ := blk3 hw1
  clear hw1
  have hw1 := hw.below hb1 (Nat.le_refl _)
  refine wpIn_seq_k (fun K hK => ?_)
  have HK := Lib.hid hK; clear hK
  refine wpIn_seq_k (fun K2 hK2 => ?_)
  have HK2 := Lib.hid hK2; clear hK2
  gi_wp2_with (first | (refine wpListIn_load_blk rfl 24 _ rfl _ rfl b1 Try.underlying24 rfl size24 hy4 ?_) | (gi_at_call 59; refine callsTo (follows_any y v s m o w1 hw1) ?_; rintro e w2 ⟨rfl, hke, hb2⟩))
  refine HK2.out _ _ ?_; clear HK2 K2
  have b2' := blk_below b2 hb2 (by omega)
  have b3' := blk_below b3 hb2 (by omega)
  have hb3 : Below w.heap.size w w2 := hb1.trans (hb2.mono (by omega))
  have hs2 := hb2.size
  clear b1 b2 b3 hb1
  refine wpIn_block ?_
  have hit := fol_iter (fun _ => False) w1.heap.size (w1.heap.size + 1) (w1.heap.size + 3) (w1.heap.size + 2) v y s m o ok hm hs ho
  have hyl : (folY y s m o).length = (folL y m).length := by simp [folY]
  obtain ⟨T, hT⟩ : ∃ T : Nat → Bool, T = fun m' => hasN (l.getD m' 0) (come y s m' o - (y.at_ m').hi) (come y s m' o - (y.at_ m').lo) := ⟨_, rfl⟩
  have hld : leadsB y l s m o = (folL y m).all T := by rw [hT]; rfl
  refine wpIn_range (gf := 74) (lb := #[.pointer (some ⟨w1.heap.size, 0, none⟩), .pointer (some ⟨w1.heap.size + 1, 0, none⟩), .pointer (some ⟨w1.heap.size + 3, 0, none⟩), .pointer (some ⟨w1.heap.size + 2, 0, none⟩)]) ?hg ?eg hit ?hps
    (fun k W => (W.heap[w1.heap.size]? = some (.cells (encY y v) 24 (0, 0)) ∧ W.heap[w1.heap.size + 1]? = some (.cells #[.int .i64 s] 3 (0, 0)) ∧ W.heap[w1.heap.size + 3]? = some (.cells #[.int .i64 o] 3 (0, 0)) ∧ W.heap[w1.heap.size + 2]? = some (.cells #[.int .i64 m] 3 (0, 0))) ∧ W.heap[w.heap.size + 1]? = some (.cells (encL l) 110 (0, 0)) ∧ W.heap[w.heap.size + 1 + 1]? = some (.cells #[.bool false] 4 (0, 0)) ∧ Below w.heap.size w W ∧ ((folL y m).take k).all T = true)
    (fun c W => c = .ret ∧ leadsB y l s m o = false ∧ W.heap[w.heap.size + 1 + 1]? = some (.cells #[.bool false] 4 (0, 0)) ∧ Below w.heap.size w W) ?hK ?sI ?sIx ?h0 ?round ?done ?stop
  case hg => rfl
  case eg => exact (enters_of Try.func74 (by kernel_rfl) rfl)
  case hps => intro y hy; simp [folY] at hy; obtain ⟨i, _, rfl⟩ := hy; rfl
  case hK => exact fun k W ⟨⟨h1, h2, h3, h4⟩, _, _, h5, _⟩ => ⟨h1, h2, h3, h4, hw.below h5 (Nat.le_refl _)⟩
  case sI => exact fun k => (Stb.cells.and (Stb.cells.and (Stb.cells.and Stb.cells))).and (Stb.cells.and (Stb.cells.and ((Stb.below (Nat.le_trans (by omega) hs2) (Nat.le_refl _)).and Stb.pure)))
  case sIx => exact fun c => Stb.pure.and (Stb.pure.and (Stb.cells.and (Stb.below (Nat.le_trans (by omega) hs2) (Nat.le_refl _))))
  case h0 => exact ⟨⟨hke.yd, hke.st, hke.od, hke.we⟩, b2', b3', hb3, by simp⟩
  case stop =>
    rintro c W ⟨rfl, hld2, g3, g5⟩ hD
    have e1 : (W.putObj w2.heap.size (.deferred none)).cell? ⟨w.heap.size + 1 + 1, 0, none⟩ = some (.bool false) := by
      rw [cell_blk ((World.putObj_heap_other (by omega)).trans g3)]; rfl
    refine wpIn_ret ?_
    exact leave_mark rfl hD (results_one rfl _ _ (w.heap.size + 1 + 1) rfl e1 Try.underlying4 rfl) ⟨by rw [hld2], below_putObj g5 (by omega)⟩
  case round =>
    rintro k hk l2 W hI
    have hk' : k < (folL y m).length := by rw [← hyl]; exact hk
    have hyk : (folY y s m o)[k] = #[.int .i64 (((folL y m)[k] : Nat) : Int), .agg #[.int .i64 (come y s (folL y m)[k] o - (y.at_ (folL y m)[k]).hi), .int .i64 (come y s (folL y m)[k] o - (y.at_ (folL y m)[k]).lo)]] := by simp [folY]
    have hml : (folL y m)[k] < y.ws.length := fol_lt (List.getElem_mem hk')
    have hts : ((folL y m).take (k + 1)).all T = (((folL y m).take k).all T && T (folL y m)[k]) := by rw [List.take_succ_eq_append_getElem hk', List.all_append]; simp
    have hTf : T (folL y m)[k] = false → leadsB y l s m o = false := fun h => by rw [hld, List.all_eq_false]; exact ⟨_, List.getElem_mem hk', by simp [h]⟩
    have hTv : T (folL y m)[k] = hasN (l.getD (folL y m)[k] 0) (come y s (folL y m)[k] o - (y.at_ (folL y m)[k]).hi) (come y s (folL y m)[k] o - (y.at_ (folL y m)[k]).lo) := by rw [hT]
    rw [hyk]
    have hcb := come_bound ok hml hs ho
    have hea := ok.each _ hml
    generalize (folL y m)[k] = m' at *
    have HT := Lib.hid (And.intro hts (And.intro hTf hTv))
    have HI := Lib.hid hI
    clear hyk hts hTf hTv hI hld hT hke b2' b3' hit
    simp only [List.zip_toArray, List.zip_cons_cons, List.zip_nil_right, List.foldl_toArray', List.size_toArray, List.length_cons, List.length_nil, List.foldl_cons, List.foldl_nil, List.setIfInBounds_toArray, List.set_cons_succ, List.set_cons_zero]
    gi_wp2
    obtain ⟨lo, hlo⟩ : ∃ lo, lo = come y s m' o - (y.at_ m').hi := ⟨_, rfl⟩
    obtain ⟨hi, hhi⟩ : ∃ hi, hi = come y s m' o - (y.at_ m').lo := ⟨_, rfl⟩
    have hbd : lo ≤ hi ∧ -1000 ≤ lo ∧ hi ≤ 1000 := by omega
    rw [← hlo, ← hhi]
    replace HT := HT.out
    rw [← hlo, ← hhi] at HT
    have HT := Lib.hid HT
    clear hlo hhi hcb hea
    have hbe : Below W.heap.size W (W.alloc (.cells #[.int .i64 lo, .int .i64 hi] 56)) := (Below.refl _ _).alloc (Nat.le_refl _) _
    obtain ⟨⟨g1, g2, g3, g4⟩, g5, g6, g7, g8⟩ := HI.out
    have hb7 := g7.trans (hbe.mono g7.size)
    refine ⟨Kx.below hbe, fun V => (V.heap[w1.heap.size]? = some (.cells (encY y v) 24 (0, 0)) ∧ V.heap[w1.heap.size + 1]? = some (.cells #[.int .i64 s] 3 (0, 0)) ∧ V.heap[w1.heap.size + 3]? = some (.cells #[.int .i64 o] 3 (0, 0)) ∧ V.heap[w1.heap.size + 2]? = some (.cells #[.int .i64 m] 3 (0, 0))) ∧ V.heap[w.heap.size + 1]? = some (.cells (encL l) 110 (0, 0)) ∧ V.heap[w.heap.size + 1 + 1]? = some (.cells #[.bool false] 4 (0, 0)) ∧ V.heap[W.heap.size]? = some (.cells #[.int .i64 lo, .int .i64 hi] 56 (0, 0)) ∧ Below w.heap.size w V,
      (Stb.cells.and (Stb.cells.and (Stb.cells.and Stb.cells))).and (Stb.cells.and (Stb.cells.and (Stb.cells.and (Stb.below (Nat.le_trans (by omega) hs2) (Nat.le_refl _))))),
      ⟨⟨blk_keep g1 hbe, blk_keep g2 hbe, blk_keep g3 hbe, blk_keep g4 hbe⟩, blk_keep g5 hbe, blk_keep g6 hbe, heap_newI rfl, hb7⟩, ?_⟩
    replace g8 := Lib.hid g8
    clear HI g1 g2 g3 g4 g5 g6 g7 hbe hb7
    rintro V - ⟨⟨q1, q2, q3, q4⟩, q5, q6, q7, q8⟩
    have hm4 : m' < 4 := by have := ok.n1; omega
    have c5 := (cell_blk (i := m') q5).trans (encL_get (by rw [hl.len]; exact hm4))
    have c7 := cell_blk (i := 0) q7
    have c7' := cell_blk (i := 1) q7
    simp only [List.getElem?_toArray, List.getElem?_cons_zero, List.getElem?_cons_succ] at c7 c7'
    have hx := hl.lt m'
    generalize l.getD m' 0 = x at *
    have hi0 : (0 : Int) ≤ (m' : Int) := by omega
    have hi4 : (m' : Int) < 4 := by omega
    refine wpIn_block ?_
    refine wpIn_seq ?_
    refine wpIn_region_ab V.heap.size V (by kernel_rfl) (by kernel_rfl) (by kernel_rfl) (fun ⟨_, _, h⟩ => h) (Below.refl _ _) ?_
    have e5 := fun (z : Ab V.heap.size V) => (z.ok.cell (p := ⟨w.heap.size + 1, m', none⟩) (lt_blk q5)).trans c5
    have e7 := fun (z : Ab V.heap.size V) => (z.ok.cell (p := ⟨W.heap.size, 0, none⟩) (lt_blk q7)).trans c7
    have e7' := fun (z : Ab V.heap.size V) => (z.ok.cell (p := ⟨W.heap.size, 1, none⟩) (lt_blk q7)).trans c7'
    unfold AbC
    repeat go_big_quiet_step (first | (go_at_call 60; exact Calls.ab _ (Nat.le_refl _) (has_any x lo hi _ hx hbd.1)))
    refine wpQuiet_nil ?_
    rintro W' ⟨z, rfl⟩
    have hz := z.ok
    obtain ⟨V1, hV1⟩ : ∃ V1, V1 = z.val := ⟨_, rfl⟩
    rw [← hV1] at hz ⊢
    replace q1 := blk_keep q1 hz
    replace q2 := blk_keep q2 hz
    replace q3 := blk_keep q3 hz
    replace q4 := blk_keep q4 hz
    replace q5 := blk_keep q5 hz
    replace q6 := blk_keep q6 hz
    replace q8 := q8.trans (hz.mono q8.size)
    clear hV1 z e5 e7 e7' c5 c7 c7' q7
    obtain ⟨t1, t2, t3⟩ := HT.out
    cases hh : hasN x lo hi
    · rw [hh] at t3
      have HL := Lib.hid (t2 t3)
      clear t1 t2 t3 hh
      have c6 := cell_blk (i := 0) q6
      have f6 := free_blk (i := 0) q6
      simp only [List.getElem?_toArray, List.getElem?_cons_zero] at c6
      simp only [Bool.not_false]
      refine wpIn_cond (t := true) rfl ?_
      simp only [if_true]
      gi_wp2
      refine ⟨(Kx.below hz).trans (Kx.setCell q6 (fun h => h)), rfl, HL.out, ?_, q8.setCell (by simp; omega) _⟩
      rw [heap_set_blk q6]; rfl
    · rw [hh] at t3
      rw [t3, Bool.and_true, g8.out] at t1
      have HL := Lib.hid t1
      clear t1 t2 t3 hh
      simp only [Bool.not_true]
      refine wpIn_cond (t := false) rfl ?_
      simp only [Bool.false_eq_true, if_false]
      gi_wp2
      exact ⟨Kx.below hz, ⟨q1, q2, q3, q4⟩, q5, q6, q8, HL.out⟩
  case done =>
    rintro W ⟨-, -, g3, g5, ht⟩ hD
    have hd : leadsB y l s m o = true := by rw [hld, ← ht, List.take_of_length_le (by rw [hyl]; exact Nat.le_refl _)]
    refine HK.out _ _ ?_
    have c1 := cell_blk (i := 0) g3
    have f1 := free_blk (i := 0) g3
    simp only [List.getElem?_toArray, List.getElem?_cons_zero] at c1
    clear hit ht hld hT
    gi_wp2
    have g3' : (W.setCell ⟨w.heap.size + 1 + 1, 0, none⟩ (.bool true)).heap[w.heap.size + 1 + 1]? = some (.cells #[.bool true] 4 (0, 0)) := by rw [heap_set_blk g3]; rfl
    have e1 : ((W.setCell ⟨w.heap.size + 1 + 1, 0, none⟩ (.bool true)).putObj w2.heap.size (.deferred none)).cell? ⟨w.heap.size + 1 + 1, 0, none⟩ = some (.bool true) := by
      rw [cell_blk ((World.putObj_heap_other (by omega)).trans g3')]; rfl
    exact leave_mark rfl (by rw [heap_set_other (by omega)]; exact hD) (results_one rfl _ _ (w.heap.size + 1 + 1) rfl e1 Try.underlying4 rfl) ⟨by rw [hd], below_putObj (g5.setCell (by simp; omega) _) (by omega)⟩
end Ytndmjginmomfiaa
end Go.Proofs
