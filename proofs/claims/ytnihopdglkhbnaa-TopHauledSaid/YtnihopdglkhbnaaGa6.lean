/- Gangs: a best plan. -/
import Derived.Test.YtnihopdglkhbnaaGa5
open Go Go.RowKit Go.YtnihopdglkhbnaaIt
namespace Go.Proofs
namespace Ytnihopdglkhbnaa
/-- The plan and the sugar after k steps. -/
def gone (ys : List Gs) (n k : Nat) : List Int := (List.range n).map fun (i : Nat) => (((ys.take k).filter fun x => x.f == (i : Int)).length : Int)
def sugK (ys : List Gs) (k : Nat) : Int := ((ys.take k).map Gs.g).sum
theorem gone_len (ys : List Gs) (n k : Nat) : (gone ys n k).length = n := by simp [gone]
theorem gone_at {ys : List Gs} {n k i : Nat} (hi : i < n) : at0 (gone ys n k) i = (((ys.take k).filter fun x => x.f == (i : Int)).length : Int) := by
  simp [gone, at0, List.getD_eq_getElem?_getD, hi]
theorem gone_zero (ys : List Gs) (n : Nat) : gone ys n 0 = List.replicate n 0 := by
  apply List.ext_getElem (by simp [gone])
  intro i h1 h2
  simp [gone]
theorem gone_succ {ys : List Gs} {n k f : Nat} (hk : k < ys.length) (hf : ys[k].f = f) : gone ys n (k + 1) = (gone ys n k).set f (at0 (gone ys n k) f + 1) := by
  apply List.ext_getElem (by simp [gone])
  intro i h1 h2
  have hi : i < n := by simpa [gone] using h1
  rw [List.getElem_set]
  simp only [gone, List.getElem_map, List.getElem_range]
  rw [List.take_succ_eq_append_getElem hk, List.filter_append, List.length_append]
  by_cases h : f = i
  · subst h
    have hga := gone_at (ys := ys) (k := k) hi
    unfold gone at hga
    rw [if_pos rfl, hga]
    simp [hf]
  · rw [if_neg h]
    have : (ys[k].f == (i : Int)) = false := by rw [hf]; simp; omega
    simp [this]
theorem allN_f {fs : List (List Int)} {n : Nat} {y : Gs} (h : y ∈ allN fs n) : ∃ f : Nat, f < n ∧ y.f = f := by
  unfold allN at h
  obtain ⟨i, hi, hx⟩ := List.mem_flatMap.1 h
  have hi := List.mem_range.1 hi
  obtain ⟨x, -, rfl⟩ := List.mem_map.1 hx
  unfold mkG
  split
  · exact ⟨i, hi, rfl⟩
  · exact ⟨0, by omega, rfl⟩
theorem sugK_succ {ys : List Gs} {k : Nat} (hk : k < ys.length) : sugK ys (k + 1) = sugK ys k + ys[k].g := by
  unfold sugK; rw [List.take_succ_eq_append_getElem hk, List.map_append, List.sum_append]; simp
theorem sugK_le (ys : List Gs) (k : Nat) : 0 ≤ sugK ys k ∧ sugK ys k ≤ 1000000 * (ys.take k).length := by
  unfold sugK
  induction ys.take k with
  | nil => simp
  | cons x xs ih =>
    have := x.hg
    simp only [List.map_cons, List.sum_cons, List.length_cons]
    push_cast
    omega
theorem Stb.slG {B : Nat} {α : Type} {enc : α → List Value} {sz : Nat} {v : Value} {xs : List α} : Stb B (fun W => SlG enc sz W v xs) := by
  rintro W W' g ⟨ad, cap, hv, hm, hc2, hc⟩
  refine ⟨ad, cap, hv, hm, hc2, fun h0 => ?_⟩
  obtain ⟨b, off, ha, hl, hcell⟩ := hc h0
  exact ⟨b, off, ha, Nat.lt_of_lt_of_le hl g.size, fun i hi f u hu => Stb.cell (B := B) W W' g (hcell i hi f u hu)⟩
theorem SlG.set_low {α : Type} {enc : α → List Value} {sz : Nat} {W : World} {v : Value} {xs : List α} (h : SlG enc sz W v xs) {B b i : Nat} (hlow : ∀ a m c, v = .slice (some a) m c → B ≤ a.block ∨ m = 0) (hb : b < B) (x : Value) : SlG enc sz (W.setCell ⟨b, i, none⟩ x) v xs := by
  obtain ⟨ad, cap, rfl, hm, hc2, hc⟩ := h
  refine ⟨ad, cap, rfl, hm, hc2, fun h0 => ?_⟩
  obtain ⟨b2, off, rfl, hl, hcell⟩ := hc h0
  have h1 : B ≤ b2 ∨ xs.length = 0 := hlow _ _ _ rfl
  have h2 : B ≤ b2 := by
    rcases h1 with h1 | h1
    · exact h1
    · omega
  have hh : (W.setCell ⟨b, i, none⟩ x).heap[b2]? = W.heap[b2]? := heap_set_other (by omega)
  exact ⟨b2, off, rfl, by rw [World.size_setCell]; exact hl, fun i hi f u hu => (World.cell?_of_block (w := W) hh).trans (hcell i hi f u hu)⟩
theorem results_two {fn : Func} {p q : Tmp} {ty ty2 : TypeId} (h : fn.results = #[.cell p ty, .cell q ty2]) (tmps : Array Value) (w : World) (b c : Nat) {v v2 : Value}
    (hp : tmps.getD p undef = .pointer (some ⟨b, 0, none⟩)) (h1 : (loadVar ty ⟨b, 0, none⟩).run Try.prog w = .ok v w) (hq : tmps.getD q undef = .pointer (some ⟨c, 0, none⟩)) (h2 : (loadVar ty2 ⟨c, 0, none⟩).run Try.prog w = .ok v2 w) :
    (results fn tmps).run Try.prog w = .ok (.tuple #[v, v2]) w := by
  have hp' : tmps[p]?.getD undef = .pointer (some ⟨b, 0, none⟩) := by simpa using hp
  have hq' : tmps[q]?.getD undef = .pointer (some ⟨c, 0, none⟩) := by simpa using hq
  simp [results, h, hp', hq', asAddr, h1, h2]
/-- The same memory. -/
structure Sm (V W : World) : Prop where
  os : W.os = V.os
  tape : W.tape = V.tape
  output : W.output = V.output
  size : W.heap.size = V.heap.size
  at_ : ∀ k : Nat, W.heap[k]? = V.heap[k]?
theorem Sm.refl (V : World) : Sm V V := ⟨rfl, rfl, rfl, rfl, fun _ => rfl⟩
theorem Sm.drew {V W : World} (h : Sm V W) : Sm V W.drew := ⟨h.os, h.tape, h.output, h.size, h.at_⟩
theorem Sm.set {V W : World} (h : Sm V W) {b i : Nat} {c : Array Value} {t : TypeId} {fr : Nat × Nat} {v : Value} (hb : V.heap[b]? = some (.cells c t fr)) (hc : c[i]? = some v) : Sm V (W.setCell ⟨b, i, none⟩ v) :=
  ⟨h.os, h.tape, h.output, by rw [World.size_setCell]; exact h.size, fun k => by
    by_cases hk : k = b
    · subst hk
      rw [heap_set_blk ((h.at_ k).trans hb), hb]
      have : c.setIfInBounds i v = c := by
        obtain ⟨h1, h2⟩ := Array.getElem?_eq_some_iff.1 hc
        apply Array.ext (by simp)
        intro j h3 h4
        rw [Array.getElem_setIfInBounds]
        split
        · rename_i h5; subst h5; exact h2.symm
        · rfl
      rw [this]
    · rw [heap_set_other hk]; exact h.at_ k⟩
/-- What holds before round k. -/
structure BI (ys : List Gs) (n : Nat) (g0 : Int) (b3 bp bs : Nat) (vs : Value) (w : World) (k : Nat) (V : World) : Prop where
  gs : V.heap[b3]? = some (.cells #[.int .i64 (g0 - k)] 3 (0, 0))
  pl : V.heap[b3 + 1]? = some (.cells #[.slice (some ⟨bp, 0, none⟩) n n] 27 (0, 0))
  su : V.heap[b3 + 1 + 1]? = some (.cells #[.int .i64 (sugK ys k)] 3 (0, 0))
  row : V.heap[bp]? = some (.cells ((gone ys n k).map (Value.int .i64)).toArray 3 (0, 0))
  it : V.heap[bs]? = some (.cells #[vs] 84 (0, 0))
  sl : SlG encG 2 V vs ys
  bl : Below b3 w V
  kg : (k : Int) ≤ g0
theorem BI.stb {ys : List Gs} {n : Nat} {g0 : Int} {b3 bp bs : Nat} {vs : Value} {w : World} {k B : Nat} (h1 : b3 ≤ B) (h2 : b3 ≤ w.heap.size) : Stb B (BI ys n g0 b3 bp bs vs w k) := fun W W' g h =>
  ⟨Stb.cells (B := B) W W' g h.gs, Stb.cells (B := B) W W' g h.pl, Stb.cells (B := B) W W' g h.su, Stb.cells (B := B) W W' g h.row, Stb.cells (B := B) W W' g h.it, Stb.slG (B := B) W W' g h.sl, Stb.below h1 h2 W W' g h.bl, h.kg⟩
set_option maxRecDepth 100000 in
set_option maxHeartbeats 8000000 in
theorem best_any (v : Value) (fs : List (List Int)) (g0 : Int) (w : World) (ok : FOk fs) (h12 : (allN fs fs.length).length ≤ 12) (hg : 0 ≤ g0 ∧ g0 ≤ 200) (hv : SlII w v fs) :
    Calls Try.prog 10 #[v, .int .i64 g0] w fun e w' => ∃ (ys : List Gs) (u : Value) (k : Nat), e = .returned (.tuple #[u, .int .i64 (sugK ys k)]) ∧ ys.Perm (allN fs fs.length) ∧ (ys.Pairwise fun x y => ltOf cfG y x = false) ∧ k ≤ ys.length ∧ SlI w' u (gone ys fs.length k) ∧ Below w.heap.size w w' := by
  have hst := fun (W : World) (hW : Below w.heap.size w W) => steps_any v fs W ok h12 (hv.below hW (Nat.le_refl _))
  have HST := Lib.hid hst
  clear hst ok
  obtain ⟨ad, cap, rfl, hm, hcp, -⟩ := hv.opened
  clear hv
  obtain ⟨n, hn0⟩ : ∃ n, n = fs.length := ⟨_, rfl⟩
  rw [← hn0] at hm hcp h12 HST ⊢
  have HN := Lib.hid hn0
  have H12 := Lib.hid h12
  clear hn0 h12
  obtain ⟨i3, hi3, hz1, hz2, hz3⟩ := info_parts info3
  refine calls_of_wpM Try.func10 rfl ?_
  simp only [Try.ntmps10, List.size_toArray, List.length_cons, List.length_nil, Nat.reduceAdd, Nat.reduceSub, Array.replicate_succ, Array.replicate_zero, List.push_toArray, List.append_toArray, List.nil_append, List.cons_append]
  refine wpIn_seq_k (fun K hK => ?_)
  have HK := Lib.hid hK; clear hK
  gi_wp2
  refine HK.out _ _ ?_; clear HK K
  generalize hw1 : World.alloc _ _ = w1
  obtain ⟨b3, b4, b5, hB, hs1⟩ := blk3 hw1
  clear hw1
  refine wpIn_seq_k (fun K hK => ?_)
  have HK := Lib.hid hK; clear hK
  refine wpIn_of_wp ?_
  go_wp2_with (refine wpList_make_full w1 rfl (.tmp 8) (.tmp 8) 27 rfl w1.heap.size 3 i3 (.int .i64 0) 1 Try.underlying27 hi3 hz1 hz2 .i64 .i64 _ _ n rfl rfl rfl rfl (by rw [hz3]; omega) (Nat.le_trans hm (by decide)) (Nat.le_refl _) ?_; intro w2 q1 q2; have hb2 : Below w1.heap.size w1 w2 := ⟨q2.os, q2.tape, q2.output, q2.size, fun k hk => q2.block k hk (by simp)⟩; have d4 := blk_keep b4 hb2; have s4 := cell_blk (i := 0) d4; have f4 := free_blk (i := 0) d4; simp only [List.getElem?_toArray, List.getElem?_cons_zero] at s4)
  refine HK.out _ _ ?_; clear HK K
  rw [made_rep _ rfl] at q1
  have dp := row_full q1
  have d3 := blk_keep b3 hb2
  have d5 := blk_keep b5 hb2
  have hl1 := lt_blk b4
  have hl2 := lt_blk b5
  have hB2 := hB.trans (hb2.mono hB.size)
  have hbp := hb2.size
  have hlp := lt_blk dp
  generalize hw3 : World.setCell _ _ _ = w3
  have r4 : w3.heap[w.heap.size + 1]? = some (.cells #[.slice (some ⟨w1.heap.size, 0, none⟩) n n] 27 (0, 0)) := by rw [← hw3, heap_set_blk d4]; rfl
  have r3 : w3.heap[w.heap.size]? = w2.heap[w.heap.size]? := by rw [← hw3]; exact heap_set_other (by omega)
  rw [d3] at r3
  have r5 : w3.heap[w.heap.size + 1 + 1]? = w2.heap[w.heap.size + 1 + 1]? := by rw [← hw3]; exact heap_set_other (by omega)
  rw [d5] at r5
  have rp : w3.heap[w1.heap.size]? = w2.heap[w1.heap.size]? := by rw [← hw3]; exact heap_set_other (by omega)
  rw [dp] at rp
  have hB3 : Below w.heap.size w w3 := by rw [← hw3]; exact hB2.setCell (p := ⟨w.heap.size + 1, 0, none⟩) (show w.heap.size ≤ w.heap.size + 1 by omega) _
  clear hw3 q1 q2 b3 b4 b5 d3 d4 d5 dp s4 f4 hB2 hb2 hbp hlp hB hs1
  have hlp := lt_blk rp
  have hbp : w.heap.size + 1 + 1 < w1.heap.size := hl2
  generalize w1.heap.size = bp at *
  refine wpIn_seq_k (fun K hK => ?_)
  have HK := Lib.hid hK; clear hK
  refine wpIn_seq_k (fun K2 hK2 => ?_)
  have HK2 := Lib.hid hK2; clear hK2
  gi_wp2_with (gi_at_call 21; refine callsTo (HST.out w3 hB3) ?_; rintro e w4 ⟨ys, bs, vs, rfl, hperm, hsrt, hbs, hsl, hlo, hle, hb4⟩)
  refine HK2.out _ _ ?_; clear HK2 K2
  have HY := Lib.hid (And.intro hperm hsrt)
  have c3 := blk_keep r3 hb4
  have c4 := blk_keep r4 hb4
  have c5 := blk_keep r5 hb4
  have cp := blk_keep rp hb4
  have hB4 := hB3.trans (hb4.mono hB3.size)
  have hs4 := hb4.size
  have hlbs := lt_blk hbs
  clear r3 r4 r5 rp hperm hsrt
  have hit := val_iter (fun _ => False) bs vs ys
  refine wpIn_block ?_
  refine wpIn_range (gf := 46) (lb := #[.pointer (some ⟨bs, 0, none⟩)]) ?hg ?eg hit ?hps
    (BI ys n g0 w.heap.size bp bs vs w)
    (fun c W => c = .exit 0 ∧ ∃ k, k ≤ ys.length ∧ BI ys n g0 w.heap.size bp bs vs w k W) ?hK ?sI ?sIx ?h0 ?round ?done ?stop
  case hg => rfl
  case eg => exact (enters_of Try.func46 (by kernel_rfl) rfl)
  case hps => intro y hy; simp [valY] at hy; obtain ⟨i, _, rfl⟩ := hy; rfl
  case hK => exact fun k V h => ⟨h.it, h.sl⟩
  case sI => exact fun k => BI.stb (by omega) (Nat.le_refl _)
  case sIx => exact fun c => Stb.and Stb.pure (Stb.ex fun k => Stb.and Stb.pure (BI.stb (by omega) (Nat.le_refl _)))
  case h0 => exact ⟨by simpa using c3, c4, by simpa [sugK] using c5, by rw [gone_zero]; simpa using cp, hbs, hsl, hB4, by simpa using hg.1⟩
  case stop =>
    rintro c V ⟨rfl, k, hk, hI⟩ hD
    obtain ⟨g3, g4, g5, gp, gi, gsl, gbl, gkg⟩ := hI
    have hlD := lt_blk hD
    have t4 := cell_blk (i := 0) g4
    have t5 := cell_blk (i := 0) g5
    have f4 := free_blk (i := 0) g4
    have f5 := free_blk (i := 0) g5
    simp only [List.getElem?_toArray, List.getElem?_cons_zero] at t4 t5
    gi_wp2
    refine HK.out _ _ ?_; clear HK
    refine wpIn_seq_k (fun K hK => ?_)
    have HK := Lib.hid hK; clear hK
    refine wpIn_of_wp ?_
    go_region
    all_goals
      refine HK.out _ _ ?_
      clear HK
      have hS := (((Sm.refl V).set (i := 0) (v := .slice (some ⟨bp, 0, none⟩) n n) g4 rfl).set (i := 0) (v := .int .i64 (sugK ys k)) g5 rfl).drew
      generalize World.drew _ = V2 at *
      gi_wp2
      have p4 : (V2.putObj w4.heap.size (.deferred none)).heap[w.heap.size + 1]? = some (.cells #[.slice (some ⟨bp, 0, none⟩) n n] 27 (0, 0)) := (World.putObj_heap_other (by omega)).trans ((hS.at_ _).trans g4)
      have p5 : (V2.putObj w4.heap.size (.deferred none)).heap[w.heap.size + 1 + 1]? = some (.cells #[.int .i64 (sugK ys k)] 3 (0, 0)) := (World.putObj_heap_other (by omega)).trans ((hS.at_ _).trans g5)
      have pp : (V2.putObj w4.heap.size (.deferred none)).heap[bp]? = some (.cells ((gone ys n k).map (Value.int .i64)).toArray 3 (0, 0)) := (World.putObj_heap_other (by omega)).trans ((hS.at_ _).trans gp)
      refine leave_mark rfl ((hS.at_ _).trans hD) (results_two rfl _ _ (w.heap.size + 1) (w.heap.size + 1 + 1) rfl (run_loadVar_one (by rw [cell_blk p4]; rfl) Try.underlying27 rfl) rfl (run_loadVar_one (by rw [cell_blk p5]; rfl) Try.underlying3 rfl)) ⟨ys, _, k, rfl, HY.out.1, HY.out.2, hk, ?_, ?_⟩
      · have := slI_new (cap := n) (by rw [gone_len]; exact hm) (by rw [gone_len]; exact Nat.le_refl _) pp
        rw [gone_len] at this
        exact this
      · exact below_putObj ⟨hS.os.trans gbl.os, hS.tape.trans gbl.tape, hS.output.trans gbl.output, by rw [hS.size]; exact gbl.size, fun b hb => (hS.at_ b).trans (gbl.block b hb)⟩ (by omega)
  case done =>
    rintro V hI hD
    have hvl : (valY ys).length = ys.length := by simp [valY]
    rw [hvl] at hI
    obtain ⟨k, hk0⟩ : ∃ k, k = ys.length := ⟨_, rfl⟩
    have hk : k ≤ ys.length := by omega
    rw [← hk0] at hI
    clear hk0 hvl
    obtain ⟨g3, g4, g5, gp, gi, gsl, gbl, gkg⟩ := hI
    have hlD := lt_blk hD
    have t4 := cell_blk (i := 0) g4
    have t5 := cell_blk (i := 0) g5
    have f4 := free_blk (i := 0) g4
    have f5 := free_blk (i := 0) g5
    simp only [List.getElem?_toArray, List.getElem?_cons_zero] at t4 t5
    gi_wp2
    refine HK.out _ _ ?_; clear HK
    refine wpIn_seq_k (fun K hK => ?_)
    have HK := Lib.hid hK; clear hK
    refine wpIn_of_wp ?_
    go_region
    all_goals
      refine HK.out _ _ ?_
      clear HK
      have hS := (((Sm.refl V).set (i := 0) (v := .slice (some ⟨bp, 0, none⟩) n n) g4 rfl).set (i := 0) (v := .int .i64 (sugK ys k)) g5 rfl).drew
      generalize World.drew _ = V2 at *
      gi_wp2
      have p4 : (V2.putObj w4.heap.size (.deferred none)).heap[w.heap.size + 1]? = some (.cells #[.slice (some ⟨bp, 0, none⟩) n n] 27 (0, 0)) := (World.putObj_heap_other (by omega)).trans ((hS.at_ _).trans g4)
      have p5 : (V2.putObj w4.heap.size (.deferred none)).heap[w.heap.size + 1 + 1]? = some (.cells #[.int .i64 (sugK ys k)] 3 (0, 0)) := (World.putObj_heap_other (by omega)).trans ((hS.at_ _).trans g5)
      have pp : (V2.putObj w4.heap.size (.deferred none)).heap[bp]? = some (.cells ((gone ys n k).map (Value.int .i64)).toArray 3 (0, 0)) := (World.putObj_heap_other (by omega)).trans ((hS.at_ _).trans gp)
      refine leave_mark rfl ((hS.at_ _).trans hD) (results_two rfl _ _ (w.heap.size + 1) (w.heap.size + 1 + 1) rfl (run_loadVar_one (by rw [cell_blk p4]; rfl) Try.underlying27 rfl) rfl (run_loadVar_one (by rw [cell_blk p5]; rfl) Try.underlying3 rfl)) ⟨ys, _, k, rfl, HY.out.1, HY.out.2, hk, ?_, ?_⟩
      · have := slI_new (cap := n) (by rw [gone_len]; exact hm) (by rw [gone_len]; exact Nat.le_refl _) pp
        rw [gone_len] at this
        exact this
      · exact below_putObj ⟨hS.os.trans gbl.os, hS.tape.trans gbl.tape, hS.output.trans gbl.output, by rw [hS.size]; exact gbl.size, fun b hb => (hS.at_ b).trans (gbl.block b hb)⟩ (by omega)
  case round =>
    rintro k hk l V hI
    have hk' : k < ys.length := by simpa [valY] using hk
    have hyk : (valY ys)[k] = #[.agg #[.int .i64 ys[k].g, .int .i64 ys[k].f]] := by simp [valY]
    rw [hyk]
    obtain ⟨f, hfn, hf⟩ := allN_f (HY.out.1.subset (List.getElem_mem hk'))
    have hl12 : ys.length ≤ 12 := by rw [HY.out.1.length_eq]; exact H12.out
    have hgs := gone_succ (n := n) hk' hf
    have hss := sugK_succ hk'
    have hsl2 := sugK_le ys k
    have htk : (ys.take k).length ≤ 12 := by rw [List.length_take]; omega
    have hyg := ys[k].hg
    have hgr : at0 (gone ys n k) f ≤ 12 ∧ 0 ≤ at0 (gone ys n k) f := by
      rw [gone_at hfn]
      have := List.length_filter_le (fun x : Gs => x.f == (f : Int)) (ys.take k)
      omega
    have hga : ((gone ys n k).map (Value.int .i64)).toArray[f]? = some (.int .i64 (at0 (gone ys n k) f)) := by
      have : f < (gone ys n k).length := by rw [gone_len]; exact hfn
      simp [at0_lt this, this]
    rw [hf]
    have HGS := Lib.hid (And.intro hgs hss)
    have hbV := lt_blk hI.row
    have HI := Lib.hid hI
    generalize ys[k].g = xg at *
    generalize at0 (gone ys n k) f = x0 at *
    clear hyk hI hgs hss hit hk c3 c4 c5 cp hbs hsl
    simp only [List.zip_toArray, List.zip_cons_cons, List.zip_nil_right, List.foldl_toArray', List.size_toArray, List.length_cons, List.length_nil, List.foldl_cons, List.foldl_nil, List.setIfInBounds_toArray, List.set_cons_succ, List.set_cons_zero]
    gi_wp2
    refine ⟨Kx.alloc _ _ _ _, fun U => BI ys n g0 w.heap.size bp bs vs w k U ∧ U.heap[V.heap.size]? = some (.cells #[.int .i64 xg, .int .i64 f] 67 (0, 0)), (BI.stb (by omega) (Nat.le_refl _)).and Stb.cells, ⟨BI.stb (B := V.heap.size) (by have := HI.out.bl.size; omega) (Nat.le_refl _) V _ (Gr.below ((Below.refl _ V).alloc (Nat.le_refl _) _)) HI.out, heap_newI rfl⟩, ?_⟩
    clear HI
    rintro V2 - ⟨⟨g3, g4, g5, gp, gi, gsl, gbl, gkg⟩, g6⟩
    have t3 := cell_blk (i := 0) g3
    have t4 := cell_blk (i := 0) g4
    have t5 := cell_blk (i := 0) g5
    have tp := (cell_blk (i := f) gp).trans hga
    have t60 := cell_blk (i := 0) g6
    have t61 := cell_blk (i := 1) g6
    have f3 := free_blk (i := 0) g3
    have f5 := free_blk (i := 0) g5
    have fp := free_blk (i := f) gp
    simp only [List.getElem?_toArray, List.getElem?_cons_zero, List.getElem?_cons_succ] at t3 t4 t5 t60 t61
    have HG := Lib.hid (And.intro g3 (And.intro g4 (And.intro g5 (And.intro gp (And.intro gi (And.intro gsl (And.intro gbl g6)))))))
    have hl6 := lt_blk g6
    clear g3 g4 g5 gp gi gsl gbl g6 hga
    by_cases hz : g0 - (k : Int) = 0
    · have hz2 : (g0 - (k : Int) == 0) = true := by rw [hz]; rfl
      gi_wp2
      obtain ⟨g3, g4, g5, gp, gi, gsl, gbl, g6⟩ := HG.out
      exact ⟨Kx.refl _ _ _, rfl, k, by omega, g3, g4, g5, gp, gi, gsl, gbl, gkg⟩
    · have hz2 : (g0 - (k : Int) == 0) = false := by simpa using hz
      gi_wp2
      obtain ⟨g3, g4, g5, gp, gi, gsl, gbl, g6⟩ := HG.out
      have k3 : (V2.setCell ⟨w.heap.size, 0, none⟩ (.int .i64 (g0 - k - 1))).heap[bp]? = some (.cells ((gone ys n k).map (Value.int .i64)).toArray 3 (0, 0)) := (heap_set_other (by omega)).trans gp
      have k5 : ((V2.setCell ⟨w.heap.size, 0, none⟩ (.int .i64 (g0 - k - 1))).setCell ⟨bp, f, none⟩ (.int .i64 (x0 + 1))).heap[w.heap.size + 1 + 1]? = some (.cells #[.int .i64 (sugK ys k)] 3 (0, 0)) := (heap_set_other (by omega)).trans ((heap_set_other (by omega)).trans g5)
      have hgk : g0 - (k : Int) - 1 = g0 - ((k + 1 : Nat) : Int) := by push_cast; omega
      refine ⟨((Kx.setCell g3 (fun h => h)).trans (Kx.setCell k3 (fun h => h))).trans (Kx.setCell k5 (fun h => h)), ?_, ?_, ?_, ?_, ?_, ?_, ?_, ?_⟩
      · rw [heap_set_other (by omega), heap_set_other (by omega), heap_set_blk g3, ← hgk]; rfl
      · rw [heap_set_other (by omega), heap_set_other (by omega), heap_set_other (by omega)]; exact g4
      · rw [heap_set_blk k5, HGS.out.2]; rfl
      · rw [heap_set_other (by omega), heap_set_blk k3, HGS.out.1]; simp [List.map_set]
      · rw [heap_set_other (by omega), heap_set_other (by omega), heap_set_other (by omega)]; exact gi
      · exact ((gsl.set_low hlo (by omega) _).set_low hlo (by omega) _).set_low hlo (by omega) _
      · exact ((gbl.setCell (p := ⟨w.heap.size, 0, none⟩) (Nat.le_refl _) _).setCell (p := ⟨bp, f, none⟩) (show w.heap.size ≤ bp by omega) _).setCell (p := ⟨w.heap.size + 1 + 1, 0, none⟩) (show w.heap.size ≤ w.heap.size + 1 + 1 by omega) _
      · push_cast; omega
end Ytnihopdglkhbnaa
end Go.Proofs
