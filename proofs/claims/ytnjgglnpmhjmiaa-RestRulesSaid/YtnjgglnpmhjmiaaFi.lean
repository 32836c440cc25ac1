/- Laws of rotation: the first word that leads to a good state. -/
import Derived.Test.YtnjgglnpmhjmiaaSp
open Go Go.RowKit Go.YtnjgglnpmhjmiaaIt
open Rest
namespace Go.Proofs
namespace Ytnjgglnpmhjmiaa
theorem results_two {fn : Func} {p q : Tmp} {ty ty2 : TypeId} (h : fn.results = #[.cell p ty, .cell q ty2]) (tmps : Array Value) (w : World) (b c : Nat) {v v2 : Value}
  (hp : tmps.getD p undef = .pointer (some ⟨b, 0, none⟩)) (h1 : (loadVar ty ⟨b, 0, none⟩).run Try.prog w = .ok v w) (hq : tmps.getD q undef = .pointer (some ⟨c, 0, none⟩)) (h2 : (loadVar ty2 ⟨c, 0, none⟩).run Try.prog w = .ok v2 w) :
  (results fn tmps).run Try.prog w = .ok (.tuple #[v, v2]) w := by
 have hp' : tmps[p]?.getD undef = .pointer (some ⟨b, 0, none⟩) := by simpa using hp
 have hq' : tmps[q]?.getD undef = .pointer (some ⟨c, 0, none⟩) := by simpa using hq
 simp [results, h, hp', hq', asAddr, h1, h2]
theorem blk_of_cell {w : World} {a : Addr} {v : Value} (h : w.cell? a = some v) : ∃ cs t fr, w.heap[a.block]? = some (.cells cs t fr) := by
 unfold World.cell? at h
 split at h
 ·exact ⟨_, _, _, by assumption⟩
 ·cases h
theorem SlI.keepC {w w' : World} {v : Value} {xs : List Int} (h : SlI w v xs) (hs : w.heap.size ≤ w'.heap.size) (hk : ∀ g cs t fr, w.heap[g]? = some (.cells cs t fr) → (∃ off n c, v = .slice (some ⟨g, off, none⟩) n c) → w'.heap[g]? = w.heap[g]?) : SlI w' v xs := by
 obtain ⟨ad, cap, hv, hm, hp, hc⟩ := h
 refine ⟨ad, cap, hv, hm, hp, fun h0 => ?_⟩
 obtain ⟨b, off, ha, hlt, hcell⟩ := hc h0
 obtain ⟨cs, t, fr, hb⟩ := blk_of_cell (hcell 0 h0)
 have := hk b cs t fr hb ⟨_, _, _, by rw [hv, ha]⟩
 exact ⟨b, off, ha, Nat.lt_of_lt_of_le hlt hs, fun i hi => (World.cell?_of_block (w := w) (a := ⟨b, off + i, none⟩) this).trans (hcell i hi)⟩
theorem three_cells {w : World} {a b c : Array Value} {t u v : TypeId} : ((((w.alloc (.cells a t)).alloc (.cells b u)).alloc (.cells c v)).heap[w.heap.size]? = some (.cells a t (0, 0))) ∧ ((((w.alloc (.cells a t)).alloc (.cells b u)).alloc (.cells c v)).heap[w.heap.size + 1]? = some (.cells b u (0, 0))) ∧ ((((w.alloc (.cells a t)).alloc (.cells b u)).alloc (.cells c v)).heap[w.heap.size + 2]? = some (.cells c v (0, 0))) ∧ (((w.alloc (.cells a t)).alloc (.cells b u)).alloc (.cells c v)).heap.size = w.heap.size + 3 ∧ Below w.heap.size w (((w.alloc (.cells a t)).alloc (.cells b u)).alloc (.cells c v)) := by
 have z1 : (w.alloc (.cells a t)).heap.size = w.heap.size + 1 := World.size_alloc ..
 have z2 : ((w.alloc (.cells a t)).alloc (.cells b u)).heap.size = w.heap.size + 2 := by rw [World.size_alloc, z1]
 exact ⟨(heap_oldI (by omega)).trans ((heap_oldI (by omega)).trans (heap_newI rfl)), (heap_oldI (by omega)).trans (heap_newI z1.symm), heap_newI z2.symm, by rw [World.size_alloc, z2], ((((Below.refl _ _).alloc (Nat.le_refl _) _).alloc (by omega) _).alloc (by omega) _)⟩
theorem StbS.below {B n : Nat} {X : World} (hX : n ≤ X.heap.size) (hn : n ≤ B) : StbS B (fun _ W => Below n X W) := fun _ _ _ _ _ g h =>
 ⟨g.os.trans h.os, g.tape.trans h.tape, g.output.trans h.output, Nat.le_trans h.size g.size, fun k hk => (g.block k (Nat.lt_of_lt_of_le (Nat.lt_of_lt_of_le hk hX) h.size) (.inl (Nat.lt_of_lt_of_le hk hn))).trans (h.block k hk)⟩
/-- What a search has told: the word, if there is one. -/
def firstW (x : RSys Int) (L : List (Int × List Nat)) : Option (List Nat) := (L.find? fun p => x.gd p.1).map Prod.snd
theorem find_none_take {α : Type} {p : α → Bool} {l : List α} (h : ∀ i (hi : i < l.length), p l[i] = false) : l.find? p = none := by
 rw [List.find?_eq_none]
 intro a ha
 obtain ⟨i, hi, rfl⟩ := List.getElem_of_mem ha
 rw [h i hi]; simp
theorem find_at {α : Type} {p : α → Bool} {l : List α} {k : Nat} (hk : k < l.length) (h : ∀ i (hi : i < k), p (l[i]'(by omega)) = false) (hp : p l[k] = true) : l.find? p = some l[k] := by
 rw [List.find?_eq_some_iff_getElem]
 exact ⟨hp, k, hk, rfl, fun i hi => by rw [h i hi]; rfl⟩
set_option maxRecDepth 100000 in
set_option maxHeartbeats 8000000 in
theorem first_any {x : RSys Int} {ok : Int → Prop} {fN fG : Nat} {lN lG : Array Value} {B : Nat} {W0 : World} {L : List (Int × List Nat)} (hM : SysM x ok fN fG lN lG B W0) (hB : B ≤ W0.heap.size)
  (eN : ∀ args w, (callFunc fN args).run Try.prog w = .ok (.enter fN args) w) (eG : ∀ args w, (callFunc fG args).run Try.prog w = .ok (.enter fG args) w) (hL : Walk x L) (hlen : L.length ≤ 5000) (w : World) (hb : Below B W0 w) :
  Calls Try.prog 67 #[.agg (sysV x fN fG lN lG)] w fun e w' => Below w.heap.size w w' ∧ ((∃ ys v, firstW x L = some ys ∧ e = .returned (.tuple #[v, .bool true]) ∧ SlI w' v (nI ys)) ∨ (firstW x L = none ∧ e = .returned (.tuple #[.slice none 0 0, .bool false]))) := by
 refine calls_of_wpM Try.func67 rfl ?_
 simp only [Try.ntmps67, List.size_toArray, List.length_cons, List.length_nil, Nat.reduceAdd, Nat.reduceSub, Array.replicate_succ, Array.replicate_zero, List.push_toArray, List.append_toArray, List.nil_append, List.cons_append]
 refine wpIn_seq_k (fun K hK => ?_)
 have HK := Lib.hid hK; clear hK
 gi_wp2
 refine HK.out _ _ ?_; clear HK K
 obtain ⟨b1, b2, b3, z1, hB1⟩ := three_cells (w := w) (a := sysV x fN fG lN lG) (b := #[.slice none 0 0]) (c := #[.bool false]) (t := 96) (u := 40) (v := 4)
 generalize ((w.alloc (.cells (sysV x fN fG lN lG) 96)).alloc (.cells #[.slice none 0 0] 40)).alloc (.cells #[.bool false] 4) = w1 at *
 rw [show w.heap.size + 1 + 1 = w.heap.size + 2 from rfl]
 obtain ⟨g2, hg2⟩ : ∃ g, g = w.heap.size + 1 := ⟨_, rfl⟩
 obtain ⟨g3, hg3⟩ : ∃ g, g = w.heap.size + 2 := ⟨_, rfl⟩
 obtain ⟨g1, hg1⟩ : ∃ g, g = w.heap.size := ⟨_, rfl⟩
 rw [← hg2] at b2
 rw [← hg3] at b3
 rw [← hg1] at b1
 rw [← hg2, ← hg3, ← hg1]
 have HG := Lib.hid (And.intro hg1 (And.intro hg2 hg3))
 clear hg1 hg2 hg3
 have hBB : B ≤ w.heap.size := Nat.le_trans hB hb.size
 have Z1 := Lib.hid z1
 clear z1
 have H93 := Lib.hid (fun W => walk_any x fN fG lN lG W)
 refine wpIn_seq_k (fun K1 hK1 => ?_)
 have HK1 := Lib.hid hK1; clear hK1
 refine wpIn_seq_k (fun K2 hK2 => ?_)
 have HK2 := Lib.hid hK2; clear hK2
 gi_wp2_with (first | (refine wpListIn_load_blk rfl 96 _ rfl _ rfl b1 Try.underlying96 rfl size96 rfl ?_) | (gi_at_call 93; refine callsTo (H93.out _) ?_; rintro e w2 ⟨rfl, hc2, hb2, hz2e⟩; have hz2 := Nat.le_of_eq hz2e.symm; clear hz2e))
 refine HK2.out _ _ ?_; clear HK2 K2
 have z1 := Z1.out
 obtain ⟨hg1, hg2, hg3⟩ := HG.out
 have d1 := blk_keep b1 hb2
 have d2 := blk_keep b2 hb2
 have d3 := blk_keep b3 hb2
 have hBw2 : Below w.heap.size w w2 := btr hB1 hb2 (Nat.le_refl _)
 have hit := walk_iter (b1 := w1.heap.size) (L := L) hM eN hL hlen
 refine wpIn_block ?_
 refine wpIn_rangeS (gf := 105) (lb := #[.pointer (some ⟨w1.heap.size, 0, none⟩)]) ?hg ?eg hit ?hps
  (fun k S W => (Below w2.heap.size w2 W) ∧ ∀ i (h : i < L.length), i < k → x.gd L[i].1 = false)
  (fun c S W => c = .ret ∧ Below g1 w W ∧ ∃ k v, ∃ h : k < L.length, (∀ i (h : i < L.length), i < k → x.gd L[i].1 = false) ∧ x.gd L[k].1 = true ∧ W.heap[g2]? = some (.cells #[v] 40 (0, 0)) ∧ W.heap[g3]? = some (.cells #[.bool true] 4 (0, 0)) ∧ SlI W v (nI L[k].2) ∧ ∀ g off n c, v = .slice (some ⟨g, off, none⟩) n c → S g) ?hK ?sI ?sIx ?h0 ?round ?done ?stop
 case hg => rfl
 case eg => exact (enters_of Try.func105 (by kernel_rfl) rfl)
 case hps => exact fun k S0 S W y h => h.size
 case hK => exact fun k S W h => ⟨btr (btr hb hBw2 hB) h.1 hB, blk_keep hc2 h.1⟩
 case sI => exact fun k => (StbS.below (Nat.le_refl _) (Nat.le_refl _)).and StbS.pure
 case sIx =>
  refine fun c => StbS.pure.and ((StbS.below (by omega) (by omega)).and (StbS.ex fun k => StbS.ex fun v => StbS.ex fun h => StbS.pure.and (StbS.pure.and ((StbS.old (by omega)).and ((StbS.old (by omega)).and ?_)))))
  intro S S' W W' hS g hh
  exact ⟨hh.1.keepB g.size (fun b off n c e hl => g.block b hl (.inr (hh.2 b off n c e))), fun b off n c e => hS _ (hh.2 b off n c e)⟩
 case h0 => exact ⟨Below.refl _ _, fun i _ hi => absurd hi (by omega)⟩
 case stop =>
  rintro c S W hS ⟨rfl, hBW, k, v, hk, hno, hyes, q2, q3, hsl, hown⟩ hD
  have hne1 : g2 ≠ w2.heap.size := by omega
  have hne2 : g3 ≠ w2.heap.size := by omega
  have e1 := (World.putObj_heap_other (o := .deferred none) hne1).trans q2
  have e2 := (World.putObj_heap_other (o := .deferred none) hne2).trans q3
  refine wpIn_ret ?_
  refine leave_mark rfl (D := w2.heap.size) hD (results_two rfl _ _ g2 g3 rfl (run_loadVar_one (by rw [cell_blk e1]; rfl) Try.underlying40 rfl) rfl (run_loadVar_one (by rw [cell_blk e2]; rfl) Try.underlying4 rfl)) ⟨below_putObj (hg1 ▸ hBW) (by omega), .inl ⟨L[k].2, v, ?_, rfl, hsl.keepC (by simp) (fun b cs t fr hb _ => World.putObj_heap_other (fun h => ?_))⟩⟩
  ·unfold firstW
   rw [find_at hk (fun i hi => hno i (by omega) hi) hyes]; rfl
  ·rw [h, hD] at hb; cases hb
 case done =>
  rintro S W hS ⟨hBW, hno⟩ hD
  have e1 := blk_below d2 hBW (by have := hb2.size; omega)
  have e2 := blk_below d3 hBW (by have := hb2.size; omega)
  have c1 := cell_blk (i := 0) e1
  have f1 := free_blk (i := 0) e1
  have hne : g3 ≠ g2 := by omega
  have e3 : ∀ v, (W.setCell ⟨g2, 0, none⟩ v).heap[g3]? = some (.cells #[.bool false] 4 (0, 0)) := fun v => (heap_set_other hne).trans e2
  have c2 := fun v => cell_blk (i := 0) (e3 v)
  have f2 := fun v => free_blk (i := 0) (e3 v)
  simp only [List.getElem?_toArray, List.getElem?_cons_zero] at c1 c2
  refine HK1.out _ _ ?_
  have HE := Lib.hid e1
  clear HK1 K1 hit hg1 hg2 hg3 z1 e1
  gi_wp2
  obtain ⟨hg1, hg2, hg3⟩ := HG.out
  have hz1 := Z1.out
  have hne2 : g2 ≠ w2.heap.size := by omega
  have hne3 : g3 ≠ w2.heap.size := by omega
  have y2 := (World.putObj_heap_other (o := .deferred none) hne2).trans ((heap_set_other (i := 0) (v := .bool false) (Ne.symm hne)).trans (heap_set_blk (i := 0) (v := .slice none 0 0) HE.out))
  have y3 := (World.putObj_heap_other (o := .deferred none) hne3).trans (heap_set_blk (i := 0) (v := .bool false) (e3 (.slice none 0 0)))
  refine leave_mark rfl (D := w2.heap.size) ((heap_set_other (Ne.symm hne3)).trans ((heap_set_other (Ne.symm hne2)).trans hD)) (results_two rfl _ _ g2 g3 rfl (run_loadVar_one (by rw [cell_blk y2]; rfl) Try.underlying40 rfl) rfl (run_loadVar_one (by rw [cell_blk y3]; rfl) Try.underlying4 rfl)) ⟨below_putObj (((hg1 ▸ (btr hB1 hb2 (Nat.le_refl _)).trans (hBW.mono (by omega))).setCell (p := ⟨g2, 0, none⟩) (by simp; omega) _).setCell (p := ⟨g3, 0, none⟩) (by simp; omega) _) (by omega), .inr ⟨?_, rfl⟩⟩
  unfold firstW
  rw [find_none_take (fun i hi => hno i hi hi)]; rfl
 case round =>
  rintro k hk l2 S0 S W y hS hzW hSS ⟨hBW, hno⟩ hY
  obtain ⟨s, ys, v, hLk, rfl, hsl, hown⟩ := hY
  obtain ⟨ay, cy, rfl, -, -, -⟩ := id hsl
  obtain ⟨ny, hny⟩ : ∃ n, n = (nI ys).length := ⟨_, rfl⟩
  rw [← hny] at hsl hown ⊢
  clear hny
  simp only [List.zip_toArray, List.zip_cons_cons, List.zip_nil_right, List.foldl_toArray', List.size_toArray, List.length_cons, List.length_nil, List.foldl_cons, List.foldl_nil, List.setIfInBounds_toArray, List.set_cons_succ, List.set_cons_zero]
  have HNO := Lib.hid hno
  have HSL := Lib.hid hsl
  have HOWN := Lib.hid hown
  have HY := Lib.hid hLk
  have HZ := Lib.hid z1
  clear hno hsl hown hLk hit z1 hg1 hg2 hg3
  gi_wp2
  refine ⟨trivial, fun W2 hg hz hr => ?_⟩
  have hb2 : Below w2.heap.size w2 W2 := ⟨hg.os.trans hBW.os, hg.tape.trans hBW.tape, hg.output.trans hBW.output, by omega, fun i hi => (hg.block i (by omega) (.inl hi)).trans (hBW.block i hi)⟩
  have q1 := cell_blk (i := 3) (blk_keep d1 hb2)
  simp only [List.getElem?_toArray, List.getElem?_cons_zero, List.getElem?_cons_succ] at q1
  have hoks : ok s := by
   have := after_ind x (fun p => ok p.1) hM.st (fun q c h hc => hM.cl q.1 c h hc) L.length (s, ys) (by rw [hL.all]; exact List.mem_of_getElem? HY.out)
   exact this
  have hgd := hM.gd W2 (btr (btr hb hBw2 hB) hb2 hB) s hoks
  have HGD := Lib.hid hgd
  clear hgd
  gi_wp2
  refine callsTo HGD.out ?_
  rintro e W3 ⟨rfl, hb3⟩
  have z1 := HZ.out
  obtain ⟨hg1, hg2, hg3⟩ := HG.out
  have e2 := blk_keep (blk_keep d2 hb2) hb3
  have e3 := blk_keep (blk_keep d3 hb2) hb3
  have c2 := cell_blk (i := 0) e2
  have f2 := free_blk (i := 0) e2
  have hne : g3 ≠ g2 := by omega
  have e3' : ∀ v, (W3.setCell ⟨g2, 0, none⟩ v).heap[g3]? = some (.cells #[.bool false] 4 (0, 0)) := fun v => (heap_set_other hne).trans e3
  have c3 := fun v => cell_blk (i := 0) (e3' v)
  have f3 := fun v => free_blk (i := 0) (e3' v)
  simp only [List.getElem?_toArray, List.getElem?_cons_zero] at c2 c3
  have HE := Lib.hid (And.intro e2 e3)
  have HB2 := Lib.hid hb2
  have HB3 := Lib.hid hb3
  have HGZ := Lib.hid (And.intro hg hz)
  clear hg1 hg2 hg3 z1 e2 e3 hb2 hb3 hg hz
  obtain ⟨t, ht⟩ : ∃ t, t = x.gd s := ⟨_, rfl⟩
  simp only
  rw [← ht]
  have HT := Lib.hid ht
  clear ht
  cases t
  ·gi_wp2
   refine ⟨(KxS.below HB3.out), (btr HB2.out HB3.out (Nat.le_refl _)), fun i hi hik => ?_⟩
   rcases Nat.lt_or_ge i k with h | h
   ·exact HNO.out i hi h
   ·have hik2 : i = k := by omega
    subst hik2
    have h1 := HY.out
    rw [List.getElem?_eq_getElem hi] at h1
    rw [Option.some.inj h1]
    exact HT.out.symm
  ·gi_wp2
   obtain ⟨hg1, hg2, hg3⟩ := HG.out
   have hz1 := Z1.out
   have hBW2 : Below w.heap.size w W2 := btr hBw2 (HB2.out.mono (Nat.le_refl _)) (Nat.le_refl _)
   have hBW3 := btr hBW2 HB3.out (Nat.le_refl _)
   have y2 := (heap_set_other (W := W3.setCell ⟨g2, 0, none⟩ (.slice ay ny cy)) (i := 0) (v := .bool true) (Ne.symm hne)).trans (heap_set_blk (i := 0) (v := .slice ay ny cy) HE.out.1)
   have y3 := heap_set_blk (i := 0) (v := .bool true) (e3' (.slice ay ny cy))
   have hzz := HB2.out.size
   obtain ⟨hg, hz⟩ := HGZ.out
   have hz3 := HB3.out.size
   refine ⟨⟨by simp; omega, fun i h1 h2 h3 => ?_⟩, rfl, (((hg1 ▸ hBW3)).setCell (p := ⟨g2, 0, none⟩) (by simp; omega) _).setCell (p := ⟨g3, 0, none⟩) (by simp; omega) _, k, _, hk, HNO.out, ?_, y2, y3, ?_, fun b off n c e => ?_⟩
   ·rw [heap_set_other (by omega), heap_set_other (by omega)]
    exact HB3.out.block i h2
   ·have h1 := HY.out
    rw [List.getElem?_eq_getElem hk] at h1
    rw [Option.some.inj h1]
    exact HT.out.symm
   ·have h1 := HY.out
    rw [List.getElem?_eq_getElem hk] at h1
    rw [Option.some.inj h1]
    refine SlI.keepC (w := W) HSL.out (by simp; omega) (fun b cs t fr hb' hex => ?_)
    obtain ⟨off, n, c, e⟩ := hex
    have hSb := (HOWN.out b off n c e).1
    obtain ⟨h1, h2⟩ := hS b hSb
    rw [heap_set_other (by omega), heap_set_other (by omega)]
    exact (HB3.out.block b (by omega)).trans (hg.block b h2 (.inr hSb))
   ·exact .inl (HOWN.out b off n c e).1
end Ytnjgglnpmhjmiaa
end Go.Proofs

