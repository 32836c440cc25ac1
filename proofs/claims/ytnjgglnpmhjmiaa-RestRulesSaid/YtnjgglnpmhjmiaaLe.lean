/- Laws of rotation: the least table of a system. -/
import Derived.Test.YtnjgglnpmhjmiaaC9
import Derived.Laws.EntriesVeiled
open Go Go.RowKit Go.YtnjgglnpmhjmiaaIt
open Rest
namespace Go.Proofs
namespace Ytnjgglnpmhjmiaa
/-- append(v, u), v a list of the call's own, in a round -/
theorem wpListIn_app {F : Fence} {nF : Nat} {ops : Array Oper} {rest : List Oper} {o : Oper} {a : Act} {Q : Exit → Act → World → Prop} (hgd : o.guard = none) (s x : Operand) (t e : TypeId) (ho : o.op = .call { callee := .builtin .append, args := #[s, x], argTypes := #[t, t] })
  {z : Value} {bytes : Nat} (hu : Try.prog.underlying t = some (.slice e)) (hinf : (Try.prog.info? e).map (fun i => (i.zero, i.size, i.bytes)) = some (some z, 1, bytes)) (hzs : z.cells.size = 1) (hby : bytes ≤ 1000)
  {w : World} {base g : Nat} {v u : Value} {xs : List Value} (hr : w.ownsRow base e 1 v xs.length xs) (hl : xs.length ≤ 10000) (hs : a.eval s = v) (hx : a.eval x = .slice (some ⟨g, 0, none⟩) 1 1)
  (hg : w.heap[g]? = some (.cells #[u] e (0, 0))) (h1 : u.oneCell' = true) (hbase : base ≤ w.heap.size)
  (h : ∀ v' w', w'.ownsRow base e 1 v' (xs.length + 1) (xs ++ [u]) → w.grownBy w' v.ownBlock → (∀ g, v'.ownBlock = some g → v.ownBlock = some g ∨ w.heap.size ≤ g) → wpListIn F nF Try.prog ops Q rest (a.put o.dst v') w') : wpListIn F nF Try.prog ops Q (o :: rest) a w := by
 obtain ⟨i3, hi3, hy1, hy2, hy3⟩ := info_parts hinf
 refine wpListIn_append_own2 w hgd s x t ho base e i3 z 1 bytes hu hi3 hy1 hy2 hy3 hzs (by decide) v xs.length xs hs hr ⟨g, 0, none⟩ 1 1 [u] hx rfl (fun j q hq => ?_) (by intro q hq; rw [List.mem_singleton.1 hq]; exact h1) (Nat.le_trans (by omega : xs.length + 1 ≤ 10001) (by decide)) ?_ hbase (fun v' w' a1 a2 a4 => h v' w' a1 a2 a4)
 ·have hj : j = 0 := by
   have := (List.getElem?_eq_some_iff.1 hq).1
   simpa using this
  subst hj
  rw [show (Addr.add ⟨g, 0, none⟩ 0) = (⟨g, 0, none⟩ : Addr) from rfl, cell_blk hg]
  simpa using hq
 ·have := Nat.mul_le_mul (show xs.length + 1 ≤ 10001 by omega) hby
  omega
/-- The good ones of the first k places. -/
def Fg (x : RSys Int) (L : List (Int × List Nat)) (k : Nat) (s : Int) : Option Value := if s ∈ (L.take k).map Prod.fst ∧ x.gd s = true then some (.int .i64 1) else none
theorem fg_next {x : RSys Int} {L : List (Int × List Nat)} {k : Nat} (hk : k < L.length) (h : x.gd L[k].1 = true) (t : Int) : Fg x L (k + 1) t = updF (Fg x L k) L[k].1 (.int .i64 1) t := by
 have hs : (L.take (k + 1)).map Prod.fst = (L.take k).map Prod.fst ++ [L[k].1] := by rw [List.take_succ_eq_append_getElem hk, List.map_append]; rfl
 unfold updF Fg
 rw [hs]
 by_cases ht : t = L[k].1
 ·rw [if_pos ht, if_pos ⟨by rw [ht]; simp, by rw [ht]; exact h⟩]
 ·rw [if_neg ht]
  simp only [List.mem_append, List.mem_singleton, ht, or_false]
theorem fg_same {x : RSys Int} {L : List (Int × List Nat)} {k : Nat} (hk : k < L.length) (h : x.gd L[k].1 = false) (t : Int) : Fg x L (k + 1) t = Fg x L k t := by
 have hs : (L.take (k + 1)).map Prod.fst = (L.take k).map Prod.fst ++ [L[k].1] := by rw [List.take_succ_eq_append_getElem hk, List.map_append]; rfl
 unfold Fg
 rw [hs]
 by_cases ht : t = L[k].1
 ·rw [if_neg (fun e => by rw [ht, h] at e; exact absurd e.2 (by simp)), if_neg (fun e => by rw [ht, h] at e; exact absurd e.2 (by simp))]
 ·simp only [List.mem_append, List.mem_singleton, ht, or_false]
def LeJ (x : RSys Int) (w : World) (bs g1 g2 g4 g5 gm : Nat) (sv : Array Value) (L : List (Int × List Nat)) (k : Nat) (S : Nat → Prop) (W : World) : Prop :=
 Below w.heap.size w W ∧ W.heap[g1]? = some (.cells sv 96 (0, 0)) ∧ W.heap[g2]? = some (.cells #[.slice none 0 0, .slice none 0 0] 25 (0, 0)) ∧ W.heap[g5]? = some (.cells #[.map (some gm)] 125 (0, 0)) ∧ (∃ m, MapF encZ W gm m (Fg x L k)) ∧
 ∃ v4, W.heap[g4]? = some (.cells #[v4] 40 (0, 0)) ∧ RowS S W bs 3 v4 (((L.take k).map Prod.fst).map (Value.int .i64))
theorem LeJ.stb {x : RSys Int} {w : World} {bs g1 g2 g4 g5 gm : Nat} {sv : Array Value} {L : List (Int × List Nat)} {k : Nat} (h0 : w.heap.size ≤ bs) (h1 : g1 < bs) (h2 : g2 < bs) (h4 : g4 < bs) (h5 : g5 < bs) (hm : gm < bs) : StbS bs (LeJ x w bs g1 g2 g4 g5 gm sv L k) :=
 (StbS.below (Nat.le_refl _) h0).and ((StbS.old h1).and ((StbS.old h2).and ((StbS.old h5).and ((StbS.ex fun _ => StbS.mapF hm).and
  (StbS.ex fun _ => (StbS.old h4).and RowS.stb)))))
/-- The first state of each class, among the first k. -/
def Fo1 (cls : Int → Nat) (sts : List Int) (k : Nat) (c : Int) : Option Value := ((sts.take k).find? fun s => decide ((cls s : Int) = c)).map encZ
theorem fo1_some {cls : Int → Nat} {sts : List Int} {k : Nat} {c : Int} {v : Value} (h : Fo1 cls sts k c = some v) : ∃ s ∈ sts, (cls s : Int) = c ∧ v = encZ s := by
 unfold Fo1 at h
 obtain ⟨s, hs, rfl⟩ := Option.map_eq_some_iff.1 h
 exact ⟨s, List.mem_of_mem_take (List.mem_of_find?_eq_some hs), by simpa using List.find?_some hs, rfl⟩
theorem fo1_next {cls : Int → Nat} {sts : List Int} {k : Nat} (hk : k < sts.length) (h : Fo1 cls sts k (cls sts[k]) = none) (c : Int) : Fo1 cls sts (k + 1) c = updF (Fo1 cls sts k) (cls sts[k] : Int) (encZ sts[k]) c := by
 unfold updF
 by_cases hc : c = (cls sts[k] : Int)
 ·subst hc
  rw [if_pos rfl]
  unfold Fo1 at h ⊢
  rw [List.take_succ_eq_append_getElem hk, List.find?_append, Option.map_eq_none_iff.1 h]
  simp
 ·rw [if_neg hc]
  unfold Fo1
  rw [List.take_succ_eq_append_getElem hk, List.find?_append]
  simp [Ne.symm hc]
theorem fo1_same {cls : Int → Nat} {sts : List Int} {k : Nat} (hk : k < sts.length) {v : Value} (h : Fo1 cls sts k (cls sts[k]) = some v) (c : Int) : Fo1 cls sts (k + 1) c = Fo1 cls sts k c := by
 by_cases hc : c = (cls sts[k] : Int)
 ·subst hc
  rw [h]
  unfold Fo1 at h ⊢
  obtain ⟨s, hs, rfl⟩ := Option.map_eq_some_iff.1 h
  rw [List.take_succ_eq_append_getElem hk, List.find?_append, hs]
  rfl
 ·unfold Fo1
  rw [List.take_succ_eq_append_getElem hk, List.find?_append]
  simp [Ne.symm hc]
set_option maxRecDepth 100000 in
set_option maxHeartbeats 8000000 in
theorem least_any {x : RSys Int} {ok : Int → Prop} {fN fG : Nat} {lN lG : Array Value} {B : Nat} {W0 : World} {L : List (Int × List Nat)} (hM : SysM x ok fN fG lN lG B W0) (hB : B ≤ W0.heap.size)
  (eN : ∀ args w, (callFunc fN args).run Try.prog w = .ok (.enter fN args) w) (eG : ∀ args w, (callFunc fG args).run Try.prog w = .ok (.enter fG args) w) (hL : Walk x L) (hlen : L.length ≤ 5000) (w : World) (hb : Below B W0 w) :
  Calls Try.prog 74 #[.agg (sysV x fN fG lN lG)] w fun e w' => ∃ vn vg vst T, LeastT x.k (Fut x x.start) T ∧ e = .returned (.tuple #[.agg #[vn, vg], vst]) ∧ Below w.heap.size w w' ∧ TabN w w' vn vg vst T := by
 refine calls_of_wpM Try.func74 rfl ?_
 simp only [Try.ntmps74, List.size_toArray, List.length_cons, List.length_nil, Nat.reduceAdd, Nat.reduceSub, Array.replicate_succ, Array.replicate_zero, List.push_toArray, List.append_toArray, List.nil_append, List.cons_append]
 have hmm := @run_makeMap Try.prog
 refine wpIn_seq_k (fun K hK => ?_)
 have HK := Lib.hid hK; clear hK
 gi_wp2
 refine HK.out _ _ ?_; clear HK K
 refine wpIn_seq_k (fun K hK => ?_)
 have HK := Lib.hid hK; clear hK
 gi_wp2
 refine HK.out _ _ ?_; clear HK K
 obtain ⟨b1, b2, b4, z1, hB1⟩ := three_cells (w := w) (a := sysV x fN fG lN lG) (b := #[.slice none 0 0, .slice none 0 0]) (c := #[.slice none 0 0]) (t := 96) (u := 25) (v := 40)
 rw [show w.heap.size + 1 + 1 = w.heap.size + 2 from rfl]
 generalize ((w.alloc (.cells (sysV x fN fG lN lG) 96)).alloc (.cells #[.slice none 0 0, .slice none 0 0] 25)).alloc (.cells #[.slice none 0 0] 40) = w1 at *
 obtain ⟨g1, hg1⟩ : ∃ g, g = w.heap.size := ⟨_, rfl⟩
 obtain ⟨g2, hg2⟩ : ∃ g, g = w.heap.size + 1 := ⟨_, rfl⟩
 obtain ⟨g4, hg4⟩ : ∃ g, g = w.heap.size + 2 := ⟨_, rfl⟩
 rw [← hg2] at b2
 rw [← hg4] at b4
 rw [← hg1] at b1
 rw [← hg2, ← hg4, ← hg1]
 have HG := Lib.hid (And.intro hg1 (And.intro hg2 (And.intro hg4 z1)))
 clear hg1 hg2 hg4 z1
 refine wpIn_seq_k (fun K hK => ?_)
 have HK := Lib.hid hK; clear hK
 gi_wp2
 refine HK.out _ _ ?_; clear HK K
 obtain ⟨w3, hw3⟩ : ∃ q, q = (w1.alloc (.map #[] 0)).alloc (.cells #[.map (some w1.heap.size)] 125) := ⟨_, rfl⟩
 have zz1 : (w1.alloc (.map #[] 0)).heap.size = w1.heap.size + 1 := World.size_alloc ..
 have b5 : w3.heap[w1.heap.size + 1]? = some (.cells #[.map (some w1.heap.size)] 125 (0, 0)) := by rw [hw3]; exact heap_newI zz1.symm
 have m0 : MapF encZ w3 w1.heap.size 0 (fun _ => none) := by rw [hw3]; exact (mapF_new encZ w1 0).keep (heap_oldI (by omega))
 have z3 : w3.heap.size = w1.heap.size + 2 := by rw [hw3, World.size_alloc, zz1]
 have hB3 : Below w1.heap.size w1 w3 := by rw [hw3]; exact ((Below.refl _ _).alloc (Nat.le_refl _) _).alloc (by omega) _
 rw [← hw3]
 obtain ⟨gm, hgm⟩ : ∃ g, g = w1.heap.size := ⟨_, rfl⟩
 obtain ⟨g5, hg5⟩ : ∃ g, g = w1.heap.size + 1 := ⟨_, rfl⟩
 rw [← hg5, ← hgm] at b5
 rw [← hgm] at m0
 rw [← hg5]
 replace b1 := blk_keep b1 hB3
 replace b2 := blk_keep b2 hB3
 replace b4 := blk_keep b4 hB3
 replace hB1 := btr hB1 hB3 (by have := HG.out; omega)
 have HG2 := Lib.hid (And.intro hgm (And.intro hg5 z3))
 clear hw3 hgm hg5 z3 hB3 zz1
 have H93 := Lib.hid (fun W => walk_any x fN fG lN lG W)
 refine wpIn_seq_k (fun K1 hK1 => ?_)
 have HK1 := Lib.hid hK1; clear hK1
 refine wpIn_seq_k (fun K2 hK2 => ?_)
 have HK2 := Lib.hid hK2; clear hK2
 gi_wp2_with (first | (refine wpListIn_load_blk rfl 96 _ rfl _ rfl b1 Try.underlying96 rfl size96 rfl ?_) | (gi_at_call 93; refine callsTo (H93.out _) ?_; rintro e w2 ⟨rfl, hc2, hb2, hz2e⟩; have hz2 := Nat.le_of_eq hz2e.symm; clear hz2e))
 refine HK2.out _ _ ?_; clear HK2 K2
 obtain ⟨hg1, hg2, hg4, z1⟩ := HG.out
 obtain ⟨hgm, hg5, z3⟩ := HG2.out
 replace b1 := blk_keep b1 hb2
 replace b2 := blk_keep b2 hb2
 replace b4 := blk_keep b4 hb2
 replace b5 := blk_keep b5 hb2
 replace m0 := m0.below hb2
 replace hB1 : Below w.heap.size w w2 := btr hB1 hb2 (Nat.le_refl _)
 have hit := walk_iter (b1 := w3.heap.size) (L := L) hM eN hL hlen
 have hbs : w.heap.size ≤ w2.heap.size := by omega
 have HIT := Lib.hid hit
 clear hit
 refine wpIn_block ?_
 refine wpIn_rangeS (gf := 105) (lb := #[.pointer (some ⟨w3.heap.size, 0, none⟩)]) ?hg ?eg HIT.out ?hps
  (fun k S W => (Below B W0 W ∧ W.heap[w3.heap.size]? = some (.cells (sysV x fN fG lN lG) 96 (0, 0))) ∧ LeJ x w w2.heap.size g1 g2 g4 g5 gm (sysV x fN fG lN lG) L k S W)
  (fun c S W => False) ?hK ?sI ?sIx ?h0 ?round ?done ?stop
 case hg => rfl
 case eg => exact (enters_of Try.func105 (by kernel_rfl) rfl)
 case hps => exact fun k S0 S W y h => h.size
 case hK => exact fun k S W h => h.1
 case sI => exact fun k => ((StbS.below (by have := hb.size; omega) (by have := hb.size; omega)).and (StbS.old (by omega))).and (LeJ.stb hbs (by omega) (by omega) (by omega) (by omega) (by omega))
 case sIx => exact fun c => StbS.pure
 case h0 => exact ⟨⟨btr hb hB1 hB, hc2⟩, hB1, b1, b2, b5, ⟨_, m0.congr (fun s => by simp [Fg])⟩, _, b4, RowS.nil _ _ _ _⟩
 case stop => rintro c S W hS h; exact h.elim
 case round =>
  rintro k hk l2 S0 S W y hS hzW hSS ⟨⟨hBW, hbx⟩, hJ⟩ hY
  obtain ⟨s, ys, v, hLk, rfl, -, -⟩ := hY
  simp only [List.zip_toArray, List.zip_cons_cons, List.zip_nil_right, List.foldl_toArray', List.size_toArray, List.length_cons, List.length_nil, List.foldl_cons, List.foldl_nil, List.setIfInBounds_toArray, List.set_cons_succ, List.set_cons_zero]
  have HR := Lib.hid (And.intro hLk (And.intro hJ (And.intro hBW hbx)))
  have HZ := Lib.hid (And.intro z1 (And.intro hgm (And.intro hg5 z3)))
  clear hLk hJ hBW hbx z1 hgm hg5 z3 hg1 hg2 hg4 b1 b2 b4 b5 m0
  gi_wp2
  refine ⟨trivial, fun W2 hg hz hr => ?_⟩
  obtain ⟨hLk, hJ, hBW, hbx⟩ := HR.out
  have hgW : GrS w2.heap.size S0 W W2 := hg.mono (Nat.le_refl _) hSS
  have hbx2 := (hg.block w3.heap.size (lt_blk hbx) (.inl (by have := HZ.out; have := HG.out; omega))).trans hbx
  have hBW2 : Below B W0 W2 := ⟨hg.os.trans hBW.os, hg.tape.trans hBW.tape, hg.output.trans hBW.output, by have := hBW.size; omega, fun i hi => (hg.block i (by have := hBW.size; omega) (.inl (by have := hb.size; omega))).trans (hBW.block i hi)⟩
  obtain ⟨z1, hgm, hg5, z3⟩ := HZ.out
  obtain ⟨hg1, hg2, hg4, -⟩ := HG.out
  have hJ2 := LeJ.stb (x := x) (k := k) (L := L) (sv := sysV x fN fG lN lG) hbs (g1 := g1) (g2 := g2) (g4 := g4) (g5 := g5) (gm := gm) (by omega) (by omega) (by omega) (by omega) (by omega) _ _ _ _ (fun _ h => h) hgW hJ
  obtain ⟨jB, j1, j2, j5, ⟨mm, jm⟩, v4, j4, r4⟩ := hJ2
  obtain ⟨a4, c4, rfl, hc4⟩ := own_form r4.1
  have q4 := cell_blk (i := 0) j4
  have f4 := free_blk (i := 0) j4
  simp only [List.getElem?_toArray, List.getElem?_cons_zero] at q4
  have hlt : (((L.take k).map Prod.fst).map (Value.int .i64)).length = k := by simp; omega
  have HS2 := Lib.hid (And.intro hLk (And.intro hBW2 (And.intro hbx2 (And.intro jB (And.intro j1 (And.intro j2 (And.intro j5 (And.intro jm (And.intro j4 (And.intro r4 (And.intro hz hg)))))))))))
  have HLT := Lib.hid hlt
  obtain ⟨n4, hn4⟩ : ∃ n, n = (((L.take k).map Prod.fst).map (Value.int .i64)).length := ⟨_, rfl⟩
  rw [← hn4] at q4
  have HN4 := Lib.hid hn4
  have r4n : W2.ownsRow w2.heap.size 3 1 (.slice a4 n4 c4) (((L.take k).map Prod.fst).map (Value.int .i64)).length (((L.take k).map Prod.fst).map (Value.int .i64)) := by rw [hn4]; exact r4.1
  have HR4 := Lib.hid (fun o => own_alloc r4n o)
  have hl5 : (((L.take k).map Prod.fst).map (Value.int .i64)).length ≤ 10000 := by omega
  have hbz : ∀ o, w2.heap.size ≤ (W2.alloc o).heap.size := fun o => by rw [World.size_alloc]; omega
  have HL5 := Lib.hid (And.intro hl5 hbz)
  clear hl5 hbz r4n
  clear hLk hJ hBW hbx hbx2 hBW2 hgW jB j1 j2 j5 jm j4 r4 hg hz hlt hn4 z1 hgm hg5 z3 hg1 hg2 hg4 hc4 f4
  refine wpIn_block ?_
  refine wpIn_seq_k (fun K hK => ?_)
  have HK := Lib.hid hK; clear hK
  gi_wp2_with (refine wpListIn_app rfl (.tmp 21) (.tmp 23) 40 3 rfl Try.underlying40 info3 rfl (by decide) (HR4.out _) HL5.out.1 rfl rfl (heap_newI rfl) rfl (HL5.out.2 _) ?_; intro v24 W5 q24 g24 n24; refine cutme ?_)
  refine ⟨?_⟩
  obtain ⟨hLk, hBW2, hbx2, jB, j1, j2, j5, jm, j4, r4, hz, hg⟩ := HS2.out
  obtain ⟨z1, hgm, hg5, z3⟩ := HZ.out
  obtain ⟨hg1, hg2, hg4, -⟩ := HG.out
  have e24 : (((L.take k).map Prod.fst).map (Value.int .i64)).length + 1 = k + 1 := by rw [HLT.out]
  rw [e24] at q24
  obtain ⟨av, cv, rfl, hcv⟩ := own_form q24
  have gW : Gr2 W2 W5 (Value.slice a4 n4 c4).ownBlock none := ((Gr2.refl W2 _ _).alloc _).grown g24 (.inl rfl)
  have l4 : ∀ i, i < w2.heap.size → some i ≠ (Value.slice a4 n4 c4).ownBlock := fun i hi e => by have := (own_lt r4.1 (HN4.out ▸ e.symm)).1; omega
  have i4 : W5.heap[g4]? = some (.cells #[.slice a4 n4 c4] 40 (0, 0)) := by
   rw [gW.block g4 (by omega) (l4 g4 (by omega)) (by simp), HN4.out]; exact j4
  have y4 := cell_blk (i := 0) i4
  have f4 := free_blk (i := 0) i4
  simp only [List.getElem?_toArray, List.getElem?_cons_zero] at y4
  have HG5 := Lib.hid (And.intro gW (And.intro l4 (And.intro i4 (And.intro q24 n24))))
  clear gW l4 i4 q24 n24 hLk hBW2 hbx2 jB j1 j2 j5 jm j4 r4 hz hg z1 hgm hg5 z3 hg1 hg2 hg4 e24 hcv g24
  gi_wp2
  refine HK.out _ _ ?_; clear HK
  obtain ⟨gW, l4, i4, q24, n24⟩ := HG5.out
  obtain ⟨hLk, hBW2, hbx2, jB, j1, j2, j5, jm, j4, r4, hz, hg⟩ := HS2.out
  obtain ⟨z1, hgm, hg5, z3⟩ := HZ.out
  obtain ⟨hg1, hg2, hg4, -⟩ := HG.out
  have hgz := gW.size
  have hlow : ∀ i, i < w2.heap.size → W5.heap[i]? = W2.heap[i]? := fun i hi => gW.block i (by omega) (l4 i hi) (by simp)
  have hLk2 : L[k].1 = s := by rw [List.getElem?_eq_getElem hk] at hLk; rw [Option.some.inj hLk]
  have hoks : ok s := by
   have := after_ind x (fun p => ok p.1) hM.st (fun q c h hc => hM.cl q.1 c h hc) L.length (s, ys) (by rw [hL.all]; exact List.mem_of_getElem? hLk)
   exact this
  have fin : ∀ (WF : World) (m' : Nat), (WF.os = W5.os ∧ WF.tape = W5.tape ∧ WF.output = W5.output ∧ W5.heap.size ≤ WF.heap.size) → (∀ i, i < W5.heap.size → i ≠ g4 → i ≠ gm → WF.heap[i]? = W5.heap[i]?) → WF.heap[g4]? = some (.cells #[.slice av (k + 1) cv] 40 (0, 0)) → MapF encZ WF gm m' (Fg x L (k + 1)) →
    KxS w2.heap.size S W2 WF ∧ ((Below B W0 WF ∧ WF.heap[w3.heap.size]? = some (.cells (sysV x fN fG lN lG) 96 (0, 0))) ∧ LeJ x w w2.heap.size g1 g2 g4 g5 gm (sysV x fN fG lN lG) L (k + 1) (ext S W2.heap.size WF.heap.size) WF) := by
   intro WF m' ⟨o1, o2, o3, o4⟩ hF h4 hm
   have hwb := hb.size
   have hBs := hBW2.size
   have hjs := jB.size
   have hFl : ∀ i, i < w2.heap.size → i ≠ g4 → i ≠ gm → WF.heap[i]? = W2.heap[i]? := fun i hi a b => (hF i (by omega) a b).trans (hlow i hi)
   refine ⟨⟨by omega, fun i h1 h2 h3 => (hF i (by omega) (by omega) (by omega)).trans (gW.block i h2 (fun e => h3 (hSS i (r4.2 i (HN4.out ▸ e.symm)))) (by simp))⟩, ⟨⟨o1.trans (gW.os.trans hBW2.os), o2.trans (gW.tape.trans hBW2.tape), o3.trans (gW.output.trans hBW2.output), by omega, fun i hi => (hFl i (by omega) (by omega) (by omega)).trans (hBW2.block i hi)⟩, (hFl _ (by omega) (by omega) (by omega)).trans hbx2⟩,
    ⟨o1.trans (gW.os.trans jB.os), o2.trans (gW.tape.trans jB.tape), o3.trans (gW.output.trans jB.output), by omega, fun i hi => (hFl i (by omega) (by omega) (by omega)).trans (jB.block i hi)⟩, (hFl g1 (by omega) (by omega) (by omega)).trans j1, (hFl g2 (by omega) (by omega) (by omega)).trans j2, (hFl g5 (by omega) (by omega) (by omega)).trans j5, ⟨m', hm⟩, _, h4, ?_⟩
   have htk : ((L.take (k + 1)).map Prod.fst).map (Value.int .i64) = ((L.take k).map Prod.fst).map (Value.int .i64) ++ [.int .i64 s] := by rw [List.take_succ_eq_append_getElem hk, List.map_append, List.map_append, ← hLk2]; rfl
   rw [htk]
   refine ⟨by rw [List.length_append, HLT.out]; exact own_same q24 fun i hi => hF i (own_lt q24 hi).2.1 (by have := (own_lt q24 hi).1; omega) (by have := (own_lt q24 hi).1; omega), fun i hi => ?_⟩
   rcases n24 i hi with h | h
   ·exact .inl (hSS i (r4.2 i (HN4.out ▸ h)))
   ·rw [World.size_alloc] at h
    exact .inr ⟨by omega, by have := (own_lt q24 hi).2.1; omega⟩
  have FIN := Lib.hid fin
  have c1 : (W5.setCell ⟨g4, 0, none⟩ (.slice av (k + 1) cv)).heap[g1]? = some (.cells (sysV x fN fG lN lG) 96 (0, 0)) := (heap_set_other (by omega)).trans ((hlow g1 (by omega)).trans j1)
  have c5 : (W5.setCell ⟨g4, 0, none⟩ (.slice av (k + 1) cv)).heap[g5]? = some (.cells #[.map (some gm)] 125 (0, 0)) := (heap_set_other (by omega)).trans ((hlow g5 (by omega)).trans j5)
  have cm := jm.keep (w' := W5.setCell ⟨g4, 0, none⟩ (.slice av (k + 1) cv)) ((heap_set_other (by omega)).trans (hlow gm (by omega)))
  have c4 := heap_set_blk (i := 0) (v := .slice av (k + 1) cv) i4
  have hbB : Below B W0 (W5.setCell ⟨g4, 0, none⟩ (.slice av (k + 1) cv)) := by
   have hwb := hb.size
   have hBs := hBW2.size
   refine ⟨gW.os.trans hBW2.os, gW.tape.trans hBW2.tape, gW.output.trans hBW2.output, by rw [World.size_setCell]; omega, fun i hi => ?_⟩
   rw [heap_set_other (by omega)]
   exact (hlow i (by omega)).trans (hBW2.block i hi)
  have hset : ∀ i, i ≠ g4 → (W5.setCell ⟨g4, 0, none⟩ (.slice av (k + 1) cv)).heap[i]? = W5.heap[i]? := fun i hi => heap_set_other hi
  have hsz6 : (W5.setCell ⟨g4, 0, none⟩ (.slice av (k + 1) cv)).heap.size = W5.heap.size := World.size_setCell ..
  obtain ⟨W6, hW6⟩ : ∃ q, q = W5.setCell ⟨g4, 0, none⟩ (.slice av (k + 1) cv) := ⟨_, rfl⟩
  have ho6 : W6.os = W5.os ∧ W6.tape = W5.tape ∧ W6.output = W5.output := by rw [hW6]; exact ⟨rfl, rfl, rfl⟩
  rw [← hW6] at c1 c5 cm c4 hbB hset hsz6 ⊢
  have q1 := cell_blk (i := 3) c1
  simp only [List.getElem?_toArray, List.getElem?_cons_zero, List.getElem?_cons_succ] at q1
  have HGD := Lib.hid (hM.gd W6 hbB s hoks)
  have H6 := Lib.hid (And.intro c5 (And.intro cm (And.intro c4 (And.intro hset (And.intro hsz6 (And.intro ho6 (And.intro hLk2 (And.intro hoks hgz))))))))
  clear fin gW l4 i4 q24 n24 hLk hBW2 hbx2 jB j1 j2 j5 jm j4 r4 hz hg z1 hgm hg5 z3 hg1 hg2 hg4 hgz hlow hLk2 hoks c1 c5 cm c4 hbB hset hsz6 hW6 ho6 y4 f4 q4
  gi_wp2
  refine callsTo HGD.out ?_
  rintro e W7 ⟨rfl, hb7⟩
  obtain ⟨c5, cm, c4, hset, hsz6, ho6, hLk2, hoks, hgz⟩ := H6.out
  have d5 := blk_keep c5 hb7
  have q5 := cell_blk (i := 0) d5
  simp only [List.getElem?_toArray, List.getElem?_cons_zero] at q5
  have d4 := blk_keep c4 hb7
  have dm := cm.below hb7
  have hF7 : ∀ i, i < W5.heap.size → i ≠ g4 → W7.heap[i]? = W5.heap[i]? := fun i hi h => (hb7.block i (by omega)).trans (hset i h)
  have hFm : ∀ t u, Fg x L k t = some u → ∃ l, keyOf Try.prog 3 (encZ t) = some l := fun t u h => by
   unfold Fg at h
   by_cases hh : t ∈ (L.take k).map Prod.fst ∧ x.gd t = true
   ·obtain ⟨p, hp, rfl⟩ := List.mem_map.1 hh.1
    have := after_ind x (fun p => ok p.1) hM.st (fun q c h hc => hM.cl q.1 c h hc) L.length p (by rw [hL.all]; exact List.mem_of_mem_take hp)
    exact keyZ (hM.bd _ this)
   ·rw [if_neg hh] at h; cases h
  have ho7 : W7.os = W5.os ∧ W7.tape = W5.tape ∧ W7.output = W5.output ∧ W5.heap.size ≤ W7.heap.size := ⟨hb7.os.trans ho6.1, hb7.tape.trans ho6.2.1, hb7.output.trans ho6.2.2, by have := hb7.size; omega⟩
  obtain ⟨t, ht⟩ : ∃ t, t = x.gd s := ⟨_, rfl⟩
  simp only
  rw [← ht]
  cases t
  ·have hng : x.gd L[k].1 = false := by rw [hLk2]; exact ht.symm
   have HE := Lib.hid (FIN.out W7 _ ho7 (fun i h1 h2 _ => hF7 i h1 h2) d4 (dm.congr (fg_same hk hng)))
   clear ht hng d4 dm hF7 hFm ho7 c5 cm c4 hset hsz6 ho6 hLk2 hoks hgz d5 q5
   gi_wp2
   exact HE.out
  ·have hyg : x.gd L[k].1 = true := by rw [hLk2]; exact ht.symm
   obtain ⟨o, hup, hM8⟩ := dm.update (P := Try.prog) (t := 125) (k := 3) (e := 3) keyed3 Try.underlying125 encZ_inj hFm (keyZ (hM.bd s hoks)) (.int .i64 1)
   have hne4 : g4 ≠ gm := by have := HG.out; have := HZ.out; omega
   have HE := Lib.hid (FIN.out (W7.putObj gm o) _ ⟨ho7.1, ho7.2.1, ho7.2.2.1, by rw [World.putObj_size]; exact ho7.2.2.2⟩ (fun i h1 h2 h3 => (World.putObj_heap_other h3).trans (hF7 i h1 h2)) ((World.putObj_heap_other hne4).trans d4) (hM8.congr (fun u => by rw [← hLk2]; exact fg_next hk hyg u)))
   clear ht hyg d4 dm hF7 hFm ho7 c5 cm c4 hset hsz6 ho6 hLk2 hoks hgz d5 hM8
   gi_wp2
   exact HE.out
 case done =>
  rintro S W hS ⟨⟨hBW, hbx⟩, jB, j1, j2, j5, ⟨mm, jm⟩, v4, j4, r4⟩ hD
  rw [List.take_length] at r4
  obtain ⟨a4, c4, rfl, hc4⟩ := own_form r4.1
  have hx4 : ((L.map Prod.fst).map (Value.int .i64)).length = L.length := by simp
  rw [hx4] at j4 r4
  have r4' := r4.1
  rw [hx4] at r4'
  obtain ⟨sts, hsts⟩ : ∃ l, l = L.map Prod.fst := ⟨_, rfl⟩
  have hsl : sts.length = L.length := by rw [hsts]; simp
  rw [← hsl] at j4
  have s4 : SlI W (.slice a4 sts.length c4) sts := by
   rw [hsl, hsts]; exact slI_own r4' (by simp) (by simp; omega)
  have hok : ∀ s ∈ sts, ok s := fun s hs => by
   rw [hsts] at hs
   obtain ⟨p, hp, rfl⟩ := List.mem_map.1 hs
   exact after_ind x (fun p => ok p.1) hM.st (fun q c h hc => hM.cl q.1 c h hc) L.length p (by rw [hL.all]; exact hp)
  have hcl : Closed x sts := ⟨fun s hs c hc => by rw [hsts] at hs ⊢; exact hL.closed hs hc⟩
  have hst : x.start ∈ sts := by rw [hsts]; exact hL.start
  have hC0 : ClsM W gm sts (clsN x sts 0) ok := by
   refine ⟨_, _, jm, fun s v h => ?_, fun s hs => ?_⟩
   ·unfold Fg at h
    by_cases hh : s ∈ (L.take L.length).map Prod.fst ∧ x.gd s = true
    ·exact hok s (by rw [hsts]; simpa using hh.1)
    ·rw [if_neg hh] at h; cases h
   ·unfold Fg
    rw [List.take_length, ← hsts]
    by_cases hg : x.gd s = true
    ·rw [if_pos ⟨hs, hg⟩]; simp [clsN, hg]
    ·rw [if_neg (fun e => hg e.2)]; simp [clsN, hg]
  have hfar : ∀ g off, a4 = some ⟨g, off, none⟩ → w2.heap.size ≤ g := fun g off e => (own_lt r4' (g := g) (by rw [e]; rfl)).1
  have HW := Lib.hid (And.intro hBW (And.intro jB (And.intro j1 (And.intro j2 (And.intro j4 (And.intro s4 (And.intro hD hfar)))))))
  have HS := Lib.hid (And.intro hok (And.intro hcl (And.intro hst hsl)))
  have HI0 := Lib.hid (And.intro hC0 j5)
  have HZ := Lib.hid (And.intro z1 (And.intro hgm (And.intro hg5 z3)))
  clear hBW hbx jB j1 j2 j5 jm r4 r4' j4 hD hS z1 hgm hg5 z3 hg1 hg2 hg4 b1 b2 b4 b5 m0 s4 hx4 hc4 hok hcl hst hsl hC0 hfar hsts
  refine HK1.out _ _ ?_
  clear HK1 K1 HIT
  refine wpIn_of_wp ?_
  refine wp_noP ?_
  refine wp_seq_k (fun K3 hK3 => ?_)
  have HK3 := Lib.hid hK3; clear hK3
  go_wp2
  go_loopw [7, 8, 9] (fun v7 v8 v9 wr => ∃ (r gc : Nat), v7 = .int .i64 (cntN x sts r : Nat) ∧ Hid (wr.heap[g5]? = some (.cells #[.map (some gc)] 125 (0, 0)) ∧ ClsM wr gc sts (clsN x sts r) ok) ∧ Gr2 W wr (some g5) none) (fun v7 _ _ _ => sts.length - (intOf v7).toNat)
  case atStart => exact ⟨0, gm, rfl, Lib.hid ⟨HI0.out.2, HI0.out.1⟩, Gr2.refl _ _ _⟩
  case round =>
   obtain ⟨r, gc, rfl, HI, hG⟩ := hrel
   obtain ⟨i5, iC⟩ := HI.out
   obtain ⟨hBW, jB, j1, j2, j4, s4, hD, hfar⟩ := HW.out
   obtain ⟨hok, hcl, hst, hsl⟩ := HS.out
   obtain ⟨z1, hgm, hg5, z3⟩ := HZ.out
   obtain ⟨hg1, hg2, hg4, -⟩ := HG.out
   have hzW : w2.heap.size < W.heap.size := lt_blk hD
   have d1 : wr.heap[g1]? = some (.cells (sysV x fN fG lN lG) 96 (0, 0)) := (hG.block g1 (by omega) (by simp; omega) (by simp)).trans j1
   have d4 : wr.heap[g4]? = some (.cells #[.slice a4 sts.length c4] 40 (0, 0)) := (hG.block g4 (by omega) (by simp; omega) (by simp)).trans j4
   have d5 := i5
   have q4 := cell_blk (i := 0) d4
   have q5 := cell_blk (i := 0) d5
   have f5 := free_blk (i := 0) d5
   simp only [List.getElem?_toArray, List.getElem?_cons_zero] at q4 q5
   have hzr := hG.size
   have s4r : SlI wr (.slice a4 sts.length c4) sts := s4.keepB hzr fun g off n c e hl => hG.block g hl (by
    injection e with e
    have := hfar g off e
    simp; omega) (by simp)
   have hbB : Below B W0 wr := ⟨hG.os.trans hBW.os, hG.tape.trans hBW.tape, hG.output.trans hBW.output, by have := hBW.size; omega, fun i hi => (hG.block i (by have := hBW.size; omega) (by have := hb.size; simp; omega) (by simp)).trans (hBW.block i hi)⟩
   have hcb : ∀ s ∈ sts, clsN x sts r s ≤ 1000000 := fun s hs => by
    cases r with
    | zero => simp only [clsN]; split <;> omega
    | succ r =>
     have h1 := cls_lt (x := x) (r := r) hs
     have h2 := cnt_le x sts (r + 1)
     omega
   have H97 := Lib.hid (split_any hM eN hB (.slice a4 sts.length c4) sts gc (clsN x sts r) wr hbB s4r hok hcl iC hcb (by omega))
   have HD := Lib.hid (And.intro d5 (And.intro hzW hzr))
   have HD4 := Lib.hid d4
   clear i5 iC hBW jB j1 j2 j4 s4 hD hfar hok hcl hst hsl z1 hgm hg5 z3 hg1 hg2 hg4 hzW d4 d5 hzr s4r hbB hcb HI f5
   have hne15 : g1 ≠ g5 := by have := HG.out; have := HZ.out; omega
   by_cases hn : cntN x sts (r + 1) = cntN x sts r
   ·have hni : ((keysL x (clsN x sts r) sts).length : Int) = (cntN x sts r : Int) := by
     have : (keysL x (clsN x sts r) sts).length = cntN x sts r := hn
     omega
    have hnb : (((keysL x (clsN x sts r) sts).length : Int) == (cntN x sts r : Int)) = true := by simpa using hni
    clear hni
    go_wp2_with (first | (refine wpList_load_blk rfl 96 _ rfl _ rfl d1 Try.underlying96 rfl size96 rfl ?_) | (go_at_call 97; refine H97.out.mono ?_; rintro e wn ⟨gn, rfl, hCn, hgn, hbn⟩; have e5 := blk_keep HD.out.1 hbn; have y5 := cell_blk (i := 0) e5; have f5 := free_blk (i := 0) e5; simp only [List.getElem?_toArray, List.getElem?_cons_zero] at y5; have HN := Lib.hid (And.intro hCn (And.intro hgn (And.intro hbn e5))); clear hCn hgn hbn e5))
    refine HK3.out _ _ ?_; clear HK3
    obtain ⟨hCn, hgn, hbn, e5⟩ := HN.out
    obtain ⟨hBW, jB, j1, j2, j4, s4, hD, hfar⟩ := HW.out
    obtain ⟨hok, hcl, hst, hsl⟩ := HS.out
    obtain ⟨z1, hgm, hg5, z3⟩ := HZ.out
    obtain ⟨hg1, hg2, hg4, -⟩ := HG.out
    have hzW : w2.heap.size < W.heap.size := lt_blk hD
    have hzr := hG.size
    have hzn := hbn.size
    have hGn := hG.below hbn
    obtain ⟨Wz, hWz⟩ : ∃ q, q = wn.setCell ⟨g5, 0, none⟩ (.map (some gn)) := ⟨_, rfl⟩
    have hzz : Wz.heap.size = wn.heap.size := by rw [hWz]; exact World.size_setCell ..
    have hz5 : ∀ i, i ≠ g5 → Wz.heap[i]? = wn.heap[i]? := fun i hi => by rw [hWz]; exact heap_set_other hi
    have hzl : ∀ i, i < W.heap.size → i ≠ g5 → Wz.heap[i]? = W.heap[i]? := fun i hi h => (hz5 i h).trans (hGn.block i hi (by simp; omega) (by simp))
    have hoz : Wz.os = W.os ∧ Wz.tape = W.tape ∧ Wz.output = W.output := by rw [hWz]; exact ⟨hGn.os, hGn.tape, hGn.output⟩
    have kBz : Below B W0 Wz := ⟨hoz.1.trans hBW.os, hoz.2.1.trans hBW.tape, hoz.2.2.trans hBW.output, by have := hBW.size; omega, fun i hi => (hzl i (by have := hBW.size; omega) (by have := hb.size; omega)).trans (hBW.block i hi)⟩
    have kB : Below w.heap.size w Wz := ⟨hoz.1.trans jB.os, hoz.2.1.trans jB.tape, hoz.2.2.trans jB.output, by have := jB.size; omega, fun i hi => (hzl i (by omega) (by omega)).trans (jB.block i hi)⟩
    have k1 := (hzl g1 (by omega) (by omega)).trans j1
    have k2 := (hzl g2 (by omega) (by omega)).trans j2
    have k4 := (hzl g4 (by omega) (by omega)).trans j4
    have k5 : Wz.heap[g5]? = some (.cells #[.map (some gn)] 125 (0, 0)) := by rw [hWz]; exact heap_set_blk e5
    have kC : ClsM Wz gn sts (clsN x sts (r + 1)) ok := hCn.keep (hz5 gn (by omega))
    have kD := (hzl w2.heap.size (by omega) (by omega)).trans hD
    have kS : SlI Wz (.slice a4 sts.length c4) sts := s4.keepB (by omega) fun g off n c e hl => hzl g hl (by
     injection e with e
     have := hfar g off e
     omega)
    have hne : sts ≠ [] := fun e => by rw [e] at hst; cases hst
    have kSt : Stop x sts (r + 1) := ⟨by
     cases r with
     | zero =>
      have h1 := cnt_pos (x := x) hne 0
      rw [hn] at h1
      simp [cntN] at h1
     | succ r => omega, hn⟩
    have kcb : ∀ s ∈ sts, clsN x sts (r + 1) s ≤ 1000000 := fun s hs => by
     have h1 := cls_lt (x := x) (r := r) hs
     have h2 := cnt_le x sts (r + 1)
     omega
    have kgn := kC.lt
    obtain ⟨cls, hcls⟩ : ∃ q, q = clsN x sts (r + 1) := ⟨_, rfl⟩
    rw [← hWz]
    have HX := Lib.hid (And.intro kBz (And.intro kB (And.intro k1 (And.intro k2 (And.intro k4 (And.intro k5 (And.intro kC (And.intro kD (And.intro kS (And.intro kSt (And.intro kcb (And.intro kgn hcls))))))))))))
    have HY := Lib.hid (And.intro hzz (And.intro hzn (And.intro hzr (And.intro hzW hgn))))
    have q10 := cell_blk (i := 0) k1
    have q11 := cell_blk (i := 1) k1
    have q5 := cell_blk (i := 0) k5
    have hlk := kC.look hM.bd hst hM.st Wz rfl
    rw [← hcls] at hlk
    simp only [List.getElem?_toArray, List.getElem?_cons_zero, List.getElem?_cons_succ] at q10 q11 q5
    clear hCn hgn hbn e5 hBW jB j1 j2 j4 s4 hD hfar hok hcl hst hsl z1 hgm hg5 z3 hg1 hg2 hg4 hzW hzr hzn hGn hzz hz5 hzl hoz kBz kB k1 k2 k4 k5 kC kD kS hne kSt kcb kgn hcls hWz y5 f5 q4 d1 hG HD HD4 H97 HN
    refine wp_seq_k (fun K hK => ?_)
    have HK := Lib.hid hK; clear hK
    go_wp2_with (refine wpList_store_blk rfl 96 _ _ rfl _ rfl rfl (heap_newI rfl) size96 rfl rfl (by simp [Value.oneCell']) ?_)
    refine HK.out _ _ ?_; clear HK
    obtain ⟨Wy, hWy⟩ : ∃ q, q = (Wz.alloc (.cells #[.int .i64 0, .int .i64 0, .nilFunc, .nilFunc] 96)).putObj Wz.heap.size (.cells #[.int .i64 x.k, .int .i64 (cls x.start : Nat), .nilFunc, .nilFunc] 96) := ⟨_, rfl⟩
    have zy : Wy.heap.size = Wz.heap.size + 1 := by rw [hWy, World.putObj_size, World.size_alloc]
    have y10 : Wy.heap[Wz.heap.size]? = some (.cells #[.int .i64 x.k, .int .i64 (cls x.start : Nat), .nilFunc, .nilFunc] 96 (0, 0)) := by
     rw [hWy]; exact World.putObj_heap_same (by rw [World.size_alloc]; omega)
    have bY : Below Wz.heap.size Wz Wy := by
     rw [hWy]; exact below_putObj ((Below.refl _ _).alloc (Nat.le_refl _) _) (Nat.le_refl _)
    rw [← hWy]
    have HZY := Lib.hid zy
    clear hWy hlk q10 q11 q5 zy
    refine wp_seq_k (fun K hK => ?_)
    have HK := Lib.hid hK; clear hK
    go_wp2
    refine HK.out _ _ ?_; clear HK
    obtain ⟨Wv, hWv⟩ : ∃ q, q = (Wy.alloc (.map #[] 0)).alloc (.cells #[.map (some Wy.heap.size)] 125) := ⟨_, rfl⟩
    have zz1 : (Wy.alloc (.map #[] 0)).heap.size = Wy.heap.size + 1 := World.size_alloc ..
    have v11 : Wv.heap[Wy.heap.size + 1]? = some (.cells #[.map (some Wy.heap.size)] 125 (0, 0)) := by rw [hWv]; exact heap_newI zz1.symm
    have vm : MapF encZ Wv Wy.heap.size 0 (fun _ => none) := by rw [hWv]; exact (mapF_new encZ Wy 0).keep (heap_oldI (by omega))
    have zv : Wv.heap.size = Wy.heap.size + 2 := by rw [hWv, World.size_alloc, zz1]
    have bV : Below Wy.heap.size Wy Wv := by rw [hWv]; exact ((Below.refl _ _).alloc (Nat.le_refl _) _).alloc (by omega) _
    rw [← hWv]
    have zy := HZY.out
    have v10 := blk_keep y10 bV
    have bZ : Below Wz.heap.size Wz Wv := bY.trans (bV.mono (by omega))
    obtain ⟨g10, hg10⟩ : ∃ g, g = Wz.heap.size := ⟨_, rfl⟩
    obtain ⟨gon, hgon⟩ : ∃ g, g = Wy.heap.size := ⟨_, rfl⟩
    obtain ⟨g11, hg11⟩ : ∃ g, g = Wy.heap.size + 1 := ⟨_, rfl⟩
    rw [← hg11, ← hgon] at v11
    rw [← hgon] at vm
    rw [← hg10] at v10 bZ
    rw [← hg11, ← hg10]
    have HV := Lib.hid (And.intro v10 (And.intro v11 (And.intro vm (And.intro bZ (And.intro zv (And.intro zy (And.intro hg10 (And.intro hgon hg11))))))))
    have q4 : Wv.cell? ⟨g4, 0, none⟩ = some (.slice a4 sts.length c4) := by
     obtain ⟨kBz, kB, k1, k2, k4, k5, kC, kD, kS, kSt, kcb, kgn, hcls⟩ := HX.out
     rw [cell_blk (blk_below k4 bZ (by rw [hg10]; exact lt_blk k4))]
     rfl
    clear hWv zz1 v11 vm zv bV v10 bZ hg10 hgon hg11 zy y10 bY
    refine wp_seq_k (fun K hK => ?_)
    have HKL := Lib.hid hK; clear hK
    go_wp2
    go_loopw [53] (fun i wq => ∃ (k m : Nat), k ≤ sts.length ∧ i = .int .i64 k ∧ Hid (MapF encZ wq gon m (Fo1 cls sts k)) ∧ Gr2 Wv wq (some gon) none) (fun i _ => sts.length - (intOf i).toNat)
    case atStart => exact ⟨0, 0, Nat.zero_le _, rfl, Lib.hid (HV.out.2.2.1.congr (fun s => by simp [Fo1])), Gr2.refl _ _ _⟩
    case round =>
     clear q4
     obtain ⟨k, m, hk, rfl, HM1, hGv⟩ := hrel
     rename_i wr0
     obtain ⟨wq, rfl⟩ : ∃ q, q = wr := ⟨_, rfl⟩
     obtain ⟨kBz, kB, k1, k2, k4, k5, kC, kD, kS, kSt, kcb, kgn, hcls⟩ := HX.out
     obtain ⟨v10, v11, vm, bZ, zv, zy, hg10, hgon, hg11⟩ := HV.out
     obtain ⟨hok, hcl, hst, hsl⟩ := HS.out
     have hsl5 : sts.length ≤ 5000 := by omega
     have hlz : ∀ i, i < Wz.heap.size → wq.heap[i]? = Wz.heap[i]? := fun i hi => (hGv.block i (by have := bZ.size; omega) (by simp; omega) (by simp)).trans (bZ.block i (by omega))
     have c5 : wq.heap[g5]? = some (.cells #[.map (some gn)] 125 (0, 0)) := (hlz g5 (lt_blk k5)).trans k5
     have c11 : wq.heap[g11]? = some (.cells #[.map (some gon)] 125 (0, 0)) := (hGv.block g11 (by omega) (by simp; omega) (by simp)).trans v11
     have cC : ClsM wq gn sts cls ok := by rw [hcls]; exact kC.keep (hlz gn kgn)
     have q5 := cell_blk (i := 0) c5
     have q11 := cell_blk (i := 0) c11
     simp only [List.getElem?_toArray, List.getElem?_cons_zero] at q5 q11
     have cS : SlI wq (.slice a4 sts.length c4) sts := kS.keepB (by have := bZ.size; have := hGv.size; omega) fun g off n c e hl => hlz g hl
     have hF1 : ∀ t v, Fo1 cls sts k t = some v → ∃ l, keyOf Try.prog 3 (encZ t) = some l := fun t v h => by
      obtain ⟨s, hs, rfl, -⟩ := fo1_some h
      have := kcb s hs
      rw [← hcls] at this
      exact keyZ (by omega)
     have hZ2 := Lib.hid (And.intro hlz (And.intro c5 (And.intro c11 cC)))
     have hF2 := Lib.hid hF1
     by_cases hkn : k < sts.length
     ·have hki : (k : Int) < (sts.length : Int) := by omega
      obtain ⟨ad', cap', e, -, -, hcc⟩ := cS
      injection e with e1 e2 e3
      subst e1
      obtain ⟨b, off, rfl, hbl, hcell⟩ := hcc (by omega)
      have c0 : wq.cell? ⟨b, off + k, none⟩ = some (.int .i64 sts[k]) := by
       rw [hcell k hkn]
       simp [at0, hkn]
      obtain ⟨s, hs⟩ : ∃ s, s = sts[k] := ⟨_, rfl⟩
      rw [← hs] at c0
      have hmem : s ∈ sts := by rw [hs]; exact List.getElem_mem hkn
      have hoks : ok s := hok s hmem
      have hlk1 := cC.look hM.bd hmem hoks wq rfl
      have hcs : cls s ≤ 1000000 := by rw [hcls]; exact kcb s hmem
      have hkey := keyZ (s := (cls s : Int)) (by omega)
      have hlk2 := (HM1.out.look (P := Try.prog) (t := 125) (k := 3) (e := 3) keyed3 Try.underlying125 zero3 encZ_inj hF1 hkey wq rfl).1
      have HS3 := Lib.hid (And.intro hs (And.intro hmem hcs))
      clear hcell hcc kBz kB k1 k2 k4 k5 kC kD kS kSt kcb kgn hcls v10 v11 vm bZ zv zy hg10 hgon hg11 hok hcl hst hsl hlz c5 c11 cC hF1 hs hmem hoks hcs e2 e3
      cases hfo : Fo1 cls sts k (cls s : Int) with
      | none =>
       rw [hfo] at hlk2
       simp only [Option.getD_none, Option.isSome_none] at hlk2
       obtain ⟨o, hup, hM8⟩ := HM1.out.update (P := Try.prog) (t := 125) (k := 3) (e := 3) keyed3 Try.underlying125 encZ_inj hF2.out hkey (encZ s)
       have hM9 := hM8.congr (G := Fo1 cls sts (k + 1)) (fun t => by rw [HS3.out.1]; exact fo1_next hkn (by rw [← HS3.out.1]; exact hfo) t)
       have HM9 := Lib.hid hM9
       clear hfo hkey hM8 hM9
       go_wp2
       refine ⟨⟨k + 1, _, by omega, by go_num, HM9, ?_⟩, ?_⟩
       ·exact ⟨hGv.os, hGv.tape, hGv.output, by rw [World.putObj_size]; exact hGv.size, fun i hi hp hq => (World.putObj_heap_other (fun e => hp (by rw [e]))).trans (hGv.block i hi hp hq)⟩
       ·simp only [intOf]; omega
      | some v =>
       rw [hfo] at hlk2
       simp only [Option.getD_some, Option.isSome_some] at hlk2
       have HM9 := Lib.hid (HM1.out.congr (G := Fo1 cls sts (k + 1)) (fun t => fo1_same hkn (by rw [← HS3.out.1]; exact hfo) t))
       clear hfo hkey
       go_wp2
       refine ⟨⟨k + 1, _, by omega, by go_num, HM9, hGv⟩, ?_⟩
       simp only [intOf]; omega
     ·have hki : ¬ (k : Int) < (sts.length : Int) := by omega
      have hke : k = sts.length := by omega
      subst hke
      have HM2 := HM1
      clear q5 q11 kBz kB k1 k2 k4 k5 kC kD kS kSt kcb kgn hcls v10 v11 vm bZ zv zy hg10 hgon hg11 hok hcl hst hsl hlz c5 c11 cC hF1 HM1 hF2
      go_wp2
      refine HKL.out _ _ ?_; clear HKL
      obtain ⟨kBz, kB, k1, k2, k4, k5, kC, kD, kS, kSt, kcb, kgn, hcls⟩ := HX.out
      obtain ⟨v10, v11, vm, bZ, zv, zy, hg10, hgon, hg11⟩ := HV.out
      obtain ⟨hok, hcl, hst, hsl⟩ := HS.out
      obtain ⟨hlz, c5, c11, cC⟩ := hZ2.out
      have c10 : wq.heap[g10]? = some (.cells #[.int .i64 x.k, .int .i64 (cls x.start : Nat), .nilFunc, .nilFunc] 96 (0, 0)) := (hGv.block g10 (by omega) (by simp; omega) (by simp)).trans v10
      have c1 := (hlz g1 (lt_blk k1)).trans k1
      have c2 := (hlz g2 (lt_blk k2)).trans k2
      have cD := (hlz w2.heap.size (lt_blk kD)).trans kD
      have lDz := lt_blk kD
      have l2z := lt_blk k2
      have l5z := lt_blk k5
      have l1z := lt_blk k1
      have hvs := hGv.size
      have hbs := bZ.size
      have cBz : Below B W0 wq := ⟨hGv.os.trans (bZ.os.trans kBz.os), hGv.tape.trans (bZ.tape.trans kBz.tape), hGv.output.trans (bZ.output.trans kBz.output), by have := kBz.size; omega, fun i hi => (hlz i (by have := kBz.size; omega)).trans (kBz.block i hi)⟩
      have cB : Below w.heap.size w wq := ⟨hGv.os.trans (bZ.os.trans kB.os), hGv.tape.trans (bZ.tape.trans kB.tape), hGv.output.trans (bZ.output.trans kB.output), by have := kB.size; omega, fun i hi => (hlz i (by have := kB.size; omega)).trans (kB.block i hi)⟩
      have f10 := free_blk (i := 2) c10
      have HQ := Lib.hid (And.intro cBz (And.intro cB (And.intro c1 (And.intro c2 (And.intro c5 (And.intro c11 (And.intro cC (And.intro cD c10))))))))
      have HN2 := Lib.hid (And.intro lDz (And.intro l2z (And.intro l5z (And.intro l1z (And.intro hvs hbs)))))
      have y10 := cell_blk (i := 2) c10
      simp only [List.getElem?_toArray, List.getElem?_cons_zero, List.getElem?_cons_succ] at y10
      clear kBz kB k1 k2 k4 k5 kC kD kS kSt kcb kgn hcls v10 v11 vm bZ zv zy hg10 hgon hg11 hok hcl hst hsl hlz c5 c11 cC hZ2 c10 c1 c2 cD lDz l2z l5z l1z hvs hbs cBz cB
      refine wp_seq_k (fun K hK => ?_)
      have HK := Lib.hid hK; clear hK
      go_wp2
      refine HK.out _ _ ?_; clear HK
      obtain ⟨W5, hW5⟩ : ∃ q, q = wq.setCell ⟨g10, 2, none⟩ (.func (.func 98) #[] #[.pointer (some ⟨g5, 0, none⟩), .pointer (some ⟨g1, 0, none⟩), .pointer (some ⟨g11, 0, none⟩)]) := ⟨_, rfl⟩
      have w10 : W5.heap[g10]? = some (.cells #[.int .i64 x.k, .int .i64 (cls x.start : Nat), .func (.func 98) #[] #[.pointer (some ⟨g5, 0, none⟩), .pointer (some ⟨g1, 0, none⟩), .pointer (some ⟨g11, 0, none⟩)], .nilFunc] 96 (0, 0)) := by
       rw [hW5]; exact heap_set_blk HQ.out.2.2.2.2.2.2.2.2
      have ho5 : ∀ i, i ≠ g10 → W5.heap[i]? = wq.heap[i]? := fun i h => by rw [hW5]; exact heap_set_other h
      have hz5 : W5.heap.size = wq.heap.size := by rw [hW5]; exact World.size_setCell ..
      have hs5 : W5.os = wq.os ∧ W5.tape = wq.tape ∧ W5.output = wq.output := by rw [hW5]; exact ⟨rfl, rfl, rfl⟩
      rw [← hW5]
      have f10 := free_blk (i := 3) w10
      have y10 := cell_blk (i := 3) w10
      simp only [List.getElem?_toArray, List.getElem?_cons_zero, List.getElem?_cons_succ] at y10
      have H5 := Lib.hid (And.intro w10 (And.intro ho5 (And.intro hz5 hs5)))
      clear hW5 w10 ho5 hz5 hs5
      refine wp_seq_k (fun K hK => ?_)
      have HK := Lib.hid hK; clear hK
      go_wp2
      refine HK.out _ _ ?_; clear HK
      obtain ⟨w10, ho5, hz5, hs5⟩ := H5.out
      obtain ⟨WQ, hWQ⟩ : ∃ q, q = W5.setCell ⟨g10, 3, none⟩ (.func (.func 99) #[] #[.pointer (some ⟨g1, 0, none⟩), .pointer (some ⟨g11, 0, none⟩)]) := ⟨_, rfl⟩
      obtain ⟨one, hone⟩ : ∃ f : Int → Int, f = fun c => (sts.find? fun s => decide ((cls s : Int) = c)).getD 0 := ⟨_, rfl⟩
      have d10 : WQ.heap[g10]? = some (.cells #[.int .i64 x.k, .int .i64 (cls x.start : Nat), .func (.func 98) #[] #[.pointer (some ⟨g5, 0, none⟩), .pointer (some ⟨g1, 0, none⟩), .pointer (some ⟨g11, 0, none⟩)], .func (.func 99) #[] #[.pointer (some ⟨g1, 0, none⟩), .pointer (some ⟨g11, 0, none⟩)]] 96 (0, 0)) := by
       rw [hWQ]; exact heap_set_blk w10
      have hoQ : ∀ i, i ≠ g10 → WQ.heap[i]? = wq.heap[i]? := fun i h => by rw [hWQ]; exact (heap_set_other h).trans (ho5 i h)
      have hzQ : WQ.heap.size = wq.heap.size := by rw [hWQ, World.size_setCell]; exact hz5
      have hsQ : WQ.os = wq.os ∧ WQ.tape = wq.tape ∧ WQ.output = wq.output := by rw [hWQ]; exact hs5
      rw [← hWQ]
      obtain ⟨cBz, cB, c1, c2, c5, c11, cC, cD, c10⟩ := HQ.out
      obtain ⟨lDz, l2z, l5z, l1z, hvs, hbs⟩ := HN2.out
      obtain ⟨kBz, kB, k1, k2, k4, k5, kC, kD, kS, kSt, kcb, kgn, hcls⟩ := HX.out
      obtain ⟨v10, v11, vm, bZ, zv, zy, hg10, hgon, hg11⟩ := HV.out
      obtain ⟨hok, hcl, hst, hsl⟩ := HS.out
      have nBz : Below B W0 WQ := ⟨hsQ.1.trans cBz.os, hsQ.2.1.trans cBz.tape, hsQ.2.2.trans cBz.output, by rw [hzQ]; exact cBz.size, fun i hi => (hoQ i (by have := kBz.size; omega)).trans (cBz.block i hi)⟩
      have nB : Below w.heap.size w WQ := ⟨hsQ.1.trans cB.os, hsQ.2.1.trans cB.tape, hsQ.2.2.trans cB.output, by rw [hzQ]; exact cB.size, fun i hi => (hoQ i (by have := kB.size; omega)).trans (cB.block i hi)⟩
      have d1 := (hoQ g1 (by omega)).trans c1
      have d2 := (hoQ g2 (by omega)).trans c2
      have d5 := (hoQ g5 (by omega)).trans c5
      have d11 := (hoQ g11 (by omega)).trans c11
      have dD := (hoQ w2.heap.size (by omega)).trans cD
      have dC : ClsM WQ gn sts cls ok := cC.keep (hoQ gn (by omega))
      have dM := HM2.out.keep (hoQ gon (by omega))
      have dlo := dM.lt
      have dlc := dC.lt
      have hfind : ∀ s ∈ sts, (sts.find? fun t => decide ((cls t : Int) = (cls s : Int))).isSome = true := fun s hs => by
       rw [List.find?_isSome]; exact ⟨s, hs, by simp⟩
      have hF1 : ∀ t v, Fo1 cls sts sts.length t = some v → ∃ l, keyOf Try.prog 3 (encZ t) = some l := fun t v h => by
       obtain ⟨s, hs, rfl, -⟩ := fo1_some h
       have := kcb s hs
       rw [← hcls] at this
       exact keyZ (by omega)
      have hOnes : Ones sts cls one := ⟨fun s hs => by
       obtain ⟨t, ht⟩ := Option.isSome_iff_exists.1 (hfind s hs)
       have e : one (cls s) = t := by rw [hone]; simp only [ht]; rfl
       rw [e]
       refine ⟨List.mem_of_find?_eq_some ht, ?_⟩
       have := List.find?_some ht
       simp only [decide_eq_true_eq] at this
       omega⟩
      have hon : ∀ j, (∃ s ∈ sts, (cls s : Int) = j) → Looks WQ gon j (one j) := fun j hj U hU => by
       obtain ⟨s, hs, rfl⟩ := hj
       have hcb := kcb s hs
       rw [← hcls] at hcb
       have := (dM.look (P := Try.prog) (t := 125) (k := 3) (e := 3) keyed3 Try.underlying125 zero3 encZ_inj hF1 (keyZ (s := (cls s : Int)) (by omega)) U hU).2
       obtain ⟨t, ht⟩ := Option.isSome_iff_exists.1 (hfind s hs)
       have e : one (cls s) = t := by rw [hone]; simp only [ht]; rfl
       unfold Fo1 at this
       rw [List.take_length, ht] at this
       rw [e]
       exact this
      have hMG : SysM (mrg x cls one) (fun j => ∃ s ∈ sts, (cls s : Int) = j) 98 99 #[.pointer (some ⟨g5, 0, none⟩), .pointer (some ⟨g1, 0, none⟩), .pointer (some ⟨g11, 0, none⟩)] #[.pointer (some ⟨g1, 0, none⟩), .pointer (some ⟨g11, 0, none⟩)] WQ.heap.size WQ := by
       have hup : ∀ W, Below WQ.heap.size WQ W → Below B W0 W := fun W h => nBz.trans (h.mono (by have := nBz.size; omega))
       refine ⟨hM.k1, hM.k4, ⟨_, hst, rfl⟩, ?_, ?_, ?_, ?_⟩
       ·rintro j c ⟨s, hs, rfl⟩ hc
        exact ⟨_, hcl.nx _ (hOnes.mem s hs).1 c hc, rfl⟩
       ·rintro j ⟨s, hs, rfl⟩
        have := kcb s hs
        rw [← hcls] at this
        omega
       ·rintro W hW j c ⟨s, hs, rfl⟩ hc
        have h1 := (hOnes.mem s hs).1
        exact least1_any hM hB eN (hup W hW) (blk_keep d5 hW) (blk_keep d1 hW) (blk_keep d11 hW) ((hon _ ⟨s, hs, rfl⟩).keep (hW.block gon dlo)) (fun U hU => (dC.below hW).look hM.bd (hcl.nx _ h1 c hc) (hok _ (hcl.nx _ h1 c hc)) U hU) (by have := hW.size; omega) (by have := hW.size; omega) (hok _ h1) hc
       ·rintro W hW j ⟨s, hs, rfl⟩
        exact least2_any hM eG (hup W hW) (blk_keep d1 hW) (blk_keep d11 hW) ((hon _ ⟨s, hs, rfl⟩).keep (hW.block gon dlo)) (hok _ (hOnes.mem s hs).1)
      obtain ⟨hm1, hm2⟩ := mrg_closed hcl hst hOnes
      obtain ⟨L2, hL2, hl2, -⟩ := walk_exists (mrg x cls one) (sts.map fun s => (cls s : Int)) hm1 hm2
      rw [List.length_map] at hl2
      have hLT : LeastT x.k (Fut x x.start) (tabOf (mrg x cls one) L2) := by
       rw [hcls] at hL2 hOnes ⊢
       exact mrg_least kSt hcl hst hOnes hL2
      have hT : Calls Try.prog 100 #[.agg #[.int .i64 x.k, .int .i64 (cls x.start : Nat), .func (.func 98) #[] #[.pointer (some ⟨g5, 0, none⟩), .pointer (some ⟨g1, 0, none⟩), .pointer (some ⟨g11, 0, none⟩)], .func (.func 99) #[] #[.pointer (some ⟨g1, 0, none⟩), .pointer (some ⟨g11, 0, none⟩)]]] WQ fun e w' => ∃ vn vg vst, e = .returned (.tuple #[.agg #[vn, vg], vst]) ∧ Below WQ.heap.size WQ w' ∧ TabN WQ w' vn vg vst (tabOf (mrg x cls one) L2) := table_any hMG (Nat.le_refl _) (enters_of Try.func98 (by kernel_rfl) rfl) (enters_of Try.func99 (by kernel_rfl) rfl) hL2 (by omega) WQ (Below.refl _ _)
      obtain ⟨TT, hTT⟩ : ∃ T, T = tabOf (mrg x cls one) L2 := ⟨_, rfl⟩
      rw [← hTT] at hT hLT
      have HT := Lib.hid hT
      obtain ⟨hg1, hg2, hg4, -⟩ := HG.out
      have HZQ := Lib.hid (And.intro nB (And.intro d2 (And.intro dD (And.intro hLT (And.intro hzQ (And.intro hg1 hg2))))))
      clear hTT hg1 hg2 hg4 hWQ w10 ho5 hz5 hs5 hone hoQ hzQ hsQ cBz cB c1 c2 c5 c11 cC cD c10 lDz l2z l5z l1z hvs hbs kBz kB k1 k2 k4 k5 kC kD kS kSt kcb kgn hcls v10 v11 vm bZ zv zy hg10 hgon hg11 hok hcl hst hsl nBz nB d1 d5 d11 dD dC dM dlo dlc hfind hF1 hOnes hon hMG hm1 hm2 hL2 hl2 hLT hT d2 f10 y10
      have HD10 := Lib.hid d10
      clear d10
      refine wp_seq_k (fun K hK => ?_)
      have HK := Lib.hid hK; clear hK
      go_wp2_with (refine wpList_load_blk rfl 96 _ rfl _ rfl HD10.out Try.underlying96 rfl size96 rfl ?_)
      refine HT.out.mono ?_
      rintro e wt ⟨vn, vg, vst, rfl, hbt, q1⟩
      have e2 := blk_keep HZQ.out.2.1 hbt
      have HT2 := Lib.hid (And.intro hbt q1)
      clear hbt q1
      go_wp2_with (refine wpList_store_blk rfl 25 _ _ rfl _ rfl rfl e2 size25 rfl rfl ?_ ?_)
      ·obtain ⟨⟨vs, ⟨an, cn, rfl, -⟩, -⟩, ⟨ag, cg, rfl, -⟩, -⟩ := HT2.out.2.now
       simp [Value.oneCell']
      refine HK.out _ _ ?_; clear HK
      go_wp2
      obtain ⟨nB, d2, dD, hLT, hzQ, hg1, hg2⟩ := HZQ.out
      obtain ⟨hbt, q1⟩ := HT2.out
      have hlD := lt_blk dD
      have hl2 := lt_blk d2
      have htz := hbt.size
      obtain ⟨hdef, -⟩ : (wt.putObj g2 (.cells #[vn, vg] 25)).heap[w2.heap.size]? = some (.deferred (some [])) ∧ True := ⟨(World.putObj_heap_other (by have := HY.out; have := HZ.out; have := HG.out; have := hb2.size; omega)).trans (blk_keep dD hbt), trivial⟩
      have hne : g2 ≠ w2.heap.size := by have := HY.out; have := HZ.out; have := HG.out; have := hb2.size; omega
      have hwl : w.heap.size ≤ w2.heap.size := by have := HZ.out; have := HG.out; have := hb2.size; omega
      have m2 : ((wt.putObj g2 (.cells #[vn, vg] 25)).putObj w2.heap.size (.deferred none)).heap[g2]? = some (.cells #[vn, vg] 25 (0, 0)) := (World.putObj_heap_other hne).trans (World.putObj_heap_same (by omega))
      refine leave_mark rfl (D := w2.heap.size) hdef (results_agg_tmp rfl _ _ g2 rfl m2 Try.underlying25 rfl size25 rfl) ?_
      refine ⟨vn, vg, vst, TT, hLT, rfl, below_putObj (below_putObj (by rw [hg1]; exact nB.trans (hbt.mono nB.size)) (by omega)) (by omega), fun W' hz' hW' => q1 W' (by rw [World.putObj_size, World.putObj_size] at hz'; exact hz') fun i h1 h2 => ?_⟩
      have hws := nB.size
      rw [World.putObj_size, World.putObj_size] at hW'
      exact (hW' i (by omega) h2).trans ((World.putObj_heap_other (by omega)).trans (World.putObj_heap_other (by omega)))
   ·have hni : ((keysL x (clsN x sts r) sts).length : Int) ≠ (cntN x sts r : Int) := by
     have : (keysL x (clsN x sts r) sts).length ≠ cntN x sts r := hn
     omega
    have hnb : (((keysL x (clsN x sts r) sts).length : Int) == (cntN x sts r : Int)) = false := by simpa using hni
    go_wp2_with (first | (refine wpList_load_blk rfl 96 _ rfl _ rfl d1 Try.underlying96 rfl size96 rfl ?_) | (go_at_call 97; refine H97.out.mono ?_; rintro e wn ⟨gn, rfl, hCn, hgn, hbn⟩; have e5 := blk_keep HD.out.1 hbn; have y5 := cell_blk (i := 0) e5; have f5 := free_blk (i := 0) e5; simp only [List.getElem?_toArray, List.getElem?_cons_zero] at y5; have HN := Lib.hid (And.intro hCn (And.intro hgn (And.intro hbn e5))); clear hCn hgn hbn e5))
    obtain ⟨hCn, hgn, hbn, e5⟩ := HN.out
    have hgn5 : gn ≠ g5 := by have := lt_blk HD.out.1; omega
    have hgz5 : g5 < W.heap.size := by have := HD.out; have := HG.out; have := HZ.out; omega
    refine ⟨⟨r + 1, gn, rfl, Lib.hid ⟨heap_set_blk e5, hCn.keep (heap_set_other hgn5)⟩, ?_⟩, ?_⟩
    ·have h2 := hG.below hbn
     exact ⟨h2.os, h2.tape, h2.output, by rw [World.size_setCell]; exact h2.size, fun i hi hp hq => (heap_set_other (fun e => hp (by rw [e]))).trans (h2.block i hi hp hq)⟩
    ·have h1 := cnt_mono x sts r
     have h2 := cnt_le x sts (r + 1)
     have h3 : (keysL x (clsN x sts r) sts).length = cntN x sts (r + 1) := rfl
     rw [h3]
     simp only [intOf]
     omega
end Ytnjgglnpmhjmiaa
end Go.Proofs

