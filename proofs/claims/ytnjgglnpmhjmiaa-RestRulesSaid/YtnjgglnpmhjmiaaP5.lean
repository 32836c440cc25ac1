/- Laws of rotation: classes of pairs are parted. -/
import Derived.Test.YtnjgglnpmhjmiaaP4
open Go Go.RowKit Go.YtnjgglnpmhjmiaaIt
open Rest
namespace Go.Proofs
namespace Ytnjgglnpmhjmiaa
abbrev e2 (s : P2) : List Value := [.int .i64 s.1, .int .i64 s.2]
/-- A key whose first c places are laid. -/
def keyPP (x : RSys P2) (cls : P2 → Nat) (s : P2) (c : Nat) : List Nat := cls s :: (((List.range c).map fun c => cls (x.nx s c)) ++ List.replicate (4 - c) 0)
theorem keyPP_len {x : RSys P2} {cls : P2 → Nat} {s : P2} {c : Nat} (h : c ≤ 4) : (keyPP x cls s c).length = 5 := by simp [keyPP]; omega
theorem keyPP_all (x : RSys P2) (cls : P2 → Nat) (s : P2) : keyPP x cls s x.k = keyC x cls s := rfl
theorem keyPP_set {x : RSys P2} {cls : P2 → Nat} {s : P2} {c : Nat} (h : c < 4) : ((nI (keyPP x cls s c)).map (Value.int .i64)).toArray.setIfInBounds (c + 1) (.int .i64 (cls (x.nx s c) : Nat)) = ((nI (keyPP x cls s (c + 1))).map (Value.int .i64)).toArray := by
 rcases (show c = 0 ∨ c = 1 ∨ c = 2 ∨ c = 3 by omega) with rfl | rfl | rfl | rfl <;> simp [keyPP, List.range_succ]
theorem foP_step {x : RSys P2} {cls : P2 → Nat} {sts : List P2} {k : Nat} (hk : k < sts.length) : keysL x cls (sts.take (k + 1)) = addK (keysL x cls (sts.take k)) (keyC x cls sts[k]) := by
 rw [List.take_succ_eq_append_getElem hk, keysL_snoc]
/-- What is told of the first k states. -/
def FoP (x : RSys P2) (cls : P2 → Nat) (sts : List P2) (k : Nat) (s : P2) : Option Value := if s ∈ sts.take k then some (.int .i64 ((keysL x cls (sts.take k)).idxOf (keyC x cls s) : Nat)) else none
theorem key_okP {x : RSys P2} {cls : P2 → Nat} {sts : List P2} (hk4 : x.k ≤ 4) (hcl : Closed x sts) (hcb : ∀ s ∈ sts, cls s ≤ 1000000) {s : P2} (hs : s ∈ sts) : ∃ q, keyOf Try.prog 154 (encK (keyC x cls s)) = some q :=
 keyK (by rw [← keyPP_all]; exact keyPP_len hk4) (fun j hj => by
  unfold keyC at hj
  rcases List.mem_cons.1 hj with rfl | hj
  ·exact hcb s hs
  ·rcases List.mem_append.1 hj with hj | hj
   ·obtain ⟨c, hc, rfl⟩ := List.mem_map.1 hj
    exact hcb _ (hcl.nx s hs c (by simpa using hc))
   ·have := List.eq_of_mem_replicate hj; omega)
theorem keysL_preP {x : RSys P2} {cls : P2 → Nat} {sts : List P2} {k : Nat} (hk : k < sts.length) : keysL x cls (sts.take k) <+: keysL x cls (sts.take (k + 1)) := by
 rw [foP_step hk]; exact addK_pre _ _
theorem foP_next {x : RSys P2} {cls : P2 → Nat} {sts : List P2} {k : Nat} (hk : k < sts.length) (t : P2) : FoP x cls sts (k + 1) t = updF (FoP x cls sts k) sts[k] (.int .i64 ((keysL x cls (sts.take (k + 1))).idxOf (keyC x cls sts[k]) : Nat)) t := by
 unfold updF
 have hm : ∀ u, u ∈ sts.take (k + 1) ↔ u ∈ sts.take k ∨ u = sts[k] := fun u => by
  rw [List.take_succ_eq_append_getElem hk, List.mem_append, List.mem_singleton]
 by_cases ht : t = sts[k]
 ·rw [if_pos ht]
  unfold FoP
  rw [if_pos ((hm t).2 (.inr ht)), ht]
 ·rw [if_neg ht]
  unfold FoP
  by_cases h : t ∈ sts.take k
  ·rw [if_pos h, if_pos ((hm t).2 (.inl h)), idxOf_pre (keysL_preP hk) ((keysL_mem _ _ _ _).2 ⟨t, h, rfl⟩)]
  ·rw [if_neg h, if_neg (fun h' => ((hm t).1 h').elim h ht)]
/-- Classes of states in a map: what is looked up of each state is its class. -/
structure ClsP (w : World) (g : Nat) (sts : List P2) (cls : P2 → Nat) (ok : P2 → Prop) : Prop where
 ex : ∃ m F, MapF encP w g m F ∧ (∀ s v, F s = some v → ok s) ∧ ∀ s ∈ sts, (F s).getD (.int .i64 0) = .int .i64 (cls s : Nat)
theorem ClsP.lt {w : World} {g : Nat} {sts : List P2} {cls : P2 → Nat} {ok : P2 → Prop} (h : ClsP w g sts cls ok) : g < w.heap.size := by
 obtain ⟨m, F, h1, -⟩ := h.ex
 exact h1.lt
theorem ClsP.keep {w w' : World} {g : Nat} {sts : List P2} {cls : P2 → Nat} {ok : P2 → Prop} (h : ClsP w g sts cls ok) (e : w'.heap[g]? = w.heap[g]?) : ClsP w' g sts cls ok := by
 obtain ⟨m, F, h1, h2⟩ := h.ex
 exact ⟨m, F, h1.keep e, h2⟩
theorem ClsP.below {w w' : World} {g : Nat} {sts : List P2} {cls : P2 → Nat} {ok : P2 → Prop} (h : ClsP w g sts cls ok) (hb : Below w.heap.size w w') : ClsP w' g sts cls ok := h.keep (hb.block g h.lt)
theorem ClsP.look {w : World} {g : Nat} {sts : List P2} {cls : P2 → Nat} {ok : P2 → Prop} (h : ClsP w g sts cls ok) (hbd : ∀ s, ok s → (-1000000 ≤ s.1 ∧ s.1 ≤ 1000000) ∧ -1000000 ≤ s.2 ∧ s.2 ≤ 1000000) {s : P2} (hs : s ∈ sts) (hok : ok s) (W : World) (e : W.heap[g]? = w.heap[g]?) :
  (Instr.lookup 156 (.map (some g)) (encP s) false).run Try.prog W = .ok (.int .i64 (cls s : Nat)) W := by
 obtain ⟨m, F, h1, h2, h3⟩ := h.ex
 have := (h1.look (P := Try.prog) (t := 156) (k := 104) (e := 3) keyed104 Try.underlying156 zero3 encP_inj (fun s v h => keyPr (hbd s (h2 s v h))) (keyPr (hbd s hok)) W e).2
 rw [h3 s hs] at this
 exact this
theorem ClsP.isMap {w : World} {g : Nat} {sts : List P2} {cls : P2 → Nat} {ok : P2 → Prop} (h : ClsP w g sts cls ok) : ∃ es ck, w.heap[g]? = some (.map es ck) := by
 obtain ⟨m, F, ⟨es, ck, e, -⟩, -⟩ := h.ex
 exact ⟨es, ck, e⟩
set_option maxRecDepth 100000 in
set_option maxHeartbeats 8000000 in
theorem splitP_any {x : RSys P2} {ok : P2 → Prop} {fN fG : Nat} {lN lG : Array Value} {B : Nat} {W0 : World} (hM : SysP x ok fN fG lN lG B W0) (eN : ∀ args w, (callFunc fN args).run Try.prog w = .ok (.enter fN args) w) (hB : B ≤ W0.heap.size)
  (vs : Value) (sts : List P2) (gc : Nat) (cls : P2 → Nat) (w : World) (hb : Below B W0 w) (hs : SlG e2 2 w vs sts) (hok : ∀ s ∈ sts, ok s) (hcl : Closed x sts) (hc : ClsP w gc sts cls ok) (hcb : ∀ s ∈ sts, cls s ≤ 1000000) (hlen : sts.length ≤ 5000) :
  Calls Try.prog 109 #[.agg (sysVP x fN fG lN lG), vs, .map (some gc)] w fun e w' => ∃ g, e = .returned (.tuple #[.map (some g), .int .i64 ((keysL x cls sts).length : Nat)]) ∧ ClsP w' g sts (splitC x sts cls) ok ∧ w.heap.size ≤ g ∧ Below w.heap.size w w' := by
 have HM := Lib.hid hM
 have HS := Lib.hid hs
 have HOK := Lib.hid hok
 have HCL := Lib.hid hcl
 have HC := Lib.hid hc
 have HCB := Lib.hid hcb
 have HB0 := Lib.hid hb
 have hk4 := hM.k4
 obtain ⟨sa, cs, rfl, -, -, hcc⟩ := hs
 have HCC := Lib.hid hcc
 have hmm := @run_makeMap Try.prog
 clear hM hok hcl hc hcb hb hcc
 go_enter Try.func109, Try.ntmps109
 refine wp_seq_k (fun K hK => ?_)
 have HK := Lib.hid hK; clear hK
 go_wp2
 refine HK.out _ _ ?_; clear HK
 refine wp_seq_k (fun K hK => ?_)
 have HK := Lib.hid hK; clear hK
 go_wp2
 refine HK.out _ _ ?_; clear HK
 obtain ⟨gs, hgs⟩ : ∃ g, g = w.heap.size := ⟨_, rfl⟩
 have HGS := Lib.hid hgs
 obtain ⟨c1, m1, m2, z1, b1⟩ := three_new encK encP w (.cells (sysVP x fN fG lN lG) 108)
 generalize ((w.alloc (.cells (sysVP x fN fG lN lG) 108)).alloc (.map #[] 0)).alloc (.map #[] 0) = w1 at *
 rw [← hgs] at c1 m1 m2 z1 b1 ⊢
 clear hgs
 have HI0 := Lib.hid (And.intro c1 (And.intro m1 m2))
 clear c1 m1 m2
 go_wp2
 go_loopw [20] (fun i wr => ∃ (k m : Nat), k ≤ sts.length ∧ i = .int .i64 k ∧ Hid (wr.heap[gs]? = some (.cells (sysVP x fN fG lN lG) 108 (0, 0)) ∧ MapF encK wr (gs + 1) (keysL x cls (sts.take k)).length (Fk (keysL x cls (sts.take k))) ∧ MapF encP wr (gs + 2) m (FoP x cls sts k)) ∧ Below gs w wr ∧ gs + 3 ≤ wr.heap.size) (fun i _ => sts.length - (intOf i).toNat)
 case atStart => exact ⟨0, 0, Nat.zero_le _, rfl, Lib.hid ⟨HI0.out.1, HI0.out.2.1.congr (fun s => by simp [Fk, keysL]), HI0.out.2.2.congr (fun s => by simp [FoP])⟩, b1, by omega⟩
 case round =>
  clear HI0 b1 z1
  obtain ⟨k, m, hk, rfl, HI, hbr, hzr⟩ := hrel
  obtain ⟨wo, rfl⟩ : ∃ q, q = wr := ⟨_, rfl⟩
  by_cases hkn : k < sts.length
  ·have hki : (k : Int) < (sts.length : Int) := by omega
   obtain ⟨b, off, rfl, hbl, hcell⟩ := HCC.out (by omega)
   have c0 : wo.cell? ⟨b, off + k * 2, none⟩ = some (.int .i64 sts[k].1) := by
    rw [hbr.cell (p := ⟨b, off + k * 2, none⟩) (by have := HGS.out; simp; omega)]
    exact hcell k hkn 0 _ rfl
   have c0b : wo.cell? ⟨b, off + k * 2 + 1, none⟩ = some (.int .i64 sts[k].2) := by
    rw [hbr.cell (p := ⟨b, off + k * 2 + 1, none⟩) (by have := HGS.out; simp; omega)]
    exact hcell k hkn 1 _ rfl
   obtain ⟨s, hs⟩ : ∃ s, s = sts[k] := ⟨_, rfl⟩
   rw [← hs] at c0 c0b
   have hmem : s ∈ sts := by rw [hs]; exact List.getElem_mem hkn
   have hoks : ok s := HOK.out s hmem
   have hcw : ∀ W, W.heap[gc]? = w.heap[gc]? → ∀ t ∈ sts, (Instr.lookup 156 (.map (some gc)) (.agg #[.int .i64 t.1, .int .i64 t.2]) false).run Try.prog W = .ok (.int .i64 (cls t : Nat)) W := fun W h t ht => HC.out.look HM.out.bd ht (HOK.out t ht) W h
   have hgl := HC.out.lt
   have hlk0 := fun o => hcw (wo.alloc o) (by rw [heap_alloc_if, if_neg (by have := HGS.out; omega)]; exact hbr.block gc (by have := HGS.out; omega)) s hmem
   have hlk1 := fun o o' => hcw ((wo.alloc o).alloc o') (by rw [heap_oldI (by rw [World.size_alloc]; have := HGS.out; omega), heap_alloc_if, if_neg (by have := HGS.out; omega)]; exact hbr.block gc (by have := HGS.out; omega)) s hmem
   have HHS := Lib.hid hs
   have HCW := Lib.hid hcw
   have HOKS := Lib.hid hoks
   have HMEM := Lib.hid hmem
   clear hcell hs hcw hoks hmem
   have q0 : ∀ o o', ((wo.alloc o).alloc o').cell? ⟨gs, 0, none⟩ = some (.int .i64 x.k) := fun o o' => by
    rw [cell_blk ((heap_oldI (by rw [World.size_alloc]; omega)).trans ((heap_oldI (by omega)).trans HI.out.1))]; rfl
   go_wp2
   obtain ⟨w5, hw5⟩ : ∃ q, q = (wo.alloc (.cells #[.int .i64 s.1, .int .i64 s.2] 104)).alloc (.cells #[.int .i64 (cls s : Nat), .int .i64 0, .int .i64 0, .int .i64 0, .int .i64 0] 154) := ⟨_, rfl⟩
   have b5 : Below wo.heap.size wo w5 := by rw [hw5]; exact ((Below.refl _ _).alloc (Nat.le_refl _) _).alloc (by rw [World.size_alloc]; omega) _
   have zz5 : (wo.alloc (.cells #[.int .i64 s.1, .int .i64 s.2] 104)).heap.size = wo.heap.size + 1 := World.size_alloc ..
   have k5 : w5.heap[wo.heap.size + 1]? = some (.cells ((nI (keyPP x cls s 0)).map (Value.int .i64)).toArray 154 (0, 0)) := by rw [hw5]; exact heap_newI zz5.symm
   have k11 : w5.heap[wo.heap.size]? = some (.cells #[.int .i64 s.1, .int .i64 s.2] 104 (0, 0)) := by rw [hw5]; exact (heap_oldI (by omega)).trans (heap_newI rfl)
   have z5 : w5.heap.size = wo.heap.size + 2 := by rw [hw5, World.size_alloc, zz5]
   rw [← hw5]
   obtain ⟨gk, hgk⟩ : ∃ g, g = wo.heap.size + 1 := ⟨_, rfl⟩
   obtain ⟨g11, hg11⟩ : ∃ g, g = wo.heap.size := ⟨_, rfl⟩
   rw [← hgk] at k5 ⊢
   rw [← hg11] at k11 b5 ⊢
   have HGK := Lib.hid (And.intro hgk hg11)
   have HK5 := Lib.hid (And.intro k5 k11)
   have hz5 : gk + 1 ≤ w5.heap.size := by omega
   clear hw5 hgk hg11 k5 k11 hlk0 hlk1 c0 c0b q0 z5 zz5
   go_loopw [30] (fun i wq => ∃ c : Nat, c ≤ x.k ∧ i = .int .i64 c ∧ Hid (wq.heap[gk]? = some (.cells ((nI (keyPP x cls s c)).map (Value.int .i64)).toArray 154 (0, 0)) ∧ wq.heap[g11]? = some (.cells #[.int .i64 s.1, .int .i64 s.2] 104 (0, 0))) ∧ Below g11 wo wq ∧ gk + 1 ≤ wq.heap.size) (fun i _ => x.k - (intOf i).toNat)
   case atStart => exact ⟨0, Nat.zero_le _, rfl, HK5, b5, hz5⟩
   case round =>
    clear HK5 b5 hz5
    have hgkz := HGK.out
    have hgsz := HGS.out
    obtain ⟨c, hc, rfl, HKY, hbq, hzq⟩ := hrel
    by_cases hck : c < x.k
    ·have hci : (c : Int) < (x.k : Int) := by omega
     have cq := blk_below HI.out.1 hbq (by omega)
     have q2 := cell_blk (i := 3) cq
     simp only [List.getElem?_toArray, List.getElem?_cons_zero, List.getElem?_cons_succ] at q2
     clear cq
     have p11 := cell_blk (i := 0) HKY.out.2
     have p11b := cell_blk (i := 1) HKY.out.2
     simp only [List.getElem?_toArray, List.getElem?_cons_zero, List.getElem?_cons_succ] at p11 p11b
     have hkB : Below B W0 wr := btr (btr HB0.out (by rw [← HGS.out]; exact hbr) hB) (by rw [← HGK.out.2]; exact hbq) hB
     have hnx := HM.out.nx wr hkB s c HOKS.out hck
     have HNX := Lib.hid hnx
     have HCQ := Lib.hid hkB
     clear hnx hkB hgkz hgsz
     go_wp2
     refine HNX.out.mono ?_
     rintro e w9 ⟨rfl, hb9⟩
     have hnm : x.nx s c ∈ sts := HCL.out.nx s HMEM.out c hck
     obtain ⟨sn, hsn⟩ : ∃ q, q = x.nx s c := ⟨_, rfl⟩
     simp only
     rw [← hsn] at hnm ⊢
     have hk9 := blk_keep HKY.out.1 hb9
     have hk11 := blk_keep HKY.out.2 hb9
     have hg9 : w9.heap[gc]? = w.heap[gc]? := (hb9.block gc (by have := HGS.out; have := HGK.out; omega)).trans ((hbq.block gc (by have := HGS.out; have := HGK.out; omega)).trans (hbr.block gc (by have := HGS.out; omega)))
     have hlk9 := HCW.out w9 hg9 sn hnm
     have hb9' := hbq.trans (hb9.mono (by have := HGK.out; omega))
     have hci4 : (0 : Int) ≤ (c : Int) + 1 ∧ (c : Int) + 1 < 5 := by omega
     have hz9 := hb9.size
     have h5 : (nI (keyPP x cls s c)).length = 5 := by rw [List.length_map]; exact keyPP_len (by omega)
     have hcl9 : ∃ u, w9.cell? ⟨gk, c + 1, none⟩ = some u := by
      rw [cell_blk hk9, Array.getElem?_eq_getElem (by simp [keyPP_len (show c ≤ 4 by omega)]; omega)]; exact ⟨_, rfl⟩
     obtain ⟨u9, hu9⟩ := hcl9
     have hf9 := free_blk (i := c + 1) hk9
     have HSN := Lib.hid hsn
     have HK9 := Lib.hid (And.intro hk9 hk11)
     have hgk11 : g11 ≠ gk := by have := HGK.out; omega
     clear hk9 hk11 hsn hg9 hnm q2 HNX p11 p11b
     go_wp2
     refine ⟨⟨c + 1, by omega, by go_num, Lib.hid ⟨?_, (heap_set_other hgk11).trans HK9.out.2⟩, hb9'.setCell (p := ⟨gk, c + 1, none⟩) (by have := HGK.out; simp; omega) _, by simp; omega⟩, ?_⟩
     ·have := heap_set_blk (i := c + 1) (v := .int .i64 (cls sn : Nat)) HK9.out.1
      rw [this, HSN.out, keyPP_set (by omega)]
     ·simp only [intOf]; omega
    ·have hci : ¬ (c : Int) < (x.k : Int) := by omega
     have hce : c = x.k := by omega
     subst hce
     have hbr2 : Below gs w wr := hbr.trans (hbq.mono (by omega))
     have hkr := HKY.out.1
     have h11r := HKY.out.2
     rw [keyPP_all] at hkr
     have hkey := key_okP hk4 HCL.out HCB.out HMEM.out
     have hK1 : MapF encK wr (gs + 1) _ _ := HI.out.2.1.keep (hbq.block (gs + 1) (by omega))
     have hK2 : MapF encP wr (gs + 2) _ _ := HI.out.2.2.keep (hbq.block (gs + 2) (by omega))
     have hsr := blk_below HI.out.1 hbq (by omega)
     have hF0 : ∀ k' j v, Fk (keysL x cls (sts.take k')) j = some v → ∃ l, keyOf Try.prog 154 (encK j) = some l := fun k' j v h => by
      unfold Fk at h
      by_cases hj : j ∈ keysL x cls (sts.take k')
      ·obtain ⟨t, ht, rfl⟩ := (keysL_mem _ _ _ _).1 hj
       exact key_okP hk4 HCL.out HCB.out (List.mem_of_mem_take ht)
      ·rw [if_neg hj] at h; cases h
     have hFo : ∀ t v, FoP x cls sts k t = some v → ∃ l, keyOf Try.prog 104 (encP t) = some l := fun t v h => by
      unfold FoP at h
      by_cases ht : t ∈ sts.take k
      ·exact keyPr (HM.out.bd t (HOK.out t (List.mem_of_mem_take ht)))
      ·rw [if_neg ht] at h; cases h
     have hkr5 : (keyC x cls s).length = 5 := by rw [← keyPP_all]; exact keyPP_len hk4
     have hlk13 := (hK1.look (P := Try.prog) (t := 153) (k := 154) (e := 3) keyed154 Try.underlying153 zero3 encK_inj (hF0 k) hkey wr rfl).1
     have hstep := foP_step (x := x) (cls := cls) hkn
     rw [← HHS.out] at hstep
     unfold encK at hlk13
     have hex : ∃ a0 a1 a2 a3 a4, keyC x cls s = [a0, a1, a2, a3, a4] := by
      match keyC x cls s, hkr5 with
      | [a0, a1, a2, a3, a4], _ => exact ⟨_, _, _, _, _, rfl⟩
     obtain ⟨a0, a1, a2, a3, a4, hks⟩ := hex
     rw [hks] at hkr
     have hkrB := hkr
     have g0 := cell_blk (i := 0) hkr
     have g1 := cell_blk (i := 1) hkr
     have g2 := cell_blk (i := 2) hkr
     have g3 := cell_blk (i := 3) hkr
     have g4 := cell_blk (i := 4) hkr
     simp only [List.map_cons, List.map_nil, List.getElem?_toArray, List.getElem?_cons_zero, List.getElem?_cons_succ] at g0 g1 g2 g3 g4
     clear hgkz hgsz
     by_cases hin : keyC x cls s ∈ keysL x cls (sts.take k)
     ·have hk1e : keysL x cls (sts.take (k + 1)) = keysL x cls (sts.take k) := by rw [hstep]; unfold addK; rw [if_pos hin]
      obtain ⟨ix, hix⟩ : ∃ i, i = (keysL x cls (sts.take k)).idxOf (keyC x cls s) := ⟨_, rfl⟩
      rw [show Fk (keysL x cls (sts.take k)) (keyC x cls s) = some (.int .i64 (ix : Nat)) by unfold Fk; rw [if_pos hin, hix]] at hlk13
      simp only [hks, List.map_cons, List.map_nil, Option.getD_some, Option.isSome_some] at hlk13
      have hM10 := hK1
      rw [← hk1e] at hM10
      have hMo10 := hK2
      have hF10 := hF0 (k + 1)
      have hbX := hbr2
      have hsX := hsr
      have hkrX := hkrB
      have h11X := h11r
      clear hK1 hK2 hbr2 hsr hF0 hix
      go_wp2
      obtain ⟨wd, hwd⟩ : ∃ q, q = wr.drew := ⟨_, rfl⟩
      have hbd : Below wr.heap.size wr wd := by rw [hwd]; exact (Below.refl _ _).drew
      have hMd := hM10.below hbd
      have hMod := hMo10.below hbd
      have hkd := blk_keep hkrX hbd
      have h11d := blk_keep h11X hbd
      have hlk14 : (Instr.lookup 153 (.map (some (gs + 1))) (.agg #[.int .i64 (a0 : Nat), .int .i64 (a1 : Nat), .int .i64 (a2 : Nat), .int .i64 (a3 : Nat), .int .i64 (a4 : Nat)]) false).run Try.prog wd = .ok (.int .i64 ((keysL x cls (sts.take (k + 1))).idxOf (keyC x cls s) : Nat)) wd := by
       have := (hMd.look (P := Try.prog) (t := 153) (k := 154) (e := 3) keyed154 Try.underlying153 zero3 encK_inj hF10 hkey wd rfl).2
       rw [show Fk (keysL x cls (sts.take (k + 1))) (keyC x cls s) = some (.int .i64 ((keysL x cls (sts.take (k + 1))).idxOf (keyC x cls s) : Nat)) by unfold Fk; rw [if_pos ((keysL_mem _ _ _ _).2 ⟨s, by rw [List.take_succ_eq_append_getElem hkn, HHS.out, List.mem_append]; exact .inr (List.mem_singleton.2 rfl), rfl⟩)]] at this
       rw [hks] at this ⊢
       exact this
      obtain ⟨o2, hup2', hM2⟩ := hMod.update (P := Try.prog) (t := 156) (k := 104) (e := 3) keyed104 Try.underlying156 encP_inj hFo (keyPr (HM.out.bd s HOKS.out)) (.int .i64 ((keysL x cls (sts.take (k + 1))).idxOf (keyC x cls s) : Nat))
      have hup2 : (Instr.mapUpdate 156 (.map (some (gs + 2))) (.agg #[.int .i64 s.1, .int .i64 s.2]) (.int .i64 ((keysL x cls (sts.take (k + 1))).idxOf (keyC x cls s) : Nat))).run Try.prog wd = .ok () (wd.putObj (gs + 2) o2) := hup2'
      have hgo : gs + 2 < wd.heap.size := hMod.lt
      have hzd : gs + 3 ≤ wd.heap.size := by have := hbd.size; omega
      have hM12 : MapF encK (wd.putObj (gs + 2) o2) (gs + 1) (keysL x cls (sts.take (k + 1))).length (Fk (keysL x cls (sts.take (k + 1)))) := hMd.keep (World.putObj_heap_other (by omega))
      have hM22 := hM2.congr (G := FoP x cls sts (k + 1)) (fun t => by rw [HHS.out]; exact foP_next hkn t)
      have hb11 : Below gs w (wd.putObj (gs + 2) o2) := below_putObj (hbX.trans (hbd.mono (Nat.le_of_lt (lt_blk hsX)))) (by omega)
      have hs11 : (wd.putObj (gs + 2) o2).heap[gs]? = some (.cells (sysVP x fN fG lN lG) 108 (0, 0)) := (World.putObj_heap_other (by omega)).trans (blk_keep hsX hbd)
      have hz11 : gs + 3 ≤ (wd.putObj (gs + 2) o2).heap.size := by rw [World.putObj_size]; omega
      have HI11 := Lib.hid (And.intro hs11 (And.intro hM12 hM22))
      have HWD := Lib.hid hwd
      clear hM10 hMd hMod hM2 hM12 hM22 hs11 hMo10 hks hF10 hFo hbX hsX hup2' hbd hwd
      clear hin hstep hk1e hkr hkrB hkey hkr5
      have u1 := cell_blk (i := 0) h11d
      have u1b := cell_blk (i := 1) h11d
      have d0 := cell_blk (i := 0) hkd
      have d1 := cell_blk (i := 1) hkd
      have d2 := cell_blk (i := 2) hkd
      have d3 := cell_blk (i := 3) hkd
      have d4 := cell_blk (i := 4) hkd
      simp only [List.map_cons, List.map_nil, List.getElem?_toArray, List.getElem?_cons_zero, List.getElem?_cons_succ] at u1 u1b d0 d1 d2 d3 d4
      refine wp_region_x (R := fun _ => True) (S := fun U => U = wd) (z := 5) rfl ?_
      change wpAnyX _ _ _ _ _ _ _ _ _ _ wr.drew
      rw [← HWD.out]
      refine wpX_kp (i := 0) (oi := ⟨some 56, _, _, _, _, none⟩) (v := ?_) rfl (fun _ _ _ h => h) ?_ ⟨trivial, fun _ => rfl⟩ ?_
      rotate_left
      ·intro U hU
       go_simp
       all_goals with_reducible rfl
      simp only [putE]
      refine wpAnyX_take (i := 1) (oi := ⟨some 57, _, _, _, _, none⟩) (v := ?_) rfl (by kernel_rfl) (by kernel_rfl) (by kernel_rfl) (fun _ _ _ h => h) (Or.inl ⟨by rfl, ?_⟩) ⟨trivial, fun _ => rfl⟩ ?_
      rotate_left
      ·intro U hU
       rw [hU.2]
       go_simp
       all_goals with_reducible rfl
      simp only [putE]
      refine wpX_kp (i := 2) (oi := ⟨some 58, _, _, _, _, none⟩) (v := ?_) rfl (fun _ _ _ h => h) ?_ ⟨trivial, fun _ => rfl⟩ ?_
      rotate_left
      ·intro U hU
       go_simp
       all_goals with_reducible rfl
      simp only [putE]
      refine wpAnyX_take (i := 3) (oi := ⟨some 59, _, _, _, _, none⟩) (v := ?_) rfl (by kernel_rfl) (by kernel_rfl) (by kernel_rfl) (fun _ _ _ h => h) (Or.inl ⟨by rfl, ?_⟩) ⟨trivial, fun _ => rfl⟩ ?_
      rotate_left
      ·intro U hU
       rw [hU.2]
       go_simp
       all_goals with_reducible rfl
      simp only [putE]
      refine wpAnyX_take (i := 4) (oi := ⟨some 60, _, _, _, _, none⟩) (v := ?_) rfl (by kernel_rfl) (by kernel_rfl) (by kernel_rfl) (fun _ _ _ h => h) (Or.inl ⟨by rfl, ?_⟩) ⟨trivial, fun _ => rfl⟩ ?_
      rotate_left
      ·intro U hU
       rw [hU.2]
       go_simp
       all_goals with_reducible rfl
      simp only [putE]
      refine wpAnyX_one (i := 5) (o := ⟨none, _, _, _, _, none⟩) (by kernel_rfl) rfl (by rfl) (fun K1 hK1 => ?_)
      have HK1 := Lib.hid hK1; clear hK1
      go_simp
      refine HK1.out _ _ ⟨trivial, fun h => by simp at h⟩ ?_
      clear HK1 K1
      try simp only [putE]
      refine wpAnyX_done (by kernel_rfl) ?_ _
      go_wp2
      refine ⟨⟨k + 1, _, by omega, by go_num, HI11, hb11, hz11⟩, ?_⟩
      simp only [intOf]; omega
     ·have hk1e : keysL x cls (sts.take (k + 1)) = keysL x cls (sts.take k) ++ [keyC x cls s] := by rw [hstep]; unfold addK; rw [if_neg hin]
      have hnoF : Fk (keysL x cls (sts.take k)) (keyC x cls s) = none := by unfold Fk; rw [if_neg hin]
      rw [hnoF] at hlk13
      simp only [hks, List.map_cons, List.map_nil, Option.getD_none, Option.isSome_none] at hlk13
      obtain ⟨o1, hup1, hM10⟩ := hK1.update (P := Try.prog) (t := 153) (k := 154) (e := 3) keyed154 Try.underlying153 encK_inj (hF0 k) hkey (.int .i64 ((keysL x cls (sts.take k)).length : Nat))
      have hmp := hK1
      have hlen1 := run_len_map hmp Try.underlying153 3
      rw [hnoF, if_neg (by simp)] at hM10
      replace hM10 := hM10.congr (fun j => fk_next hin j)
      rw [show (keysL x cls (sts.take k)).length + 1 = (keysL x cls (sts.take k) ++ [keyC x cls s]).length by simp, ← hk1e] at hM10
      rw [hks] at hup1
      simp only [encK, List.map_cons, List.map_nil] at hup1
      obtain ⟨w10, hw10⟩ : ∃ q, q = wr.putObj (gs + 1) o1 := ⟨_, rfl⟩
      rw [← hw10] at hup1 hM10
      have hoth : ∀ g, g ≠ gs + 1 → w10.heap[g]? = wr.heap[g]? := fun g h => by rw [hw10]; exact World.putObj_heap_other h
      have hbX : Below gs w w10 := by rw [hw10]; exact below_putObj hbr2 (by omega)
      have hz10 : w10.heap.size = wr.heap.size := by rw [hw10]; exact World.putObj_size
      have hsX := (hoth gs (by omega)).trans hsr
      have hMo10 := hK2.keep (hoth (gs + 2) (by omega))
      have hF10 := hF0 (k + 1)
      have hkrX := (hoth gk (by have := HGK.out; omega)).trans hkrB
      have g0' := cell_blk (i := 0) hkrX
      have g1' := cell_blk (i := 1) hkrX
      have g2' := cell_blk (i := 2) hkrX
      have g3' := cell_blk (i := 3) hkrX
      have g4' := cell_blk (i := 4) hkrX
      simp only [List.map_cons, List.map_nil, List.getElem?_toArray, List.getElem?_cons_zero, List.getElem?_cons_succ] at g0' g1' g2' g3' g4'
      have h11X := (hoth g11 (by have := HGK.out; omega)).trans h11r
      clear hK1 hK2 hbr2 hsr hF0 hw10 hoth
      go_wp2
      obtain ⟨wd, hwd⟩ : ∃ q, q = w10.drew := ⟨_, rfl⟩
      have hbd : Below w10.heap.size w10 wd := by rw [hwd]; exact (Below.refl _ _).drew
      have hMd := hM10.below hbd
      have hMod := hMo10.below hbd
      have hkd := blk_keep hkrX hbd
      have h11d := blk_keep h11X hbd
      have hlk14 : (Instr.lookup 153 (.map (some (gs + 1))) (.agg #[.int .i64 (a0 : Nat), .int .i64 (a1 : Nat), .int .i64 (a2 : Nat), .int .i64 (a3 : Nat), .int .i64 (a4 : Nat)]) false).run Try.prog wd = .ok (.int .i64 ((keysL x cls (sts.take (k + 1))).idxOf (keyC x cls s) : Nat)) wd := by
       have := (hMd.look (P := Try.prog) (t := 153) (k := 154) (e := 3) keyed154 Try.underlying153 zero3 encK_inj hF10 hkey wd rfl).2
       rw [show Fk (keysL x cls (sts.take (k + 1))) (keyC x cls s) = some (.int .i64 ((keysL x cls (sts.take (k + 1))).idxOf (keyC x cls s) : Nat)) by unfold Fk; rw [if_pos ((keysL_mem _ _ _ _).2 ⟨s, by rw [List.take_succ_eq_append_getElem hkn, HHS.out, List.mem_append]; exact .inr (List.mem_singleton.2 rfl), rfl⟩)]] at this
       rw [hks] at this ⊢
       exact this
      obtain ⟨o2, hup2', hM2⟩ := hMod.update (P := Try.prog) (t := 156) (k := 104) (e := 3) keyed104 Try.underlying156 encP_inj hFo (keyPr (HM.out.bd s HOKS.out)) (.int .i64 ((keysL x cls (sts.take (k + 1))).idxOf (keyC x cls s) : Nat))
      have hup2 : (Instr.mapUpdate 156 (.map (some (gs + 2))) (.agg #[.int .i64 s.1, .int .i64 s.2]) (.int .i64 ((keysL x cls (sts.take (k + 1))).idxOf (keyC x cls s) : Nat))).run Try.prog wd = .ok () (wd.putObj (gs + 2) o2) := hup2'
      have hgo : gs + 2 < wd.heap.size := hMod.lt
      have hzd : gs + 3 ≤ wd.heap.size := by have := hbd.size; omega
      have hM12 : MapF encK (wd.putObj (gs + 2) o2) (gs + 1) (keysL x cls (sts.take (k + 1))).length (Fk (keysL x cls (sts.take (k + 1)))) := hMd.keep (World.putObj_heap_other (by omega))
      have hM22 := hM2.congr (G := FoP x cls sts (k + 1)) (fun t => by rw [HHS.out]; exact foP_next hkn t)
      have hb11 : Below gs w (wd.putObj (gs + 2) o2) := below_putObj (hbX.trans (hbd.mono (Nat.le_of_lt (lt_blk hsX)))) (by omega)
      have hs11 : (wd.putObj (gs + 2) o2).heap[gs]? = some (.cells (sysVP x fN fG lN lG) 108 (0, 0)) := (World.putObj_heap_other (by omega)).trans (blk_keep hsX hbd)
      have hz11 : gs + 3 ≤ (wd.putObj (gs + 2) o2).heap.size := by rw [World.putObj_size]; omega
      have HI11 := Lib.hid (And.intro hs11 (And.intro hM12 hM22))
      have HWD := Lib.hid hwd
      clear hM10 hMd hMod hM2 hM12 hM22 hs11 hMo10 hks hF10 hFo hbX hsX hup2' hbd hwd
      clear hin hstep hk1e hkr hkrB hkey hkr5 hnoF
      have u1 := cell_blk (i := 0) h11d
      have u1b := cell_blk (i := 1) h11d
      have d0 := cell_blk (i := 0) hkd
      have d1 := cell_blk (i := 1) hkd
      have d2 := cell_blk (i := 2) hkd
      have d3 := cell_blk (i := 3) hkd
      have d4 := cell_blk (i := 4) hkd
      simp only [List.map_cons, List.map_nil, List.getElem?_toArray, List.getElem?_cons_zero, List.getElem?_cons_succ] at u1 u1b d0 d1 d2 d3 d4
      refine wp_region_x (R := fun _ => True) (S := fun U => U = wd) (z := 5) rfl ?_
      change wpAnyX _ _ _ _ _ _ _ _ _ _ w10.drew
      rw [← HWD.out]
      refine wpX_kp (i := 0) (oi := ⟨some 56, _, _, _, _, none⟩) (v := ?_) rfl (fun _ _ _ h => h) ?_ ⟨trivial, fun _ => rfl⟩ ?_
      rotate_left
      ·intro U hU
       go_simp
       all_goals with_reducible rfl
      simp only [putE]
      refine wpAnyX_take (i := 1) (oi := ⟨some 57, _, _, _, _, none⟩) (v := ?_) rfl (by kernel_rfl) (by kernel_rfl) (by kernel_rfl) (fun _ _ _ h => h) (Or.inl ⟨by rfl, ?_⟩) ⟨trivial, fun _ => rfl⟩ ?_
      rotate_left
      ·intro U hU
       rw [hU.2]
       go_simp
       all_goals with_reducible rfl
      simp only [putE]
      refine wpX_kp (i := 2) (oi := ⟨some 58, _, _, _, _, none⟩) (v := ?_) rfl (fun _ _ _ h => h) ?_ ⟨trivial, fun _ => rfl⟩ ?_
      rotate_left
      ·intro U hU
       go_simp
       all_goals with_reducible rfl
      simp only [putE]
      refine wpAnyX_take (i := 3) (oi := ⟨some 59, _, _, _, _, none⟩) (v := ?_) rfl (by kernel_rfl) (by kernel_rfl) (by kernel_rfl) (fun _ _ _ h => h) (Or.inl ⟨by rfl, ?_⟩) ⟨trivial, fun _ => rfl⟩ ?_
      rotate_left
      ·intro U hU
       rw [hU.2]
       go_simp
       all_goals with_reducible rfl
      simp only [putE]
      refine wpAnyX_take (i := 4) (oi := ⟨some 60, _, _, _, _, none⟩) (v := ?_) rfl (by kernel_rfl) (by kernel_rfl) (by kernel_rfl) (fun _ _ _ h => h) (Or.inl ⟨by rfl, ?_⟩) ⟨trivial, fun _ => rfl⟩ ?_
      rotate_left
      ·intro U hU
       rw [hU.2]
       go_simp
       all_goals with_reducible rfl
      simp only [putE]
      refine wpAnyX_one (i := 5) (o := ⟨none, _, _, _, _, none⟩) (by kernel_rfl) rfl (by rfl) (fun K1 hK1 => ?_)
      have HK1 := Lib.hid hK1; clear hK1
      go_simp
      refine HK1.out _ _ ⟨trivial, fun h => by simp at h⟩ ?_
      clear HK1 K1
      try simp only [putE]
      refine wpAnyX_done (by kernel_rfl) ?_ _
      go_wp2
      refine ⟨⟨k + 1, _, by omega, by go_num, HI11, hb11, hz11⟩, ?_⟩
      simp only [intOf]; omega
  ·have hki : ¬ (k : Int) < (sts.length : Int) := by omega
   have hke : k = sts.length := by omega
   subst hke
   obtain ⟨-, hK1, hK2⟩ := HI.out
   rw [List.take_length] at hK1
   have hlenE := run_len_map hK1 Try.underlying153 3
   have hcls : ClsP wo (gs + 2) sts (splitC x sts cls) ok := by
    refine ⟨_, _, hK2, fun s v h => ?_, fun s hs => ?_⟩
    ·unfold FoP at h
     rw [List.take_length] at h
     by_cases hs : s ∈ sts
     ·exact HOK.out s hs
     ·rw [if_neg hs] at h; cases h
    ·unfold FoP
     rw [List.take_length, if_pos hs]; rfl
   have HF := Lib.hid hcls
   clear hK1 hK2 hcls
   go_wp2
   refine bodyPost_ret (results_tmp2 rfl _ _ _) rfl ?_
   exact ⟨gs + 2, rfl, HF.out, by have := HGS.out; omega, HGS.out ▸ hbr⟩
end Ytnjgglnpmhjmiaa
end Go.Proofs

