/- Laws of rotation: classes of numbered states are parted. -/
import Derived.Test.YtnjgglnpmhjmiaaQ3
open Go Go.RowKit Go.YtnjgglnpmhjmiaaIt
open Rest
namespace Go.Proofs
namespace Ytnjgglnpmhjmiaa
/-- A key whose first c places are laid. -/
def keyP (x : RSys Int) (cls : Int → Nat) (s : Int) (c : Nat) : List Nat := cls s :: (((List.range c).map fun c => cls (x.nx s c)) ++ List.replicate (4 - c) 0)
theorem keyP_len {x : RSys Int} {cls : Int → Nat} {s : Int} {c : Nat} (h : c ≤ 4) : (keyP x cls s c).length = 5 := by simp [keyP]; omega
theorem keyP_all (x : RSys Int) (cls : Int → Nat) (s : Int) : keyP x cls s x.k = keyC x cls s := rfl
theorem keyP_set {x : RSys Int} {cls : Int → Nat} {s : Int} {c : Nat} (h : c < 4) : ((nI (keyP x cls s c)).map (Value.int .i64)).toArray.setIfInBounds (c + 1) (.int .i64 (cls (x.nx s c) : Nat)) = ((nI (keyP x cls s (c + 1))).map (Value.int .i64)).toArray := by
 rcases (show c = 0 ∨ c = 1 ∨ c = 2 ∨ c = 3 by omega) with rfl | rfl | rfl | rfl <;> simp [keyP, List.range_succ]
theorem info154 : (Try.prog.info? 154).map (·.size) = some 5 := by kernel_rfl
theorem three_new {α β : Type} (e1 : α → Value) (e2 : β → Value) (w : World) (o : Obj) : ((((w.alloc o).alloc (.map #[] 0)).alloc (.map #[] 0)).heap[w.heap.size]? = some o) ∧ MapF e1 (((w.alloc o).alloc (.map #[] 0)).alloc (.map #[] 0)) (w.heap.size + 1) 0 (fun _ => none) ∧ MapF e2 (((w.alloc o).alloc (.map #[] 0)).alloc (.map #[] 0)) (w.heap.size + 2) 0 (fun _ => none) ∧ (((w.alloc o).alloc (.map #[] 0)).alloc (.map #[] 0)).heap.size = w.heap.size + 3 ∧ Below w.heap.size w (((w.alloc o).alloc (.map #[] 0)).alloc (.map #[] 0)) := by
 have z1 : (w.alloc o).heap.size = w.heap.size + 1 := World.size_alloc ..
 have z2 : ((w.alloc o).alloc (.map #[] 0)).heap.size = w.heap.size + 2 := by rw [World.size_alloc, z1]
 have m1 := mapF_new e1 (w.alloc o) 0
 have m2 := mapF_new e2 ((w.alloc o).alloc (.map #[] 0)) 0
 rw [z1] at m1
 rw [z2] at m2
 refine ⟨(heap_oldI (by omega)).trans ((heap_oldI (by omega)).trans (heap_newI rfl)), m1.keep (heap_oldI (by omega)), m2, by rw [World.size_alloc, z2], ((((Below.refl _ _).alloc (Nat.le_refl _) _).alloc (by omega) _).alloc (by omega) _)⟩
theorem fo_step {x : RSys Int} {cls : Int → Nat} {sts : List Int} {k : Nat} (hk : k < sts.length) : keysL x cls (sts.take (k + 1)) = addK (keysL x cls (sts.take k)) (keyC x cls sts[k]) := by
 rw [List.take_succ_eq_append_getElem hk, keysL_snoc]
/-- What is told of the first k states. -/
def Fo (x : RSys Int) (cls : Int → Nat) (sts : List Int) (k : Nat) (s : Int) : Option Value := if s ∈ sts.take k then some (.int .i64 ((keysL x cls (sts.take k)).idxOf (keyC x cls s) : Nat)) else none
theorem run_len_map {w : World} {b n : Nat} {α : Type} {enc : α → Value} {F : α → Option Value} (h : MapF enc w b n F) {t k e : TypeId} (ht : Try.prog.underlying t = some (.map k e)) (ty : TypeId) : (Builtin.len_ #[t] ty #[.map (some b)]).run Try.prog w = .ok (.int .i64 (n : Nat)) w := by
 obtain ⟨es, ck, h, rfl, -⟩ := h
 simp [Builtin.len_, run_underlying ht, MapKept.run_getObj_map h, goInt, Result.andThen]
theorem key_ok {x : RSys Int} {cls : Int → Nat} {sts : List Int} (hk4 : x.k ≤ 4) (hcl : Closed x sts) (hcb : ∀ s ∈ sts, cls s ≤ 1000000) {s : Int} (hs : s ∈ sts) : ∃ q, keyOf Try.prog 154 (encK (keyC x cls s)) = some q :=
 keyK (by rw [← keyP_all]; exact keyP_len hk4) (fun j hj => by
  unfold keyC at hj
  rcases List.mem_cons.1 hj with rfl | hj
  ·exact hcb s hs
  ·rcases List.mem_append.1 hj with hj | hj
   ·obtain ⟨c, hc, rfl⟩ := List.mem_map.1 hj
    exact hcb _ (hcl.nx s hs c (by simpa using hc))
   ·have := List.eq_of_mem_replicate hj; omega)
theorem fk_next {Kk : List (List Nat)} {kl : List Nat} (h : kl ∉ Kk) (j : List Nat) : Fk (Kk ++ [kl]) j = updF (Fk Kk) kl (.int .i64 (Kk.length : Nat)) j := by
 unfold updF
 by_cases hj : j = kl
 ·subst hj
  rw [if_pos rfl]
  unfold Fk
  rw [if_pos (by simp), List.idxOf_append, if_neg h]
  simp
 ·rw [if_neg hj]
  unfold Fk
  by_cases hm : j ∈ Kk
  ·rw [if_pos hm, if_pos (by simp [hm]), idxOf_pre (List.prefix_append _ _) hm]
  ·rw [if_neg hm, if_neg (by simp [hm, hj])]
theorem keysL_pre {x : RSys Int} {cls : Int → Nat} {sts : List Int} {k : Nat} (hk : k < sts.length) : keysL x cls (sts.take k) <+: keysL x cls (sts.take (k + 1)) := by
 rw [fo_step hk]; exact addK_pre _ _
theorem fo_next {x : RSys Int} {cls : Int → Nat} {sts : List Int} {k : Nat} (hk : k < sts.length) (t : Int) : Fo x cls sts (k + 1) t = updF (Fo x cls sts k) sts[k] (.int .i64 ((keysL x cls (sts.take (k + 1))).idxOf (keyC x cls sts[k]) : Nat)) t := by
 unfold updF
 have hm : ∀ u, u ∈ sts.take (k + 1) ↔ u ∈ sts.take k ∨ u = sts[k] := fun u => by
  rw [List.take_succ_eq_append_getElem hk, List.mem_append, List.mem_singleton]
 by_cases ht : t = sts[k]
 ·rw [if_pos ht]
  unfold Fo
  rw [if_pos ((hm t).2 (.inr ht)), ht]
 ·rw [if_neg ht]
  unfold Fo
  by_cases h : t ∈ sts.take k
  ·rw [if_pos h, if_pos ((hm t).2 (.inl h)), idxOf_pre (keysL_pre hk) ((keysL_mem _ _ _ _).2 ⟨t, h, rfl⟩)]
  ·rw [if_neg h, if_neg (fun h' => ((hm t).1 h').elim h ht)]
set_option maxRecDepth 100000 in
set_option maxHeartbeats 8000000 in
theorem split_any {x : RSys Int} {ok : Int → Prop} {fN fG : Nat} {lN lG : Array Value} {B : Nat} {W0 : World} (hM : SysM x ok fN fG lN lG B W0) (eN : ∀ args w, (callFunc fN args).run Try.prog w = .ok (.enter fN args) w) (hB : B ≤ W0.heap.size)
  (vs : Value) (sts : List Int) (gc : Nat) (cls : Int → Nat) (w : World) (hb : Below B W0 w) (hs : SlI w vs sts) (hok : ∀ s ∈ sts, ok s) (hcl : Closed x sts) (hc : ClsM w gc sts cls ok) (hcb : ∀ s ∈ sts, cls s ≤ 1000000) (hlen : sts.length ≤ 5000) :
  Calls Try.prog 97 #[.agg (sysV x fN fG lN lG), vs, .map (some gc)] w fun e w' => ∃ g, e = .returned (.tuple #[.map (some g), .int .i64 ((keysL x cls sts).length : Nat)]) ∧ ClsM w' g sts (splitC x sts cls) ok ∧ w.heap.size ≤ g ∧ Below w.heap.size w w' := by
 have HM := Lib.hid hM
 have HS := Lib.hid hs
 have HOK := Lib.hid hok
 have HCL := Lib.hid hcl
 have HC := Lib.hid hc
 have HCB := Lib.hid hcb
 have HB0 := Lib.hid hb
 have hk4 := hM.k4
 obtain ⟨sa, cs, rfl, -, -, hcc⟩ := hs
 have HCC := Lib.hid hcc
 have hmm := @run_makeMap Try.prog
 clear hM hok hcl hc hcb hb hcc
 go_enter Try.func97, Try.ntmps97
 refine wp_seq_k (fun K hK => ?_)
 have HK := Lib.hid hK; clear hK
 go_wp2
 refine HK.out _ _ ?_; clear HK
 refine wp_seq_k (fun K hK => ?_)
 have HK := Lib.hid hK; clear hK
 go_wp2
 refine HK.out _ _ ?_; clear HK
 obtain ⟨gs, hgs⟩ : ∃ g, g = w.heap.size := ⟨_, rfl⟩
 have HGS := Lib.hid hgs
 obtain ⟨c1, m1, m2, z1, b1⟩ := three_new encK encZ w (.cells (sysV x fN fG lN lG) 96)
 generalize ((w.alloc (.cells (sysV x fN fG lN lG) 96)).alloc (.map #[] 0)).alloc (.map #[] 0) = w1 at *
 rw [← hgs] at c1 m1 m2 z1 b1 ⊢
 clear hgs
 have HI0 := Lib.hid (And.intro c1 (And.intro m1 m2))
 clear c1 m1 m2
 go_wp2
 go_loopw [20] (fun i wr => ∃ (k m : Nat), k ≤ sts.length ∧ i = .int .i64 k ∧ Hid (wr.heap[gs]? = some (.cells (sysV x fN fG lN lG) 96 (0, 0)) ∧ MapF encK wr (gs + 1) (keysL x cls (sts.take k)).length (Fk (keysL x cls (sts.take k))) ∧ MapF encZ wr (gs + 2) m (Fo x cls sts k)) ∧ Below gs w wr ∧ gs + 3 ≤ wr.heap.size) (fun i _ => sts.length - (intOf i).toNat)
 case atStart => exact ⟨0, 0, Nat.zero_le _, rfl, Lib.hid ⟨HI0.out.1, HI0.out.2.1.congr (fun s => by simp [Fk, keysL]), HI0.out.2.2.congr (fun s => by simp [Fo])⟩, b1, by omega⟩
 case round =>
  clear HI0 b1 z1
  obtain ⟨k, m, hk, rfl, HI, hbr, hzr⟩ := hrel
  obtain ⟨wo, rfl⟩ : ∃ q, q = wr := ⟨_, rfl⟩
  by_cases hkn : k < sts.length
  ·have hki : (k : Int) < (sts.length : Int) := by omega
   obtain ⟨b, off, rfl, hbl, hcell⟩ := HCC.out (by omega)
   have c0 : wo.cell? ⟨b, off + k, none⟩ = some (.int .i64 sts[k]) := by
    rw [hbr.cell (p := ⟨b, off + k, none⟩) (by have := HGS.out; simp; omega), hcell k hkn]
    simp [at0, hkn]
   obtain ⟨s, hs⟩ : ∃ s, s = sts[k] := ⟨_, rfl⟩
   rw [← hs] at c0
   have hmem : s ∈ sts := by rw [hs]; exact List.getElem_mem hkn
   have hoks : ok s := HOK.out s hmem
   have hcw : ∀ W, W.heap[gc]? = w.heap[gc]? → ∀ t ∈ sts, (Instr.lookup 125 (.map (some gc)) (.int .i64 t) false).run Try.prog W = .ok (.int .i64 (cls t : Nat)) W := fun W h t ht => HC.out.look HM.out.bd ht (HOK.out t ht) W h
   have hgl := HC.out.lt
   have hlk0 := hcw wo (hbr.block gc (by have := HGS.out; omega)) s hmem
   have hlk1 := fun o => hcw (wo.alloc o) (by rw [heap_alloc_if, if_neg (by have := HGS.out; omega)]; exact hbr.block gc (by have := HGS.out; omega)) s hmem
   have HHS := Lib.hid hs
   have HCW := Lib.hid hcw
   have HOKS := Lib.hid hoks
   have HMEM := Lib.hid hmem
   clear hcell hs hcw hoks hmem
   have q0 : ∀ o, (wo.alloc o).cell? ⟨gs, 0, none⟩ = some (.int .i64 x.k) := fun o => by
    rw [cell_blk ((heap_oldI (by omega)).trans HI.out.1)]; rfl
   go_wp2
   obtain ⟨w5, hw5⟩ : ∃ q, q = wo.alloc (.cells #[.int .i64 (cls s : Nat), .int .i64 0, .int .i64 0, .int .i64 0, .int .i64 0] 154) := ⟨_, rfl⟩
   have b5 : Below wo.heap.size wo w5 := by rw [hw5]; exact (Below.refl _ _).alloc (Nat.le_refl _) _
   have k5 : w5.heap[wo.heap.size]? = some (.cells ((nI (keyP x cls s 0)).map (Value.int .i64)).toArray 154 (0, 0)) := by rw [hw5]; exact heap_newI rfl
   rw [← hw5]
   have z5 : w5.heap.size = wo.heap.size + 1 := by rw [hw5]; exact World.size_alloc ..
   obtain ⟨gk, hgk⟩ : ∃ g, g = wo.heap.size := ⟨_, rfl⟩
   rw [← hgk] at k5 b5 z5 ⊢
   have HGK := Lib.hid hgk
   have HK5 := Lib.hid k5
   clear hw5 hgk k5 hlk0 hlk1 c0 q0
   go_loopw [30] (fun i wq => ∃ c : Nat, c ≤ x.k ∧ i = .int .i64 c ∧ Hid (wq.heap[gk]? = some (.cells ((nI (keyP x cls s c)).map (Value.int .i64)).toArray 154 (0, 0))) ∧ Below gk wo wq ∧ gk + 1 ≤ wq.heap.size) (fun i _ => x.k - (intOf i).toNat)
   case atStart => exact ⟨0, Nat.zero_le _, rfl, HK5, b5, by omega⟩
   case round =>
    clear HK5 b5 z5
    have hgkz := HGK.out
    have hgsz := HGS.out
    obtain ⟨c, hc, rfl, HKY, hbq, hzq⟩ := hrel
    by_cases hck : c < x.k
    ·have hci : (c : Int) < (x.k : Int) := by omega
     have cq := blk_below HI.out.1 hbq (by omega)
     have q2 := cell_blk (i := 2) cq
     simp only [List.getElem?_toArray, List.getElem?_cons_zero, List.getElem?_cons_succ] at q2
     clear cq
     have hkB : Below B W0 wr := btr (btr HB0.out (by rw [← HGS.out]; exact hbr) hB) (by rw [← HGK.out]; exact hbq) hB
     have hnx := HM.out.nx wr hkB s c HOKS.out hck
     have HNX := Lib.hid hnx
     have HCQ := Lib.hid hkB
     clear hnx hkB hgkz hgsz
     go_wp2
     refine HNX.out.mono ?_
     rintro e w9 ⟨rfl, hb9⟩
     have hnm : x.nx s c ∈ sts := HCL.out.nx s HMEM.out c hck
     obtain ⟨sn, hsn⟩ : ∃ q, q = x.nx s c := ⟨_, rfl⟩
     simp only
     rw [← hsn] at hnm ⊢
     have hk9 := blk_keep HKY.out hb9
     have hg9 : w9.heap[gc]? = w.heap[gc]? := (hb9.block gc (by have := HGS.out; have := HGK.out; omega)).trans ((hbq.block gc (by have := HGS.out; have := HGK.out; omega)).trans (hbr.block gc (by have := HGS.out; omega)))
     have hlk9 := HCW.out w9 hg9 sn hnm
     have hb9' := hbq.trans (hb9.mono (by omega))
     have hci4 : (0 : Int) ≤ (c : Int) + 1 ∧ (c : Int) + 1 < 5 := by omega
     have hz9 := hb9.size
     have h5 : (nI (keyP x cls s c)).length = 5 := by rw [List.length_map]; exact keyP_len (by omega)
     have hcl9 : ∃ u, w9.cell? ⟨gk, c + 1, none⟩ = some u := by
      rw [cell_blk hk9, Array.getElem?_eq_getElem (by simp [keyP_len (show c ≤ 4 by omega)]; omega)]; exact ⟨_, rfl⟩
     obtain ⟨u9, hu9⟩ := hcl9
     have hf9 := free_blk (i := c + 1) hk9
     have HSN := Lib.hid hsn
     have HK9 := Lib.hid hk9
     clear hk9 hsn hg9 hnm q2 HNX
     go_wp2
     refine ⟨⟨c + 1, by omega, by go_num, Lib.hid ?_, hb9'.setCell (p := ⟨gk, c + 1, none⟩) (Nat.le_refl _) _, by simp; omega⟩, ?_⟩
     ·have := heap_set_blk (i := c + 1) (v := .int .i64 (cls sn : Nat)) HK9.out
      rw [this, HSN.out, keyP_set (by omega)]
     ·simp only [intOf]; omega
    ·have hci : ¬ (c : Int) < (x.k : Int) := by omega
     have hce : c = x.k := by omega
     subst hce
     have hbr2 : Below gs w wr := hbr.trans (hbq.mono (by omega))
     have hkr := HKY.out
     rw [keyP_all] at hkr
     have hkey := key_ok hk4 HCL.out HCB.out HMEM.out
     have hK1 : MapF encK wr (gs + 1) _ _ := HI.out.2.1.keep (hbq.block (gs + 1) (by omega))
     have hK2 : MapF encZ wr (gs + 2) _ _ := HI.out.2.2.keep (hbq.block (gs + 2) (by omega))
     have hsr := blk_below HI.out.1 hbq (by omega)
     have hF0 : ∀ k' j v, Fk (keysL x cls (sts.take k')) j = some v → ∃ l, keyOf Try.prog 154 (encK j) = some l := fun k' j v h => by
      unfold Fk at h
      by_cases hj : j ∈ keysL x cls (sts.take k')
      ·obtain ⟨t, ht, rfl⟩ := (keysL_mem _ _ _ _).1 hj
       exact key_ok hk4 HCL.out HCB.out (List.mem_of_mem_take ht)
      ·rw [if_neg hj] at h; cases h
     have hFo : ∀ t v, Fo x cls sts k t = some v → ∃ l, keyOf Try.prog 3 (encZ t) = some l := fun t v h => by
      unfold Fo at h
      by_cases ht : t ∈ sts.take k
      ·exact keyZ (HM.out.bd t (HOK.out t (List.mem_of_mem_take ht)))
      ·rw [if_neg ht] at h; cases h
     have hkr5 : (keyC x cls s).length = 5 := by rw [← keyP_all]; exact keyP_len hk4
     have hlk13 := (hK1.look (P := Try.prog) (t := 153) (k := 154) (e := 3) keyed154 Try.underlying153 zero3 encK_inj (hF0 k) hkey wr rfl).1
     have hstep := fo_step (x := x) (cls := cls) hkn
     rw [← HHS.out] at hstep
     unfold encK at hlk13
     have hex : ∃ a0 a1 a2 a3 a4, keyC x cls s = [a0, a1, a2, a3, a4] := by
      match keyC x cls s, hkr5 with
      | [a0, a1, a2, a3, a4], _ => exact ⟨_, _, _, _, _, rfl⟩
     obtain ⟨a0, a1, a2, a3, a4, hks⟩ := hex
     rw [hks] at hkr
     have hkrB := hkr
     have g0 := cell_blk (i := 0) hkr
     have g1 := cell_blk (i := 1) hkr
     have g2 := cell_blk (i := 2) hkr
     have g3 := cell_blk (i := 3) hkr
     have g4 := cell_blk (i := 4) hkr
     simp only [List.map_cons, List.map_nil, List.getElem?_toArray, List.getElem?_cons_zero, List.getElem?_cons_succ] at g0 g1 g2 g3 g4
     clear hgkz hgsz
     by_cases hin : keyC x cls s ∈ keysL x cls (sts.take k)
     ·have hk1e : keysL x cls (sts.take (k + 1)) = keysL x cls (sts.take k) := by rw [hstep]; unfold addK; rw [if_pos hin]
      obtain ⟨ix, hix⟩ : ∃ i, i = (keysL x cls (sts.take k)).idxOf (keyC x cls s) := ⟨_, rfl⟩
      rw [show Fk (keysL x cls (sts.take k)) (keyC x cls s) = some (.int .i64 (ix : Nat)) by unfold Fk; rw [if_pos hin, hix]] at hlk13
      simp only [hks, List.map_cons, List.map_nil, Option.getD_some, Option.isSome_some] at hlk13
      have hM10 := hK1
      rw [← hk1e] at hM10
      have hMo10 := hK2
      have hF10 := hF0 (k + 1)
      have hbX := hbr2
      have hsX := hsr
      clear hK1 hK2 hbr2 hsr hF0 hix
      have hlk14 : (Instr.lookup 153 (.map (some (gs + 1))) (.agg #[.int .i64 (a0 : Nat), .int .i64 (a1 : Nat), .int .i64 (a2 : Nat), .int .i64 (a3 : Nat), .int .i64 (a4 : Nat)]) false).run Try.prog wr = .ok (.int .i64 ((keysL x cls (sts.take (k + 1))).idxOf (keyC x cls s) : Nat)) wr := by
       have := (hM10.look (P := Try.prog) (t := 153) (k := 154) (e := 3) keyed154 Try.underlying153 zero3 encK_inj hF10 hkey wr rfl).2
       rw [show Fk (keysL x cls (sts.take (k + 1))) (keyC x cls s) = some (.int .i64 ((keysL x cls (sts.take (k + 1))).idxOf (keyC x cls s) : Nat)) by unfold Fk; rw [if_pos ((keysL_mem _ _ _ _).2 ⟨s, by rw [List.take_succ_eq_append_getElem hkn, HHS.out, List.mem_append]; exact .inr (List.mem_singleton.2 rfl), rfl⟩)]] at this
       rw [hks] at this ⊢
       exact this
      obtain ⟨o2, hup2, hM2⟩ := hMo10.update (P := Try.prog) (t := 125) (k := 3) (e := 3) keyed3 Try.underlying125 encZ_inj hFo (keyZ (HM.out.bd s HOKS.out)) (.int .i64 ((keysL x cls (sts.take (k + 1))).idxOf (keyC x cls s) : Nat))
      have hgo : gs + 2 < wr.heap.size := hMo10.lt
      have hM12 : MapF encK (wr.putObj (gs + 2) o2) (gs + 1) (keysL x cls (sts.take (k + 1))).length (Fk (keysL x cls (sts.take (k + 1)))) := hM10.keep (World.putObj_heap_other (by omega))
      have hM22 := hM2.congr (G := Fo x cls sts (k + 1)) (fun t => by rw [HHS.out]; exact fo_next hkn t)
      have hb11 : Below gs w (wr.putObj (gs + 2) o2) := below_putObj hbX (by omega)
      have hs11 : (wr.putObj (gs + 2) o2).heap[gs]? = some (.cells (sysV x fN fG lN lG) 96 (0, 0)) := (World.putObj_heap_other (by omega)).trans hsX
      have hz11 : gs + 3 ≤ (wr.putObj (gs + 2) o2).heap.size := by rw [World.putObj_size]; omega
      have HI11 := Lib.hid (And.intro hs11 (And.intro hM12 hM22))
      clear hM10 hM2 hM12 hM22 hs11 hMo10 hks hF10 hFo hbX hsX
      clear hin hstep hk1e hkr hkrB hkey hkr5
      go_wp2
      refine ⟨⟨k + 1, _, by omega, by go_num, HI11, hb11, hz11⟩, ?_⟩
      simp only [intOf]; omega
     ·have hk1e : keysL x cls (sts.take (k + 1)) = keysL x cls (sts.take k) ++ [keyC x cls s] := by rw [hstep]; unfold addK; rw [if_neg hin]
      have hnoF : Fk (keysL x cls (sts.take k)) (keyC x cls s) = none := by unfold Fk; rw [if_neg hin]
      rw [hnoF] at hlk13
      simp only [hks, List.map_cons, List.map_nil, Option.getD_none, Option.isSome_none] at hlk13
      obtain ⟨o1, hup1, hM10⟩ := hK1.update (P := Try.prog) (t := 153) (k := 154) (e := 3) keyed154 Try.underlying153 encK_inj (hF0 k) hkey (.int .i64 ((keysL x cls (sts.take k)).length : Nat))
      have hmp := hK1
      have hlen1 := run_len_map hmp Try.underlying153 3
      rw [hnoF, if_neg (by simp)] at hM10
      replace hM10 := hM10.congr (fun j => fk_next hin j)
      rw [show (keysL x cls (sts.take k)).length + 1 = (keysL x cls (sts.take k) ++ [keyC x cls s]).length by simp, ← hk1e] at hM10
      rw [hks] at hup1
      simp only [encK, List.map_cons, List.map_nil] at hup1
      obtain ⟨w10, hw10⟩ : ∃ q, q = wr.putObj (gs + 1) o1 := ⟨_, rfl⟩
      rw [← hw10] at hup1 hM10
      have hoth : ∀ g, g ≠ gs + 1 → w10.heap[g]? = wr.heap[g]? := fun g h => by rw [hw10]; exact World.putObj_heap_other h
      have hbX : Below gs w w10 := by rw [hw10]; exact below_putObj hbr2 (by omega)
      have hz10 : w10.heap.size = wr.heap.size := by rw [hw10]; exact World.putObj_size
      have hsX := (hoth gs (by omega)).trans hsr
      have hMo10 := hK2.keep (hoth (gs + 2) (by omega))
      have hF10 := hF0 (k + 1)
      have hkrX := (hoth gk (by have := HGK.out; omega)).trans hkrB
      have g0' := cell_blk (i := 0) hkrX
      have g1' := cell_blk (i := 1) hkrX
      have g2' := cell_blk (i := 2) hkrX
      have g3' := cell_blk (i := 3) hkrX
      have g4' := cell_blk (i := 4) hkrX
      simp only [List.map_cons, List.map_nil, List.getElem?_toArray, List.getElem?_cons_zero, List.getElem?_cons_succ] at g0' g1' g2' g3' g4'
      clear hK1 hK2 hbr2 hsr hF0 hw10 hoth hkrX
      have hlk14 : (Instr.lookup 153 (.map (some (gs + 1))) (.agg #[.int .i64 (a0 : Nat), .int .i64 (a1 : Nat), .int .i64 (a2 : Nat), .int .i64 (a3 : Nat), .int .i64 (a4 : Nat)]) false).run Try.prog w10 = .ok (.int .i64 ((keysL x cls (sts.take (k + 1))).idxOf (keyC x cls s) : Nat)) w10 := by
       have := (hM10.look (P := Try.prog) (t := 153) (k := 154) (e := 3) keyed154 Try.underlying153 zero3 encK_inj hF10 hkey w10 rfl).2
       rw [show Fk (keysL x cls (sts.take (k + 1))) (keyC x cls s) = some (.int .i64 ((keysL x cls (sts.take (k + 1))).idxOf (keyC x cls s) : Nat)) by unfold Fk; rw [if_pos ((keysL_mem _ _ _ _).2 ⟨s, by rw [List.take_succ_eq_append_getElem hkn, HHS.out, List.mem_append]; exact .inr (List.mem_singleton.2 rfl), rfl⟩)]] at this
       rw [hks] at this ⊢
       exact this
      obtain ⟨o2, hup2, hM2⟩ := hMo10.update (P := Try.prog) (t := 125) (k := 3) (e := 3) keyed3 Try.underlying125 encZ_inj hFo (keyZ (HM.out.bd s HOKS.out)) (.int .i64 ((keysL x cls (sts.take (k + 1))).idxOf (keyC x cls s) : Nat))
      have hgo : gs + 2 < w10.heap.size := hMo10.lt
      have hM12 : MapF encK (w10.putObj (gs + 2) o2) (gs + 1) (keysL x cls (sts.take (k + 1))).length (Fk (keysL x cls (sts.take (k + 1)))) := hM10.keep (World.putObj_heap_other (by omega))
      have hM22 := hM2.congr (G := Fo x cls sts (k + 1)) (fun t => by rw [HHS.out]; exact fo_next hkn t)
      have hb11 : Below gs w (w10.putObj (gs + 2) o2) := below_putObj hbX (by omega)
      have hs11 : (w10.putObj (gs + 2) o2).heap[gs]? = some (.cells (sysV x fN fG lN lG) 96 (0, 0)) := (World.putObj_heap_other (by omega)).trans hsX
      have hz11 : gs + 3 ≤ (w10.putObj (gs + 2) o2).heap.size := by rw [World.putObj_size]; omega
      have HI11 := Lib.hid (And.intro hs11 (And.intro hM12 hM22))
      clear hM10 hM2 hM12 hM22 hs11 hMo10 hks hF10 hFo hbX hsX
      clear hin hstep hk1e hkr hkrB hkey hkr5 hnoF
      go_wp2
      refine ⟨⟨k + 1, _, by omega, by go_num, HI11, hb11, hz11⟩, ?_⟩
      simp only [intOf]; omega
  ·have hki : ¬ (k : Int) < (sts.length : Int) := by omega
   have hke : k = sts.length := by omega
   subst hke
   obtain ⟨-, hK1, hK2⟩ := HI.out
   rw [List.take_length] at hK1
   have hlenE := run_len_map hK1 Try.underlying153 3
   have hcls : ClsM wo (gs + 2) sts (splitC x sts cls) ok := by
    refine ⟨_, _, hK2, fun s v h => ?_, fun s hs => ?_⟩
    ·unfold Fo at h
     rw [List.take_length] at h
     by_cases hs : s ∈ sts
     ·exact HOK.out s hs
     ·rw [if_neg hs] at h; cases h
    ·unfold Fo
     rw [List.take_length, if_pos hs]; rfl
   have HF := Lib.hid hcls
   clear hK1 hK2 hcls
   go_wp2
   refine bodyPost_ret (results_tmp2 rfl _ _ _) rfl ?_
   exact ⟨gs + 2, rfl, HF.out, by have := HGS.out; omega, HGS.out ▸ hbr⟩
end Ytnjgglnpmhjmiaa
end Go.Proofs

