/- Laws of rotation: the reference: the least table. -/
import Derived.Test.YtnjgglnpmhjmiaaRp
import Derived.Test.YtnjgglnpmhjmiaaRe
open Go Go.RowKit Go.YtnjgglnpmhjmiaaIt
open Rest
namespace Go.Proofs
namespace Ytnjgglnpmhjmiaa
/-- Whether states are good, in order. -/
def goodW {α : Type} [DecidableEq α] (x : RSys α) (L : List (α × List Nat)) (i : Nat) : List Bool := (L.take i).map fun p => x.gd p.1
theorem goodW_succ {α : Type} [DecidableEq α] {x : RSys α} {L : List (α × List Nat)} {i : Nat} (hi : i < L.length) : goodW x L (i + 1) = goodW x L i ++ [x.gd L[i].1] := by
 unfold goodW; rw [List.take_succ_eq_append_getElem hi, List.map_append]; rfl
theorem goodW_all {α : Type} [DecidableEq α] {x : RSys α} {L : List (α × List Nat)} : goodW x L L.length = (tabOf x L).gd := by unfold goodW tabOf; rw [List.take_length]
theorem goodW_len {α : Type} [DecidableEq α] {x : RSys α} {L : List (α × List Nat)} {i : Nat} (hi : i ≤ L.length) : (goodW x L i).length = i := by simp [goodW]; omega
/-- What stands for the places. -/
def Rep (l : Lw) (r : Nat) (xs : List Int) (cur : List (Int × List Nat)) : Prop := xs.length = cur.length ∧ ∀ j (h : j < xs.length) (h' : j < cur.length), l.st xs[j] ∧ ((clsL l r xs[j] : Nat) : Int) = cur[j].1
theorem Rep.push {l : Lw} {r : Nat} {xs : List Int} {cur : List (Int × List Nat)} (h : Rep l r xs cur) {s : Int} (hs : l.st s) (w : List Nat) : Rep l r (xs ++ [s]) (cur ++ [(((clsL l r s : Nat) : Int), w)]) := by
 refine ⟨by simp [h.1], fun j hj hj' => ?_⟩
 by_cases hk : j < xs.length
 ·rw [List.getElem_append_left hk, List.getElem_append_left (by rw [← h.1]; exact hk)]
  exact h.2 j hk _
 ·have he : j = xs.length := by simp at hj; omega
  subst he
  rw [List.getElem_append_right (Nat.le_refl _), List.getElem_append_right (by rw [h.1]; exact Nat.le_refl _)]
  simp [h.1, hs]
def wordsW (cur : List (Int × List Nat)) : List (List Int) := cur.map fun p => nI p.2
theorem wordsW_push (cur : List (Int × List Nat)) (s : Int) (w : List Nat) : wordsW (cur ++ [(s, w)]) = wordsW cur ++ [nI w] := by simp [wordsW]
theorem own_blk {W : World} {base p : Nat} {e : TypeId} {xs : List Value} (h : W.heap[p]? = some (.cells xs.toArray e (0, 0))) (hp : base ≤ p) (hl : xs.length ≤ 1000) : W.ownsRow base e 1 (.slice (some ⟨p, 0, none⟩) xs.length xs.length) xs.length xs :=
 ⟨by simp, .inr ⟨p, xs.length, xs.toArray, rfl, hp, h, Nat.le_refl _, Nat.le_trans hl (by decide), by simp, by simp⟩⟩
set_option maxRecDepth 100000 in
set_option maxHeartbeats 8000000 in
theorem rtable_any {v : Value} {l : Lw} {w : World} (h : LawA w v l) (ho : l.Fit) : Calls Try.prog 60 #[v] w fun e w' => ∃ vn vg vst, e = .returned (.tuple #[.agg #[vn, vg], vst]) ∧ Below w.heap.size w w' ∧ TabN w w' vn vg vst (theT l.k (Fut (sysL l) 0)) := by
 have HOK := Lib.hid ho
 obtain ⟨vn, vg, rfl, hn, hg⟩ := h
 obtain ⟨ag, cg, rfl, -⟩ := id hg
 obtain ⟨an, cn, rfl, hcn⟩ := slII_form hn
 have hX0 := LawA.box (⟨_, _, rfl, hn, hg⟩ : LawA w (.agg #[.slice an l.nx.length cn, .slice ag (l.gd.map Value.bool).length cg]) l) 29
 rw [List.length_map] at *
 rw [ho.gd] at *
 obtain ⟨m, hm⟩ : ∃ m, m = l.nx.length := ⟨_, rfl⟩
 have HM := Lib.hid hm
 have hm2 : m ≤ 2000 := by rw [hm]; exact ho.nM
 have hm1 : 1 ≤ m := by rw [hm]; exact ho.n1
 rw [← hm] at hX0 ⊢
 obtain ⟨c1, c2, hB1, hz1⟩ := blkE2 (w := w) (a := .cells #[.slice an m cn, .slice ag m cg] 29) (b := .cells #[.slice none 0 0, .slice none 0 0] 29) rfl
 have hX := hX0.below ((Below.refl _ _).alloc (Nat.le_refl _) (.cells #[.slice none 0 0, .slice none 0 0] 29))
 obtain ⟨w1, hw1⟩ : ∃ q, q = (w.alloc (.cells #[.slice an m cn, .slice ag m cg] 29)).alloc (.cells #[.slice none 0 0, .slice none 0 0] 29) := ⟨_, rfl⟩
 obtain ⟨g, hgw⟩ : ∃ q, q = w.heap.size := ⟨_, rfl⟩
 obtain ⟨g2, hg2⟩ : ∃ q, q = w.heap.size + 1 := ⟨_, rfl⟩
 have HW := Lib.hid (And.intro hw1 (And.intro hgw hg2))
 rw [← hw1] at hX hB1 c2 hz1
 rw [← hgw] at hX
 rw [← hg2] at c2
 have HX := Lib.hid hX
 have HC2 := Lib.hid c2
 have HB1 := Lib.hid (show Below g w w1 by rw [hgw]; exact hB1)
 have HGW := Lib.hid (show g ≤ w1.heap.size ∧ g2 < w1.heap.size ∧ w.heap.size = g ∧ g2 = g + 1 by omega)
 have H90 := Lib.hid (rclasses_any HX.out.law ho)
 obtain ⟨kk, hkq⟩ : ∃ q, q = l.k := ⟨_, rfl⟩
 have hk4 : kk ≤ 4 := by rw [hkq]; exact ho.k4
 have HK5 : Hid (∀ W, Below w1.heap.size w1 W → Calls Try.prog 65 #[.agg #[.slice an m cn, .slice ag m cg]] W fun e w' => e = .returned (.int .i64 (kk : Nat)) ∧ Below W.heap.size W w') := Lib.hid fun W hW => by rw [hkq]; exact rcrops_any (HX.out.below hW).law HOK.out.ne
 have HKQ := Lib.hid hkq
 have hmm := @run_makeMap Try.prog
 clear hn hg hX hX0 hB1 hw1 hgw hg2 hcn hm ho hkq c1 c2 hz1
 go_enter Try.func60, Try.ntmps60
 refine wp_seq_k (fun K hK => ?_)
 have HK := Lib.hid hK; clear hK
 go_wp2
 refine HK.out _ _ ?_; clear HK
 rw [← HW.out.1, ← HW.out.2.1, ← HGW.out.2.2.2]
 refine wp_seq_k (fun K hK => ?_)
 have HK := Lib.hid hK; clear hK
 go_wp2_with (first | (refine wpList_load_blk rfl 29 _ rfl _ rfl HX.out.blk Try.underlying29 rfl size29 rfl ?_) | (go_at_call 90; refine H90.out.mono ?_; rintro e w2 ⟨vc, r, rfl, hS, hvc, hb2⟩; have HS := Lib.hid hS; have HVC := Lib.hid hvc; have HB2 := Lib.hid hb2; clear hS hvc hb2))
 refine HK.out _ _ ?_; clear HK
 clear H90
 obtain ⟨ac, cc, rfl⟩ := slI_form HVC.out
 rw [List.length_map, sts_len, ← HM.out] at HVC ⊢
 have HCL : Hid (∀ W, Below w2.heap.size w2 W → ∀ s, s < m → ∃ b off, ac = some ⟨b, off, none⟩ ∧ W.cell? ⟨b, off + s, none⟩ = some (.int .i64 ((clsL l r (s : Int) : Nat) : Int))) := Lib.hid fun W hW s hs => by
  obtain ⟨ad', cap', e', -, -, hcc⟩ := HVC.out.below hW (Nat.le_refl _)
  have hsl : s < ((stsL l).map fun s => ((clsL l r s : Nat) : Int)).length := by rw [List.length_map, sts_len, ← HM.out]; exact hs
  obtain ⟨b, off, rfl, hb, hcell⟩ := hcc (by omega)
  injection e' with e1 _ _
  have := hcell s hsl
  rw [at0_lt hsl] at this
  simp only [List.getElem_map] at this
  rw [sts_get (by rw [← HM.out]; exact hs)] at this
  exact ⟨b, off, e1, this⟩
 have HX2 := Lib.hid (HX.out.below HB2.out)
 have HC2' := Lib.hid (blk_keep HC2.out HB2.out)
 have HK6 : Hid (∀ W, Below w2.heap.size w2 W → Calls Try.prog 65 #[.agg #[.slice an m cn, .slice ag m cg]] W fun e w' => e = .returned (.int .i64 (kk : Nat)) ∧ Below W.heap.size W w') := Lib.hid fun W hW => HK5.out W (btr HB2.out hW (Nat.le_refl _))
 have HBw : Hid (Below g w w2) := Lib.hid (HB1.out.trans (HB2.out.mono HGW.out.1))
 have HZ2 : Hid (w1.heap.size ≤ w2.heap.size) := Lib.hid HB2.out.size
 clear HX HC2 HB1 HB2 HK5 HVC
 obtain ⟨L, hL, hLl⟩ := mrgL_walk HOK.out r
 rw [← HM.out] at hLl
 have HL := Lib.hid hL
 have HT := Lib.hid (theT_eq (mrgL_least HOK.out HS.out hL))
 clear hL
 obtain ⟨cl0, hcl0⟩ : ∃ q, q = ((clsL l r 0 : Nat) : Int) := ⟨_, rfl⟩
 have hst0 : (mrgL l r).start = cl0 := by rw [hcl0]; rfl
 have hbc : -1000000 ≤ cl0 ∧ cl0 ≤ 1000000 := by have := clsL_bd l r 0 HOK.out.st0; rw [← HM.out] at this; omega
 refine wp_seq_k (fun K hK => ?_)
 have HK := Lib.hid hK; clear hK
 go_wp2
 refine HK.out _ _ ?_; clear HK
 obtain ⟨q1, q2, q3, hB3, hz3⟩ := blkE3 (w := w2) (a := .cells #[.int .i64 0] 3) (b := .cells #[] 3) (c := .cells #[.slice (some ⟨w2.heap.size + 1, 0, none⟩) 0 0] 40) rfl
 obtain ⟨w3, hw3⟩ : ∃ q, q = ((w2.alloc (.cells #[.int .i64 0] 3)).alloc (.cells #[] 3)).alloc (.cells #[.slice (some ⟨w2.heap.size + 1, 0, none⟩) 0 0] 40) := ⟨_, rfl⟩
 rw [← hw3] at q1 q2 q3 hB3 hz3 ⊢
 obtain ⟨bs, hbs⟩ : ∃ q, q = w2.heap.size := ⟨_, rfl⟩
 rw [← hbs] at q1 q2 q3 hz3 ⊢
 have HB3 := Lib.hid hB3
 have HZ3 := Lib.hid (show bs + 3 = w3.heap.size ∧ bs = w2.heap.size from ⟨hz3.symm, hbs⟩)
 clear hw3 hB3 hz3 hbs
 obtain ⟨b0, off0, rfl, hcell0⟩ := HCL.out (w3.alloc (.map #[] 0)) (HB3.out.alloc HB3.out.size _) 0 (by omega)
 rw [Nat.add_zero, show ((clsL l r ((0 : Nat) : Int) : Nat) : Int) = cl0 by rw [hcl0]; rfl] at hcell0
 obtain ⟨om, hins, hmap⟩ := (mapF_new encZ w3 0).update (P := Try.prog) (t := 125) (k := 3) (e := 3) keyed3 Try.underlying125 encZ_inj (fun s v h => by cases h) (keyZ hbc) (.int .i64 0)
 have hmi : (0 : Int) < (m : Int) := by omega
 have hcr := HCL.out
 refine wp_seq_k (fun K hK => ?_)
 have HK := Lib.hid hK; clear hK
 have HQ := Lib.hid (And.intro q1 (And.intro q2 (And.intro q3 (And.intro hmap (And.intro hst0 hcl0)))))
 clear q1 q2 q3 hmap hst0 hcl0 hcr
 go_wp2
 refine HK.out _ _ ?_; clear HK
 obtain ⟨w4, hw4⟩ : ∃ q, q = (w3.alloc (.map #[] 0)).putObj w3.heap.size om := ⟨_, rfl⟩
 rw [← hw4]
 have hb34 : Below w3.heap.size w3 w4 := by rw [hw4]; exact below_putObj ((Below.refl _ _).alloc (Nat.le_refl _) _) (Nat.le_refl _)
 obtain ⟨q1, q2, q3, hmap, hst0, hcl0⟩ := HQ.out
 rw [← hw4] at hmap
 obtain ⟨gm, hgm⟩ : ∃ q, q = w3.heap.size := ⟨_, rfl⟩
 rw [← hgm] at hmap ⊢
 have hz4 : w4.heap.size = gm + 1 := by rw [hw4, hgm]; simp
 refine wp_seq_k (fun K hK => ?_)
 have HK := Lib.hid hK; clear hK
 have HQ4 := Lib.hid (And.intro hz4 (And.intro hb34 (And.intro hmap (And.intro (blk_keep q1 hb34) (And.intro (blk_keep q2 hb34) (And.intro (blk_keep q3 hb34) hgm))))))
 clear hw4 hb34 q1 q2 q3 hmap hz4 hgm HQ hins hcell0
 have HST := Lib.hid (And.intro hst0 hcl0)
 clear hst0 hcl0
 go_wp2
 refine HK.out _ _ ?_; clear HK
 obtain ⟨hz4, hb34, hmap, q1, q2, q3, hgm⟩ := HQ4.out
 obtain ⟨w5, hw5⟩ : ∃ q, q = w4.alloc (.cells #[.slice none 0 0, .slice none 0 0] 29) := ⟨_, rfl⟩
 rw [← hw5]
 have hb45 : Below w4.heap.size w4 w5 := by rw [hw5]; exact (Below.refl _ _).alloc (Nat.le_refl _) _
 have q8 : w5.heap[w4.heap.size]? = some (.cells #[.slice none 0 0, .slice none 0 0] 29 (0, 0)) := by rw [hw5]; exact heap_newI rfl
 obtain ⟨g8, hg8⟩ : ∃ q, q = w4.heap.size := ⟨_, rfl⟩
 rw [← hg8] at q8 ⊢
 obtain ⟨hz3, hbs⟩ := HZ3.out
 have hst0 := HST.out.1
 have hB5 : Below bs w2 w5 := by
  rw [hbs]
  exact (HB3.out.trans (hb34.mono (by omega))).trans (hb45.mono (by omega))
 have hT0 : TJ bs g8 gm (fun i => i = bs + 1) w5 (.slice (some ⟨bs, 0, none⟩) 1 1) (.slice (some ⟨bs + 1 + 1, 0, none⟩) 1 1) (.slice none 0 0) (.slice none 0 0) (.slice none 0 0) [0] [] [.slice (some ⟨bs + 1, 0, none⟩) 0 0] [] (wordsW (after (mrgL l r) 0)) (rowsW (mrgL l r) L 0) (goodW (mrgL l r) L 0) (after (mrgL l r) 0).length (Fq (after (mrgL l r) 0)) := {
  o5 := own_blk (xs := [.int .i64 0]) (blk_keep q1 hb45) (Nat.le_refl _) (by simp)
  o6 := own_blk (xs := [.slice (some ⟨bs + 1, 0, none⟩) 0 0]) (blk_keep q3 hb45) (by omega) (by simp)
  o10 := ⟨rfl, .inl ⟨rfl, rfl⟩⟩
  on := ⟨rfl, .inl ⟨rfl, rfl⟩⟩
  og := ⟨rfl, .inl ⟨rfl, rfl⟩⟩
  r6 := Rws.push (Rws.nil _ _) (v := .slice (some ⟨bs + 1, 0, none⟩) 0 0) (l := []) ⟨_, _, rfl, by simp, by simp, fun h => by simp at h⟩ (fun g off n c e => by injection e with e _ _; injection e with e; injection e with e _ _; exact e.symm)
  rn := Rws.nil _ _
  box := q8
  map := (hmap.below hb45).congr fun s => by
   simp only [after, Fq, updF, List.map_cons, List.map_nil, List.mem_singleton, idx, hst0]
   by_cases hs : s = cl0
   ·subst hs; simp
   ·simp [hs]
  zt := fun i hi => by subst hi; exact ⟨by omega, _, blk_keep q2 hb45⟩
  z5 := fun i hi e => by subst hi; have e2 : some bs = some (bs + 1) := e; injection e2 with e2; omega
  z10 := fun i _ e => by cases e
  d5 := fun i _ e => by cases e
  d6 := fun i _ e => by cases e }
 have hR0 : Rep l r [0] (after (mrgL l r) 0) := by
  refine ⟨rfl, fun j h h' => ?_⟩
  have : j = 0 := by simp at h; omega
  subst this
  exact ⟨HOK.out.st0, by show _ = (mrgL l r).start; rw [hst0, HST.out.2]; rfl⟩
 have HT0 := Lib.hid (And.intro hT0 (And.intro hR0 hB5))
 have hgg : bs ≤ g8 ∧ bs ≤ gm := by omega
 clear hT0 hR0 hB5 hb45 hb34 hmap q1 q2 q3 q8 hw5 hz4 hgm HQ4 hg8 hst0 HST hz3 hbs
 have HZ3' := Lib.hid (And.intro HZ3.out.2 HZ2.out)
 clear HZ3 HZ2 HB3
 go_wp2
 go_loopw [5, 6, 9] (fun v5 v6 i wr => ∃ (k : Nat) (Z : Nat → Prop) (vn vg : Value) (xs : List Int) (vs us : List Value) (a5 : Option Addr) (c5 : Nat), k ≤ L.length ∧ i = .int .i64 k ∧ v5 = .slice a5 (after (mrgL l r) k).length c5 ∧ Hid (TJ bs g8 gm Z wr v5 v6 (.slice none 0 0) vn vg xs [] vs us (wordsW (after (mrgL l r) k)) (rowsW (mrgL l r) L k) (goodW (mrgL l r) L k) (after (mrgL l r) k).length (Fq (after (mrgL l r) k)) ∧ Rep l r xs (after (mrgL l r) k) ∧ Below bs w2 wr)) (fun _ _ i _ => L.length - (intOf i).toNat)
 case atStart => exact ⟨0, _, _, _, _, _, _, _, _, Nat.zero_le _, rfl, rfl, HT0⟩
 case round =>
  clear HT0
  obtain ⟨k, Z, vn, vg, xs, vs, us, a5, c5, hk, rfl, rfl, HT1⟩ := hrel
  obtain ⟨wo, rfl⟩ : ∃ q, q = wr := ⟨_, rfl⟩
  obtain ⟨N, hN⟩ : ∃ N, N = (after (mrgL l r) k).length := ⟨_, rfl⟩
  rw [← hN] at HT1 ⊢
  have HN := Lib.hid hN
  clear hN
  by_cases hkn : k < L.length
  ·have hkN : k < N := by rw [HN.out]; exact HL.out.lt hkn
   have hki : (k : Int) < (N : Int) := by omega
   go_wp2
   go_loopw [5, 6, 10, 11] (fun v5 v6 v10 i wr => ∃ (c : Nat) (Z : Nat → Prop) (xs : List Int) (vs : List Value) (a5 : Option Addr) (c5 : Nat), c ≤ kk ∧ i = .int .i64 c ∧ v5 = .slice a5 (curW (mrgL l r) L k c).length c5 ∧ Hid (TJ bs g8 gm Z wr v5 v6 v10 vn vg xs (rowW (mrgL l r) L k c) vs us (wordsW (curW (mrgL l r) L k c)) (rowsW (mrgL l r) L k) (goodW (mrgL l r) L k) (curW (mrgL l r) L k c).length (Fq (curW (mrgL l r) L k c)) ∧ Rep l r xs (curW (mrgL l r) L k c) ∧ Below bs w2 wr)) (fun _ _ _ i _ => kk - (intOf i).toNat)
   case atStart => exact ⟨0, Z, xs, vs, a5, c5, Nat.zero_le _, rfl, by rw [curW_zero, HN.out], Lib.hid (by rw [curW_zero, rowW_zero, ← HN.out]; exact HT1.out)⟩
   case round =>
    clear HT1 HN hkN hki
    obtain ⟨c, Z, xs, vs, a5, c5, hc, rfl, rfl, HT2⟩ := hrel
    obtain ⟨wp, rfl⟩ : ∃ q, q = wr := ⟨_, rfl⟩
    obtain ⟨cur, hcur⟩ : ∃ q, q = curW (mrgL l r) L k c := ⟨_, rfl⟩
    obtain ⟨ro, hro⟩ : ∃ q, q = rowW (mrgL l r) L k c := ⟨_, rfl⟩
    rw [← hcur, ← hro] at HT2
    rw [← hcur]
    obtain ⟨N, hN⟩ : ∃ N, N = cur.length := ⟨_, rfl⟩
    rw [← hN] at HT2 ⊢
    have HN := Lib.hid hN
    have HCU := Lib.hid (And.intro hcur hro)
    clear hN hcur hro
    have H65 := Lib.hid (HK6.out wp (by rw [← HZ3'.out.1]; exact HT2.out.2.2))
    have hbwp : Below w2.heap.size w2 wp := by rw [← HZ3'.out.1]; exact HT2.out.2.2
    have HXp := Lib.hid (blk_keep HX2.out.blk hbwp)
    clear hbwp
    by_cases hck : c < kk
    ·have hci : (c : Int) < (kk : Int) := by omega
     have hckl : c < l.k := by rw [← HKQ.out]; exact hck
     have hkN : k < N ∧ N ≤ L.length := by
      rw [HN.out, HCU.out.1]
      exact curW_len HL.out hkn (by show c ≤ l.k; omega)
     go_wp2_with (first | (refine wpList_load_blk rfl 29 _ rfl _ rfl HXp.out Try.underlying29 rfl size29 rfl ?_) | (go_at_call 65; refine H65.out.mono ?_; rintro e wv ⟨rfl, hbv⟩; refine cutme ?_))
     refine ⟨?_⟩
     obtain ⟨hT2, hR2, hB2⟩ := HT2.out
     have hTv := hT2.quiet hbv
     have hBv : Below bs w2 wv := btr hB2 hbv (Nat.le_of_eq HZ3'.out.1)
     have hBv2 : Below w2.heap.size w2 wv := by rw [← HZ3'.out.1]; exact hBv
     have hxk : k < xs.length := by rw [hR2.1, ← HN.out]; exact hkN.1
     obtain ⟨hstk, hclk⟩ := hR2.2 k hxk (by rw [← HN.out]; exact hkN.1)
     have hLk : cur[k]'(by rw [← HN.out]; exact hkN.1) = L[k] := by
      have h1 := curW_get (c := c) HL.out hkn
      rw [← HCU.out.1, List.getElem?_eq_getElem (by rw [← HN.out]; exact hkN.1)] at h1
      exact Option.some.inj h1
     rw [hLk] at hclk
     obtain ⟨sn, hsn, hsl⟩ := hstk.nat
     have hs5 := slI_own hTv.o5 rfl (by rw [hR2.1, ← HN.out]; omega)
     obtain ⟨ad', cap', e', -, -, hcc⟩ := hs5
     obtain ⟨b5, off5, rfl2, hb5, hcell5⟩ := hcc (by omega)
     injection e' with e1 e2 e3
     rw [rfl2] at e1
     subst e1
     have x5 := hcell5 k hxk
     rw [at0_lt hxk, hsn] at x5
     obtain ⟨b, off, b2, off2, cc2, cap, e4, hb, hcell1, hb2, hcell2⟩ := (HX2.out.below hBv2).ent HOK.out hsl hckl
     rw [← HM.out] at e4
     injection e4 with e4 e5 e6
     subst e4
     obtain ⟨t, ht, htl⟩ := (HOK.out.cl (s := (sn : Int)) ⟨by omega, by omega⟩ hckl).nat
     rw [ht] at hcell2
     rw [← HKQ.out] at hcell1
     have htm : t < m := by rw [HM.out]; exact htl
     have hsm : sn < m := by rw [HM.out]; exact hsl
     have hni : (k : Int) < (N : Int) := by omega
     have hsi : (sn : Int) < (m : Int) := by omega
     obtain ⟨s, hs⟩ : ∃ q, q = ((clsL l r (t : Int) : Nat) : Int) := ⟨_, rfl⟩
     have hnx : (mrgL l r).nx L[k].1 c = s := by
      rw [← hclk, mrgL_nx HOK.out HS.out hstk hckl, hsn, ht, hs]
     have hsb : -1000000 ≤ s ∧ s ≤ 1000000 := by have := clsL_bd l r (t : Int) ⟨by omega, by omega⟩; rw [← HM.out] at this; omega
     have HD5 := Lib.hid (And.intro hb5 x5)
     have HD1 := Lib.hid (And.intro hb hcell1)
     have HD2 := Lib.hid (And.intro hb2 hcell2)
     have HXv := Lib.hid (blk_keep HX2.out.blk hBv2)
     have HTv := Lib.hid (And.intro hTv (And.intro hR2 (And.intro hBv hBv2)))
     have HSS := Lib.hid (And.intro hs (And.intro hnx hsb))
     clear hT2 hR2 hB2 hTv hBv hBv2 hxk hclk hLk hcc hcell5 x5 e2 e3 e5 e6 hb5 hb hcell1 hb2 hcell2 hs hnx hsb rfl2 hstk hsn ht hbv HT2 H65 HXp
     go_wp2
     refine wp_region_x (R := fun U => Below wv.heap.size wv U) (S := fun _ => True) (z := 999) rfl ?_
     change wpAnyX _ _ _ _ _ _ _ _ _ _ wv.drew
     have Hq0 := Lib.hid (show Below wv.heap.size wv wv.drew from (Below.refl _ _).drew)
     obtain ⟨wq0, hwq⟩ : ∃ q, q = wv.drew := ⟨_, rfl⟩
     rw [← hwq] at Hq0 ⊢
     clear hwq
     refine wpAnyX_keep (i := 0) (oi := ⟨some 37, _, _, _, _, none⟩) (v := ?_) rfl (by kernel_rfl) (by kernel_rfl) (by kernel_rfl) (fun _ _ _ h => h) (Or.inl ⟨by rfl, ?_⟩) ⟨(by first | exact Hq4.out | exact Hq3.out | exact Hq2.out | exact Hq1.out | exact Hq0.out), fun _ => trivial⟩ ?_
     rotate_left
     ·intro U hU
      go_simp
      all_goals with_reducible rfl
     simp only [Act.put, List.setIfInBounds_toArray, List.set_cons_zero, List.set_cons_succ]
     refine wpAnyX_keep (i := 1) (oi := ⟨some 38, _, _, _, _, none⟩) (v := ?_) rfl (by kernel_rfl) (by kernel_rfl) (by kernel_rfl) (fun _ _ _ h => h) (Or.inl ⟨by rfl, ?_⟩) ⟨(by first | exact Hq4.out | exact Hq3.out | exact Hq2.out | exact Hq1.out | exact Hq0.out), fun _ => trivial⟩ ?_
     rotate_left
     ·intro U hU
      have u0 := cell_blk (i := 0) (blk_keep HXv.out hU)
      simp only [List.getElem?_toArray, List.getElem?_cons_zero] at u0
      go_simp
      all_goals with_reducible rfl
     simp only [Act.put, List.setIfInBounds_toArray, List.set_cons_zero, List.set_cons_succ]
     refine wpAnyX_keep (i := 2) (oi := ⟨some 39, _, _, _, _, none⟩) (v := ?_) rfl (by kernel_rfl) (by kernel_rfl) (by kernel_rfl) (fun _ _ _ h => h) (Or.inl ⟨by rfl, ?_⟩) ⟨(by first | exact Hq4.out | exact Hq3.out | exact Hq2.out | exact Hq1.out | exact Hq0.out), fun _ => trivial⟩ ?_
     rotate_left
     ·intro U hU
      go_simp
      all_goals with_reducible rfl
     simp only [Act.put, List.setIfInBounds_toArray, List.set_cons_zero, List.set_cons_succ]
     refine wpAnyX_keep (i := 3) (oi := ⟨some 40, _, _, _, _, none⟩) (v := ?_) rfl (by kernel_rfl) (by kernel_rfl) (by kernel_rfl) (fun _ _ _ h => h) (Or.inl ⟨by rfl, ?_⟩) ⟨(by first | exact Hq4.out | exact Hq3.out | exact Hq2.out | exact Hq1.out | exact Hq0.out), fun _ => trivial⟩ ?_
     rotate_left
     ·intro U hU
      go_simp
      all_goals with_reducible rfl
     simp only [Act.put, List.setIfInBounds_toArray, List.set_cons_zero, List.set_cons_succ]
     refine wpAnyX_keep (i := 4) (oi := ⟨some 41, _, _, _, _, none⟩) (v := ?_) rfl (by kernel_rfl) (by kernel_rfl) (by kernel_rfl) (fun _ _ _ h => h) (Or.inl ⟨by rfl, ?_⟩) ⟨(by first | exact Hq4.out | exact Hq3.out | exact Hq2.out | exact Hq1.out | exact Hq0.out), fun _ => trivial⟩ ?_
     rotate_left
     ·intro U hU
      go_simp
      all_goals with_reducible rfl
     simp only [Act.put, List.setIfInBounds_toArray, List.set_cons_zero, List.set_cons_succ]
     refine wpAnyX_keep (i := 5) (oi := ⟨some 42, _, _, _, _, none⟩) (v := ?_) rfl (by kernel_rfl) (by kernel_rfl) (by kernel_rfl) (fun _ _ _ h => h) (Or.inl ⟨by rfl, ?_⟩) ⟨(by first | exact Hq4.out | exact Hq3.out | exact Hq2.out | exact Hq1.out | exact Hq0.out), fun _ => trivial⟩ ?_
     rotate_left
     ·intro U hU
      have u0 := (hU.cell (p := ⟨b5, off5 + k, none⟩) HD5.out.1).trans HD5.out.2
      go_simp
      all_goals with_reducible rfl
     simp only [Act.put, List.setIfInBounds_toArray, List.set_cons_zero, List.set_cons_succ]
     refine wpAnyX_keep (i := 6) (oi := ⟨some 43, _, _, _, _, none⟩) (v := ?_) rfl (by kernel_rfl) (by kernel_rfl) (by kernel_rfl) (fun _ _ _ h => h) (Or.inl ⟨by rfl, ?_⟩) ⟨(by first | exact Hq4.out | exact Hq3.out | exact Hq2.out | exact Hq1.out | exact Hq0.out), fun _ => trivial⟩ ?_
     rotate_left
     ·intro U hU
      go_simp
      all_goals with_reducible rfl
     simp only [Act.put, List.setIfInBounds_toArray, List.set_cons_zero, List.set_cons_succ]
     refine wpAnyX_keep (i := 7) (oi := ⟨some 44, _, _, _, _, none⟩) (v := ?_) rfl (by kernel_rfl) (by kernel_rfl) (by kernel_rfl) (fun _ _ _ h => h) (Or.inl ⟨by rfl, ?_⟩) ⟨(by first | exact Hq4.out | exact Hq3.out | exact Hq2.out | exact Hq1.out | exact Hq0.out), fun _ => trivial⟩ ?_
     rotate_left
     ·intro U hU
      have u0 := (hU.cell (p := ⟨b, off + sn, none⟩) HD1.out.1).trans HD1.out.2
      go_simp
      all_goals with_reducible rfl
     simp only [Act.put, List.setIfInBounds_toArray, List.set_cons_zero, List.set_cons_succ]
     refine wpAnyX_keep (i := 8) (oi := ⟨some 45, _, _, _, _, none⟩) (v := ?_) rfl (by kernel_rfl) (by kernel_rfl) (by kernel_rfl) (fun _ _ _ h => h) (Or.inl ⟨by rfl, ?_⟩) ⟨(by first | exact Hq4.out | exact Hq3.out | exact Hq2.out | exact Hq1.out | exact Hq0.out), fun _ => trivial⟩ ?_
     rotate_left
     ·intro U hU
      go_simp
      all_goals with_reducible rfl
     simp only [Act.put, List.setIfInBounds_toArray, List.set_cons_zero, List.set_cons_succ]
     refine wpAnyX_keep (i := 9) (oi := ⟨some 46, _, _, _, _, none⟩) (v := ?_) rfl (by kernel_rfl) (by kernel_rfl) (by kernel_rfl) (fun _ _ _ h => h) (Or.inl ⟨by rfl, ?_⟩) ⟨(by first | exact Hq4.out | exact Hq3.out | exact Hq2.out | exact Hq1.out | exact Hq0.out), fun _ => trivial⟩ ?_
     rotate_left
     ·intro U hU
      go_simp
      all_goals with_reducible rfl
     simp only [Act.put, List.setIfInBounds_toArray, List.set_cons_zero, List.set_cons_succ]
     refine wpAnyX_keep (i := 10) (oi := ⟨some 47, _, _, _, _, none⟩) (v := ?_) rfl (by kernel_rfl) (by kernel_rfl) (by kernel_rfl) (fun _ _ _ h => h) (Or.inl ⟨by rfl, ?_⟩) ⟨(by first | exact Hq4.out | exact Hq3.out | exact Hq2.out | exact Hq1.out | exact Hq0.out), fun _ => trivial⟩ ?_
     rotate_left
     ·intro U hU
      have u0 := (hU.cell (p := ⟨b2, off2 + c, none⟩) HD2.out.1).trans HD2.out.2
      go_simp
      all_goals with_reducible rfl
     simp only [Act.put, List.setIfInBounds_toArray, List.set_cons_zero, List.set_cons_succ]
     refine wpAnyX_keep (i := 11) (oi := ⟨some 12, _, _, _, _, none⟩) (v := ?_) rfl (by kernel_rfl) (by kernel_rfl) (by kernel_rfl) (fun _ _ _ h => h) (Or.inl ⟨by rfl, ?_⟩) ⟨(by first | exact Hq4.out | exact Hq3.out | exact Hq2.out | exact Hq1.out | exact Hq0.out), fun _ => trivial⟩ ?_
     rotate_left
     ·intro U hU
      go_simp
      all_goals with_reducible rfl
     simp only [Act.put, List.setIfInBounds_toArray, List.set_cons_zero, List.set_cons_succ]
     refine wpAnyX_done (by kernel_rfl) ?_ _
     have hTq := HTv.out.1.quiet Hq0.out
     have hBq := btr HTv.out.2.2.1 Hq0.out (Nat.le_of_eq HZ3'.out.1)
     have hBq2 := btr HTv.out.2.2.2 Hq0.out (Nat.le_refl _)
     have HRq := Lib.hid HTv.out.2.1
     clear HD5 HD1 HD2 HTv HXv Hq0
     have HFB : Hid (∀ cu : List (Int × List Nat), cu <+: L → ∀ s v, Fq cu s = some v → ∃ q, keyOf Try.prog 3 (encZ s) = some q) := Lib.hid fun cu hcu s v h => by
      unfold Fq at h
      by_cases hm : s ∈ cu.map Prod.fst
      ·obtain ⟨p, hp, rfl⟩ := List.mem_map.1 hm
       have hpL := hcu.subset hp
       obtain ⟨u, hu, eu⟩ := mrgL_ind HOK.out L.length p (by rw [HL.out.all]; exact hpL)
       have := clsL_bd l r u hu
       exact keyZ (by rw [← eu]; rw [← HM.out] at this; omega)
      ·rw [if_neg hm] at h; cases h
     have hsub : cur <+: L := by rw [HCU.out.1]; exact curW_sub HL.out hkn (by show c ≤ l.k; omega)
     have hlk := (hTq.map.look (P := Try.prog) (t := 125) (k := 3) (e := 3) keyed3 Try.underlying125 zero3 encZ_inj (HFB.out _ hsub) (keyZ HSS.out.2.2) wq0 rfl).1
     obtain ⟨bp, op, ep, hcellp⟩ := HCL.out wq0 hBq2 t htm
     injection ep with ep
     injection ep with ep1 ep2
     subst ep1 ep2
     rw [← HSS.out.1] at hcellp
     have HSB := Lib.hid hsub
     have hnext := curW_succ (x := mrgL l r) hkn c
     rw [HSS.out.2.1, ← HCU.out.1] at hnext
     clear hsub
     by_cases hin : s ∈ cur.map Prod.fst
     ·rw [if_pos hin] at hnext
      have HNX := Lib.hid hnext
      have HC1 : Hid (s ∈ cur.map Prod.fst ∧ cur <+: L) := Lib.hid ⟨hin, HSB.out⟩
      rw [Fq_in hin] at hlk
      simp only [Option.getD_some, Option.isSome_some, encZ] at hlk
      clear hin hnext
      have hRr := HRq.out
      clear HRq
      obtain ⟨ix, hix⟩ : ∃ q, q = ((idx L s : Nat) : Int) := ⟨_, rfl⟩
      have hlk18 : (Instr.lookup 125 (.map (some gm)) (.int .i64 s) false).run Try.prog wq0 = .ok (.int .i64 ix) wq0 := by
       have := (hTq.map.look (P := Try.prog) (t := 125) (k := 3) (e := 3) keyed3 Try.underlying125 zero3 encZ_inj (HFB.out _ HC1.out.2) (keyZ HSS.out.2.2) wq0 rfl).2
       rw [Fq_in HC1.out.1, ← idx_sub HC1.out.2 HC1.out.1, ← hix] at this
       exact this
      obtain ⟨bq, oq, eq, hcellq⟩ := HCL.out wq0 hBq2 t htm
      injection eq with eq
      injection eq with eq1 eq2
      subst eq1 eq2
      rw [← HSS.out.1] at hcellq
      have HIX := Lib.hid hix
      have HTW := Lib.hid (And.intro hTq (And.intro hRr hBq))
      clear hix
      clear hTq hRr hBq hBq2
      go_wp2_with (at_builtin; refine cutme ?_)
      refine ⟨?_⟩
      obtain ⟨hTW, hRW, hBW⟩ := HTW.out
      have hbsz : bs ≤ wq0.heap.size := by have := hBW.size; have := HZ3'.out.1; omega
      have hTa := hTW.quiet ((Below.refl _ wq0).alloc (Nat.le_refl _) (.cells #[.int .i64 ix] 3))
      have hBa := hBW.alloc hbsz (.cells #[.int .i64 ix] 3)
      have hrl : ro.length ≤ 10000 := by rw [HCU.out.2, rowW_len hkn]; omega
      refine wpList_app rfl (.tmp 82) (.tmp 89) 40 3 rfl Try.underlying40 info3 rfl (by decide) (xs := ro.map (Value.int .i64)) (by rw [List.length_map]; exact hTa.o10) (by rw [List.length_map]; exact hrl) rfl rfl (heap_newI rfl) rfl (by rw [World.size_alloc]; omega) ?_
      intro v10' W10 q10 g10 e10
      rw [List.length_map] at q10
      have hT10 := hTa.app10 q10 g10 e10
      have hB10 : Below bs w2 W10 := ⟨g10.os.trans hBa.os, g10.tape.trans hBa.tape, g10.output.trans hBa.output, Nat.le_trans hBa.size g10.size, fun i hi => (g10.block i (Nat.lt_of_lt_of_le hi (by have := hBa.size; have := HZ3'.out.1; omega)) (fun e => by have := (own_lt hTa.o10 e.symm).1; omega)).trans (hBa.block i hi)⟩
      have hro : ro ++ [ix] = rowW (mrgL l r) L k (c + 1) := by rw [rowW_succ hkn, HSS.out.2.1, HIX.out, HCU.out.2]
      rw [hro] at hT10
      have HT10 := Lib.hid (And.intro hT10 (And.intro hRW hB10))
      clear hTW hRW hBW hTa hBa q10 g10 e10 hT10 hB10 hro hbsz hrl hlk18 hcellq
      go_wp2
      refine ⟨⟨c + 1, Z, xs, vs, some ⟨b5, off5, none⟩, c5, by omega, by go_num, by rw [HNX.out, ← HN.out], Lib.hid (by rw [HNX.out, ← HN.out]; exact HT10.out)⟩, by simp only [intOf]; omega⟩
     ·rw [if_neg hin] at hnext
      rw [Fq_no hin] at hlk
      simp only [Option.getD_none, Option.isSome_none, encZ] at hlk
      obtain ⟨wd, hwd⟩ : ∃ q, q = L[k].2 := ⟨_, rfl⟩
      rw [← hwd] at hnext
      have hwl : wd.length ≤ 2000 := by
       have := after_word (mrgL l r) L.length k (by rw [HL.out.all]; exact hkn)
       simp only [HL.out.all] at this
       rw [hwd]; omega
      obtain ⟨a6, c6, e6, -⟩ := own_form hTq.o6
      have hvl : vs.length = N := by rw [hTq.r6.1]; unfold wordsW; rw [List.length_map, ← HN.out]
      rw [hvl] at e6
      subst e6
      obtain ⟨om, hup, hM6⟩ := hTq.map.update (P := Try.prog) (t := 125) (k := 3) (e := 3) keyed3 Try.underlying125 encZ_inj (HFB.out _ HSB.out) (keyZ HSS.out.2.2) (.int .i64 (N : Nat))
      rw [Fq_no hin, if_neg (by simp)] at hM6
      have hM6' := hM6.congr (G := Fq (cur ++ [(s, wd ++ [c])])) (fun q => by rw [HN.out]; exact Fq_push hin _ q)
      rw [show N + 1 = (cur ++ [(s, wd ++ [c])]).length by simp [HN.out]] at hM6'
      obtain ⟨w6, hw6⟩ : ∃ q, q = wq0.putObj gm om := ⟨_, rfl⟩
      have hT6 := hTq.mapU hM6'
      rw [← hw6] at hup hT6
      have hB6 : Below bs w2 w6 := by rw [hw6]; exact below_putObj hBq hgg.2
      have hB62 : Below w2.heap.size w2 w6 := by rw [← HZ3'.out.1]; exact hB6
      have HT6 := Lib.hid (And.intro hT6 (And.intro hB6 (And.intro hB62 (And.intro hnext (And.intro hwd hvl)))))
      have HIN := Lib.hid hin
      have hni' : (N : Int) ≤ 2000 := by omega
      clear hw6 hM6 hM6' hTq hBq hBq2 hnext hwd hvl hT6 hB6 hB62 hin
      go_wp2_with (at_builtin; refine cutme ?_)
      refine ⟨?_⟩
      obtain ⟨hT6, hB6, hB62, hnext, hwd, hvl⟩ := HT6.out
      have hbs6 : bs ≤ w6.heap.size := by have := hB6.size; have := HZ3'.out.1; omega
      have hTa := hT6.quiet ((Below.refl _ w6).alloc (Nat.le_refl _) (.cells #[.int .i64 (t : Int)] 3))
      have hBa := hB6.alloc hbs6 (.cells #[.int .i64 (t : Int)] 3)
      have hxl : xs.length = N := by rw [HRq.out.1, ← HN.out]
      have hgb : ∀ {X Y : World} {v : Value} {e : TypeId} {n : Nat} {ys : List Value}, Below bs w2 X → X.ownsRow bs e 1 v n ys → X.grownBy Y v.ownBlock → Below bs w2 Y := fun hX ho hg => ⟨hg.os.trans hX.os, hg.tape.trans hX.tape, hg.output.trans hX.output, Nat.le_trans hX.size hg.size, fun i hi => (hg.block i (Nat.lt_of_lt_of_le hi (by have := hX.size; have := HZ3'.out.1; omega)) (fun e => by have := (own_lt ho e.symm).1; omega)).trans (hX.block i hi)⟩
      refine wpList_app rfl (.tmp 66) (.tmp 68) 40 3 rfl Try.underlying40 info3 rfl (by decide) (xs := xs.map (Value.int .i64)) (by rw [List.length_map]; exact hTa.o5) (by rw [List.length_map]; omega) rfl rfl (heap_newI rfl) rfl (by rw [World.size_alloc]; omega) ?_
      intro v5' w7 q5 g5 e5
      rw [List.length_map] at q5
      have hT7 := hTa.app5 q5 g5 e5
      have hB7 := hgb hBa hTa.o5 g5
      have hB72 : Below w2.heap.size w2 w7 := by rw [← HZ3'.out.1]; exact hB7
      have hR7 := HRq.out.push (s := (t : Int)) ⟨by omega, by omega⟩ (wd ++ [c])
      rw [← HSS.out.1] at hR7
      obtain ⟨a5', c5', e5', -⟩ := own_form q5
      rw [hxl] at e5'
      subst e5'
      have hkv : k < vs.length := by omega
      obtain ⟨hsw, hzw⟩ := hT7.r6.2.2 k hkv (by unfold wordsW; rw [List.length_map, ← HN.out]; omega)
      have hword : (wordsW cur)[k]'(by unfold wordsW; rw [List.length_map, ← HN.out]; omega) = nI wd := by
       unfold wordsW
       rw [List.getElem_map]
       have h1 := curW_get (c := c) HL.out hkn
       rw [← HCU.out.1, List.getElem?_eq_getElem (by rw [← HN.out]; omega)] at h1
       rw [Option.some.inj h1, hwd]
      rw [hword] at hsw
      obtain ⟨ay, cy, ey⟩ := slI_form hsw
      obtain ⟨wn, hwn⟩ : ∃ q, q = (nI wd).length := ⟨_, rfl⟩
      rw [← hwn] at ey
      have hs6 := slV_own hT7.o6 rfl (by omega)
      obtain ⟨ad6, cap6, e66, -, -, hcc6⟩ := hs6
      obtain ⟨b6, off6, rfl6, hb6, hcell6⟩ := hcc6 (by omega)
      injection e66 with e1 e2 e3
      rw [rfl6] at e1
      subst e1
      have x6 := hcell6 k hkv
      rw [ey] at x6
      have hni6 : (k : Int) < (N : Int) := by omega
      have x6a := fun o => (((Below.refl w7.heap.size w7).alloc (Nat.le_refl _) o).cell (p := ⟨b6, off6 + k, none⟩) hb6).trans x6
      have HT7 := Lib.hid (And.intro hT7 (And.intro hB7 (And.intro hB72 (And.intro hR7 (And.intro hnext (And.intro hwd hvl))))))
      have HSW := Lib.hid (And.intro hsw (And.intro ey hwn))
      clear hT6 hB6 hB62 hTa hBa hT7 hB7 hB72 hR7 hnext hwd hvl hsw hzw hword e2 e3 rfl6 hcell6 hcc6 q5 g5 e5 hxl hbs6 hup hlk x6 ey hwn hcellp
      go_wp2_with (at_builtin; refine cutme ?_)
      refine ⟨?_⟩
      have hBe : Below w7.heap.size w7 (w7.alloc (.cells #[] 3)) := (Below.refl _ _).alloc (Nat.le_refl _) _
      obtain ⟨w7a, hw7a⟩ : ∃ q, q = w7.alloc (.cells #[] 3) := ⟨_, rfl⟩
      have hge : w7a.heap[w7.heap.size]? = some (.cells #[] 3 (0, 0)) := by rw [hw7a]; exact heap_newI rfl
      rw [← hw7a] at hBe
      simp only [← hw7a]
      have hwnl : wn ≤ 2000 := by rw [HSW.out.2.2, List.length_map]; exact hwl
      refine wpList_copy rfl (.tmp 71) (.tmp 75) rfl (W := w7) (xs := nI wd) (HSW.out.1.below hBe (Nat.le_refl _)) (by rw [List.length_map]; omega) rfl (by rw [HSW.out.2.1]; rfl) hge hBe (Nat.le_refl _) ?_
      intro v8 w8 q8 hB8
      have HQ8 := Lib.hid (And.intro q8 hB8)
      clear q8 hge hw7a hBe x6a
      go_wp2_with (at_builtin; refine cutme ?_)
      refine ⟨?_⟩
      obtain ⟨q8, hB8⟩ := HQ8.out
      refine wpList_push rfl (.tmp 76) (.tmp 78) rfl (W := w7) (xs := nI wd) (i := (c : Int)) (own_alloc q8 _) (by rw [List.length_map]; omega) rfl rfl (heap_newI rfl) (hB8.alloc hB8.size _) ?_
      intro v9 w9 q9 hB9
      obtain ⟨g9, c9, rfl⟩ := own_formI q9 (by omega)
      have HQ9 := Lib.hid (And.intro q9 hB9)
      obtain ⟨wn9, hwn9⟩ : ∃ q, q = (nI wd).length + 1 := ⟨_, rfl⟩
      rw [← hwn9]
      have HWN9 := Lib.hid hwn9
      clear q9 hB9 q8 hB8 HQ8 hwn9
      go_wp2_with (at_builtin; refine cutme ?_)
      refine ⟨?_⟩
      obtain ⟨q9, hB9⟩ := HQ9.out
      rw [← HWN9.out] at q9
      obtain ⟨hT7, hB7, hB72, hR7, hnext, hwd, hvl⟩ := HT7.out
      obtain ⟨hg9a, hg9b, cur9, hg9c⟩ := own_lt q9 (g := g9) rfl
      have hbs7 : bs ≤ w7.heap.size := by have := hB7.size; have := HZ3'.out.1; omega
      have hT9 := (hT7.quiet hB9).addZ (p := g9) (by omega) hg9c (fun e => by have := (own_lt hT7.o5 e).2.1; omega) (fun e => by have := (own_lt hT7.o10 e).2.1; omega)
      have hsl9 : SlI w9 (.slice (some ⟨g9, 0, none⟩) wn9 c9) (nI wd ++ [(c : Int)]) := slI_own q9 (by rw [HWN9.out]; simp) (by simp; omega)
      have hTa := hT9.quiet ((Below.refl _ w9).alloc (Nat.le_refl _) (.cells #[.slice (some ⟨g9, 0, none⟩) wn9 c9] 40))
      have hB9' : Below bs w2 w9 := btr hB7 hB9 (Nat.le_of_eq HZ3'.out.1)
      have hbs9 : bs ≤ w9.heap.size := by have := hB9.size; omega
      have hBa := hB9'.alloc hbs9 (.cells #[.slice (some ⟨g9, 0, none⟩) wn9 c9] 40)
      have hgb : ∀ {X Y : World} {v : Value} {e : TypeId} {n : Nat} {ys : List Value}, Below bs w2 X → X.ownsRow bs e 1 v n ys → X.grownBy Y v.ownBlock → Below bs w2 Y := fun hX ho hg => ⟨hg.os.trans hX.os, hg.tape.trans hX.tape, hg.output.trans hX.output, Nat.le_trans hX.size hg.size, fun i hi => (hg.block i (Nat.lt_of_lt_of_le hi (by have := hX.size; have := HZ3'.out.1; omega)) (fun e => by have := (own_lt ho e.symm).1; omega)).trans (hX.block i hi)⟩
      refine wpList_app rfl (.tmp 70) (.tmp 80) 22 40 rfl Try.underlying22 info40 rfl (by decide) (xs := vs) hTa.o6 (by omega) rfl rfl (heap_newI rfl) rfl (by rw [World.size_alloc]; omega) ?_
      intro v6' w10 q10 g10 e10
      have hT10 := hTa.app6 (l := nI wd ++ [(c : Int)]) q10 g10 e10 (hsl9.below ((Below.refl _ w9).alloc (Nat.le_refl _) _) (Nat.le_refl _)) (fun g off n c e => .inr (by injection e with e _ _; injection e with e; injection e with e _ _; exact e.symm))
      have hB10 := hgb hBa hTa.o6 g10
      have hB102 : Below w2.heap.size w2 w10 := by rw [← HZ3'.out.1]; exact hB10
      have hws : wordsW cur ++ [nI wd ++ [(c : Int)]] = wordsW (cur ++ [(s, wd ++ [c])]) := by rw [wordsW_push]; simp [nI]
      rw [hws] at hT10
      obtain ⟨cu, hcu⟩ : ∃ q, q = cur ++ [(s, wd ++ [c])] := ⟨_, rfl⟩
      rw [← hcu] at hT10 hR7 hnext
      have HNX := Lib.hid hnext
      have HC1 : Hid (s ∈ cu.map Prod.fst ∧ cu <+: L) := Lib.hid ⟨by rw [hcu]; simp, by rw [← hnext]; exact curW_sub HL.out hkn (by show c + 1 ≤ l.k; omega)⟩
      have HCUL : Hid (cu.length = N + 1) := Lib.hid (by rw [hcu]; simp [HN.out])
      clear hws hnext hwd hvl hT7 hB7 hB72 hT9 hsl9 hTa hBa hB9 hB9' hbs9 hbs7 q9 hg9a hg9b hg9c q10 g10 e10 hcu HT7 HQ9 HSW HT6 HIN HSB HRq hni' hni6
      obtain ⟨ix, hix⟩ : ∃ q, q = ((idx L s : Nat) : Int) := ⟨_, rfl⟩
      have hlk18 : (Instr.lookup 125 (.map (some gm)) (.int .i64 s) false).run Try.prog w10 = .ok (.int .i64 ix) w10 := by
       have := (hT10.map.look (P := Try.prog) (t := 125) (k := 3) (e := 3) keyed3 Try.underlying125 zero3 encZ_inj (HFB.out _ HC1.out.2) (keyZ HSS.out.2.2) w10 rfl).2
       rw [Fq_in HC1.out.1, ← idx_sub HC1.out.2 HC1.out.1, ← hix] at this
       exact this
      obtain ⟨bq, oq, eq, hcellq⟩ := HCL.out w10 hB102 t htm
      injection eq with eq
      injection eq with eq1 eq2
      subst eq1 eq2
      rw [← HSS.out.1] at hcellq
      have HIX := Lib.hid hix
      have HTW := Lib.hid (And.intro hT10 (And.intro hR7 hB10))
      clear hix
      clear hT10 hR7 hB10 hB102
      go_wp2_with (at_builtin; refine cutme ?_)
      refine ⟨?_⟩
      obtain ⟨hTW, hRW, hBW⟩ := HTW.out
      have hbsz : bs ≤ w10.heap.size := by have := hBW.size; have := HZ3'.out.1; omega
      have hTa := hTW.quiet ((Below.refl _ w10).alloc (Nat.le_refl _) (.cells #[.int .i64 ix] 3))
      have hBa := hBW.alloc hbsz (.cells #[.int .i64 ix] 3)
      have hrl : ro.length ≤ 10000 := by rw [HCU.out.2, rowW_len hkn]; omega
      refine wpList_app rfl (.tmp 82) (.tmp 89) 40 3 rfl Try.underlying40 info3 rfl (by decide) (xs := ro.map (Value.int .i64)) (by rw [List.length_map]; exact hTa.o10) (by rw [List.length_map]; exact hrl) rfl rfl (heap_newI rfl) rfl (by rw [World.size_alloc]; omega) ?_
      intro v10' W10 q10 g10 e10
      rw [List.length_map] at q10
      have hT10 := hTa.app10 q10 g10 e10
      have hB10 : Below bs w2 W10 := ⟨g10.os.trans hBa.os, g10.tape.trans hBa.tape, g10.output.trans hBa.output, Nat.le_trans hBa.size g10.size, fun i hi => (g10.block i (Nat.lt_of_lt_of_le hi (by have := hBa.size; have := HZ3'.out.1; omega)) (fun e => by have := (own_lt hTa.o10 e.symm).1; omega)).trans (hBa.block i hi)⟩
      have hro : ro ++ [ix] = rowW (mrgL l r) L k (c + 1) := by rw [rowW_succ hkn, HSS.out.2.1, HIX.out, HCU.out.2]
      rw [hro] at hT10
      have HT10 := Lib.hid (And.intro hT10 (And.intro hRW hB10))
      clear hTW hRW hBW hTa hBa q10 g10 e10 hT10 hB10 hro hbsz hrl hlk18 hcellq
      go_wp2
      refine ⟨⟨c + 1, _, _, _, a5', c5', by omega, by go_num, by rw [HNX.out, HCUL.out], Lib.hid (by rw [HNX.out]; exact HT10.out)⟩, by simp only [intOf]; omega⟩
    ·have hci : ¬ (c : Int) < (kk : Int) := by omega
     have HCE : Hid (c = (mrgL l r).k) := Lib.hid (by show c = l.k; have := HKQ.out; omega)
     go_wp2_with (first | (refine wpList_load_blk rfl 29 _ rfl _ rfl HXp.out Try.underlying29 rfl size29 rfl ?_) | (go_at_call 65; refine H65.out.mono ?_; rintro e wv ⟨rfl, hbv⟩; refine cutme ?_))
     refine ⟨?_⟩
     obtain ⟨hT2, hR2, hB2⟩ := HT2.out
     have hTv := hT2.quiet hbv
     have hBv : Below bs w2 wv := btr hB2 hbv (Nat.le_of_eq HZ3'.out.1)
     obtain ⟨a10, c10, e10, -⟩ := own_form hTv.o10
     have hrk : ro.length = kk := by rw [HCU.out.2, rowW_len hkn]; have := HCE.out; have := HKQ.out; show c = kk; omega
     rw [hrk] at e10
     subst e10
     obtain ⟨an', cn', en', -⟩ := own_form hTv.on
     have hul : us.length = k := by rw [hTv.rn.1]; simp [rowsW]
     rw [hul] at en'
     subst en'
     have y8 := cell_blk (i := 0) hTv.box
     simp only [List.getElem?_toArray, List.getElem?_cons_zero] at y8
     have HTv := Lib.hid (And.intro hTv (And.intro hR2 (And.intro hBv (And.intro hrk hul))))
     clear hT2 hR2 hB2 hTv hBv hrk hul hbv HT2 H65 HXp
     go_wp2_with (at_builtin; refine cutme ?_)
     refine ⟨?_⟩
     obtain ⟨hTv, hRv, hBv, hrk, hul⟩ := HTv.out
     have hbsz : bs ≤ wv.heap.size := by have := hBv.size; have := HZ3'.out.1; omega
     have hTa := hTv.quiet ((Below.refl _ wv).alloc (Nat.le_refl _) (.cells #[.slice a10 kk c10] 40))
     have hBa := hBv.alloc hbsz (.cells #[.slice a10 kk c10] 40)
     have hgb : ∀ {X Y : World} {v : Value} {e : TypeId} {n : Nat} {ys : List Value}, Below bs w2 X → X.ownsRow bs e 1 v n ys → X.grownBy Y v.ownBlock → Below bs w2 Y := fun hX ho hg => ⟨hg.os.trans hX.os, hg.tape.trans hX.tape, hg.output.trans hX.output, Nat.le_trans hX.size hg.size, fun i hi => (hg.block i (Nat.lt_of_lt_of_le hi (by have := hX.size; have := HZ3'.out.1; omega)) (fun e => by have := (own_lt ho e.symm).1; omega)).trans (hX.block i hi)⟩
     refine wpList_app rfl (.tmp 92) (.tmp 94) 22 40 rfl Try.underlying22 info40 rfl (by decide) (xs := us) hTa.on (by omega) rfl rfl (heap_newI rfl) rfl (by rw [World.size_alloc]; omega) ?_
     intro vn' w19 q19 g19 e19
     obtain ⟨an2, cn2, en2, -⟩ := own_form q19
     rw [hul] at en2
     subst en2
     have hB19 := hgb hBa hTa.on g19
     have hTR := hTa.row (by omega) q19 g19 e19
     have hb19 : w19.heap[g8]? = some (.cells #[.slice an' k cn', vg] 29 (0, 0)) := (g19.block g8 (lt_blk hTa.box) (fun e => by have := own_ty hTa.on e.symm hTa.box; cases this)).trans hTa.box
     have hbsg : bs ≤ g8 := hgg.1
     have hB20 : Below bs w2 (w19.setCell ⟨g8, 0, none⟩ (.slice an2 (k + 1) cn2)) := hB19.setCell (p := ⟨g8, 0, none⟩) hbsg _
     have z8 := cell_blk (i := 0) hb19
     have f8 := free_blk (i := 0) hb19
     simp only [List.getElem?_toArray, List.getElem?_cons_zero] at z8
     have hrr : rowsW (mrgL l r) L k ++ [ro] = rowsW (mrgL l r) L (k + 1) := by rw [rowsW_succ, HCU.out.2, HCE.out]
     have hcu : cur = after (mrgL l r) (k + 1) := by rw [HCU.out.1, HCE.out]; exact curW_all HL.out hkn
     rw [hrr] at hTR
     obtain ⟨w20, hw20⟩ : ∃ q, q = w19.setCell ⟨g8, 0, none⟩ (.slice an2 (k + 1) cn2) := ⟨_, rfl⟩
     rw [← hw20] at hTR hB20
     have HTR := Lib.hid (And.intro hTR (And.intro hRv (And.intro hB20 (And.intro hcu hw20))))
     clear hTv hRv hBv hrk hul hTa hBa hgb q19 g19 e19 hB19 hTR hb19 hB20 hrr hcu hw20 HTv y8
     go_wp2
     rw [← HTR.out.2.2.2.2]
     obtain ⟨hTR, hRv, hB20, hcu, -⟩ := HTR.out
     have hB202 : Below w2.heap.size w2 w20 := by rw [← HZ3'.out.1]; exact hB20
     obtain ⟨ag2, cg2, eg2, -⟩ := own_form hTR.og
     have hgl : (goodW (mrgL l r) L k).length = k := goodW_len (by omega)
     rw [hgl] at eg2
     subst eg2
     have hkN : k < N ∧ N ≤ L.length := by
      rw [HN.out, HCU.out.1]
      exact curW_len HL.out hkn (by rw [HCE.out]; exact Nat.le_refl _)
     have hxk : k < xs.length := by rw [hRv.1, ← HN.out]; exact hkN.1
     obtain ⟨hstk, hclk⟩ := hRv.2 k hxk (by rw [← HN.out]; exact hkN.1)
     have hLk : cur[k]'(by rw [← HN.out]; exact hkN.1) = L[k] := by
      have h1 := curW_get (c := c) HL.out hkn
      rw [← HCU.out.1, List.getElem?_eq_getElem (by rw [← HN.out]; exact hkN.1)] at h1
      exact Option.some.inj h1
     rw [hLk] at hclk
     obtain ⟨sn, hsn, hsl⟩ := hstk.nat
     have hs5 := slI_own hTR.o5 rfl (by rw [hRv.1, ← HN.out]; omega)
     obtain ⟨ad', cap', e', -, -, hcc⟩ := hs5
     obtain ⟨b5, off5, rfl2, hb5, hcell5⟩ := hcc (by omega)
     injection e' with e1 e2 e3
     rw [rfl2] at e1
     subst e1
     have x5 := hcell5 k hxk
     rw [at0_lt hxk, hsn] at x5
     obtain ⟨bg, og, cgq, egq, hbg, hcg⟩ := HX2.out.gdF HOK.out hsl
     rw [← HM.out] at egq
     injection egq with egq eg3 eg4
     subst egq
     obtain ⟨gd, hgd⟩ : ∃ q, q = l.good (sn : Int) := ⟨_, rfl⟩
     rw [← hgd] at hcg
     have hgx : (mrgL l r).gd L[k].1 = gd := by rw [← hclk, mrgL_gd hstk, hsn, hgd]
     have x6 := (hB202.cell (p := ⟨bg, og + sn, none⟩) hbg).trans hcg
     have hni : (k : Int) < (N : Int) := by omega
     have hsm : sn < m := by rw [HM.out]; exact hsl
     have hsi : (sn : Int) < (m : Int) := by omega
     have hvb : ∀ i {cs : Array Value} {t : TypeId} {fr : Nat × Nat}, w20.heap[i]? = some (.cells cs t fr) → t ≠ 4 → (Value.slice ag2 k cg2).ownBlock ≠ some i := fun i cs t fr hc ht e => ht (own_ty hTR.og e hc)
     have hv5 : (Value.slice ag2 k cg2).ownBlock ≠ some b5 := by
      obtain ⟨_, _, cur5, h5⟩ := own_lt hTR.o5 (g := b5) rfl
      exact hvb b5 h5 (by decide)
     have hv6 : (Value.slice ag2 k cg2).ownBlock ≠ some bg := fun e => by have := (own_lt hTR.og e).1; have := HZ3'.out.1; omega
     have hv8 : (Value.slice ag2 k cg2).ownBlock ≠ some g8 := hvb g8 hTR.box (by decide)
     have hXB := blk_keep HX2.out.blk hB202
     have hv1 : (Value.slice ag2 k cg2).ownBlock ≠ some g := fun e => by have := (own_lt hTR.og e).1; have := HZ3'.out; have := lt_blk HX2.out.blk; have := HGW.out; omega
     have HV := Lib.hid (And.intro hv5 (And.intro hv6 (And.intro hv8 hv1)))
     have HXX := Lib.hid (And.intro x5 (And.intro x6 (And.intro hTR.box hXB)))
     have HLT := Lib.hid (And.intro hb5 (And.intro (Nat.lt_of_lt_of_le hbg hB202.size) (And.intro (lt_blk hTR.box) (lt_blk hXB))))
     have HTQ := Lib.hid (And.intro hTR (And.intro hRv (And.intro hB20 (And.intro hcu (And.intro hgx hgl)))))
     clear hTR hRv hB20 hcu hB202 hgl hLk hclk hcc hcell5 x5 e2 e3 eg3 eg4 hbg hcg hgx x6 hvb hv5 hv6 hv8 hv1 hXB hsn hstk hb5 rfl2 hgd HTR z8 f8
     refine wp_region_x (R := fun _ => True) (S := fun U => w20.heap.size ≤ U.heap.size ∧ ∀ i, i < w20.heap.size → (Value.slice ag2 k cg2).ownBlock ≠ some i → U.heap[i]? = w20.heap[i]?) (z := 13) rfl ?_
     change wpAnyX _ _ _ _ _ _ _ _ _ _ w20.drew
     have hSq : w20.heap.size ≤ w20.drew.heap.size ∧ ∀ i, i < w20.heap.size → (Value.slice ag2 k cg2).ownBlock ≠ some i → w20.drew.heap[i]? = w20.heap[i]? := ⟨Nat.le_refl _, fun _ _ _ => rfl⟩
     have hBd : Below w20.heap.size w20 w20.drew := (Below.refl _ _).drew
     obtain ⟨wq, hwq⟩ : ∃ q, q = w20.drew := ⟨_, rfl⟩
     rw [← hwq] at hSq hBd ⊢
     clear hwq
     refine wpAnyX_keep (i := 0) (oi := ⟨some 97, _, _, _, _, none⟩) (v := ?_) rfl (by kernel_rfl) (by kernel_rfl) (by kernel_rfl) (fun _ _ _ h => h) (Or.inl ⟨by rfl, ?_⟩) ⟨trivial, fun _ => hSq⟩ ?_
     rotate_left
     ·intro U hU
      go_simp
      all_goals with_reducible rfl
     simp only [Act.put, List.setIfInBounds_toArray, List.set_cons_zero, List.set_cons_succ]
     refine wpAnyX_take (i := 1) (oi := ⟨some 98, _, _, _, _, none⟩) (v := ?_) rfl (by kernel_rfl) (by kernel_rfl) (by kernel_rfl) (fun _ _ _ h => h) (Or.inl ⟨by rfl, ?_⟩) ⟨trivial, fun _ => hSq⟩ ?_
     rotate_left
     ·intro U hU
      have u0 := cell_blk (i := 1) ((hU.2.2 g8 HLT.out.2.2.1 HV.out.2.2.1).trans HXX.out.2.2.1)
      simp only [List.getElem?_toArray, List.getElem?_cons_zero, List.getElem?_cons_succ] at u0
      go_simp
      all_goals with_reducible rfl
     simp only [Act.put, List.setIfInBounds_toArray, List.set_cons_zero, List.set_cons_succ]
     refine wpAnyX_keep (i := 2) (oi := ⟨some 99, _, _, _, _, none⟩) (v := ?_) rfl (by kernel_rfl) (by kernel_rfl) (by kernel_rfl) (fun _ _ _ h => h) (Or.inl ⟨by rfl, ?_⟩) ⟨trivial, fun _ => hSq⟩ ?_
     rotate_left
     ·intro U hU
      go_simp
      all_goals with_reducible rfl
     simp only [Act.put, List.setIfInBounds_toArray, List.set_cons_zero, List.set_cons_succ]
     refine wpAnyX_take (i := 3) (oi := ⟨some 100, _, _, _, _, none⟩) (v := ?_) rfl (by kernel_rfl) (by kernel_rfl) (by kernel_rfl) (fun _ _ _ h => h) (Or.inl ⟨by rfl, ?_⟩) ⟨trivial, fun _ => hSq⟩ ?_
     rotate_left
     ·intro U hU
      have u0 := cell_blk (i := 1) ((hU.2.2 g HLT.out.2.2.2 HV.out.2.2.2).trans HXX.out.2.2.2)
      simp only [List.getElem?_toArray, List.getElem?_cons_zero, List.getElem?_cons_succ] at u0
      go_simp
      all_goals with_reducible rfl
     simp only [Act.put, List.setIfInBounds_toArray, List.set_cons_zero, List.set_cons_succ]
     refine wpAnyX_keep (i := 4) (oi := ⟨some 101, _, _, _, _, none⟩) (v := ?_) rfl (by kernel_rfl) (by kernel_rfl) (by kernel_rfl) (fun _ _ _ h => h) (Or.inl ⟨by rfl, ?_⟩) ⟨trivial, fun _ => hSq⟩ ?_
     rotate_left
     ·intro U hU
      go_simp
      all_goals with_reducible rfl
     simp only [Act.put, List.setIfInBounds_toArray, List.set_cons_zero, List.set_cons_succ]
     refine wpAnyX_keep (i := 5) (oi := ⟨some 102, _, _, _, _, none⟩) (v := ?_) rfl (by kernel_rfl) (by kernel_rfl) (by kernel_rfl) (fun _ _ _ h => h) (Or.inl ⟨by rfl, ?_⟩) ⟨trivial, fun _ => hSq⟩ ?_
     rotate_left
     ·intro U hU
      go_simp
      all_goals with_reducible rfl
     simp only [Act.put, List.setIfInBounds_toArray, List.set_cons_zero, List.set_cons_succ]
     refine wpAnyX_keep (i := 6) (oi := ⟨some 103, _, _, _, _, none⟩) (v := ?_) rfl (by kernel_rfl) (by kernel_rfl) (by kernel_rfl) (fun _ _ _ h => h) (Or.inl ⟨by rfl, ?_⟩) ⟨trivial, fun _ => hSq⟩ ?_
     rotate_left
     ·intro U hU
      go_simp
      all_goals with_reducible rfl
     simp only [Act.put, List.setIfInBounds_toArray, List.set_cons_zero, List.set_cons_succ]
     refine wpAnyX_take (i := 7) (oi := ⟨some 104, _, _, _, _, none⟩) (v := ?_) rfl (by kernel_rfl) (by kernel_rfl) (by kernel_rfl) (fun _ _ _ h => h) (Or.inl ⟨by rfl, ?_⟩) ⟨trivial, fun _ => hSq⟩ ?_
     rotate_left
     ·intro U hU
      have u0 := (World.cell?_of_block (w := w20) (w' := U) (a := ⟨b5, off5 + k, none⟩) (hU.2.2 b5 HLT.out.1 HV.out.1)).trans HXX.out.1
      go_simp
      all_goals with_reducible rfl
     simp only [Act.put, List.setIfInBounds_toArray, List.set_cons_zero, List.set_cons_succ]
     refine wpAnyX_keep (i := 8) (oi := ⟨some 105, _, _, _, _, none⟩) (v := ?_) rfl (by kernel_rfl) (by kernel_rfl) (by kernel_rfl) (fun _ _ _ h => h) (Or.inl ⟨by rfl, ?_⟩) ⟨trivial, fun _ => hSq⟩ ?_
     rotate_left
     ·intro U hU
      go_simp
      all_goals with_reducible rfl
     simp only [Act.put, List.setIfInBounds_toArray, List.set_cons_zero, List.set_cons_succ]
     refine wpAnyX_take (i := 9) (oi := ⟨some 106, _, _, _, _, none⟩) (v := ?_) rfl (by kernel_rfl) (by kernel_rfl) (by kernel_rfl) (fun _ _ _ h => h) (Or.inl ⟨by rfl, ?_⟩) ⟨trivial, fun _ => hSq⟩ ?_
     rotate_left
     ·intro U hU
      have u0 := (World.cell?_of_block (w := w20) (w' := U) (a := ⟨bg, og + sn, none⟩) (hU.2.2 bg HLT.out.2.1 HV.out.2.1)).trans HXX.out.2.1
      go_simp
      all_goals with_reducible rfl
     simp only [Act.put, List.setIfInBounds_toArray, List.set_cons_zero, List.set_cons_succ]
     refine wpAnyX_one (i := 10) (o := ⟨some 107, _, _, _, _, none⟩) (by kernel_rfl) rfl (by rfl) (fun K1 hK1 => ?_)
     have HK1 := Lib.hid hK1; clear hK1
     have hK1 := HK1.out
     clear HK1
     go_simp
     obtain ⟨wr1, hwr1⟩ : ∃ q, q = wq.alloc (.cells #[.bool gd] 4) := ⟨_, rfl⟩
     rw [← hwr1]
     have hBr : Below w20.heap.size w20 wr1 := by rw [hwr1]; exact hBd.alloc hBd.size _
     have hgr : wr1.heap[wq.heap.size]? = some (.cells #[.bool gd] 4 (0, 0)) := by rw [hwr1]; exact heap_newI rfl
     have hSr : w20.heap.size ≤ wr1.heap.size ∧ ∀ i, i < w20.heap.size → (Value.slice ag2 k cg2).ownBlock ≠ some i → wr1.heap[i]? = w20.heap[i]? := ⟨hBr.size, fun i hi _ => hBr.block i hi⟩
     clear hwr1
     refine hK1 _ _ ⟨trivial, fun _ => hSr⟩ ?_
     clear hK1
     try simp only [Act.put, List.setIfInBounds_toArray, List.set_cons_zero, List.set_cons_succ]
     refine wpAnyX_one (i := 11) (o := ⟨some 108, _, _, _, _, none⟩) (by kernel_rfl) rfl (by rfl) (fun K1 hK1 => ?_)
     have HK1 := Lib.hid hK1; clear hK1
     obtain ⟨hTR, hRv, hB20, hcu, hgx, hgl⟩ := HTQ.out
     have hTr := hTR.quiet hBr
     have hbsr : bs ≤ wr1.heap.size := by have := hB20.size; have := hBr.size; have := HZ3'.out.1; omega
     refine oper_app (.tmp 98) (.tmp 107) 23 4 rfl Try.underlying23 info4 rfl (by decide) (xs := (goodW (mrgL l r) L k).map Value.bool) (by rw [List.length_map]; exact hTr.og) (by rw [List.length_map, hgl]; omega) rfl rfl hgr rfl hbsr ?_
     intro vg' w21 q21 g21 e21
     rw [List.length_map] at q21
     obtain ⟨ag3, cg3, eg3, -⟩ := own_form q21
     rw [hgl] at eg3
     subst eg3
     have hS21 : w20.heap.size ≤ w21.heap.size ∧ ∀ i, i < w20.heap.size → (Value.slice ag2 k cg2).ownBlock ≠ some i → w21.heap[i]? = w20.heap[i]? := ⟨Nat.le_trans hBr.size g21.size, fun i hi hne => (g21.block i (Nat.lt_of_lt_of_le hi hBr.size) (fun e => hne e.symm)).trans (hBr.block i hi)⟩
     refine HK1.out _ _ ⟨trivial, fun _ => hS21⟩ ?_
     clear HK1
     try simp only [Act.put, List.setIfInBounds_toArray, List.set_cons_zero, List.set_cons_succ]
     refine wpAnyX_keep (i := 12) (oi := ⟨some 109, _, _, _, _, none⟩) (v := ?_) rfl (by kernel_rfl) (by kernel_rfl) (by kernel_rfl) (fun _ _ _ h => h) (Or.inl ⟨by rfl, ?_⟩) ⟨trivial, fun _ => hS21⟩ ?_
     rotate_left
     ·intro U hU
      go_simp
      all_goals with_reducible rfl
     simp only [Act.put, List.setIfInBounds_toArray, List.set_cons_zero, List.set_cons_succ]
     refine wpAnyX_one (i := 13) (o := ⟨none, _, _, _, _, none⟩) (by kernel_rfl) rfl (by rfl) (fun K1 hK1 => ?_)
     have HK1 := Lib.hid hK1; clear hK1
     have hb21 := (hS21.2 g8 HLT.out.2.2.1 HV.out.2.2.1).trans HXX.out.2.2.1
     have y8 := cell_blk (i := 1) hb21
     have f8 := free_blk (i := 1) hb21
     simp only [List.getElem?_toArray, List.getElem?_cons_zero, List.getElem?_cons_succ] at y8
     go_simp
     have hTG := hTr.good q21 g21
     rw [← hgx, ← goodW_succ hkn] at hTG
     have hB21 : Below bs w2 w21 := ⟨g21.os.trans (hBr.os.trans hB20.os), g21.tape.trans (hBr.tape.trans hB20.tape), g21.output.trans (hBr.output.trans hB20.output), Nat.le_trans (Nat.le_trans hB20.size hBr.size) g21.size, fun i hi => (g21.block i (Nat.lt_of_lt_of_le hi (by have := hB20.size; have := hBr.size; have := HZ3'.out.1; omega)) (fun e => by have := (own_lt hTr.og e.symm).1; omega)).trans ((hBr.block i (Nat.lt_of_lt_of_le hi (by have := hB20.size; have := HZ3'.out.1; omega))).trans (hB20.block i hi))⟩
     have hB22 : Below bs w2 (w21.setCell ⟨g8, 1, none⟩ (.slice ag3 (k + 1) cg3)) := hB21.setCell (p := ⟨g8, 1, none⟩) hgg.1 _
     refine HK1.out _ _ ⟨trivial, fun h => by simp at h⟩ ?_
     clear HK1
     try simp only [Act.put, List.setIfInBounds_toArray, List.set_cons_zero, List.set_cons_succ]
     refine wpAnyX_done (by kernel_rfl) ?_ _
     have HFF := Lib.hid (And.intro hTG (And.intro hRv (And.intro hB22 hcu)))
     have hNe : N = (after (mrgL l r) (k + 1)).length := by rw [HN.out, hcu]
     have HNE := Lib.hid hNe
     clear hNe hTG hRv hB22 hcu hB21 hb21 y8 f8 hTr hTR hB20 hgx hgl hbsr q21 g21 e21 hS21 hBr hgr hSr hBd hSq
     go_wp2
     obtain ⟨hTG, hRv, hB22, hcu⟩ := HFF.out
     obtain ⟨v5x, hv5x⟩ : ∃ q, q = Value.slice (some ⟨b5, off5, none⟩) N c5 := ⟨_, rfl⟩
     rw [hcu] at hTG hRv
     rw [← hv5x] at hTG
     rw [HNE.out] at hTG
     rw [hv5x] at hTG
     exact ⟨⟨k + 1, _, _, _, xs, vs, _, _, _, by omega, by go_num, by rw [HNE.out], Lib.hid ⟨hTG, hRv, hB22⟩⟩, by simp only [intOf]; omega⟩
  ·have HKE : Hid (k = L.length) := Lib.hid (by omega)
   have hall : after (mrgL l r) k = L := by rw [HKE.out]; exact HL.out.all
   have hNL : N = L.length := by rw [HN.out, hall]
   have hki : ¬ (k : Int) < (N : Int) := by omega
   obtain ⟨hT1, hR1, hB1⟩ := HT1.out
   rw [hall] at hT1
   obtain ⟨a6, c6, e6, -⟩ := own_form hT1.o6
   obtain ⟨an', cn', en', -⟩ := own_form hT1.on
   obtain ⟨ag', cg', eg', -⟩ := own_form hT1.og
   subst e6 en' eg'
   have hbx := hT1.box
   have h2 : g2 < bs := by have := HGW.out; have := HZ3'.out; omega
   have hg2 : wo.heap[g2]? = some (.cells #[.slice none 0 0, .slice none 0 0] 29 (0, 0)) := (hB1.block g2 h2).trans HC2'.out
   have HTF := Lib.hid (And.intro hT1 (And.intro hB1 hNL))
   have HBX := Lib.hid hbx
   have HG2 := Lib.hid hg2
   clear hT1 hR1 hB1 hall hNL hbx hg2 HT1 HN
   go_wp2_with (first | (refine wpList_load_blk rfl 29 (.tmp 8) rfl _ rfl HBX.out Try.underlying29 rfl size29 rfl ?_) | (refine wpList_store_blk rfl 29 _ _ rfl _ rfl rfl HG2.out size29 rfl rfl (by simp [Value.oneCell']) ?_))
   obtain ⟨hT1, hB1, hNL⟩ := HTF.out
   obtain ⟨hz1, hz2, hz3, hz4⟩ := HGW.out
   obtain ⟨hz5, hz6⟩ := HZ3'.out
   have hwz := hB1.size
   refine bodyPost_ret (results_agg_tmp rfl _ _ g2 rfl (World.putObj_heap_same (lt_blk HG2.out)) Try.underlying29 rfl size29 rfl) rfl ⟨_, _, _, rfl, ?_, ?_⟩
   ·refine below_putObj ?_ (by omega)
    refine HBw.out.trans (?_ : Below g w2 wo)
    exact (show Below bs w2 wo from hB1).mono (by omega)
   ·rw [HT.out]
    intro W' hs hk
    have hT2 := hT1.same (W' := W') (B := bs) ⟨Nat.le_refl _, hgg.1, hgg.2⟩ (by rw [← World.putObj_size]; exact hs) (fun i hi hi' => (hk i (by omega) (by rw [World.putObj_size]; exact hi')).trans (World.putObj_heap_other (by omega)))
    have hrl : us.length = k := by rw [hT1.rn.1]; simp [rowsW]
    refine ⟨?_, ?_, ?_⟩
    ·have h := hT2.rn.slII hT2.on (by omega)
     rw [HKE.out, rowsW_all] at h
     exact h
    ·have h := slV_own hT2.og (by simp) (by rw [List.length_map, goodW_len (by omega)]; omega)
     rw [HKE.out, goodW_all] at h
     simpa [HKE.out, goodW_all] using h
    ·have h := hT2.r6.slII hT2.o6 (by rw [hT1.r6.1]; unfold wordsW; rw [List.length_map]; omega)
     have e : wordsW L = (tabOf (mrgL l r) L).st.map nI := by unfold wordsW tabOf; simp
     rw [e] at h
     exact h
end Ytnjgglnpmhjmiaa
end Go.Proofs

