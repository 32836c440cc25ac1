/- Laws of rotation: the reference: Not. -/
import Derived.Test.YtnjgglnpmhjmiaaRu
import Derived.Test.YtnjgglnpmhjmiaaA6
open Go Go.RowKit Go.YtnjgglnpmhjmiaaIt
open Rest
namespace Go.Proofs
namespace Ytnjgglnpmhjmiaa
theorem below_ow2 {bs : Nat} {w2 X Y : World} {v : Value} {e : TypeId} {n : Nat} {ys : List Value} (hb : bs = w2.heap.size) (hX : Below bs w2 X) (ho : X.ownsRow bs e 1 v n ys) (hg : X.grownBy Y v.ownBlock) : Below bs w2 Y :=
  ⟨hg.os.trans hX.os, hg.tape.trans hX.tape, hg.output.trans hX.output, Nat.le_trans hX.size hg.size, fun i hi => (hg.block i (Nat.lt_of_lt_of_le hi (by have := hX.size; omega)) (fun e => by have := (own_lt ho e.symm).1; omega)).trans (hX.block i hi)⟩
/-- A law whose goods are laid one by one. -/
structure GJ (base g8 : Nat) (W : World) (vn vg : Value) (gs : List Bool) : Prop where
  og : W.ownsRow base 4 1 vg gs.length (gs.map Value.bool)
  box : W.heap[g8]? = some (.cells #[vn, vg] 29 (0, 0))
theorem GJ.below {base g8 : Nat} {W W' : World} {vn vg : Value} {gs : List Bool} (h : GJ base g8 W vn vg gs) (hb : Below W.heap.size W W') : GJ base g8 W' vn vg gs := ⟨row_below h.og hb, blk_keep h.box hb⟩
theorem GJ.push {base g8 : Nat} {W W1 W2 : World} {vn vg vg' : Value} {gs : List Bool} {b : Bool} (h : GJ base g8 W vn vg gs) (hb1 : Below W.heap.size W W1) (q : W2.ownsRow base 4 1 vg' (gs.length + 1) (gs.map Value.bool ++ [.bool b])) (g : W1.grownBy W2 vg.ownBlock) :
    GJ base g8 (W2.setCell ⟨g8, 1, none⟩ vg') vn vg' (gs ++ [b]) ∧ W2.heap[g8]? = some (.cells #[vn, vg] 29 (0, 0)) := by
  have h1 := h.below hb1
  have hb8 : W2.heap[g8]? = some (.cells #[vn, vg] 29 (0, 0)) := (g.block g8 (lt_blk h1.box) (fun e => by have := own_ty h1.og e.symm h1.box; cases this)).trans h1.box
  refine ⟨⟨?_, ?_⟩, hb8⟩
  · rw [List.length_append, List.map_append]
    refine own_same q fun i hi => heap_set_other (fun e3 => ?_)
    obtain ⟨_, _, cur, hc⟩ := own_lt q hi
    rw [e3, hb8] at hc
    injection hc with hc
    injection hc with _ hc _
    cases hc
  · rw [heap_set_blk hb8]; rfl
set_option maxRecDepth 100000 in
set_option maxHeartbeats 4000000 in
theorem rnot_any {v : Value} {l : Lw} {w : World} (h : LawA w v l) : Calls Try.prog 44 #[v] w fun e w' => ∃ vn vg, e = .returned (.tuple #[.agg #[vn, vg], .int .i64 (chkL l)]) ∧ LawA w' (.agg #[vn, vg]) (resL (notL l) (chkL l)) ∧ Below w.heap.size w w' := by
  obtain ⟨vn, vg, rfl, hn, hg⟩ := h
  have hX0 := LawA.box (⟨_, _, rfl, hn, hg⟩ : LawA w (.agg #[vn, vg]) l) 29
  obtain ⟨c1, c2, hB1, hz1⟩ := blkE2 (w := w) (a := .cells #[vn, vg] 29) (b := .cells #[.slice none 0 0, .slice none 0 0] 29) rfl
  have hX := hX0.below ((Below.refl _ _).alloc (Nat.le_refl _) (.cells #[.slice none 0 0, .slice none 0 0] 29))
  obtain ⟨w1, hw1⟩ : ∃ q, q = (w.alloc (.cells #[vn, vg] 29)).alloc (.cells #[.slice none 0 0, .slice none 0 0] 29) := ⟨_, rfl⟩
  obtain ⟨g, hgw⟩ : ∃ q, q = w.heap.size := ⟨_, rfl⟩
  obtain ⟨g2, hg2⟩ : ∃ q, q = g + 1 := ⟨_, rfl⟩
  have HW := Lib.hid (And.intro hw1 (And.intro hgw hg2))
  rw [← hw1] at hX hB1 c2 hz1
  rw [← hgw] at hX hB1 c2 hz1
  rw [← hg2] at c2
  have HX := Lib.hid hX
  have HC2 := Lib.hid c2
  have HB1 := Lib.hid hB1
  have HGW := Lib.hid (show g + 2 = w1.heap.size ∧ g2 = g + 1 from ⟨hz1.symm, hg2⟩)
  have H53 := Lib.hid (rcheck_any HX.out.law)
  obtain ⟨E, hE⟩ : ∃ E, E = chkL l := ⟨_, rfl⟩
  rw [← hE] at H53 ⊢
  have HE := Lib.hid hE
  clear hn hg hX hX0 hB1 hw1 hgw hg2 c1 c2 hz1 hE
  go_enter Try.func44, Try.ntmps44
  refine wp_seq_k (fun K hK => ?_)
  have HK := Lib.hid hK; clear hK
  go_wp2
  refine HK.out _ _ ?_; clear HK
  rw [← HW.out.1, ← HW.out.2.1, ← HW.out.2.2]
  refine wp_seq_k (fun K hK => ?_)
  have HK := Lib.hid hK; clear hK
  go_wp2_with (first | (refine wpList_load_blk rfl 29 _ rfl _ rfl HX.out.blk Try.underlying29 rfl size29 rfl ?_) | (go_at_call 53; refine H53.out.mono ?_; rintro e w2 ⟨rfl, hb2⟩; have HB2 := Lib.hid hb2; clear hb2))
  refine HK.out _ _ ?_; clear HK
  have HC3 := Lib.hid (blk_keep HC2.out HB2.out)
  by_cases h0 : E = 0
  case neg =>
    have hb0 : (E != 0) = true := by simpa using h0
    go_wp2_with (refine wpList_store_blk rfl 29 _ _ rfl _ rfl rfl HC3.out size29 rfl rfl (by simp [Value.oneCell']) ?_)
    refine bodyPost_ret (results_agg_tmp rfl _ _ g2 rfl (World.putObj_heap_same (lt_blk HC3.out)) Try.underlying29 rfl size29 rfl) rfl ⟨_, _, rfl, ?_, ?_⟩
    · unfold resL; rw [if_neg h0]; exact lawA_nil _
    · have := HGW.out
      exact below_putObj (HB1.out.trans (HB2.out.mono (by omega))) (by omega)
  subst h0
  have HOK := Lib.hid (chkL_ok (l := l) HE.out.symm)
  have hX2 := HX.out.below HB2.out
  obtain ⟨m, hm⟩ : ∃ m, m = l.nx.length := ⟨_, rfl⟩
  have hgl : l.gd.length = m := by rw [hm]; exact HOK.out.gd
  have hm40 : m ≤ 40 := by rw [hm]; exact HOK.out.n40
  obtain ⟨ag, cg, rfl, -⟩ := id hX2.gd
  obtain ⟨an, cn, rfl, -⟩ := slII_form hX2.nx
  have HM := Lib.hid (And.intro hm hgl)
  rw [List.length_map, hgl, ← hm] at hX2 ⊢
  have HX2 := Lib.hid hX2
  have x1 := cell_blk (i := 0) hX2.blk
  simp only [List.getElem?_toArray, List.getElem?_cons_zero] at x1
  clear hm hgl hX2
  have hb0 : ((0 : Int) != 0) = false := rfl
  refine wp_seq_k (fun K hK => ?_)
  have HK := Lib.hid hK; clear hK
  go_wp2
  refine HK.out _ _ ?_; clear HK
  refine wp_seq_k (fun K hK => ?_)
  have HK := Lib.hid hK; clear hK
  go_wp2_with (refine wpList_store_blk rfl 29 _ _ rfl _ rfl rfl (heap_newI rfl) size29 rfl rfl (by simp [Value.oneCell']) ?_)
  refine HK.out _ _ ?_; clear HK
  obtain ⟨w3, hw3⟩ : ∃ q, q = (w2.alloc (.cells #[.slice none 0 0, .slice none 0 0] 29)).putObj w2.heap.size (.cells #[.slice an m cn, .slice none 0 0] 29) := ⟨_, rfl⟩
  have hb3 : Below w2.heap.size w2 w3 := by rw [hw3]; exact below_putObj ((Below.refl _ _).alloc (Nat.le_refl _) _) (Nat.le_refl _)
  have c5 : w3.heap[w2.heap.size]? = some (.cells #[.slice an m cn, .slice none 0 0] 29 (0, 0)) := by rw [hw3]; exact World.putObj_heap_same (by rw [World.size_alloc]; exact Nat.lt_succ_self _)
  rw [← hw3]
  obtain ⟨g5, hg5⟩ : ∃ q, q = w2.heap.size := ⟨_, rfl⟩
  rw [← hg5] at c5 ⊢
  obtain ⟨bs, hbs⟩ : ∃ q, q = w2.heap.size := ⟨_, rfl⟩
  rw [← hbs] at hb3
  have HBS := Lib.hid hbs
  have hbsg : bs ≤ g5 := by rw [hg5, hbs]; exact Nat.le_refl _
  have HX3 := Lib.hid (show ∀ W, Below bs w2 W → LawX W g 29 l (.slice an m cn) (.slice ag m cg) from fun W hW => by rw [hbs] at hW; exact HX2.out.below hW)
  have HJ0 := Lib.hid (And.intro (⟨⟨rfl, .inl ⟨rfl, rfl⟩⟩, c5⟩ : GJ bs g5 w3 (.slice an m cn) (.slice none 0 0) []) hb3)
  clear hw3 hb3 c5 hg5 hbs x1
  refine wp_seq_k (fun K hK => ?_)
  have HK := Lib.hid hK; clear hK
  go_wp2
  go_loopw [6] (fun i wr => ∃ (s : Nat) (vg' : Value), s ≤ m ∧ i = .int .i64 s ∧ Hid (GJ bs g5 wr (.slice an m cn) vg' ((l.gd.take s).map (!·)) ∧ Below bs w2 wr)) (fun i _ => m - (intOf i).toNat)
  case atStart => exact ⟨0, _, Nat.zero_le _, rfl, HJ0⟩
  case round =>
    clear HJ0
    obtain ⟨s, vg', hs, rfl, HJ1⟩ := hrel
    obtain ⟨wv, rfl⟩ : ∃ q, q = wr := ⟨_, rfl⟩
    have HXv := Lib.hid (HX3.out wv HJ1.out.2)
    have xg := cell_blk (i := 1) HXv.out.blk
    simp only [List.getElem?_toArray, List.getElem?_cons_zero, List.getElem?_cons_succ] at xg
    by_cases hsn : s < m
    · have hsi : (s : Int) < (m : Int) := by omega
      obtain ⟨bg, og, cg', hq, hbg, hcg⟩ := HX2.out.gdF HOK.out.fit (show s < l.nx.length by rw [← HM.out.1]; exact hsn)
      rw [← HM.out.1] at hq
      injection hq with h1 _ h3
      subst h1 h3
      obtain ⟨d, hd⟩ : ∃ d, d = l.good (s : Int) := ⟨_, rfl⟩
      rw [← hd] at hcg
      obtain ⟨GS, hGS⟩ : ∃ q, q = (l.gd.take s).map (!·) := ⟨_, rfl⟩
      rw [← hGS] at HJ1
      have hgl : GS.length = s := by rw [hGS, List.length_map, List.length_take, HM.out.2]; omega
      have hstep : GS ++ [!d] = (l.gd.take (s + 1)).map (!·) := by
        have hsl : s < l.gd.length := by rw [HM.out.2]; exact hsn
        rw [hGS, List.take_succ_eq_append_getElem hsl, List.map_append, hd]
        unfold Lw.good
        simp [List.getD_eq_getElem?_getD, List.getElem?_eq_getElem hsl]
      obtain ⟨a', c', e', -⟩ := own_form HJ1.out.1.og
      rw [hgl] at e'
      subst e'
      have HSTEP := Lib.hid (And.intro hstep hgl)
      have HG := Lib.hid (And.intro (show bg < bs by rw [HBS.out]; exact hbg) hcg)
      clear hGS hd hstep hgl hbg hcg
      go_wp2
      refine wp_region_x (R := fun U => Below bs w2 U) (S := fun U => U.heap[g5]? = some (.cells #[.slice an m cn, .slice a' s c'] 29 (0, 0))) (z := 11) rfl ?_
      change wpAnyX _ _ _ _ _ _ _ _ _ _ wv.drew
      have Hq0 := Lib.hid (show Below wv.heap.size wv wv.drew from (Below.refl _ _).drew)
      obtain ⟨wq0, hwq⟩ : ∃ q, q = wv.drew := ⟨_, rfl⟩
      rw [← hwq] at Hq0 ⊢
      clear hwq
      have hR0 := btr HJ1.out.2 Hq0.out (Nat.le_of_eq HBS.out)
      have hS0 := blk_keep HJ1.out.1.box Hq0.out
      refine wpAnyX_keep (i := 0) (oi := { dst := some 25, op := _, type := _, pos := _, after := _, guard := none }) (v := ?_) rfl (by kernel_rfl) (by kernel_rfl) (by kernel_rfl) (fun _ _ _ h => h) (Or.inl ⟨by rfl, ?_⟩) ⟨(by first | exact hR2 | exact hR1 | exact hR0), fun _ => (by first | exact hS2 | exact hS1 | exact hS0)⟩ ?_
      rotate_left
      · intro U hU
        go_simp
        all_goals with_reducible rfl
      simp only [Act.put, List.setIfInBounds_toArray, List.set_cons_zero, List.set_cons_succ]
      refine wpAnyX_take (i := 1) (oi := { dst := some 26, op := _, type := _, pos := _, after := _, guard := none }) (v := ?_) rfl (by kernel_rfl) (by kernel_rfl) (by kernel_rfl) (fun _ _ _ h => h) (Or.inl ⟨by rfl, ?_⟩) ⟨(by first | exact hR2 | exact hR1 | exact hR0), fun _ => (by first | exact hS2 | exact hS1 | exact hS0)⟩ ?_
      rotate_left
      · intro U hU
        have u0 := cell_blk (i := 1) hU.2
        simp only [List.getElem?_toArray, List.getElem?_cons_zero, List.getElem?_cons_succ] at u0
        go_simp
        all_goals with_reducible rfl
      simp only [Act.put, List.setIfInBounds_toArray, List.set_cons_zero, List.set_cons_succ]
      refine wpAnyX_keep (i := 2) (oi := { dst := some 27, op := _, type := _, pos := _, after := _, guard := none }) (v := ?_) rfl (by kernel_rfl) (by kernel_rfl) (by kernel_rfl) (fun _ _ _ h => h) (Or.inl ⟨by rfl, ?_⟩) ⟨(by first | exact hR2 | exact hR1 | exact hR0), fun _ => (by first | exact hS2 | exact hS1 | exact hS0)⟩ ?_
      rotate_left
      · intro U hU
        go_simp
        all_goals with_reducible rfl
      simp only [Act.put, List.setIfInBounds_toArray, List.set_cons_zero, List.set_cons_succ]
      refine wpAnyX_keep (i := 3) (oi := { dst := some 28, op := _, type := _, pos := _, after := _, guard := none }) (v := ?_) rfl (by kernel_rfl) (by kernel_rfl) (by kernel_rfl) (fun _ _ _ h => h) (Or.inl ⟨by rfl, ?_⟩) ⟨(by first | exact hR2 | exact hR1 | exact hR0), fun _ => (by first | exact hS2 | exact hS1 | exact hS0)⟩ ?_
      rotate_left
      · intro U hU
        have u0 := cell_blk (i := 1) (HX3.out U hU).blk
        simp only [List.getElem?_toArray, List.getElem?_cons_zero, List.getElem?_cons_succ] at u0
        go_simp
        all_goals with_reducible rfl
      simp only [Act.put, List.setIfInBounds_toArray, List.set_cons_zero, List.set_cons_succ]
      refine wpAnyX_keep (i := 4) (oi := { dst := some 29, op := _, type := _, pos := _, after := _, guard := none }) (v := ?_) rfl (by kernel_rfl) (by kernel_rfl) (by kernel_rfl) (fun _ _ _ h => h) (Or.inl ⟨by rfl, ?_⟩) ⟨(by first | exact hR2 | exact hR1 | exact hR0), fun _ => (by first | exact hS2 | exact hS1 | exact hS0)⟩ ?_
      rotate_left
      · intro U hU
        go_simp
        all_goals with_reducible rfl
      simp only [Act.put, List.setIfInBounds_toArray, List.set_cons_zero, List.set_cons_succ]
      refine wpAnyX_keep (i := 5) (oi := { dst := some 30, op := _, type := _, pos := _, after := _, guard := none }) (v := ?_) rfl (by kernel_rfl) (by kernel_rfl) (by kernel_rfl) (fun _ _ _ h => h) (Or.inl ⟨by rfl, ?_⟩) ⟨(by first | exact hR2 | exact hR1 | exact hR0), fun _ => (by first | exact hS2 | exact hS1 | exact hS0)⟩ ?_
      rotate_left
      · intro U hU
        go_simp
        all_goals with_reducible rfl
      simp only [Act.put, List.setIfInBounds_toArray, List.set_cons_zero, List.set_cons_succ]
      refine wpAnyX_keep (i := 6) (oi := { dst := some 31, op := _, type := _, pos := _, after := _, guard := none }) (v := ?_) rfl (by kernel_rfl) (by kernel_rfl) (by kernel_rfl) (fun _ _ _ h => h) (Or.inl ⟨by rfl, ?_⟩) ⟨(by first | exact hR2 | exact hR1 | exact hR0), fun _ => (by first | exact hS2 | exact hS1 | exact hS0)⟩ ?_
      rotate_left
      · intro U hU
        have u0 := (hU.cell (p := ⟨bg, og + s, none⟩) HG.out.1).trans HG.out.2
        go_simp
        all_goals with_reducible rfl
      simp only [Act.put, List.setIfInBounds_toArray, List.set_cons_zero, List.set_cons_succ]
      refine wpAnyX_keep (i := 7) (oi := { dst := some 32, op := _, type := _, pos := _, after := _, guard := none }) (v := ?_) rfl (by kernel_rfl) (by kernel_rfl) (by kernel_rfl) (fun _ _ _ h => h) (Or.inl ⟨by rfl, ?_⟩) ⟨(by first | exact hR2 | exact hR1 | exact hR0), fun _ => (by first | exact hS2 | exact hS1 | exact hS0)⟩ ?_
      rotate_left
      · intro U hU
        go_simp
        all_goals with_reducible rfl
      simp only [Act.put, List.setIfInBounds_toArray, List.set_cons_zero, List.set_cons_succ]
      refine wpAnyX_one (i := 8) (o := { dst := some 33, op := _, type := _, pos := _, after := _, guard := none }) (by kernel_rfl) rfl (by rfl) (fun K1 hK1 => ?_)
      have HK1 := Lib.hid hK1; clear hK1
      have hRa := Hq0.out.alloc Hq0.out.size (.cells #[.bool (!d)] 4)
      have hR1 := btr HJ1.out.2 hRa (Nat.le_of_eq HBS.out)
      have hS1 := blk_keep HJ1.out.1.box hRa
      go_simp
      refine HK1.out _ _ ⟨hR1, fun _ => hS1⟩ ?_
      clear HK1
      try simp only [Act.put, List.setIfInBounds_toArray, List.set_cons_zero, List.set_cons_succ]
      refine wpAnyX_one (i := 9) (o := { dst := some 34, op := _, type := _, pos := _, after := _, guard := none }) (by kernel_rfl) rfl (by rfl) (fun K1 hK1 => ?_)
      have HK1 := Lib.hid hK1; clear hK1
      have hbz := hR1.size
      rw [← HBS.out] at hbz
      refine oper_app (.tmp 26) (.tmp 33) 23 4 rfl Try.underlying23 info4 rfl (by decide) (xs := GS.map Value.bool) (by rw [List.length_map]; exact (HJ1.out.1.below hRa).og) (by rw [List.length_map, HSTEP.out.2]; omega) rfl rfl (heap_newI rfl) rfl hbz ?_
      intro v' w9 q9 gr9 e9
      rw [List.length_map] at q9
      obtain ⟨hJ9, hS2⟩ := HJ1.out.1.push hRa q9 gr9
      have hR2 := below_ow2 HBS.out hR1 (HJ1.out.1.below hRa).og gr9
      obtain ⟨a9, c9, rfl, -⟩ := own_form q9
      rw [HSTEP.out.2] at hJ9
      rw [HSTEP.out.1] at hJ9
      rw [HSTEP.out.2]
      have hR3 := hR2.setCell (p := ⟨g5, 1, none⟩) hbsg (.slice a9 (s + 1) c9)
      have HJ9 := Lib.hid (And.intro hJ9 hR3)
      refine HK1.out _ _ ⟨hR2, fun _ => hS2⟩ ?_
      clear HK1 hbz q9 gr9 e9 hJ9 hRa
      try simp only [Act.put, List.setIfInBounds_toArray, List.set_cons_zero, List.set_cons_succ]
      refine wpAnyX_keep (i := 10) (oi := { dst := some 35, op := _, type := _, pos := _, after := _, guard := none }) (v := ?_) rfl (by kernel_rfl) (by kernel_rfl) (by kernel_rfl) (fun _ _ _ h => h) (Or.inl ⟨by rfl, ?_⟩) ⟨(by first | exact hR2 | exact hR1 | exact hR0), fun _ => (by first | exact hS2 | exact hS1 | exact hS0)⟩ ?_
      rotate_left
      · intro U hU
        go_simp
        all_goals with_reducible rfl
      simp only [Act.put, List.setIfInBounds_toArray, List.set_cons_zero, List.set_cons_succ]
      have y1 := cell_blk (i := 1) hS2
      have f1 := free_blk (i := 1) hS2
      simp only [List.getElem?_toArray, List.getElem?_cons_zero, List.getElem?_cons_succ] at y1
      refine wpAnyX_one (i := 11) (o := { dst := none, op := _, type := _, pos := _, after := _, guard := none }) (by kernel_rfl) rfl (by rfl) (fun K1 hK1 => ?_)
      have HK1 := Lib.hid hK1; clear hK1
      go_simp
      refine HK1.out _ _ ⟨hR3, fun h => by simp at h⟩ ?_
      clear HK1 K1
      try simp only [Act.put, List.setIfInBounds_toArray, List.set_cons_zero, List.set_cons_succ]
      refine wpAnyX_done (by kernel_rfl) ?_ _
      clear y1 f1 hS2 hS1 hS0 hR0 hR1 hR2 hR3
      go_wp2
      exact ⟨⟨s + 1, _, by omega, by go_num, HJ9⟩, by simp only [intOf]; omega⟩
    · have hsi : ¬ (s : Int) < (m : Int) := by omega
      have hse : s = m := by omega
      obtain ⟨hJ, hB⟩ := HJ1.out
      have htk : l.gd.take s = l.gd := by rw [hse, ← HM.out.2, List.take_length]
      rw [htk] at hJ
      have hX : LawX wv g5 29 (flipL l) (.slice an m cn) vg' := ⟨hJ.box, HXv.out.nx, slV_own hJ.og (by simp [flipL]) (by rw [List.length_map]; show (l.gd.map (!·)).length ≤ _; rw [List.length_map, HM.out.2]; omega)⟩
      have h60 := rtable_any hX.law (flip_ok HOK.out).fit
      rw [flip_k, flip_fut HOK.out] at h60
      have H60 := Lib.hid h60
      have HXB := Lib.hid hX.blk
      have HB := Lib.hid hB
      have HC := Lib.hid ((hB.block g2 (by have := HGW.out; have := HBS.out; have := HB2.out.size; omega)).trans HC3.out)
      clear hJ hB hX h60 HJ1 htk hse
      go_wp2
      refine HK.out _ _ ?_; clear HK
      refine wp_seq_k (fun K hK => ?_)
      have HK := Lib.hid hK; clear hK
      go_wp2_with (first | (refine wpList_load_blk rfl 29 (.tmp 5) rfl _ rfl HXB.out Try.underlying29 rfl size29 rfl ?_) | (go_at_call 60; refine H60.out.mono ?_; rintro e w5 ⟨tn, tg, ts, rfl, hb3, hT⟩; have HT := Lib.hid hT; have HB3 := Lib.hid hb3; have HTL := Lib.hid (hT.law (Nat.le_refl _) fun _ _ _ => rfl); clear hb3 hT) | (refine wpList_store_blk rfl 29 _ _ rfl _ rfl rfl (heap_newI rfl) size29 rfl rfl HTL.out.one ?_))
      refine HK.out _ _ ?_; clear HK
      generalize hw4 : World.putObj _ _ _ = w4
      obtain ⟨hx4, hb4⟩ := storedT HTL.out hw4
      obtain ⟨g7, hg7⟩ : ∃ g, g = w5.heap.size := ⟨_, rfl⟩
      rw [← hg7] at hx4 ⊢
      have HX4 := Lib.hid hx4
      have HB4 := Lib.hid hb4
      have HC4 := Lib.hid (blk_keep (blk_keep HC.out HB3.out) hb4)
      clear hx4 hb4 hw4 hg7
      go_wp2_with (first | (refine wpList_load_blk rfl 29 (.tmp 7) rfl _ rfl HX4.out.blk Try.underlying29 rfl size29 rfl ?_) | (refine wpList_store_blk rfl 29 _ _ rfl _ rfl rfl HC4.out size29 rfl rfl HX4.out.law.one ?_))
      refine bodyPost_ret (results_agg_tmp rfl _ _ g2 rfl (World.putObj_heap_same (lt_blk HC4.out)) Try.underlying29 rfl size29 rfl) rfl ⟨_, _, rfl, ?_, ?_⟩
      · have hs4 := HB4.out.size
        refine HT.out.law (by rw [World.putObj_size]; exact hs4) (fun i hi hi' => ?_)
        have h1 := HGW.out
        have h2 := HBS.out
        have h3 := HB2.out.size
        have h4 := HB.out.size
        rw [World.putObj_heap_other (by omega)]
        exact HB4.out.block i hi'
      · have h1 := HGW.out
        have h2 := HBS.out
        have h3 := HB2.out.size
        have h4 := HB.out.size
        have h5 := HB3.out.size
        have h6 : Below g w wv := (HB1.out.trans (HB2.out.mono (by omega))).trans (HB.out.mono (by omega))
        exact below_putObj ((h6.trans (HB3.out.mono (by omega))).trans (HB4.out.mono (by omega))) (by omega)
end Ytnjgglnpmhjmiaa
end Go.Proofs
