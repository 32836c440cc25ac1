/- The reference: Dispatch. -/
import Derived.Test.YteijenefhoconaaRefGd
import Derived.Test.YteijenefhoconaaWords
open Go Go.RowKit Go.YteijenefhoconaaIt
namespace Go.Proofs
namespace Yteijenefhoconaa
/-- An ask is let go just if it is among the good moves. -/
theorem ask_good {L : List Int} {us : List Tn} (he : lineE L us = 0) {m : Int} (h0 : 0 ≤ m) (h1 : m.toNat < us.length) :
    (moveE L (tos us) (pos us) m = 0 ∧ safeB L (tos us) (moveS L (tos us) (pos us) m) = true) ↔ gdT L us m.toNat = true := by
  have h5 := (vt_of he).t5
  have hb : btw 0 m ((us.length : Int) - 1) = true := by simp [btw]; omega
  unfold gdT
  constructor
  · rintro ⟨e1, e2⟩
    obtain ⟨_, _, g2, g3⟩ := moveE_zero h5 e1
    rw [moveS_eq h5 e1] at e2
    rw [g3]
    unfold safeT
    rw [tos_movT]
    simpa using e2
  · intro h
    rw [Bool.and_eq_true] at h
    have hne := (poss_way h5 h1 h.1).1
    have e1 : moveE L (tos us) (pos us) m = 0 := by rw [moveE_eq h5, if_pos hb, if_neg hne, h.1]; rfl
    refine ⟨e1, ?_⟩
    rw [moveS_eq h5 e1]
    have := h.2
    unfold safeT at this
    rwa [tos_movT] at this
theorem mem_gd {L : List Int} {us : List Tn} {m : Int} (h0 : 0 ≤ m) (h1 : m.toNat < us.length) : (gdN L us us.length).any (· == m) = gdT L us m.toNat := by
  rw [Bool.eq_iff_iff]
  simp only [gdN, List.any_eq_true, List.mem_map, List.mem_filter, List.mem_range, beq_iff_eq]
  constructor
  · rintro ⟨x, ⟨i, ⟨hi, hg⟩, rfl⟩, rfl⟩
    simpa using hg
  · intro hg
    exact ⟨m, ⟨m.toNat, ⟨h1, hg⟩, by omega⟩, rfl⟩
def anyN (g : List Int) (m : Int) (k : Nat) : Bool := (g.take k).any (· == m)
theorem anyN_succ {g : List Int} {m : Int} {k : Nat} (h : k < g.length) : anyN g m (k + 1) = (anyN g m k || at0 g k == m) := by
  unfold anyN
  rw [List.take_succ_eq_append_getElem h, List.any_append, at0_lt h]
  simp
/-- A slice that reads as trains; its block is one of the reference's trains. -/
def SlT8 (W : World) (v : Value) (ts : List Tn) : Prop := SlT W v ts ∧ ∀ ad n cap, v = .slice (some ad) n cap → ∃ cs fr, W.heap[ad.block]? = some (.cells cs 81 fr)
theorem SlT8.below {w w' : World} {v : Value} {ts : List Tn} (h : SlT8 w v ts) (hb : Below w.heap.size w w') : SlT8 w' v ts :=
  ⟨h.1.below hb (Nat.le_refl _), fun ad n cap hv => by obtain ⟨cs, fr, h1⟩ := h.2 ad n cap hv; exact ⟨cs, fr, blk_below h1 hb (lt_blk h1)⟩⟩
theorem SlT8.grown {W w1 : World} {base : Nat} {e : TypeId} {sz : Nat} {v x : Value} {n : Nat} {xs : List Value} {o : Obj} {ts : List Tn} (h : SlT8 W x ts) (ho : W.ownsRow base e sz v n xs) (hg : (W.alloc o).grownBy w1 v.ownBlock) (he : e ≠ 81) : SlT8 w1 x ts := by
  obtain ⟨h1, h2, -⟩ := grown_same ho hg
  obtain ⟨⟨ad, cap, rfl, hm, hc⟩, ht⟩ := h
  have hk : ∀ a, ad = some a → w1.heap[a.block]? = W.heap[a.block]? := fun a ha => by
    subst ha
    obtain ⟨cs, fr, hh⟩ := ht a _ _ rfl
    exact h1 _ (lt_blk hh) (own_ne ho hh (Ne.symm he))
  refine ⟨⟨ad, cap, rfl, hm, fun h0 => ?_⟩, fun a n c hv => ?_⟩
  · obtain ⟨b, off, rfl, hlt, hcell⟩ := hc h0
    have hb := hk ⟨b, off, none⟩ rfl
    exact ⟨b, off, rfl, by omega, fun i hi => ⟨(World.cell?_of_block (w := W) (a := ⟨b, off + i * 2, none⟩) hb).trans (hcell i hi).1, (World.cell?_of_block (w := W) (a := ⟨b, off + i * 2 + 1, none⟩) hb).trans (hcell i hi).2⟩⟩
  · injection hv with e1 _ _
    obtain ⟨cs, fr, hh⟩ := ht a _ _ (by rw [e1])
    exact ⟨cs, fr, (hk a e1).trans hh⟩
set_option maxRecDepth 100000 in
set_option maxHeartbeats 1000000 in
theorem moved2_any (vt : Value) (ts : List Tn) (i : Nat) (w : World) (ht : SlT w vt ts) (hi : i < ts.length) (h20 : ts.length ≤ 20) (hb1 : ∀ j, j < ts.length → (-1000 ≤ tAt ts j ∧ tAt ts j ≤ 1000) ∧ (-1000 ≤ tTo ts j ∧ tTo ts j ≤ 1000)) :
    Calls Try.prog 62 #[vt, .int .i64 i] w fun e w' => ∃ v, e = .returned v ∧ SlT8 w' v (movT ts i) ∧ Below w.heap.size w w' := by
  obtain ⟨ad, cap, rfl, hm, hc⟩ := ht
  obtain ⟨b, off, rfl, hlt, hcell⟩ := hc (by omega)
  have hnews := flat_news ts hcell
  have h1 := (hcell i hi).1
  have h2 := (hcell i hi).2
  have hn75 := fun (W : World) => next75_any (tAt ts i, tTo ts i) W (hb1 i hi).1 (hb1 i hi).2
  simp only [encT] at hn75
  have hcn : ∀ j u, (flat ts)[j]? = some u → (w.alloc (.cells #[] 81)).cell? ((⟨b, off, none⟩ : Addr).add j) = some u := fun j u hj => (World.cell?_of_block (w := w) (heap_oldI (by rw [addr_block]; exact hlt))).trans (hnews j u hj)
  have HCN := Lib.hid hcn
  clear hcn hnews hcell hc
  obtain ⟨i81, hi81, hz1, hz2, hz3⟩ := info_parts info81
  go_enter Try.func62, Try.ntmps62
  refine wp_seq_k (fun K hK => ?_)
  have HK := Lib.hid hK; clear hK
  go_wp2
  refine HK.out _ _ ?_; clear HK K
  refine wp_seq_k (fun K hK => ?_)
  have HK := Lib.hid hK; clear hK
  go_wp2_with (at_builtin; refine wpList_append_own _ rfl (.tmp 6) (.tmp 7) 26 rfl w.heap.size 81 i81 (.agg #[.int .i64 0, .int .i64 0]) 2 16 Try.underlying26 hi81 hz1 hz2 hz3 rfl (by decide) _ _ _ rfl (World.ownsRow_made w #[] 0 (Nat.le_refl _) (by decide) rfl) ⟨b, off, none⟩ ts.length cap (flat ts) rfl (flat_len ts) HCN.out (flat_one ts) (Nat.le_trans (by omega : 0 + ts.length ≤ 2000) (by decide)) (by omega) (by rw [World.size_alloc]; omega) ?_; intro v' w6 r1 r2 _)
  refine HK.out _ _ ?_; clear HK K
  have hown : w6.ownsRow w.heap.size 81 2 v' ts.length (flat ts) := by simpa using r1
  have hbw : Below w.heap.size w w6 := by
    have hs : w.heap.size + 1 ≤ w6.heap.size := by have := r2.size; simpa using this
    refine ⟨r2.os, r2.tape, r2.output, by omega, fun k hk => ?_⟩
    rw [r2.block k (by simp; omega) (fun h2 => by have h3 : some k = some w.heap.size := h2; injection h3; omega)]
    exact heap_oldI hk
  obtain ⟨g, capg, rfl⟩ := Joins.ownsRow_form hown (by omega)
  have hgl := hown.lt g rfl
  obtain ⟨cur, hgc⟩ : ∃ cur, w6.heap[g]? = some (.cells cur 81 (0, 0)) := by
    rcases hown.2 with ⟨h, _⟩ | ⟨g2, cap2, cur, hv, _, hh, _⟩
    · cases h
    · injection hv with e1 _ _
      injection e1 with e1
      injection e1 with e1
      subst e1
      exact ⟨cur, hh⟩
  have hcells : ∀ j, j < ts.length → w6.cell? ⟨g, j * 2, none⟩ = some (.int .i64 (tAt ts j)) ∧ w6.cell? ⟨g, j * 2 + 1, none⟩ = some (.int .i64 (tTo ts j)) := fun j hj => by
    have f := flat_at ts j hj
    exact ⟨(hown.cellAt (j * 2) (by omega)).trans f.1, (hown.cellAt (j * 2 + 1) (by omega)).trans f.2⟩
  have h1' := (hbw.cell (p := ⟨b, off + i * 2, none⟩) hlt).trans h1
  have h2' := (hbw.cell (p := ⟨b, off + i * 2 + 1, none⟩) hlt).trans h2
  have HC := Lib.hid hcells
  clear r1 r2 hown HCN h1 h2 hcells
  refine wp_seq_k (fun K hK => ?_)
  have HK := Lib.hid hK; clear hK
  have hs6 := hbw.size
  go_wp2_with (go_at_call 75; refine (hn75 _).mono ?_; rintro e w7 ⟨rfl, hb7⟩; have c3 := (hb7.cell (p := ⟨g, i * 2, none⟩) hgl.2).trans (HC.out i hi).1; have z3 := free_blk (i := i * 2) (blk_below hgc hb7 hgl.2))
  refine HK.out _ _ ?_; clear HK K
  go_wp2
  go_ret
  have hs7 := hb7.size
  refine ⟨_, rfl, ⟨⟨_, capg, by rw [movT_len]; rfl, by rw [movT_len]; exact hm, fun _ => ⟨g, 0, rfl, by simp; omega, fun j hj => ?_⟩⟩, fun ad n c hv => by injection hv with e1 _ _; injection e1 with e1; subst e1; exact ⟨_, _, heap_set_blk (blk_below hgc hb7 hgl.2)⟩⟩, ((hbw.trans (hb7.mono hs6)).setCell (by simp; omega) _)⟩
  rw [movT_len] at hj
  rw [Nat.zero_add, (movT_at hi).1, (movT_at hi).2]
  have d1 := (hb7.cell (p := ⟨g, j * 2, none⟩) hgl.2).trans (HC.out j hj).1
  have d2 := (hb7.cell (p := ⟨g, j * 2 + 1, none⟩) hgl.2).trans (HC.out j hj).2
  refine ⟨?_, ?_⟩
  · by_cases hji : j = i
    · subst hji
      rw [if_pos rfl]
      exact World.cell?_setCell_same _ _ _ d1
    · rw [if_neg hji, World.cell?_setCell_other _ _ _ _ (by intro h; injection h; omega)]
      exact d1
  · rw [World.cell?_setCell_other _ _ _ _ (by intro h; injection h; omega)]
    exact d2
/-- What holds before ask k. -/
structure DJ (L T asks : List Int) (G : List Bool × List Int) (w : World) (k : Nat) (us : List Tn) (lets : List Bool) (v x : Value) (wr : World) : Prop where
  le : k ≤ asks.length
  len : lets.length = k
  ok : lineE L us = 0
  tos_ : tos us = T
  g1 : G.1 = lets ++ (dispG L T (pos us) (asks.drop k)).1
  g2 : G.2 = (dispG L T (pos us) (asks.drop k)).2
  now : SlT8 wr v us
  row : wr.ownsRow w.heap.size 4 1 x lets.length (lets.map .bool)
  below : Below w.heap.size w wr
set_option maxRecDepth 100000 in
set_option maxHeartbeats 4000000 in
theorem disp26_any (vL vt va : Value) (L : List Int) (ts : List Tn) (asks : List Int) (w : World) (hL : SlI w vL L) (ht : SlT w vt ts) (ha : SlI w va asks) :
    Calls Try.prog 26 #[vL, vt, va] w fun e w' => Below w.heap.size w w' ∧
      ((dispE L ts asks ≠ 0 ∧ e = .returned (.tuple #[.slice none 0 0, .slice none 0 0, .int .i64 (dispE L ts asks)])) ∨
       (dispE L ts asks = 0 ∧ ∃ v u, e = .returned (.tuple #[v, u, .int .i64 0]) ∧ SlB w' v (dispG L (tos ts) (pos ts) asks).1 ∧ SlT w' u (tsOf (dispG L (tos ts) (pos ts) asks).2 (tos ts)))) := by
  have h46 := check46_any vL vt L ts w hL ht
  have hL0 := hL
  have ht0 := ht
  have ha0 := ha
  obtain ⟨ad, cap, rfl, hm, hc⟩ := ht
  obtain ⟨ada, capa, rfl, hma, hca⟩ := ha
  have HCA := Lib.hid hca
  have HC := Lib.hid hc
  have HL := Lib.hid hL0
  have HT := Lib.hid ht0
  clear hca hc hL0 ht0
  by_cases he : lineE L ts = 0
  · have hv := vt_of he
    have h5 := hv.t5
    have hE : dispE L ts asks = if safeB L (tos ts) (pos ts) = false then 16 else if 500 < asks.length then 1 else if asks.any (fun i => !btw 0 i (ts.length - 1)) = true then 5 else 0 := by unfold dispE; rw [if_neg (by rw [he]; decide)]
    have h50 := Lib.hid (fun W (hb : Below w.heap.size w W) => plan50_any vL _ L ts W (HL.out.below hb (Nat.le_refl _)) (HT.out.below hb (Nat.le_refl _)) he)
    have HE0 := Lib.hid he
    have HE := Lib.hid hE
    rw [he] at h46
    obtain ⟨sb, hsb⟩ : ∃ sb, sb = safeT L ts := ⟨_, rfl⟩
    have HSB := Lib.hid hsb
    rw [← hsb] at h50
    clear he hE hsb
    go_enter Try.func26, Try.ntmps26
    go_wp2_with fail
    refine h46.mono ?_
    rintro e w2 ⟨rfl, hb2⟩
    go_wp2_with fail
    refine (h50.out _ hb2).mono ?_
    rintro e w3 ⟨⟨ad3, cap3, n3, rfl⟩, hb3'⟩
    have hb3 := hb2.trans (hb3'.mono hb2.size)
    clear hb3' hb2
    cases sb
    · have HE2 := Lib.hid (show dispE L ts asks = 16 by rw [HE.out, if_pos (show safeB L (tos ts) (pos ts) = false from HSB.out.symm)])
      go_wp2
      go_ret3
      exact ⟨hb3, .inl ⟨by rw [HE2.out]; decide, by rw [HE2.out]; rfl⟩⟩
    have HE2 := Lib.hid (show dispE L ts asks = if 500 < asks.length then 1 else if asks.any (fun i => !btw 0 i (ts.length - 1)) = true then 5 else 0 by rw [HE.out, if_neg (by rw [← show true = safeB L (tos ts) (pos ts) from HSB.out]; decide)])
    by_cases hlen : 500 < asks.length
    · have HE3 := Lib.hid (show dispE L ts asks = 1 by rw [HE2.out, if_pos hlen])
      go_wp2
      go_ret3
      exact ⟨hb3, .inl ⟨by rw [HE3.out]; decide, by rw [HE3.out]; rfl⟩⟩
    go_wp2
    go_loopw [12] (fun i wr => ∃ k : Nat, k ≤ asks.length ∧ i = .int .i64 k ∧ Below w.heap.size w wr ∧ ∀ j, j < k → btw 0 (at0 asks j) ((ts.length : Int) - 1) = true) (fun i _ => asks.length - (intOf i).toNat)
    case atStart => exact ⟨0, Nat.zero_le _, rfl, hb3, fun _ h => by omega⟩
    case round =>
      clear hb3
      obtain ⟨k, hk, rfl, hb, hno⟩ := hrel
      have HNO := Lib.hid hno
      clear hno
      by_cases hkn : k < asks.length
      · obtain ⟨b, off, rfl, hlb, hcell⟩ := HCA.out (by omega)
        have h1 := (hb.cell (p := ⟨b, off + k, none⟩) hlb).trans (hcell k hkn)
        have his := is_any 0 (at0 asks k) ((ts.length : Int) - 1)
        obtain ⟨bb, hbb⟩ : ∃ bb, bb = btw 0 (at0 asks k) ((ts.length : Int) - 1) := ⟨_, rfl⟩
        rw [← hbb] at his
        have HBB := Lib.hid hbb
        clear hbb hcell
        cases bb
        · have HE3 := Lib.hid (show dispE L ts asks = 5 by
            rw [HE2.out, if_neg hlen, if_pos]
            rw [List.any_eq_true]
            exact ⟨asks[k], List.getElem_mem hkn, by rw [← at0_lt hkn, ← HBB.out]; rfl⟩)
          go_wp2_with fail
          refine (his _).mono ?_
          rintro e w4 ⟨rfl, rfl⟩
          go_wp2
          go_ret3
          exact ⟨hb, .inl ⟨by rw [HE3.out]; decide, by rw [HE3.out]; rfl⟩⟩
        · go_wp2_with fail
          refine (his _).mono ?_
          rintro e w4 ⟨rfl, rfl⟩
          go_wp2
          go_roundw
          case rel => exact ⟨k + 1, by omega, by go_num, hb, fun j hj => by rcases (show j < k ∨ j = k by omega) with h | rfl; exact HNO.out j h; exact HBB.out.symm⟩
          case measure => simp [intOf]; omega
      · have hall : asks.any (fun i => !btw 0 i ((ts.length : Int) - 1)) = false := by
          rw [List.any_eq_false]
          intro x hx
          obtain ⟨j, hj, rfl⟩ := List.getElem_of_mem hx
          have := HNO.out j (by omega)
          rw [at0_lt hj] at this
          simp [this]
        have HE3 := Lib.hid (show dispE L ts asks = 0 by rw [HE2.out, if_neg hlen, hall]; rfl)
        have HASK := Lib.hid (fun j (hj : j < asks.length) => show 0 ≤ at0 asks j ∧ (at0 asks j).toNat < ts.length by have := HNO.out j (by omega); simp [btw] at this; omega)
        clear hall HNO
        have hlen5 : asks.length ≤ 500 := by omega
        have ht5 := h5
        obtain ⟨G, hG⟩ : ∃ G, G = dispG L (tos ts) (pos ts) asks := ⟨_, rfl⟩
        have HG := Lib.hid hG
        obtain ⟨i4, hi4, hz1, hz2, hz3⟩ := info_parts info4
        obtain ⟨i81, hi81, hy1, hy2, hy3⟩ := info_parts info81
        have hTr := HT.out.below hb (Nat.le_refl _)
        have hrd : Reads (wr.alloc (.cells #[] 81)) wr.heap.size 2 ad ts.length (flat ts) := by
          refine Reads.alloc ⟨flat_len ts, fun h0 => ?_⟩ (Nat.le_refl _) _
          obtain ⟨ad2, cap2, hv2, _, hc2⟩ := hTr
          injection hv2 with e1 _ _
          subst e1
          obtain ⟨b, off, rfl, hlt, hcell⟩ := hc2 h0
          exact ⟨_, rfl, hlt, flat_news ts hcell⟩
        have HRD := Lib.hid hrd
        clear hG hTr hrd
        have hsw := hb.size
        go_wp2_with (at_builtin; refine wpList_append_any _ rfl (.tmp 51) (.tmp 52) 26 rfl wr.heap.size 81 i81 (.agg #[.int .i64 0, .int .i64 0]) 2 16 Try.underlying26 hi81 hy1 hy2 hy3 rfl (by decide) _ _ _ rfl (World.ownsRow_made wr #[] 0 (Nat.le_refl _) (by decide) rfl) wr.heap.size ad ts.length cap (flat ts) rfl HRD.out (flat_one ts) (Nat.le_trans (by omega : 0 + ts.length ≤ 2000) (by decide)) (by omega) (by rw [World.size_alloc]; omega) ?_; intro v' w6 r1 r2 _)
        have hown : w6.ownsRow wr.heap.size 81 2 v' ts.length (flat ts) := by simpa using r1
        have hb6 : Below wr.heap.size wr w6 := by
          have hs : wr.heap.size + 1 ≤ w6.heap.size := by have := r2.size; simpa using this
          refine ⟨r2.os, r2.tape, r2.output, by omega, fun k hk => ?_⟩
          rw [r2.block k (by simp; omega) (fun h2 => by have h3 : some k = some wr.heap.size := h2; injection h3; omega)]
          exact heap_oldI hk
        have hB6 := hb.trans (hb6.mono hsw)
        have hnow : SlT8 w6 v' ts := ⟨slT_own' hown (by omega), fun ad' n' cap' hv' => by
          rcases hown.2 with ⟨h, _⟩ | ⟨g2, cap2, cur, hv2, _, hh, _⟩
          · rw [h] at hv'; cases hv'
          · rw [hv2] at hv'
            injection hv' with e1 _ _
            injection e1 with e1
            subst e1
            exact ⟨_, _, hh⟩⟩
        have HNOW := Lib.hid hnow
        clear r1 r2 hown hnow HRD
        go_loopw [13, 14, 15] (fun v x i wr => ∃ (k : Nat) (us : List Tn) (lets : List Bool), i = .int .i64 k ∧ DJ L (tos ts) asks G w k us lets v x wr) (fun _ _ i _ => asks.length - (intOf i).toNat)
        case atStart => exact ⟨0, ts, [], rfl, Nat.zero_le _, rfl, HE0.out, rfl, by rw [HG.out]; rfl, by rw [HG.out]; rfl, HNOW.out, World.ownsRow_nil _ _ _ _, hB6⟩
        case round =>
          clear hb hb6 hB6 hsw
          obtain ⟨k2, us, lets, rfl, hk2, hll, heu, htu, hg1, hg2, hnow, hrow, hb⟩ := hrel
          have hvu := vt_of heu
          have h5u := hvu.t5
          have hsw := hb.size
          by_cases hkn2 : k2 < asks.length
          · have hlu : us.length = ts.length := by rw [← tos_len us, htu, tos_len]
            obtain ⟨hm0, hm1⟩ := HASK.out k2 hkn2
            obtain ⟨mn, hmn⟩ := Int.eq_ofNat_of_zero_le hm0
            rw [hmn, Int.toNat_natCast, ← hlu] at hm1
            have hstep : dispG L (tos ts) (pos us) (asks.drop k2) = if gdT L us mn = true then (true :: (dispG L (tos ts) (pos (movT us mn)) (asks.drop (k2 + 1))).1, (dispG L (tos ts) (pos (movT us mn)) (asks.drop (k2 + 1))).2) else (false :: (dispG L (tos ts) (pos us) (asks.drop (k2 + 1))).1, (dispG L (tos ts) (pos us) (asks.drop (k2 + 1))).2) := by
              rw [List.drop_eq_getElem_cons hkn2, ← at0_lt hkn2, hmn, ← htu]
              have hag := ask_good (L := L) (us := us) heu (m := (mn : Int)) (by omega) (by rw [Int.toNat_natCast]; exact hm1)
              rw [Int.toNat_natCast] at hag
              show (if moveE L (tos us) (pos us) (mn : Int) = 0 ∧ safeB L (tos us) (moveS L (tos us) (pos us) (mn : Int)) = true then _ else _) = _
              by_cases hg : gdT L us mn = true
              · have hc := hag.2 hg
                rw [if_pos hc, if_pos hg, moveS_eq h5u hc.1, Int.toNat_natCast]
              · rw [if_neg (fun hc => hg (hag.1 hc)), if_neg hg]
            rw [hstep] at hg1 hg2
            have h56 := good56_any vL _ L us wr (HL.out.below hb (Nat.le_refl _)) hnow.1 heu
            rw [goodL_eq h5u] at h56
            have hmem := mem_gd (L := L) (us := us) (m := (mn : Int)) (by omega) (by rw [Int.toNat_natCast]; exact hm1)
            rw [Int.toNat_natCast] at hmem
            have hgl := gdN_le L us us.length
            have hmv := fun W (hb' : Below wr.heap.size wr W) => moved2_any _ us mn W (hnow.1.below hb' (Nat.le_refl _)) hm1 (by omega) hvu.small
            have hok := fun (hg : gdT L us mn = true) => show lineE L (movT us mn) = 0 ∧ tos (movT us mn) = tos ts by
              unfold gdT at hg
              rw [Bool.and_eq_true] at hg
              exact ⟨lineE_mov heu hm1 hg.1, by rw [tos_movT, htu]⟩
            obtain ⟨b, off, rfl, hlb, hcell⟩ := HCA.out (by omega)
            have hask := fun W (hb' : Below wr.heap.size wr W) => (((hb.trans (hb'.mono hsw)).cell (p := ⟨b, off + k2, none⟩) hlb).trans (hcell k2 hkn2))
            rw [hmn] at hask
            generalize gdN L us us.length = g at *
            obtain ⟨gd, hgd⟩ : ∃ gd, gd = gdT L us mn := ⟨_, rfl⟩
            rw [← hgd] at hmem hok hg1 hg2
            have HGD := Lib.hid hgd
            have HMEM := Lib.hid hmem
            have HMV := Lib.hid hmv
            have HOK := Lib.hid hok
            have HASKC := Lib.hid hask
            have HG1 := Lib.hid hg1
            have HG2 := Lib.hid hg2
            have HLL := Lib.hid hll
            have HNW := Lib.hid hnow
            have HROW := Lib.hid hrow
            have hll5 : lets.length ≤ 500 := by omega
            have HEU := Lib.hid (And.intro heu htu)
            clear hgd hmem hmv hok hask hg1 hg2 hll hnow hrow hstep heu htu hmn hcell hlu
            go_wp2_with fail
            refine h56.mono ?_
            rintro e w7 ⟨vg, rfl, hvg, hb7⟩
            obtain ⟨adg, capg, rfl, hmg, hcg⟩ := hvg
            have HCG := Lib.hid hcg
            clear hcg h56
            go_wp2
            obtain ⟨wo, rfl⟩ : ∃ wo : World, wo = wr := ⟨_, rfl⟩
            go_loopw [16, 18] (fun y i wr => ∃ j : Nat, j ≤ g.length ∧ i = .int .i64 j ∧ y = .bool (anyN g (mn : Int) j) ∧ Below w7.heap.size w7 wr) (fun _ i _ => g.length - (intOf i).toNat)
            case atStart => exact ⟨0, Nat.zero_le _, rfl, rfl, Below.refl _ _⟩
            case round =>
              obtain ⟨j, hj, rfl, rfl, hb8⟩ := hrel
              have hbo : Below wo.heap.size wo wr := hb7.trans (hb8.mono hb7.size)
              by_cases hjn : j < g.length
              · obtain ⟨bg, og, rfl, hlg, hcellg⟩ := HCG.out (by omega)
                have h1 := (hb8.cell (p := ⟨bg, og + j, none⟩) hlg).trans (hcellg j hjn)
                have h2 := HASKC.out wr hbo
                have hcomb : (anyN g (mn : Int) j = true ∧ anyN g (mn : Int) (j + 1) = true) ∨ (anyN g (mn : Int) j = false ∧ (at0 g j == (mn : Int)) = true ∧ anyN g (mn : Int) (j + 1) = true) ∨ (anyN g (mn : Int) j = false ∧ (at0 g j == (mn : Int)) = false ∧ anyN g (mn : Int) (j + 1) = false) := by
                  rw [anyN_succ hjn]
                  cases anyN g (mn : Int) j <;> cases (at0 g j == (mn : Int)) <;> simp
                generalize at0 g j = q1 at *
                generalize anyN g (mn : Int) j = yk at *
                obtain ⟨yn, hyn⟩ : ∃ x, x = anyN g (mn : Int) (j + 1) := ⟨_, rfl⟩
                rw [← hyn] at hcomb
                have HY := Lib.hid hyn
                clear hyn hcellg
                rcases hcomb with ⟨rfl, rfl⟩ | ⟨rfl, e1, rfl⟩ | ⟨rfl, e1, rfl⟩
                all_goals
                  go_wp2
                  go_quiet (fail)
                  go_wp2
                  go_roundw
                  case rel => exact ⟨j + 1, by omega, by go_num, by rw [← HY.out], below_drewN hb8 _⟩
                  case measure => simp [intOf]; omega
              · have hjg : anyN g (mn : Int) j = gd := by rw [← HMEM.out]; unfold anyN; rw [List.take_of_length_le (by omega)]
                have h2 := HASKC.out wr hbo
                have hB8 := hb.trans (hbo.mono hsw)
                have hs8 := hB8.size
                have hrow8 := Stb.row (B := 0) _ _ (Gr.below hbo) HROW.out
                rw [hjg]
                clear hjg
                cases gd
                · have hg1 := HG1.out
                  have hg2 := HG2.out
                  rw [if_neg (by decide)] at hg1 hg2
                  have HG3 := Lib.hid hg1
                  have HG4 := Lib.hid hg2
                  clear hg1 hg2
                  go_wp2_with (at_builtin; refine wpList_append_own _ rfl _ _ 41 rfl w.heap.size 4 i4 (.bool false) 1 1 Try.underlying41 hi4 hz1 hz2 hz3 rfl (by decide) _ _ _ rfl (hrow8.alloc _) ⟨wr.heap.size, 0, none⟩ 1 1 [.bool false] rfl rfl (cell_new1 rfl) (by simp [Value.oneCell']) (Nat.le_trans (by omega : lets.length + 1 ≤ 2000) (by decide)) (by omega) (by rw [World.size_alloc]; omega) ?_; intro v9 w9 p1 p2 _)
                  go_roundw
                  case rel =>
                    have hb9 := grown_more hrow8 p2 hs8 hbo
                    have h9 := (grown_same hrow8 p2).2.2 hs8
                    refine ⟨k2 + 1, us, lets ++ [false], by go_num, by omega, by simp [HLL.out], HEU.out.1, HEU.out.2, ?_, ?_, ?_, by rw [List.length_append, List.map_append]; exact p1, hB8.trans h9⟩
                    · rw [HG3.out]; simp
                    · rw [HG4.out]
                    · exact (HNW.out.below hbo).grown hrow8 p2 (by decide)
                  case measure => simp [intOf]; omega
                · have hg1 := HG1.out
                  have hg2 := HG2.out
                  rw [if_pos rfl] at hg1 hg2
                  have HG3 := Lib.hid hg1
                  have HG4 := Lib.hid hg2
                  have HOK2 := Lib.hid (HOK.out rfl)
                  clear hg1 hg2
                  go_wp2_with fail
                  refine (HMV.out _ hbo).mono ?_
                  rintro e w8 ⟨vm, rfl, hvm, hb9⟩
                  have HVM := Lib.hid hvm
                  have hrow9 := Stb.row (B := 0) _ _ (Gr.below hb9) hrow8
                  have hB9 := hB8.trans (hb9.mono hs8)
                  have hs9 := hB9.size
                  clear hvm hrow8
                  go_wp2_with (at_builtin; refine wpList_append_own _ rfl _ _ 41 rfl w.heap.size 4 i4 (.bool false) 1 1 Try.underlying41 hi4 hz1 hz2 hz3 rfl (by decide) _ _ _ rfl (hrow9.alloc _) ⟨w8.heap.size, 0, none⟩ 1 1 [.bool true] rfl rfl (cell_new1 rfl) (by simp [Value.oneCell']) (Nat.le_trans (by omega : lets.length + 1 ≤ 2000) (by decide)) (by omega) (by rw [World.size_alloc]; omega) ?_; intro v9 w9 p1 p2 _)
                  go_roundw
                  case rel =>
                    have h9 := (grown_same hrow9 p2).2.2 hs9
                    refine ⟨k2 + 1, movT us mn, lets ++ [true], by go_num, by omega, by simp [HLL.out], HOK2.out.1, HOK2.out.2, ?_, ?_, ?_, by rw [List.length_append, List.map_append]; exact p1, hB9.trans h9⟩
                    · rw [HG3.out]; simp
                    · rw [HG4.out]
                    · exact HVM.out.grown hrow9 p2 (by decide)
                  case measure => simp [intOf]; omega
          · have hd : asks.drop k2 = [] := List.drop_eq_nil_of_le (by omega)
            rw [hd] at hg1 hg2
            have HG1 := Lib.hid (show lets = (dispG L (tos ts) (pos ts) asks).1 by rw [← HG.out, hg1]; simp [dispG])
            have HG2 := Lib.hid (show pos us = (dispG L (tos ts) (pos ts) asks).2 by rw [← HG.out, hg2]; rfl)
            have HTS := Lib.hid (show tsOf (pos us) (tos ts) = us by rw [← htu]; exact tsOf_pos h5u)
            have hll5 : lets.length ≤ 500 := by omega
            have HNW := Lib.hid hnow
            obtain ⟨⟨adn, capn, rfl, -, -⟩, -⟩ := hnow
            obtain ⟨adv, capv, rfl⟩ : ∃ ad cap, u14 = .slice ad lets.length cap := by
              rcases Joins.ownsRow_forms hrow with ⟨h, h0⟩ | ⟨g, cap, h⟩
              · exact ⟨none, 0, by rw [h0]; exact h⟩
              · exact ⟨_, _, h⟩
            have HROW := Lib.hid hrow
            clear hd hg1 hg2 hll heu htu hrow
            go_wp2
            go_ret3
            refine ⟨hb, .inr ⟨HE3.out, _, _, rfl, ?_, ?_⟩⟩
            · rw [← HG1.out]
              exact slB_own HROW.out (by omega)
            · rw [← HG2.out, HTS.out]
              exact HNW.out.1
  · have hE : dispE L ts asks = lineE L ts := by unfold dispE; rw [if_pos he]
    have hne : (lineE L ts != 0) = true := bne_iff_ne.2 he
    have HE := Lib.hid hE
    clear hE
    go_enter Try.func26, Try.ntmps26
    go_wp2_with fail
    refine h46.mono ?_
    rintro e w2 ⟨rfl, hb2⟩
    go_wp2
    go_ret3
    exact ⟨hb2, .inl ⟨by rw [HE.out]; exact he, by rw [HE.out]; rfl⟩⟩
end Yteijenefhoconaa
end Go.Proofs
