/- The reference: the state after a move. -/
import Derived.Test.YteijenefhoconaaRefB
import Derived.Test.YteijenefhoconaaPlanX
open Go Go.RowKit Go.YteijenefhoconaaIt
namespace Go.Proofs
namespace Yteijenefhoconaa
theorem slT_own' {W : World} {base e : Nat} {v : Value} {ts : List Tn} (h : W.ownsRow base e 2 v ts.length (flat ts)) (hm : ts.length ≤ 8796093022208) : SlT W v ts := by
  rcases Joins.ownsRow_forms h with ⟨rfl, h0⟩ | ⟨g, cap, rfl⟩
  · exact ⟨none, 0, by rw [h0], hm, fun h1 => by omega⟩
  · have hl := h.lt g rfl
    refine ⟨_, cap, rfl, hm, fun _ => ⟨g, 0, rfl, hl.2, fun i hi => ?_⟩⟩
    have f := flat_at ts i hi
    have c1 := h.cellAt (i * 2) (by omega)
    have c2 := h.cellAt (i * 2 + 1) (by omega)
    rw [Nat.zero_add]
    exact ⟨c1.trans f.1, c2.trans f.2⟩
theorem info81 : (Try.prog.info? 81).map (fun i => (i.zero, i.size, i.bytes)) = some (some (.agg #[.int .i64 0, .int .i64 0]), 2, 16) := by kernel_rfl
theorem size81 : (Try.prog.info? 81).map (·.size) = some 2 := by kernel_rfl
/-- The trains after a move. -/
def movT (ts : List Tn) (i : Nat) : List Tn := ts.set i (nxtT ts i, tTo ts i)
theorem movT_len (ts : List Tn) (i : Nat) : (movT ts i).length = ts.length := by simp [movT]
theorem movT_at {ts : List Tn} {i j : Nat} (hi : i < ts.length) : tAt (movT ts i) j = (if j = i then nxtT ts i else tAt ts j) ∧ tTo (movT ts i) j = tTo ts j := by
  unfold movT tAt tTo
  simp only [List.getD_eq_getElem?_getD, List.getElem?_set]
  by_cases h : i = j
  · subst h; simp [hi]
  · simp [h, Ne.symm h]
theorem flat_news (ts : List Tn) {w : World} {b off : Nat} (hc : ∀ i, i < ts.length → w.cell? ⟨b, off + i * 2, none⟩ = some (.int .i64 (tAt ts i)) ∧ w.cell? ⟨b, off + i * 2 + 1, none⟩ = some (.int .i64 (tTo ts i))) :
    ∀ j u, (flat ts)[j]? = some u → w.cell? ((⟨b, off, none⟩ : Addr).add j) = some u := by
  intro j u hj
  have hl : j < ts.length * 2 := by rw [← flat_len]; exact (List.getElem?_eq_some_iff.1 hj).1
  have e : ((⟨b, off, none⟩ : Addr).add j) = ⟨b, off + j, none⟩ := by cases j <;> simp [Addr.add]
  rw [e]
  have h1 := flat_at ts (j / 2) (by omega)
  have h2 := hc (j / 2) (by omega)
  rcases Nat.mod_two_eq_zero_or_one j with h | h
  · have hj2 : j = j / 2 * 2 := by omega
    rw [hj2] at hj ⊢
    rw [h1.1] at hj; cases hj
    exact h2.1
  · have hj2 : j = j / 2 * 2 + 1 := by omega
    rw [hj2] at hj ⊢
    rw [h1.2] at hj; cases hj
    exact h2.2
theorem flat_one (ts : List Tn) : ∀ u ∈ flat ts, u.oneCell' = true := by
  intro u hu
  simp only [flat, List.mem_flatMap] at hu
  obtain ⟨x, _, hx⟩ := hu
  simp at hx
  rcases hx with rfl | rfl <;> rfl
set_option maxRecDepth 100000 in
set_option maxHeartbeats 1000000 in
theorem moved_any (vt : Value) (ts : List Tn) (i : Nat) (w : World) (ht : SlT w vt ts) (hi : i < ts.length) (h20 : ts.length ≤ 20) (hb1 : ∀ j, j < ts.length → (-1000 ≤ tAt ts j ∧ tAt ts j ≤ 1000) ∧ (-1000 ≤ tTo ts j ∧ tTo ts j ≤ 1000)) :
    Calls Try.prog 62 #[vt, .int .i64 i] w fun e w' => ∃ v, e = .returned v ∧ SlT w' v (movT ts i) ∧ Below w.heap.size w w' := by
  obtain ⟨ad, cap, rfl, hm, hc⟩ := ht
  obtain ⟨b, off, rfl, hlt, hcell⟩ := hc (by omega)
  have hnews := flat_news ts hcell
  have h1 := (hcell i hi).1
  have h2 := (hcell i hi).2
  have hn75 := fun (W : World) => next75_any (tAt ts i, tTo ts i) W (hb1 i hi).1 (hb1 i hi).2
  simp only [encT] at hn75
  have hcn : ∀ j u, (flat ts)[j]? = some u → (w.alloc (.cells #[] 81)).cell? ((⟨b, off, none⟩ : Addr).add j) = some u := fun j u hj => (World.cell?_of_block (w := w) (heap_oldI (by rw [addr_block]; exact hlt))).trans (hnews j u hj)
  have HCN := Lib.hid hcn
  clear hcn hnews hcell hc
  obtain ⟨i81, hi81, hz1, hz2, hz3⟩ := info_parts info81
  go_enter Try.func62, Try.ntmps62
  refine wp_seq_k (fun K hK => ?_)
  have HK := Lib.hid hK; clear hK
  go_wp2
  refine HK.out _ _ ?_; clear HK K
  refine wp_seq_k (fun K hK => ?_)
  have HK := Lib.hid hK; clear hK
  go_wp2_with (at_builtin; refine wpList_append_own _ rfl (.tmp 6) (.tmp 7) 26 rfl w.heap.size 81 i81 (.agg #[.int .i64 0, .int .i64 0]) 2 16 Try.underlying26 hi81 hz1 hz2 hz3 rfl (by decide) _ _ _ rfl (World.ownsRow_made w #[] 0 (Nat.le_refl _) (by decide) rfl) ⟨b, off, none⟩ ts.length cap (flat ts) rfl (flat_len ts) HCN.out (flat_one ts) (Nat.le_trans (by omega : 0 + ts.length ≤ 2000) (by decide)) (by omega) (by rw [World.size_alloc]; omega) ?_; intro v' w6 r1 r2 _)
  refine HK.out _ _ ?_; clear HK K
  have hown : w6.ownsRow w.heap.size 81 2 v' ts.length (flat ts) := by simpa using r1
  have hbw : Below w.heap.size w w6 := by
    have hs : w.heap.size + 1 ≤ w6.heap.size := by have := r2.size; simpa using this
    refine ⟨r2.os, r2.tape, r2.output, by omega, fun k hk => ?_⟩
    rw [r2.block k (by simp; omega) (fun h2 => by have h3 : some k = some w.heap.size := h2; injection h3; omega)]
    exact heap_oldI hk
  obtain ⟨g, capg, rfl⟩ := Joins.ownsRow_form hown (by omega)
  have hgl := hown.lt g rfl
  obtain ⟨cur, hgc⟩ : ∃ cur, w6.heap[g]? = some (.cells cur 81 (0, 0)) := by
    rcases hown.2 with ⟨h, _⟩ | ⟨g2, cap2, cur, hv, _, hh, _⟩
    · cases h
    · injection hv with e1 _ _
      injection e1 with e1
      injection e1 with e1
      subst e1
      exact ⟨cur, hh⟩
  have hcells : ∀ j, j < ts.length → w6.cell? ⟨g, j * 2, none⟩ = some (.int .i64 (tAt ts j)) ∧ w6.cell? ⟨g, j * 2 + 1, none⟩ = some (.int .i64 (tTo ts j)) := fun j hj => by
    have f := flat_at ts j hj
    exact ⟨(hown.cellAt (j * 2) (by omega)).trans f.1, (hown.cellAt (j * 2 + 1) (by omega)).trans f.2⟩
  have h1' := (hbw.cell (p := ⟨b, off + i * 2, none⟩) hlt).trans h1
  have h2' := (hbw.cell (p := ⟨b, off + i * 2 + 1, none⟩) hlt).trans h2
  have HC := Lib.hid hcells
  clear r1 r2 hown HCN h1 h2 hcells
  refine wp_seq_k (fun K hK => ?_)
  have HK := Lib.hid hK; clear hK
  have hs6 := hbw.size
  go_wp2_with (go_at_call 75; refine (hn75 _).mono ?_; rintro e w7 ⟨rfl, hb7⟩; have c3 := (hb7.cell (p := ⟨g, i * 2, none⟩) hgl.2).trans (HC.out i hi).1; have z3 := free_blk (i := i * 2) (blk_below hgc hb7 hgl.2))
  refine HK.out _ _ ?_; clear HK K
  go_wp2
  go_ret
  have hs7 := hb7.size
  refine ⟨_, rfl, ⟨_, capg, by rw [movT_len]; rfl, by rw [movT_len]; exact hm, fun _ => ⟨g, 0, rfl, by simp; omega, fun j hj => ?_⟩⟩, ((hbw.trans (hb7.mono hs6)).setCell (by simp; omega) _)⟩
  rw [movT_len] at hj
  rw [Nat.zero_add, (movT_at hi).1, (movT_at hi).2]
  have d1 := (hb7.cell (p := ⟨g, j * 2, none⟩) hgl.2).trans (HC.out j hj).1
  have d2 := (hb7.cell (p := ⟨g, j * 2 + 1, none⟩) hgl.2).trans (HC.out j hj).2
  refine ⟨?_, ?_⟩
  · by_cases hji : j = i
    · subst hji
      rw [if_pos rfl]
      exact World.cell?_setCell_same _ _ _ d1
    · rw [if_neg hji, World.cell?_setCell_other _ _ _ _ (by intro h; injection h; omega)]
      exact d1
  · rw [World.cell?_setCell_other _ _ _ _ (by intro h; injection h; omega)]
    exact d2
end Yteijenefhoconaa
end Go.Proofs
/- The reference: Check. -/
open Go Go.RowKit Go.YteijenefhoconaaIt
namespace Go.Proofs
namespace Yteijenefhoconaa
theorem pos_at {ts : List Tn} (h5 : ts.length ≤ 5) {i : Nat} (hi : i < ts.length) : at0 (pos ts) i = tAt ts i := by
  unfold pos
  rw [posK_at (by omega), if_pos hi]
theorem inT_cnt {ts : List Tn} (h5 : ts.length ≤ 5) (s : Int) : inT ts s = cnt (pos ts) (tos ts) s := by
  unfold inT cnt wayL
  rw [List.filter_filter, tos_len]
  congr 1
  refine List.filter_congr (fun i hi => ?_)
  have hi' : i < ts.length := by simpa using hi
  unfold isIn onw
  rw [pos_at h5 hi', tos_at hi']
set_option maxRecDepth 100000 in
set_option maxHeartbeats 4000000 in
theorem check46_any (vL vt : Value) (L : List Int) (ts : List Tn) (w : World) (hL : SlI w vL L) (ht : SlT w vt ts) :
    Calls Try.prog 46 #[vL, vt] w fun e w' => e = .returned (.int .i64 (lineE L ts)) ∧ Below w.heap.size w w' := by
  have hL0 := hL
  have ht0 := ht
  obtain ⟨adL, capL, rfl, hmL, hcL⟩ := hL
  obtain ⟨ad, cap, rfl, hm, hc⟩ := ht
  have HCL := Lib.hid hcL
  have HC := Lib.hid hc
  clear hcL hc
  by_cases hz : L.length = 0
  · have hE := lineE4 (L := L) (ts := ts) hz
    have hzb : ((L.length : Int) == 0) = true := by simp [hz]
    have HE := Lib.hid hE
    clear hz hE
    go_enter Try.func46, Try.ntmps46
    go_wp2
    go_ret
    exact ⟨by rw [HE.out]; rfl, Below.refl _ _⟩
  have hzb : ((L.length : Int) == 0) = false := beq_eq_false_iff_ne.2 (by omega)
  by_cases h8 : 8 < L.length
  · have hE := lineE1 (L := L) (ts := ts) h8
    have HE := Lib.hid hE
    clear hz hE
    go_enter Try.func46, Try.ntmps46
    go_wp2
    go_ret
    exact ⟨by rw [HE.out]; rfl, Below.refl _ _⟩
  obtain ⟨n, hn⟩ : ∃ n, n = L.length := ⟨_, rfl⟩
  rw [← hn] at hmL hz hzb h8 HCL ⊢
  have HN := Lib.hid hn
  clear hn
  obtain ⟨m, hm2⟩ : ∃ m, m = ts.length := ⟨_, rfl⟩
  rw [← hm2] at hm HC ⊢
  have HM := Lib.hid hm2
  clear hm2
  have hroomt := Lib.hid (fun (h : true = roomOut L) => lineE2 (L := L) (ts := ts) (by have := HN.out; omega) (by have := HN.out; omega) h)
  go_enter Try.func46, Try.ntmps46
  go_wp2
  go_loopw [5] (fun i wr => ∃ k : Nat, k ≤ n ∧ i = .int .i64 k ∧ Below w.heap.size w wr ∧ ∀ j, j < k → btw 1 (at0 L j) 5 = true) (fun i _ => n - (intOf i).toNat)
  case atStart => exact ⟨0, Nat.zero_le _, rfl, Below.refl _ _, fun _ h => by omega⟩
  case round =>
    obtain ⟨k, hk, rfl, hb, hno⟩ := hrel
    have HNO := Lib.hid hno
    clear hno
    by_cases hkn : k < n
    · obtain ⟨b, off, rfl, hlt, hcell⟩ := HCL.out (by omega)
      have h1 := (hb.cell (p := ⟨b, off + k, none⟩) hlt).trans (hcell k hkn)
      have his := is_any 1 (at0 L k) 5
      obtain ⟨bb, hbb⟩ : ∃ bb, bb = btw 1 (at0 L k) 5 := ⟨_, rfl⟩
      rw [← hbb] at his
      have HBB := Lib.hid hbb
      clear hbb hcell
      cases bb
      · have hE : lineE L ts = 2 := hroomt.out (by
          symm
          unfold roomOut
          rw [List.any_eq_true]
          have hkl : k < L.length := by have := HN.out; omega
          refine ⟨L[k], List.getElem_mem hkl, ?_⟩
          rw [← at0_lt hkl, ← HBB.out]; rfl)
        have HE := Lib.hid hE
        clear hE
        go_wp2_with (go_at_call 61; refine (his _).mono ?_; rintro e w' ⟨rfl, rfl⟩)
        go_ret
        exact ⟨by rw [HE.out]; rfl, hb⟩
      · go_wp2_with (go_at_call 61; refine (his _).mono ?_; rintro e w' ⟨rfl, rfl⟩)
        go_roundw
        case rel => exact ⟨k + 1, by omega, by go_num, hb, fun j hj => by rcases (show j < k ∨ j = k by omega) with h | rfl; exact HNO.out j h; exact HBB.out.symm⟩
        case measure => simp [intOf]; omega
    · have hro : false = roomOut L := by
        symm
        unfold roomOut
        rw [List.any_eq_false]
        intro x hx
        obtain ⟨j, hj, rfl⟩ := List.getElem_of_mem hx
        have := HNO.out j (by have := HN.out; omega)
        rw [at0_lt hj] at this
        simp [this]
      have HRO := Lib.hid hro
      clear hro
      have hk0 : k ≤ n := hk
      clear HNO
      by_cases h5 : 5 < m
      · have hE : lineE L ts = 1 := lineE5 (by have := HN.out; omega) (by have := HN.out; omega) HRO.out (by have := HM.out; omega)
        have HE := Lib.hid hE
        clear hE
        go_wp2
        go_ret
        exact ⟨by rw [HE.out]; rfl, hb⟩
      have htrt := Lib.hid (fun (h : true = trainOut L ts) => lineE17 (L := L) (ts := ts) (by have := HN.out; omega) (by have := HN.out; omega) HRO.out (by have := HM.out; omega) h)
      have hlast := Lib.hid (fun (h : false = trainOut L ts) => lineEt (L := L) (ts := ts) (by have := HN.out; omega) (by have := HN.out; omega) HRO.out (by have := HM.out; omega) h)
      go_wp2
      generalize wr = W1 at *
      go_loopw [6] (fun i wr => ∃ k : Nat, k ≤ m ∧ i = .int .i64 k ∧ Below w.heap.size w wr ∧ ∀ j, j < k → (btw 0 (tAt ts j) ((n : Int) - 1) = true ∧ btw 0 (tTo ts j) ((n : Int) - 1) = true)) (fun i _ => m - (intOf i).toNat)
      case atStart => exact ⟨0, Nat.zero_le _, rfl, hb, fun _ h => by omega⟩
      case round =>
        clear hb
        obtain ⟨k, hk, rfl, hb, hno⟩ := hrel
        have HNO := Lib.hid hno
        clear hno
        by_cases hkm : k < m
        · obtain ⟨b, off, rfl, hlt, hcell⟩ := HC.out (by omega)
          have h1 := (hb.cell (p := ⟨b, off + k * 2, none⟩) hlt).trans (hcell k hkm).1
          have h2 := (hb.cell (p := ⟨b, off + k * 2 + 1, none⟩) hlt).trans (hcell k hkm).2
          have his1 := is_any 0 (tAt ts k) ((n : Int) - 1)
          have his2 := is_any 0 (tTo ts k) ((n : Int) - 1)
          obtain ⟨b1, hb1⟩ : ∃ bb, bb = btw 0 (tAt ts k) ((n : Int) - 1) := ⟨_, rfl⟩
          obtain ⟨b2, hb2⟩ : ∃ bb, bb = btw 0 (tTo ts k) ((n : Int) - 1) := ⟨_, rfl⟩
          rw [← hb1] at his1
          rw [← hb2] at his2
          have HB1 := Lib.hid hb1
          have HB2 := Lib.hid hb2
          have hout : (b1 = false ∨ b2 = false) → lineE L ts = 17 := fun h => htrt.out (by
            symm
            unfold trainOut
            rw [List.any_eq_true]
            have hkl : k < ts.length := by have := HM.out; omega
            refine ⟨ts[k], List.getElem_mem hkl, ?_⟩
            rw [← tAt_lt hkl, ← tTo_lt hkl, ← HN.out, ← HB1.out, ← HB2.out]
            rcases h with rfl | rfl <;> simp)
          have hnext : b1 = true → b2 = true → ∀ j, j < k + 1 → (btw 0 (tAt ts j) ((n : Int) - 1) = true ∧ btw 0 (tTo ts j) ((n : Int) - 1) = true) := fun e1 e2 j hj => by
            rcases (show j < k ∨ j = k by omega) with h | rfl
            · exact HNO.out j h
            · exact ⟨HB1.out.symm.trans e1, HB2.out.symm.trans e2⟩
          have HNX0 := Lib.hid hnext
          clear hnext
          have HO := Lib.hid hout
          clear hb1 hb2 hcell hout
          generalize tAt ts k = p1 at *
          generalize tTo ts k = p2 at *
          cases b1
          · have HE := Lib.hid (HO.out (.inl rfl))
            go_wp2_with fail
            refine (his1 _).mono ?_
            rintro e w' ⟨rfl, rfl⟩
            go_wp2
            go_ret
            exact ⟨by rw [HE.out]; rfl, hb⟩
          · cases b2
            · have HE := Lib.hid (HO.out (.inr rfl))
              go_wp2_with fail
              refine (his1 _).mono ?_
              rintro e w' ⟨rfl, rfl⟩
              go_wp2_with fail
              refine (his2 _).mono ?_
              rintro e w' ⟨rfl, rfl⟩
              go_wp2
              go_ret
              exact ⟨by rw [HE.out]; rfl, hb⟩
            · have HNX := Lib.hid (HNX0.out rfl rfl)
              go_wp2_with fail
              refine (his1 _).mono ?_
              rintro e w' ⟨rfl, rfl⟩
              go_wp2_with fail
              refine (his2 _).mono ?_
              rintro e w' ⟨rfl, rfl⟩
              go_wp2
              go_roundw
              case rel => exact ⟨k + 1, by omega, by go_num, hb, HNX.out⟩
              case measure => simp [intOf]; omega
        · have hto : false = trainOut L ts := by
            symm
            unfold trainOut
            rw [List.any_eq_false]
            intro x hx
            obtain ⟨j, hj, rfl⟩ := List.getElem_of_mem hx
            have := HNO.out j (by have := HM.out; omega)
            rw [tAt_lt hj, tTo_lt hj, HN.out] at this
            simp [this.1, this.2]
          have hE := hlast.out hto
          have HE := Lib.hid hE
          clear hE hto HNO
          go_wp2
          generalize wr = W2 at *
          go_loopw [7] (fun i wr => ∃ k : Nat, k ≤ n ∧ i = .int .i64 k ∧ Below w.heap.size w wr ∧ ∀ s : Nat, s < k → (inT ts s : Int) ≤ at0 L s) (fun i _ => n - (intOf i).toNat)
          case atStart => exact ⟨0, Nat.zero_le _, rfl, hb, fun _ h => by omega⟩
          case round =>
            clear hb
            obtain ⟨k, hk, rfl, hb, hno⟩ := hrel
            have HNO := Lib.hid hno
            clear hno
            by_cases hkn : k < n
            · obtain ⟨b, off, rfl, hlt, hcell⟩ := HCL.out (by omega)
              have h1 := (hb.cell (p := ⟨b, off + k, none⟩) hlt).trans (hcell k hkn)
              have hbs := hb.size
              go_wp2
              refine wp_region_ab w.heap.size w (by kernel_rfl) (by kernel_rfl) hb ?_
              unfold AbC
              have g5 := fun (x : Ab w.heap.size w) => (x.ok.cell (p := ⟨b, off + k, none⟩) hlt).trans (hcell k hkn)
              have hcnt := fun (x : Ab w.heap.size w) => in_any _ ts (k : Int) x.val (ht0.below x.ok (Nat.le_refl _))
              rw [← HM.out] at hcnt
              clear h1 hcell
              repeat go_big_quiet_step (first | (go_at_call 63; exact Calls.ab _ (Nat.le_refl _) (hcnt _)))
              refine wpQuiet_nil ?_
              rintro W' ⟨x, rfl⟩
              have hB := x.ok
              generalize x.val = w6 at *
              clear hcnt g5 hb
              by_cases hov : at0 L k < inT ts k
              · have h15 : lineE L ts = 15 := by
                  rw [HE.out, if_pos]
                  refine List.any_eq_true.2 ⟨k, List.mem_range.2 (by have := HN.out; omega), ?_⟩
                  rw [← inT_cnt (by have := HM.out; omega)]
                  simpa using hov
                have HE5 := Lib.hid h15
                clear h15
                go_wp2
                go_ret
                exact ⟨by rw [HE5.out]; rfl, hB⟩
              · go_wp2
                go_roundw
                case rel => exact ⟨k + 1, by omega, by go_num, hB, fun s hs => by rcases (show s < k ∨ s = k by omega) with h | rfl; exact HNO.out s h; omega⟩
                case measure => simp [intOf]; omega
            · have hE0 : lineE L ts = 0 := by
                rw [HE.out, if_neg]
                simp only [overFull, List.any_eq_true, List.mem_range, decide_eq_true_eq, not_exists, not_and]
                intro s hs
                have := HNO.out s (by have := HN.out; omega)
                rw [← inT_cnt (by have := HM.out; omega)]
                omega
              have HE0 := Lib.hid hE0
              clear hE0
              go_wp2
              go_ret
              exact ⟨by rw [HE0.out]; rfl, hb⟩
end Yteijenefhoconaa
end Go.Proofs
