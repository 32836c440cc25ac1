/- Pans: cycles: all cycles of a work, as the law lists them. -/
import Derived.Test.YteileadcmekkoaaCy
import Derived.Test.YteileadcmekkoaaGenH
import Derived.Test.YteileadcmekkoaaGenI
open Go Go.RowKit Go.YteileadcmekkoaaIt
namespace Go.Proofs
namespace Yteileadcmekkoaa
abbrev nI (l : List Nat) : List Int := l.map fun (i : Nat) => (i : Int)
/-- A list of numbers in a block of its own. -/
def RowT (W : World) (v : Value) (xs : List Int) : Prop := SlI W v xs ∧ ∃ g n c cs, v = .slice (some ⟨g, 0, none⟩) n c ∧ W.heap[g]? = some (Obj.cells cs 3 (0, 0))
theorem RowT.below {W W' : World} {v : Value} {xs : List Int} {B : Nat} (h : RowT W v xs) (hb : Below B W W') (hB : W.heap.size ≤ B) : RowT W' v xs := by
  obtain ⟨h1, g, n, c, cs, e, hg⟩ := h
  exact ⟨h1.below hb hB, g, n, c, cs, e, blk_keep hg ⟨hb.os, hb.tape, hb.output, hb.size, fun k hk => hb.block k (by omega)⟩⟩
theorem RowT.grow {W W' : World} {v vo : Value} {xs : List Int} {base n : Nat} {us : List Value} (h : RowT W v xs) (ho : W.ownsRow base 45 1 vo n us) (hg : W.grownBy W' vo.ownBlock) : RowT W' v xs := by
  obtain ⟨⟨ad, cap, e0, h1, h2, h3⟩, g, n', c, cs, e, hgc⟩ := h
  have hne : some g ≠ vo.ownBlock := fun e => own_ne ho hgc (by decide) e.symm
  have hk := hg.block g (lt_blk hgc) hne
  refine ⟨⟨ad, cap, e0, h1, h2, fun h0 => ?_⟩, g, n', c, cs, e, hk.trans hgc⟩
  obtain ⟨b, off, e1, hb, hc⟩ := h3 h0
  rw [e0] at e
  injection e with e2 _ _
  rw [e1] at e2
  injection e2 with e2
  injection e2 with e2
  subst e2
  exact ⟨b, off, e1, Nat.lt_of_lt_of_le hb hg.size, fun i hi => (World.cell?_of_block (a := ⟨b, off + i, none⟩) hk).trans (hc i hi)⟩
theorem RowT.one {W : World} {v : Value} {xs : List Int} (h : RowT W v xs) : v.oneCell' = true := by
  obtain ⟨_, g, n, c, cs, rfl, _⟩ := h
  rfl
def RowsT (W : World) (vs : List Value) (rows : List (List Nat)) : Prop := vs.length = rows.length ∧ ∀ i (h : i < vs.length) (h' : i < rows.length), RowT W vs[i] (nI rows[i])
theorem RowsT.below {W W' : World} {vs : List Value} {rows : List (List Nat)} {B : Nat} (h : RowsT W vs rows) (hb : Below B W W') (hB : W.heap.size ≤ B) : RowsT W' vs rows := ⟨h.1, fun i a b => (h.2 i a b).below hb hB⟩
theorem RowsT.grow {W W' : World} {vo : Value} {base n : Nat} {us vs : List Value} {rows : List (List Nat)} (h : RowsT W vs rows) (ho : W.ownsRow base 45 1 vo n us) (hg : W.grownBy W' vo.ownBlock) : RowsT W' vs rows := ⟨h.1, fun i a b => (h.2 i a b).grow ho hg⟩
theorem RowsT.app {W : World} {vs us : List Value} {rows sows : List (List Nat)} (h : RowsT W vs rows) (k : RowsT W us sows) : RowsT W (vs ++ us) (rows ++ sows) := by
  refine ⟨by rw [List.length_append, List.length_append, h.1, k.1], fun i a b => ?_⟩
  by_cases hi : i < vs.length
  · rw [List.getElem_append_left hi, List.getElem_append_left (by rw [← h.1]; exact hi)]
    exact h.2 i hi (by rw [← h.1]; exact hi)
  · rw [List.length_append] at a b
    rw [List.getElem_append_right (by omega), List.getElem_append_right (by rw [← h.1]; omega)]
    have := k.2 (i - vs.length) (by omega) (by have := h.1; have := k.1; omega)
    simpa [h.1] using this
theorem RowsT.nil (W : World) : RowsT W [] [] := ⟨rfl, fun _ h => absurd h (Nat.not_lt_zero _)⟩
theorem RowsT.single {W : World} {v : Value} {l : List Nat} (h : RowT W v (nI l)) : RowsT W [v] [l] := by
  refine ⟨rfl, fun i a b => ?_⟩
  have : i = 0 := by simp at a; omega
  subst this
  exact h
theorem RowsT.ones {W : World} {vs : List Value} {rows : List (List Nat)} (h : RowsT W vs rows) : ∀ u ∈ vs, u.oneCell' = true := by
  intro u hu
  obtain ⟨i, hi, rfl⟩ := List.getElem_of_mem hu
  exact (h.2 i hi (by rw [← h.1]; exact hi)).one
theorem info45 : (Try.prog.info? 45).map (fun i => (i.zero, i.size, i.bytes)) = some (some (.slice none 0 0), 1, 24) := by kernel_rfl
theorem at0_nI {l : List Nat} {k : Nat} (h : k < l.length) : at0 (nI l) k = ((l.getD k 0 : Nat) : Int) := by rw [at0_lt (by rw [List.length_map]; exact h)]; simp [h]
theorem slV_form {w : World} {v : Value} {vs : List Value} (h : SlV w v vs) : ∃ ad c, v = .slice ad vs.length c := by
  obtain ⟨ad, cap, hv, _⟩ := h; exact ⟨ad, cap, hv⟩
/-- append(out, rows...) -/
theorem wpList_rows {ops : Array Oper} {rest : List Oper} {o : Oper} {a : Act} {Q : Exit → Act → World → Prop} (hgd : o.guard = none) (s x : Operand) (ho : o.op = .call { callee := .builtin .append, args := #[s, x], argTypes := #[67, 67] })
    {w : World} {B : Nat} {v : Value} {vs us : List Value} {rows sows : List (List Nat)} (hr : w.ownsRow B 45 1 v vs.length vs) (hR : RowsT w vs rows) {A : Option Addr} {c : Nat} (hu : SlV w (.slice A us.length c) us) (hU : RowsT w us sows) (hl : vs.length + us.length ≤ 5000000)
    (hs : a.eval s = v) (hx : a.eval x = .slice A us.length c) (hB : B ≤ w.heap.size)
    (h : ∀ v' w', w'.ownsRow B 45 1 v' (vs ++ us).length (vs ++ us) → RowsT w' (vs ++ us) (rows ++ sows) → Below B w w' → wpList Try.prog ops Q rest (a.put o.dst v') w') : wpList Try.prog ops Q (o :: rest) a w := by
  obtain ⟨i45, hi45, hy1, hy2, hy3⟩ := info_parts info45
  refine wpList_append_any w hgd s x 67 ho B 45 i45 (.slice none 0 0) 1 24 Try.underlying67 hi45 hy1 hy2 hy3 rfl (by decide) _ vs.length _ hs hr _ A us.length c _ hx (reads_of_slV hu) hU.ones (Nat.le_trans hl (by decide)) (by omega) hB ?_
  intro v' w' r1 r2 _
  rw [← List.length_append] at r1
  exact h v' w' r1 ((hR.grow hr r2).app (hU.grow hr r2)) ⟨r2.os, r2.tape, r2.output, r2.size, fun b hb => r2.block b (by omega) (fun e => by have := (hr.lt b e.symm).1; omega)⟩
theorem fst_get {ws : List Wa} {beg : List Nat} {i : Nat} : fstN ws (beg ++ [i]) = fN ws ((beg ++ [i]).getD 0 0) := rfl
set_option maxRecDepth 100000 in
set_option maxHeartbeats 8000000 in
theorem cycles_any (m : Nat) (v : Value) (ws : List Wa) (hV : Val m ws) (hw9 : ws.length ≤ 9) (hm5 : m ≤ 5) : ∀ (d : Nat) (beg : List Nat) (vb : Value) (w : World), beg.length + d = m + 1 → BegC m ws beg → SlA w v ws → SlI w vb (nI beg) →
    Calls Try.prog 37 #[.agg #[.int .i64 m, v], vb] w fun e w' => (∃ vr vs, e = .returned vr ∧ SlV w' vr vs ∧ RowsT w' vs (cycs ws d beg)) ∧ Below w.heap.size w w' := by
  intro d
  induction d with
  | zero =>
    intro beg vb w hd hb
    rcases hb with rfl | ⟨hb, _⟩
    · simp at hd
    · have := hb.len hV; omega
  | succ d ih =>
  intro beg vb w hd hb hv hvb
  have IH := Lib.hid ih
  clear ih
  have hm := hV.n1
  have HV := Lib.hid (And.intro hv hvb)
  have HB := Lib.hid (And.intro hb hd)
  obtain ⟨ad, cap, rfl, -, -, hcw⟩ := hv
  obtain ⟨ab, cb, rfl, -, -, hcb⟩ := hvb
  obtain ⟨N, hN⟩ : ∃ N, N = beg.length := ⟨_, rfl⟩
  have hNe : (nI beg).length = N := by rw [List.length_map, hN]
  rw [hNe] at hcb ⊢
  have hNm : N ≤ 6 := by have := HB.out.2; omega
  have hbl : ∀ k, k < N → beg.getD k 0 < ws.length := fun k hk => by
    rcases HB.out.1 with h | ⟨h, _⟩
    · have h2 : beg.length = 0 := by rw [h]; rfl
      omega
    · have hk2 : k < beg.length := by rw [← hN]; exact hk
      refine h.lt _ ?_
      rw [List.getD_eq_getElem?_getD, List.getElem?_eq_getElem hk2]
      exact List.getElem_mem _
  have hcwf : 0 < ws.length → ∃ bw ow, ad = some ⟨bw, ow, none⟩ ∧ bw < w.heap.size ∧ ∀ W : World, Below w.heap.size w W → ∀ i, i < ws.length → W.cell? ⟨bw, ow + i * 5, none⟩ = some (.int .i64 (fN ws i : Nat)) ∧ W.cell? ⟨bw, ow + i * 5 + 1, none⟩ = some (.int .i64 (tN ws i : Nat)) ∧ W.cell? ⟨bw, ow + i * 5 + 2, none⟩ = some (.int .i64 (at_ ws i).lo) ∧ W.cell? ⟨bw, ow + i * 5 + 3, none⟩ = some (.int .i64 (at_ ws i).hi) ∧ W.cell? ⟨bw, ow + i * 5 + 4, none⟩ = some (.int .i64 (at_ ws i).b) := fun h0 => by
    obtain ⟨bw, ow, e, hlw, hwcell⟩ := hcw h0
    refine ⟨bw, ow, e, hlw, fun W hW i hi => ?_⟩
    obtain ⟨q0, q1, q2, q3, q4⟩ := a_cells hwcell (i := i) (n := i) hi rfl
    obtain ⟨k1, k2, _⟩ := hV.ok i hi
    rw [show (at_ ws i).f = (fN ws i : Nat) by unfold fN; omega] at q0
    rw [show (at_ ws i).t = (tN ws i : Nat) by unfold tN; omega] at q1
    exact ⟨(hW.cell (p := ⟨bw, ow + i * 5, none⟩) hlw).trans q0, (hW.cell (p := ⟨bw, ow + i * 5 + 1, none⟩) hlw).trans q1, (hW.cell (p := ⟨bw, ow + i * 5 + 2, none⟩) hlw).trans q2, (hW.cell (p := ⟨bw, ow + i * 5 + 3, none⟩) hlw).trans q3, (hW.cell (p := ⟨bw, ow + i * 5 + 4, none⟩) hlw).trans q4⟩
  have hcbf : 0 < N → ∃ bb ob, ab = some ⟨bb, ob, none⟩ ∧ bb < w.heap.size ∧ ∀ W : World, Below w.heap.size w W → ∀ k, k < N → W.cell? ⟨bb, ob + k, none⟩ = some (.int .i64 (beg.getD k 0 : Nat)) := fun h0 => by
    obtain ⟨bb, ob, e, hlb, hc⟩ := hcb h0
    refine ⟨bb, ob, e, hlb, fun W hW k hk => ?_⟩
    have hkb : k < beg.length := by rw [← hN]; exact hk
    have hat : at0 (nI beg) k = (beg.getD k 0 : Nat) := by rw [at0_lt (by rw [List.length_map]; exact hkb)]; simp [hkb]
    refine (hW.cell (p := ⟨bb, ob + k, none⟩) hlb).trans ?_
    rw [hc k hk, hat]
  have HCW := Lib.hid hcwf
  have HCB := Lib.hid (And.intro hcbf hbl)
  have HN := Lib.hid hN
  clear hcw hcb hcwf hcbf hbl hN hb hd hNe
  obtain ⟨R, hR⟩ : ∃ R, R = cycs ws (d + 1) beg := ⟨_, rfl⟩
  rw [← hR]
  have HR := Lib.hid hR
  clear hR
  go_enter Try.func37, Try.ntmps37
  refine wp_seq_k (fun K hK => ?_)
  have HK := Lib.hid hK; clear hK
  go_wp2
  refine HK.out _ _ ?_; clear HK K
  generalize hw1 : World.alloc _ _ = w1
  obtain ⟨b2, hB, hs1⟩ := blk1 hw1
  clear hw1
  have c21 := cell_blk (i := 1) b2
  simp only [List.getElem?_toArray, List.getElem?_cons_zero, List.getElem?_cons_succ] at c21
  go_wp2_with (refine wp_seq_k (fun K hK => ?_); fail)
  clear c21
  obtain ⟨wl, hwl⟩ : ∃ wl, wl = w1.heap.size := ⟨_, rfl⟩
  have hwl1 : w.heap.size + 1 ≤ wl := by omega
  have hown0 : w1.ownsRow wl 45 1 (.slice none 0 0) ([] : List Value).length [] := World.ownsRow_nil _ _ _ _
  go_loopw [5, 15] (fun vo i wr => ∃ (k : Nat) (vs : List Value), k ≤ ws.length ∧ i = .int .i64 k ∧ wr.ownsRow wl 45 1 vo vs.length vs ∧ RowsT wr vs (loopC (cycs ws d) ws beg k) ∧ wr.heap[w.heap.size]? = some (.cells #[.int .i64 m, .slice ad ws.length cap] 24 (0, 0)) ∧ Below w.heap.size w wr ∧ wl ≤ wr.heap.size) (fun _ i _ => ws.length - (intOf i).toNat)
  case atStart => exact ⟨0, [], Nat.zero_le _, rfl, hown0, RowsT.nil _, b2, hB, Nat.le_of_eq hwl⟩
  case round =>
    clear b2 hB hwl hown0
    obtain ⟨k, vs, hk, rfl, hown, hrows, b2, hB, hwx⟩ := hrel
    by_cases hkl : k < ws.length
    · obtain ⟨bw, ow, rfl, hlw, hcell⟩ := HCW.out (by omega)
      obtain ⟨r0, r1, r2, r3, r4⟩ := hcell wr hB k hkl
      obtain ⟨fk, hfk⟩ : ∃ fk, fk = fN ws k := ⟨_, rfl⟩
      obtain ⟨tk, htk⟩ : ∃ tk, tk = tN ws k := ⟨_, rfl⟩
      rw [← hfk] at r0
      rw [← htk] at r1
      have HFK := Lib.hid (And.intro hfk htk)
      have HCE := Lib.hid hcell
      clear hfk htk hcell
      generalize (at_ ws k).lo = xl at *
      generalize (at_ ws k).hi = xh at *
      generalize (at_ ws k).b = xb at *
      have HO := Lib.hid (And.intro hown hrows)
      obtain ⟨ao, co, rfl⟩ := form_of hown
      clear hown hrows
      have hkli : (k : Int) < (ws.length : Int) := by omega
      have hBx := (Below.refl _ wr).alloc (Nat.le_refl _) (Obj.cells #[.int .i64 (fk : Nat), .int .i64 (tk : Nat), .int .i64 xl, .int .i64 xh, .int .i64 xb] 82 (0, 0))
      have bx0 : (wr.alloc (Obj.cells #[.int .i64 (fk : Nat), .int .i64 (tk : Nat), .int .i64 xl, .int .i64 xh, .int .i64 xb] 82 (0, 0))).heap[wr.heap.size]? = some (Obj.cells #[.int .i64 (fk : Nat), .int .i64 (tk : Nat), .int .i64 xl, .int .i64 xh, .int .i64 xb] 82 (0, 0)) := heap_newI rfl
      have hszw := hB.size
      by_cases hN0 : N = 0
      · have hsk1 : (!beg.isEmpty && !decide (lstN ws beg = fN ws k)) = false := by
          have : beg = [] := List.eq_nil_of_length_eq_zero (by have := HN.out; omega)
          rw [this]; rfl
        have HSK1 := Lib.hid hsk1
        have hNi : decide (0 < N) = false := by rw [decide_eq_false_iff_not]; omega
        have HN0 := Lib.hid hN0
        clear hN0
        have HX0 := Lib.hid (And.intro hBx bx0)
        clear hsk1 hBx bx0
        go_wp2
        go_quiet (fail)
        obtain ⟨hBx, bx0⟩ := HX0.out
        replace hBx := below_drewN hBx nq
        replace bx0 : ((wr.alloc (Obj.cells #[.int .i64 (fk : Nat), .int .i64 (tk : Nat), .int .i64 xl, .int .i64 xh, .int .i64 xb] 82 (0, 0))).drewN nq).heap[wr.heap.size]? = _ := bx0
        have hOx := And.intro (row_below HO.out.1 hBx) (HO.out.2.below hBx (Nat.le_refl _))
        replace b2 := blk_keep b2 hBx
        replace hB := hB.trans (hBx.mono hB.size)
        replace hwx := Nat.le_trans hwx hBx.size
        clear HO HX0 hBx r0 r1 r2 r3 r4
        have HO := Lib.hid hOx
        clear hOx
        obtain ⟨nx, hnx⟩ : ∃ nx, nx = wr.heap.size := ⟨_, rfl⟩
        rw [← hnx] at bx0 ⊢
        clear hnx
        generalize World.drewN _ _ = wq at *
        have bx := bx0
        clear bx0
        have hsk2 : skipC ws beg k = metC ws beg k := by unfold skipC; rw [HSK1.out]; rfl
        have HSK2 := Lib.hid hsk2
        clear hsk2
        go_wp2_with (refine wp_seq_k (fun K hK => ?_); fail)
        go_loopw [8, 41] (fun b i wy => ∃ kk : Nat, kk ≤ N ∧ i = .int .i64 kk ∧ b = .bool ((beg.take kk).any fun q => fN ws q == fN ws k) ∧ Below wq.heap.size wq wy) (fun _ i _ => N - (intOf i).toNat)
        case atStart => exact ⟨0, Nat.zero_le _, rfl, rfl, Below.refl _ _⟩
        case round =>
          obtain ⟨kk, hkk, rfl, rfl, hby⟩ := hrel
          replace b2 := blk_keep b2 hby
          replace bx := blk_keep bx hby
          replace hB := hB.trans (hby.mono hB.size)
          have HO := Lib.hid (And.intro (row_below HO.out.1 hby) (HO.out.2.below hby (Nat.le_refl _)))
          replace hwx := Nat.le_trans hwx hby.size
          have HBY := Lib.hid hby
          clear hby
          obtain ⟨mb, hmb⟩ : ∃ mb, mb = (beg.take kk).any fun q => fN ws q == fN ws k := ⟨_, rfl⟩
          rw [← hmb]
          have HMB := Lib.hid hmb
          clear hmb
          have e1 := cell_blk (i := 1) b2
          have x0 := cell_blk (i := 0) bx
          simp only [List.getElem?_toArray, List.getElem?_cons_zero, List.getElem?_cons_succ] at e1 x0
          by_cases hkkN : kk < N
          · exact absurd hkkN (by have := HN0.out; omega)
          · have hke : beg.take kk = beg := by rw [show kk = beg.length by have := HN.out; omega]; exact List.take_length
            have hmc : mb = metC ws beg k := by rw [HMB.out, hke]; rfl
            have hkkI : ¬ ((kk : Int) < (N : Int)) := by omega
            cases mb
            ·
              have hmc2 : metC ws beg k = false := hmc.symm
              have hskf : skipC ws beg k = false := by rw [HSK2.out]; exact hmc2
              obtain ⟨hBeg, hlst⟩ := begC_ext HB.out.1 hkl hskf
              have HBG := Lib.hid (And.intro hskf (And.intro hBeg hlst))
              have hSb := HV.out.2.below hB (Nat.le_refl _)
              rw [show (nI beg).length = N by rw [List.length_map, HN.out]] at hSb
              have hbl : (nI beg).length ≤ 10000 := by rw [List.length_map, ← HN.out]; omega
              have hA7 := (Below.refl _ wr).alloc (Nat.le_refl _) (.cells #[] 3)
              have hS7 := hSb.below hA7 (Nat.le_refl _)
              have HX7 := Lib.hid (And.intro hbl (And.intro hA7 hS7))
              clear hmc hmc2 hskf hBeg hlst hSb hbl hA7 hS7 hke e1 x0
              go_wp2_with (first | (at_builtin; refine wpList_push rfl _ _ rfl (W := wr) (w := w8.alloc (.cells #[.int .i64 k] 3)) (g := w8.heap.size) (xs := nI beg) (i := (k : Int)) (by rw [List.length_map]; exact r8.alloc _) HX7.out.1 rfl rfl (heap_newI rfl) (hb8.alloc hb8.size _) ?_; intro v9 w9 r9 hb9; obtain ⟨g9, c9, hv9⟩ := own_formI r9 (Nat.succ_pos _); subst hv9) | (at_builtin; refine wpList_copy rfl _ _ rfl (W := wr) HX7.out.2.2 HX7.out.1 rfl rfl (heap_newI rfl) HX7.out.2.1 (Nat.le_refl _) ?_; intro v8 w8 r8 hb8; simp only [List.length_map] at r8; obtain ⟨a8, c8, hv8⟩ := form_of r8; subst hv8))
              have hlen9 : (nI beg).length + 1 = (beg ++ [k]).length := by simp
              have hSl9 : SlI w9 (.slice (some ⟨g9, 0, none⟩) (beg ++ [k]).length c9) (nI (beg ++ [k])) := by
                have h := slI_own (xs := nI beg ++ [(k : Int)]) r9 (by simp) (by have := HX7.out.1; simp only [List.length_append, List.length_cons, List.length_nil]; omega)
                rw [hlen9] at h
                simpa using h
              have hRT9 : RowT w9 (.slice (some ⟨g9, 0, none⟩) (beg ++ [k]).length c9) (nI (beg ++ [k])) := by
                obtain ⟨cur, hcur⟩ := row_block r9
                exact ⟨hSl9, g9, _, c9, cur, rfl, hcur⟩
              have hN1e : (beg ++ [k]).length = beg.length + 1 := by rw [List.length_append]; rfl
              rw [hN1e] at hSl9 hRT9
              have HO := Lib.hid (And.intro (row_below HO.out.1 hb9) (HO.out.2.below hb9 (Nat.le_refl _)))
              replace b2 := blk_keep b2 hb9
              replace bx := blk_keep bx hb9
              replace hB := hB.trans (hb9.mono hB.size)
              replace hwx := Nat.le_trans hwx hb9.size
              have hlt0 : 0 < (beg ++ [k]).length := by simp
              have hi0 := HBG.out.2.1.lt ((beg ++ [k]).getD 0 0) (by rw [List.getD_eq_getElem?_getD, List.getElem?_eq_getElem hlt0]; exact List.getElem_mem _)
              have hd0 : w9.cell? ⟨g9, 0, none⟩ = some (.int .i64 (((beg ++ [k]).getD 0 0 : Nat) : Int)) := by
                obtain ⟨_, _, e, -, -, h⟩ := hSl9
                injection e with e _ _
                obtain ⟨b', o', e2, _, h2⟩ := h (by simp)
                rw [← e] at e2
                injection e2 with e2
                injection e2 with e3 e4
                subst e3 e4
                have h3 := h2 0 (by simp)
                rw [at0_nI (by simp)] at h3
                exact h3
              obtain ⟨f0, -, -, -, -⟩ := HCE.out w9 hB _ hi0
              have hfst : fN ws ((beg ++ [k]).getD 0 0) = fstN ws (beg ++ [k]) := rfl
              rw [hfst] at f0
              obtain ⟨i0, hi0e⟩ : ∃ i0, i0 = (beg ++ [k]).getD 0 0 := ⟨_, rfl⟩
              rw [← hi0e] at hd0 f0 hi0
              obtain ⟨F0, hF0⟩ : ∃ F0, F0 = fstN ws (beg ++ [k]) := ⟨_, rfl⟩
              rw [← hF0] at f0
              have e1 := cell_blk (i := 1) b2
              have x1 := cell_blk (i := 1) bx
              simp only [List.getElem?_toArray, List.getElem?_cons_zero, List.getElem?_cons_succ] at e1 x1
              have HF0 := Lib.hid hF0
              have HRT := Lib.hid (And.intro hRT9 hSl9)
              clear hfst hi0e hF0 hRT9 hSl9 hlen9 hN1e r8 hb8 r9 hb9 HX7
              have hN1i : (0 : Int) < (N : Int) + 1 := by omega
              have hd5 : d ≤ 5 := by have := HB.out.2; omega
              have hp9 : 9 ^ d ≤ 59049 := Nat.le_trans (Nat.pow_le_pow_right (by omega) hd5) (by decide)
              have hvl : vs.length ≤ 531441 := by
                rw [HO.out.2.1]
                have h1 := loopC_len (ws := ws) (beg := beg) (pow9 d) (cycs_len hw9 d) k
                have h2 : k * 9 ^ d ≤ 9 * 59049 := Nat.mul_le_mul (by omega) hp9
                omega
              have HP9 := Lib.hid hp9
              clear hp9
              by_cases hcl : F0 = tk
              · have hst : loopC (cycs ws d) ws beg (k + 1) = loopC (cycs ws d) ws beg k ++ [beg ++ [k]] := by
                  rw [loopC_succ]
                  unfold stepC
                  rw [if_neg (by rw [HBG.out.1]; simp), if_pos (by rw [← HF0.out, hcl, HFK.out.2])]
                have HST := Lib.hid hst
                have hcb : ((F0 : Int) == (tk : Int)) = true := by rw [hcl]; simp
                clear hst hcl
                go_wp2
                go_quiet (fail)
                have hq := below_drewN (Below.refl w9.heap.size w9) nq
                have HO := Lib.hid (And.intro (row_below HO.out.1 hq) (HO.out.2.below hq (Nat.le_refl _)))
                have HRT := Lib.hid (HRT.out.1.below hq (Nat.le_refl _))
                replace b2 := blk_keep b2 hq
                replace hB := hB.trans (hq.mono hB.size)
                replace hwx := Nat.le_trans hwx hq.size
                clear hq hd0 f0 e1 x1 bx
                generalize World.drewN w9 nq = wd at *
                have hA8 := (Below.refl _ wd).alloc (Nat.le_refl _) (.cells #[.slice (some ⟨g9, 0, none⟩) (beg.length + 1) c9] 45)
                go_wp2_with (at_builtin; refine wpList_rows rfl _ _ rfl (w := wd.alloc (.cells #[.slice (some ⟨g9, 0, none⟩) (beg.length + 1) c9] 45)) (B := wl) (vs := vs) (us := [.slice (some ⟨g9, 0, none⟩) (beg.length + 1) c9]) (sows := [beg ++ [k]]) (A := some ⟨wd.heap.size, 0, none⟩) (c := 1) (HO.out.1.alloc _) (HO.out.2.below hA8 (Nat.le_refl _)) (slV_new (by simp) (by simp) (heap_newI rfl)) (RowsT.single (HRT.out.below hA8 (Nat.le_refl _))) (by simp only [List.length_cons, List.length_nil]; omega) rfl rfl (by rw [World.size_alloc]; omega) ?_; intro v10 w10 q1 q2 q3)
                have q4 : Below wl wd w10 := hA8.mono hwx |>.trans q3
                go_roundw
                case rel => exact ⟨k + 1, _, by omega, by go_num, q1, by rw [HST.out]; exact q2, (q4.block _ (by omega)).trans b2, hB.trans (q4.mono (by omega)), Nat.le_trans hwx q4.size⟩
                case measure => simp [intOf]; omega
              · have hst : loopC (cycs ws d) ws beg (k + 1) = loopC (cycs ws d) ws beg k ++ cycs ws d (beg ++ [k]) := by
                  rw [loopC_succ]
                  unfold stepC
                  rw [if_neg (by rw [HBG.out.1]; simp), if_neg (by rw [← HF0.out, ← HFK.out.2]; exact hcl)]
                have HST := Lib.hid hst
                have hcb : ((F0 : Int) == (tk : Int)) = false := by rw [beq_eq_false_iff_ne]; omega
                have hbc2 : BegC m ws (beg ++ [k]) := .inr ⟨HBG.out.2.1, by rw [HBG.out.2.2, ← HF0.out, ← HFK.out.2]; exact fun e => hcl e.symm⟩
                have HBC2 := Lib.hid hbc2
                clear hst hcl hbc2
                go_wp2
                go_quiet (fail)
                have hq := below_drewN (Below.refl w9.heap.size w9) nq
                have HO := Lib.hid (And.intro (row_below HO.out.1 hq) (HO.out.2.below hq (Nat.le_refl _)))
                have HRT := Lib.hid (HRT.out.2.below hq (Nat.le_refl _))
                replace b2 := blk_keep b2 hq
                replace hB := hB.trans (hq.mono hB.size)
                replace hwx := Nat.le_trans hwx hq.size
                clear hq hd0 f0 e1 x1 bx
                generalize World.drewN w9 nq = wd at *
                have h37 := IH.out (beg ++ [k]) _ wd (by have := HB.out.2; simp only [List.length_append, List.length_cons, List.length_nil]; omega) HBC2.out (HV.out.1.below hB (Nat.le_refl _)) HRT.out
                have H37 := Lib.hid h37
                have hcl2 := cycs_len hw9 d (beg ++ [k])
                have HCL2 := Lib.hid hcl2
                clear h37 hcl2
                go_wp2_with (first | (refine wpList_load_blk rfl 24 _ rfl _ rfl b2 Try.underlying24 rfl size24 rfl ?_) | (go_at_call 37; refine H37.out.mono ?_; rintro e wc ⟨⟨vr, us, rfl, hsu, hru⟩, hbc⟩; obtain ⟨ar, cr, hvr⟩ := slV_form hsu; subst hvr) | (at_builtin; refine wpList_rows rfl _ _ rfl (w := wc) (B := wl) (vs := vs) (us := us) (row_below HO.out.1 hbc) (HO.out.2.below hbc (Nat.le_refl _)) hsu hru (by have := hru.1; have := HCL2.out; have := HP9.out; omega) rfl rfl (Nat.le_trans hwx hbc.size) ?_; intro v10 w10 q1 q2 q3))
                have q4 : Below wl wd w10 := hbc.mono hwx |>.trans q3
                go_roundw
                case rel => exact ⟨k + 1, _, by omega, by go_num, q1, by rw [HST.out]; exact q2, (q4.block _ (by omega)).trans b2, hB.trans (q4.mono (by omega)), Nat.le_trans hwx q4.size⟩
                case measure => simp [intOf]; omega
            · have hsk : loopC (cycs ws d) ws beg (k + 1) = loopC (cycs ws d) ws beg k := by
                rw [loopC_succ]
                have : stepC (cycs ws d) ws beg k = [] := by unfold stepC; rw [if_pos (by rw [HSK2.out, ← hmc])]
                rw [this, List.append_nil]
              have HSKIP := Lib.hid hsk
              clear hsk hmc hke
              go_wp2
              go_roundw
              case rel => exact ⟨k + 1, vs, by omega, by go_num, HO.out.1, by rw [HSKIP.out]; exact HO.out.2, b2, hB, hwx⟩
              case measure => simp [intOf]; omega
      · obtain ⟨bb, ob, rfl, hlb, hbc⟩ := HCB.out.1 (by omega)
        have d0 := hbc wr hB (N - 1) (by omega)
        have HBC := Lib.hid hbc
        clear hbc
        have hi0 := HCB.out.2 (N - 1) (by omega)
        obtain ⟨-, g1, -, -, -⟩ := HCE.out wr hB _ hi0
        have hls : tN ws (beg.getD (N - 1) 0) = lstN ws beg := by unfold lstN; rw [← HN.out]
        rw [hls] at g1
        obtain ⟨iN, hiN⟩ : ∃ iN, iN = beg.getD (N - 1) 0 := ⟨_, rfl⟩
        rw [← hiN] at d0 hi0 g1
        obtain ⟨L, hL⟩ : ∃ L, L = lstN ws beg := ⟨_, rfl⟩
        rw [← hL] at g1
        obtain ⟨N1, hN1⟩ : ∃ N1, N1 = N - 1 := ⟨_, rfl⟩
        have hw1 : IntKind.i64.wrap ((N : Int) - 1) = (N1 : Int) := by rw [IntKind.wrap_i64]; omega
        rw [← hN1] at d0
        have hN1l : (N1 : Int) < N := by omega
        have hN10 : (0 : Int) ≤ (N1 : Int) := by omega
        have hNi : decide (0 < N) = true := by rw [decide_eq_true_eq]; omega
        have hbe : beg.isEmpty = false := by cases beg with | nil => exact absurd HN.out hN0 | cons a l => rfl
        have HL := Lib.hid (And.intro hL hbe)
        clear hN1 hiN hls hL hbe
        have d0x := (hBx.cell (p := ⟨bb, ob + N1, none⟩) (Nat.lt_of_lt_of_le hlb hszw)).trans d0
        have g1x := (hBx.cell (p := ⟨bw, ow + iN * 5 + 1, none⟩) (Nat.lt_of_lt_of_le hlw hszw)).trans g1
        have x00 := cell_blk (i := 0) bx0
        have b2x := blk_keep b2 hBx
        have c2x := cell_blk (i := 1) b2x
        simp only [List.getElem?_toArray, List.getElem?_cons_zero, List.getElem?_cons_succ] at x00 c2x
        by_cases hLf : L = fk
        · have hsk1 : (!beg.isEmpty && !decide (lstN ws beg = fN ws k)) = false := by rw [← HL.out.1, ← HFK.out.1, hLf]; simp
          have HSK1 := Lib.hid hsk1
          have hLb : ((L : Int) != (fk : Int)) = false := by rw [hLf]; simp
          have HX0 := Lib.hid (And.intro hBx bx0)
          clear hsk1 hBx bx0 hLf
          go_wp2
          go_quiet (fail)
          obtain ⟨hBx, bx0⟩ := HX0.out
          clear hLb d0 g1 d0x g1x x00 c2x b2x hw1 hN1l hN10 hNi hi0
          replace hBx := below_drewN hBx nq
          replace bx0 : ((wr.alloc (Obj.cells #[.int .i64 (fk : Nat), .int .i64 (tk : Nat), .int .i64 xl, .int .i64 xh, .int .i64 xb] 82 (0, 0))).drewN nq).heap[wr.heap.size]? = _ := bx0
          have hOx := And.intro (row_below HO.out.1 hBx) (HO.out.2.below hBx (Nat.le_refl _))
          replace b2 := blk_keep b2 hBx
          replace hB := hB.trans (hBx.mono hB.size)
          replace hwx := Nat.le_trans hwx hBx.size
          clear HO HX0 hBx r0 r1 r2 r3 r4
          have HO := Lib.hid hOx
          clear hOx
          obtain ⟨nx, hnx⟩ : ∃ nx, nx = wr.heap.size := ⟨_, rfl⟩
          rw [← hnx] at bx0 ⊢
          clear hnx
          generalize World.drewN _ _ = wq at *
          have bx := bx0
          clear bx0
          have hsk2 : skipC ws beg k = metC ws beg k := by unfold skipC; rw [HSK1.out]; rfl
          have HSK2 := Lib.hid hsk2
          clear hsk2
          go_wp2_with (refine wp_seq_k (fun K hK => ?_); fail)
          go_loopw [8, 41] (fun b i wy => ∃ kk : Nat, kk ≤ N ∧ i = .int .i64 kk ∧ b = .bool ((beg.take kk).any fun q => fN ws q == fN ws k) ∧ Below wq.heap.size wq wy) (fun _ i _ => N - (intOf i).toNat)
          case atStart => exact ⟨0, Nat.zero_le _, rfl, rfl, Below.refl _ _⟩
          case round =>
            obtain ⟨kk, hkk, rfl, rfl, hby⟩ := hrel
            replace b2 := blk_keep b2 hby
            replace bx := blk_keep bx hby
            replace hB := hB.trans (hby.mono hB.size)
            have HO := Lib.hid (And.intro (row_below HO.out.1 hby) (HO.out.2.below hby (Nat.le_refl _)))
            replace hwx := Nat.le_trans hwx hby.size
            have HBY := Lib.hid hby
            clear hby
            obtain ⟨mb, hmb⟩ : ∃ mb, mb = (beg.take kk).any fun q => fN ws q == fN ws k := ⟨_, rfl⟩
            rw [← hmb]
            have HMB := Lib.hid hmb
            clear hmb
            have e1 := cell_blk (i := 1) b2
            have x0 := cell_blk (i := 0) bx
            simp only [List.getElem?_toArray, List.getElem?_cons_zero, List.getElem?_cons_succ] at e1 x0
            by_cases hkkN : kk < N
            · have d0 := HBC.out wr hB kk hkkN
              have hi0 := HCB.out.2 kk hkkN
              obtain ⟨f0, -, -, -, -⟩ := HCE.out wr hB _ hi0
              have htk : ((beg.take (kk + 1)).any fun q => fN ws q == fN ws k) = (((beg.take kk).any fun q => fN ws q == fN ws k) || fN ws (beg.getD kk 0) == fN ws k) := by
                rw [take_succ_getD (by have := HN.out; omega), List.any_append]; simp
              obtain ⟨ik, hik⟩ : ∃ ik, ik = beg.getD kk 0 := ⟨_, rfl⟩
              rw [← hik] at d0 hi0 f0 htk
              obtain ⟨fi, hfi⟩ : ∃ fi, fi = fN ws ik := ⟨_, rfl⟩
              rw [← hfi] at f0 htk
              rw [← HMB.out, ← HFK.out.1] at htk
              have HTK := Lib.hid htk
              clear hik hfi htk
              have hkkI : (kk : Int) < (N : Int) := by omega
              cases mb
              · by_cases hff : fi = fk
                · have hff2 : ((fi : Int) == (fk : Int)) = true := by rw [hff]; simp
                  have htk2 : ((beg.take (kk + 1)).any fun q => fN ws q == fN ws k) = true := by rw [← HFK.out.1, HTK.out, hff]; simp
                  have HT2 := Lib.hid htk2
                  subst hff
                  clear htk2 HTK
                  go_wp2
                  go_quiet (fail)
                  go_wp2
                  go_roundw
                  case rel => exact ⟨kk + 1, by omega, by go_num, by rw [HT2.out], below_drewN (HBY.out) _⟩
                  case measure => simp [intOf]; omega
                · have hff2 : ((fi : Int) == (fk : Int)) = false := by rw [beq_eq_false_iff_ne]; omega
                  have htk2 : ((beg.take (kk + 1)).any fun q => fN ws q == fN ws k) = false := by rw [← HFK.out.1, HTK.out]; simpa using hff
                  have HT2 := Lib.hid htk2
                  clear htk2 HTK hff
                  go_wp2
                  go_quiet (fail)
                  go_wp2
                  go_roundw
                  case rel => exact ⟨kk + 1, by omega, by go_num, by rw [HT2.out], below_drewN (HBY.out) _⟩
                  case measure => simp [intOf]; omega
              · have htk2 : ((beg.take (kk + 1)).any fun q => fN ws q == fN ws k) = true := by rw [← HFK.out.1, HTK.out]; rfl
                have HT2 := Lib.hid htk2
                clear htk2 HTK
                go_wp2
                go_quiet (fail)
                go_wp2
                go_roundw
                case rel => exact ⟨kk + 1, by omega, by go_num, by rw [HT2.out], below_drewN (HBY.out) _⟩
                case measure => simp [intOf]; omega
            · have hke : beg.take kk = beg := by rw [show kk = beg.length by have := HN.out; omega]; exact List.take_length
              have hmc : mb = metC ws beg k := by rw [HMB.out, hke]; rfl
              have hkkI : ¬ ((kk : Int) < (N : Int)) := by omega
              cases mb
              ·
                have hmc2 : metC ws beg k = false := hmc.symm
                have hskf : skipC ws beg k = false := by rw [HSK2.out]; exact hmc2
                obtain ⟨hBeg, hlst⟩ := begC_ext HB.out.1 hkl hskf
                have HBG := Lib.hid (And.intro hskf (And.intro hBeg hlst))
                have hSb := HV.out.2.below hB (Nat.le_refl _)
                rw [show (nI beg).length = N by rw [List.length_map, HN.out]] at hSb
                have hbl : (nI beg).length ≤ 10000 := by rw [List.length_map, ← HN.out]; omega
                have hA7 := (Below.refl _ wr).alloc (Nat.le_refl _) (.cells #[] 3)
                have hS7 := hSb.below hA7 (Nat.le_refl _)
                have HX7 := Lib.hid (And.intro hbl (And.intro hA7 hS7))
                clear hmc hmc2 hskf hBeg hlst hSb hbl hA7 hS7 hke e1 x0
                go_wp2_with (first | (at_builtin; refine wpList_push rfl _ _ rfl (W := wr) (w := w8.alloc (.cells #[.int .i64 k] 3)) (g := w8.heap.size) (xs := nI beg) (i := (k : Int)) (by rw [List.length_map]; exact r8.alloc _) HX7.out.1 rfl rfl (heap_newI rfl) (hb8.alloc hb8.size _) ?_; intro v9 w9 r9 hb9; obtain ⟨g9, c9, hv9⟩ := own_formI r9 (Nat.succ_pos _); subst hv9) | (at_builtin; refine wpList_copy rfl _ _ rfl (W := wr) HX7.out.2.2 HX7.out.1 rfl rfl (heap_newI rfl) HX7.out.2.1 (Nat.le_refl _) ?_; intro v8 w8 r8 hb8; simp only [List.length_map] at r8; obtain ⟨a8, c8, hv8⟩ := form_of r8; subst hv8))
                have hlen9 : (nI beg).length + 1 = (beg ++ [k]).length := by simp
                have hSl9 : SlI w9 (.slice (some ⟨g9, 0, none⟩) (beg ++ [k]).length c9) (nI (beg ++ [k])) := by
                  have h := slI_own (xs := nI beg ++ [(k : Int)]) r9 (by simp) (by have := HX7.out.1; simp only [List.length_append, List.length_cons, List.length_nil]; omega)
                  rw [hlen9] at h
                  simpa using h
                have hRT9 : RowT w9 (.slice (some ⟨g9, 0, none⟩) (beg ++ [k]).length c9) (nI (beg ++ [k])) := by
                  obtain ⟨cur, hcur⟩ := row_block r9
                  exact ⟨hSl9, g9, _, c9, cur, rfl, hcur⟩
                have hN1e : (beg ++ [k]).length = beg.length + 1 := by rw [List.length_append]; rfl
                rw [hN1e] at hSl9 hRT9
                have HO := Lib.hid (And.intro (row_below HO.out.1 hb9) (HO.out.2.below hb9 (Nat.le_refl _)))
                replace b2 := blk_keep b2 hb9
                replace bx := blk_keep bx hb9
                replace hB := hB.trans (hb9.mono hB.size)
                replace hwx := Nat.le_trans hwx hb9.size
                have hlt0 : 0 < (beg ++ [k]).length := by simp
                have hi0 := HBG.out.2.1.lt ((beg ++ [k]).getD 0 0) (by rw [List.getD_eq_getElem?_getD, List.getElem?_eq_getElem hlt0]; exact List.getElem_mem _)
                have hd0 : w9.cell? ⟨g9, 0, none⟩ = some (.int .i64 (((beg ++ [k]).getD 0 0 : Nat) : Int)) := by
                  obtain ⟨_, _, e, -, -, h⟩ := hSl9
                  injection e with e _ _
                  obtain ⟨b', o', e2, _, h2⟩ := h (by simp)
                  rw [← e] at e2
                  injection e2 with e2
                  injection e2 with e3 e4
                  subst e3 e4
                  have h3 := h2 0 (by simp)
                  rw [at0_nI (by simp)] at h3
                  exact h3
                obtain ⟨f0, -, -, -, -⟩ := HCE.out w9 hB _ hi0
                have hfst : fN ws ((beg ++ [k]).getD 0 0) = fstN ws (beg ++ [k]) := rfl
                rw [hfst] at f0
                obtain ⟨i0, hi0e⟩ : ∃ i0, i0 = (beg ++ [k]).getD 0 0 := ⟨_, rfl⟩
                rw [← hi0e] at hd0 f0 hi0
                obtain ⟨F0, hF0⟩ : ∃ F0, F0 = fstN ws (beg ++ [k]) := ⟨_, rfl⟩
                rw [← hF0] at f0
                have e1 := cell_blk (i := 1) b2
                have x1 := cell_blk (i := 1) bx
                simp only [List.getElem?_toArray, List.getElem?_cons_zero, List.getElem?_cons_succ] at e1 x1
                have HF0 := Lib.hid hF0
                have HRT := Lib.hid (And.intro hRT9 hSl9)
                clear hfst hi0e hF0 hRT9 hSl9 hlen9 hN1e r8 hb8 r9 hb9 HX7
                have hN1i : (0 : Int) < (N : Int) + 1 := by omega
                have hd5 : d ≤ 5 := by have := HB.out.2; omega
                have hp9 : 9 ^ d ≤ 59049 := Nat.le_trans (Nat.pow_le_pow_right (by omega) hd5) (by decide)
                have hvl : vs.length ≤ 531441 := by
                  rw [HO.out.2.1]
                  have h1 := loopC_len (ws := ws) (beg := beg) (pow9 d) (cycs_len hw9 d) k
                  have h2 : k * 9 ^ d ≤ 9 * 59049 := Nat.mul_le_mul (by omega) hp9
                  omega
                have HP9 := Lib.hid hp9
                clear hp9
                by_cases hcl : F0 = tk
                · have hst : loopC (cycs ws d) ws beg (k + 1) = loopC (cycs ws d) ws beg k ++ [beg ++ [k]] := by
                    rw [loopC_succ]
                    unfold stepC
                    rw [if_neg (by rw [HBG.out.1]; simp), if_pos (by rw [← HF0.out, hcl, HFK.out.2])]
                  have HST := Lib.hid hst
                  have hcb : ((F0 : Int) == (tk : Int)) = true := by rw [hcl]; simp
                  clear hst hcl
                  go_wp2
                  go_quiet (fail)
                  have hq := below_drewN (Below.refl w9.heap.size w9) nq
                  have HO := Lib.hid (And.intro (row_below HO.out.1 hq) (HO.out.2.below hq (Nat.le_refl _)))
                  have HRT := Lib.hid (HRT.out.1.below hq (Nat.le_refl _))
                  replace b2 := blk_keep b2 hq
                  replace hB := hB.trans (hq.mono hB.size)
                  replace hwx := Nat.le_trans hwx hq.size
                  clear hq hd0 f0 e1 x1 bx
                  generalize World.drewN w9 nq = wd at *
                  have hA8 := (Below.refl _ wd).alloc (Nat.le_refl _) (.cells #[.slice (some ⟨g9, 0, none⟩) (beg.length + 1) c9] 45)
                  go_wp2_with (at_builtin; refine wpList_rows rfl _ _ rfl (w := wd.alloc (.cells #[.slice (some ⟨g9, 0, none⟩) (beg.length + 1) c9] 45)) (B := wl) (vs := vs) (us := [.slice (some ⟨g9, 0, none⟩) (beg.length + 1) c9]) (sows := [beg ++ [k]]) (A := some ⟨wd.heap.size, 0, none⟩) (c := 1) (HO.out.1.alloc _) (HO.out.2.below hA8 (Nat.le_refl _)) (slV_new (by simp) (by simp) (heap_newI rfl)) (RowsT.single (HRT.out.below hA8 (Nat.le_refl _))) (by simp only [List.length_cons, List.length_nil]; omega) rfl rfl (by rw [World.size_alloc]; omega) ?_; intro v10 w10 q1 q2 q3)
                  have q4 : Below wl wd w10 := hA8.mono hwx |>.trans q3
                  go_roundw
                  case rel => exact ⟨k + 1, _, by omega, by go_num, q1, by rw [HST.out]; exact q2, (q4.block _ (by omega)).trans b2, hB.trans (q4.mono (by omega)), Nat.le_trans hwx q4.size⟩
                  case measure => simp [intOf]; omega
                · have hst : loopC (cycs ws d) ws beg (k + 1) = loopC (cycs ws d) ws beg k ++ cycs ws d (beg ++ [k]) := by
                    rw [loopC_succ]
                    unfold stepC
                    rw [if_neg (by rw [HBG.out.1]; simp), if_neg (by rw [← HF0.out, ← HFK.out.2]; exact hcl)]
                  have HST := Lib.hid hst
                  have hcb : ((F0 : Int) == (tk : Int)) = false := by rw [beq_eq_false_iff_ne]; omega
                  have hbc2 : BegC m ws (beg ++ [k]) := .inr ⟨HBG.out.2.1, by rw [HBG.out.2.2, ← HF0.out, ← HFK.out.2]; exact fun e => hcl e.symm⟩
                  have HBC2 := Lib.hid hbc2
                  clear hst hcl hbc2
                  go_wp2
                  go_quiet (fail)
                  have hq := below_drewN (Below.refl w9.heap.size w9) nq
                  have HO := Lib.hid (And.intro (row_below HO.out.1 hq) (HO.out.2.below hq (Nat.le_refl _)))
                  have HRT := Lib.hid (HRT.out.2.below hq (Nat.le_refl _))
                  replace b2 := blk_keep b2 hq
                  replace hB := hB.trans (hq.mono hB.size)
                  replace hwx := Nat.le_trans hwx hq.size
                  clear hq hd0 f0 e1 x1 bx
                  generalize World.drewN w9 nq = wd at *
                  have h37 := IH.out (beg ++ [k]) _ wd (by have := HB.out.2; simp only [List.length_append, List.length_cons, List.length_nil]; omega) HBC2.out (HV.out.1.below hB (Nat.le_refl _)) HRT.out
                  have H37 := Lib.hid h37
                  have hcl2 := cycs_len hw9 d (beg ++ [k])
                  have HCL2 := Lib.hid hcl2
                  clear h37 hcl2
                  go_wp2_with (first | (refine wpList_load_blk rfl 24 _ rfl _ rfl b2 Try.underlying24 rfl size24 rfl ?_) | (go_at_call 37; refine H37.out.mono ?_; rintro e wc ⟨⟨vr, us, rfl, hsu, hru⟩, hbc⟩; obtain ⟨ar, cr, hvr⟩ := slV_form hsu; subst hvr) | (at_builtin; refine wpList_rows rfl _ _ rfl (w := wc) (B := wl) (vs := vs) (us := us) (row_below HO.out.1 hbc) (HO.out.2.below hbc (Nat.le_refl _)) hsu hru (by have := hru.1; have := HCL2.out; have := HP9.out; omega) rfl rfl (Nat.le_trans hwx hbc.size) ?_; intro v10 w10 q1 q2 q3))
                  have q4 : Below wl wd w10 := hbc.mono hwx |>.trans q3
                  go_roundw
                  case rel => exact ⟨k + 1, _, by omega, by go_num, q1, by rw [HST.out]; exact q2, (q4.block _ (by omega)).trans b2, hB.trans (q4.mono (by omega)), Nat.le_trans hwx q4.size⟩
                  case measure => simp [intOf]; omega
              · have hsk : loopC (cycs ws d) ws beg (k + 1) = loopC (cycs ws d) ws beg k := by
                  rw [loopC_succ]
                  have : stepC (cycs ws d) ws beg k = [] := by unfold stepC; rw [if_pos (by rw [HSK2.out, ← hmc])]
                  rw [this, List.append_nil]
                have HSKIP := Lib.hid hsk
                clear hsk hmc hke
                go_wp2
                go_roundw
                case rel => exact ⟨k + 1, vs, by omega, by go_num, HO.out.1, by rw [HSKIP.out]; exact HO.out.2, b2, hB, hwx⟩
                case measure => simp [intOf]; omega
        · have hsk1 : skipC ws beg k = true := by unfold skipC; rw [HL.out.2, ← HL.out.1, ← HFK.out.1]; simp [hLf]
          have hsk : loopC (cycs ws d) ws beg (k + 1) = loopC (cycs ws d) ws beg k := by
            rw [loopC_succ]
            have : stepC (cycs ws d) ws beg k = [] := by unfold stepC; rw [if_pos hsk1]
            rw [this, List.append_nil]
          have HSKIP := Lib.hid hsk
          have hLb : ((L : Int) != (fk : Int)) = true := by rw [bne_iff_ne]; omega
          have HX0 := Lib.hid (And.intro hBx bx0)
          clear hsk1 hsk hBx bx0 hLf
          go_wp2
          go_quiet (fail)
          obtain ⟨hBx, bx0⟩ := HX0.out
          replace hBx := below_drewN hBx nq
          go_wp2
          go_roundw
          case rel => exact ⟨k + 1, vs, by omega, by go_num, row_below HO.out.1 hBx, by rw [HSKIP.out]; exact HO.out.2.below hBx (Nat.le_refl _), blk_keep b2 hBx, btr hB hBx (Nat.le_refl _), Nat.le_trans hwx hBx.size⟩
          case measure => simp [intOf]; omega
    · have hke : k = ws.length := by omega
      have hkli : ¬ ((k : Int) < (ws.length : Int)) := by omega
      have hRe : loopC (cycs ws d) ws beg k = R := by rw [HR.out, hke]; rfl
      rw [hRe] at hrows
      have hd5 : d ≤ 5 := by have := HB.out.2; omega
      have hp9 : 9 ^ d ≤ 59049 := Nat.le_trans (Nat.pow_le_pow_right (by omega) hd5) (by decide)
      have hvl : vs.length ≤ 531441 := by
        rw [hrows.1, ← hRe]
        have h1 := loopC_len (ws := ws) (beg := beg) (pow9 d) (cycs_len hw9 d) k
        have h2 : k * 9 ^ d ≤ 9 * 59049 := Nat.mul_le_mul (by omega) hp9
        omega
      have HO := Lib.hid (And.intro hown hrows)
      clear hown hrows hRe hke hkl hp9
      go_wp2
      go_ret
      exact ⟨⟨_, rfl, vs, slV_own HO.out.1 rfl (by omega), HO.out.2⟩, hB⟩
end Yteileadcmekkoaa
end Go.Proofs
