/- Pans: rise: a timetable is raised round by round. -/
import Derived.Test.YteileadcmekkoaaQ6
import Derived.Test.YteileadcmekkoaaPn
import Derived.ScopeJumps
open Go Go.RowKit Go.YteileadcmekkoaaIt
namespace Go
/-- A scope with a label that is jumped back to: the code behind the label once. -/
theorem wp_scope_jumps2 {P : Program} {a : Act} {w : World} {Q : Exit → Act → World → Prop} {c R : Code} (l : Nat) (J : Act → World → Prop) (μ : Act → World → Nat) (hf : findLabel c l = some (.seq .skip R))
    (first : ∀ Q', (∀ a w, J a w → R.wp P Q' a w) → c.wp P Q' a w)
    (pass : ∀ a w, J a w → R.wp P (Exit.jump l (fun a' w' => J a' w' ∧ μ a' w' < μ a w) Q) a w) : (Code.scope c).wp P Q a w := by
  refine wp_scope_jumps l J μ hf (first _ fun a w h => ?_) (fun a w h => wp_seq ?_)
  · refine Code.wp_mono ?_ (pass a w h)
    intro e a' w' hq
    cases e <;> first | exact hq | exact ⟨hq.1, hq.2.1⟩
  · exact wp_skip (pass a w h)
end Go
namespace Go.Proofs
namespace Yteileadcmekkoaa
open PanPlain (Ed St rounds runTo upd it pf Back backC)
/-! ### Rows of numbers -/
def rowX (n : Nat) (g : Nat → Int) : List Value := (List.range n).map fun v => .int .i64 (g v)
theorem rowX_len (n : Nat) (g : Nat → Int) : (rowX n g).length = n := by simp [rowX]
theorem rowX_get {n i : Nat} (g : Nat → Int) (h : i < n) : (rowX n g)[i]? = some (.int .i64 (g i)) := by simp [rowX, h]
theorem rowX_set {n t : Nat} (g : Nat → Int) (z : Int) : (rowX n g).toArray.setIfInBounds t (.int .i64 z) = (rowX n (PanPlain.upd g t z)).toArray := by
  apply Array.toList_inj.1
  apply List.ext_getElem?
  intro i
  rw [Array.toList_setIfInBounds, List.getElem?_set]
  simp only [rowX_len]
  by_cases hi : i < n
  · rw [rowX_get _ hi]
    by_cases ht : t = i
    · subst ht
      simp [hi, PanPlain.upd_same, rowX_get _ hi]
    · rw [if_neg ht, rowX_get _ hi, PanPlain.upd_ne _ _ (fun e => ht e.symm)]
  · have e1 : (rowX n g)[i]? = none := List.getElem?_eq_none (by rw [rowX_len]; omega)
    have e2 : (rowX n (PanPlain.upd g t z))[i]? = none := List.getElem?_eq_none (by rw [rowX_len]; omega)
    rw [e2]
    by_cases ht : t = i
    · subst ht; simp [hi]
    · simp [ht, e1]
theorem rowX_zero (n : Nat) : (rowX n fun _ => 0) = List.replicate n (.int .i64 0) := by
  unfold rowX; apply List.ext_getElem <;> simp
theorem rowX_same {n : Nat} {g k : Nat → Int} (h : ∀ v, v < n → g v = k v) : rowX n g = rowX n k := by
  unfold rowX
  apply List.map_congr_left
  intro v hv
  rw [h v (by simpa using hv)]
/-- The waits of a work, for a period. -/
def eds (ws : List Wa) (num den : Int) : List Ed := ws.map fun x => ⟨x.f.toNat, x.t.toNat, x.hi * den - x.b * num⟩
theorem eds_len (ws : List Wa) (num den : Int) : (eds ws num den).length = ws.length := by simp [eds]
theorem eds_get {ws : List Wa} {num den : Int} {i : Nat} (h : i < ws.length) : (eds ws num den)[i]? = some ⟨(at_ ws i).f.toNat, (at_ ws i).t.toNat, (at_ ws i).hi * den - (at_ ws i).b * num⟩ := by
  simp [eds, h, at_lt h]
theorem eds_some {ws : List Wa} {num den : Int} {i : Nat} {e : Ed} (h : (eds ws num den)[i]? = some e) : i < ws.length ∧ e = ⟨(at_ ws i).f.toNat, (at_ ws i).t.toNat, (at_ ws i).hi * den - (at_ ws i).b * num⟩ := by
  have hl : i < ws.length := by have := (List.getElem?_eq_some_iff.1 h).1; rwa [eds_len] at this
  rw [eds_get hl] at h
  injection h with h
  exact ⟨hl, h.symm⟩
/-- A work is valid, but for getting stuck. -/
structure Val (n : Nat) (ws : List Wa) : Prop where
  n1 : 1 ≤ n ∧ n ≤ 10
  len : ws.length ≤ 40
  ok : ∀ i, i < ws.length → (0 ≤ (at_ ws i).f ∧ (at_ ws i).f < n) ∧ (0 ≤ (at_ ws i).t ∧ (at_ ws i).t < n) ∧ (0 ≤ (at_ ws i).lo ∧ (at_ ws i).lo ≤ (at_ ws i).hi) ∧ (at_ ws i).hi ≤ 10000 ∧ (0 ≤ (at_ ws i).b ∧ (at_ ws i).b ≤ 4)
theorem Val.ed {n : Nat} {ws : List Wa} (h : Val n ws) (num den : Int) : ∀ (j : Nat) (e : Ed), (eds ws num den)[j]? = some e → e.f < n ∧ e.t < n := fun j e he => by
  obtain ⟨hl, rfl⟩ := eds_some he
  obtain ⟨h1, h2, _⟩ := h.ok j hl
  exact ⟨by simp only; omega, by simp only; omega⟩
theorem Val.wt {n : Nat} {ws : List Wa} (h : Val n ws) {num den : Int} (hn : 0 ≤ num) (hd : 0 ≤ den) : ∀ (j : Nat) (e : Ed), (eds ws num den)[j]? = some e → e.w ≤ 10000 * den := fun j e he => by
  obtain ⟨hl, rfl⟩ := eds_some he
  obtain ⟨_, _, ⟨h3, h3'⟩, h4, h5, h6⟩ := h.ok j hl
  have e1 : (at_ ws j).hi * den ≤ 10000 * den := Int.mul_le_mul_of_nonneg_right h4 hd
  have e2 : 0 ≤ (at_ ws j).b * num := Int.mul_nonneg h5 hn
  simp only
  omega
/-- The step that was raised last, as the program holds it. -/
def raI : Option Nat → Int
  | none => -1
  | some v => v
/-- A slice in memory that is new. -/
def FrS (B : Nat) (v : Value) : Prop := ∃ g n c, v = .slice (some ⟨g, 0, none⟩) n c ∧ B ≤ g
/-- What rise answers. -/
def RiseR (B n : Nat) (ws : List Wa) (num den : Int) (e : Ending) (w' : World) : Prop :=
  (∃ r, r ≤ n ∧ (rounds (eds ws num den) (r + 1)).ra = none ∧ ∃ u, e = .returned (.tuple #[u, .slice none 0 0]) ∧ SlI w' u ((List.range n).map (rounds (eds ws num den) r).x) ∧ FrS B u) ∨
  (∃ v k u, (rounds (eds ws num den) (n + 1)).ra = some v ∧ Back (eds ws num den) (rounds (eds ws num den) (n + 1)) n (it (pf (eds ws num den) (rounds (eds ws num den) (n + 1))) n v) k ∧ e = .returned (.tuple #[.slice none 0 0, u]) ∧
    SlI w' u ((backC (eds ws num den) (rounds (eds ws num den) (n + 1)) (it (pf (eds ws num den) (rounds (eds ws num den) (n + 1))) n v) k).reverse.map fun (i : Nat) => (i : Int)) ∧ FrS B u)
/-- The frame at the label. -/
def frR (n : Nat) (ad : Option Addr) (len cap B ba r : Nat) (us : Nat → Value) : Act := { tmps := #[.agg #[.int .i64 n, .slice ad len cap], us 1, .pointer (some ⟨B, 0, none⟩), .pointer (some ⟨B + 1, 0, none⟩), .slice (some ⟨B + 2, 0, none⟩) n n, .slice none 0 0, .pointer (some ⟨ba, 0, none⟩), .int .i64 r, us 8, us 9, us 10, us 11, us 12, us 13, us 14, us 15, us 16, us 17, us 18, us 19, us 20, us 21, us 22, us 23, us 24, us 25, us 26, us 27, us 28, us 29, us 30, us 31, us 32, us 33, us 34, us 35, us 36, us 37, us 38, us 39, us 40, us 41, us 42, us 43, us 44, us 45, us 46, us 47, us 48, us 49, us 50, us 51, us 52, us 53, us 54, us 55, us 56, us 57, us 58, us 59, us 60, us 61, us 62, us 63, us 64, us 65, us 66, us 67, us 68, us 69, us 70, us 71, us 72, us 73, us 74, us 75, us 76, us 77, us 78, us 79, us 80, us 81, us 82, us 83, us 84, us 85, us 86, us 87, us 88, us 89, us 90, us 91, us 92, us 93, us 94, us 95, us 96, us 97, us 98, us 99, us 100, us 101, us 102, us 103, us 104, us 105, us 106, us 107, us 108], defers := [] }
theorem of_frR {n len cap B ba r : Nat} {ad : Option Addr} {a : Act} (h : a = frR n ad len cap B ba r (fun i => a.tmps.getD i undef)) : ∃ us, a = frR n ad len cap B ba r us := ⟨_, h⟩

theorem info3 : (Try.prog.info? 3).map (fun i => (i.zero, i.size, i.bytes)) = some (some (.int .i64 0), 1, 8) := by kernel_rfl
theorem size125 : (Try.prog.info? 125).map (·.size) = some 10 := by kernel_rfl
set_option maxRecDepth 100000 in
set_option maxHeartbeats 4000000 in
theorem rise_any (n : Nat) (v : Value) (ws : List Wa) (num den : Int) (w : World) (hV : Val n ws) (hv : SlA w v ws) (hp : 0 ≤ num ∧ num ≤ 1000000) (hd : 1 ≤ den ∧ den ≤ 1000) :
    Calls Try.prog 73 #[.agg #[.int .i64 n, v], .agg #[.int .i64 num, .int .i64 den]] w fun e w' => Below w.heap.size w w' ∧ RiseR w.heap.size n ws num den e w' := by
  have HV := Lib.hid hv
  have HVA := Lib.hid hV
  have hn1 := hV.n1
  have hlen := hV.len
  obtain ⟨ad, cap, rfl, hm, hcp, -⟩ := hv
  clear hV
  obtain ⟨i3, hi3, hz1, hz2, hz3⟩ := info_parts info3
  have HI := Lib.hid (And.intro hi3 (And.intro hz1 (And.intro hz2 hz3)))
  clear hi3 hz1 hz2 hz3
  go_enter Try.func73, Try.ntmps73
  refine wp_seq_k (fun K hK => ?_)
  have HK := Lib.hid hK; clear hK
  go_wp2
  refine HK.out _ _ ?_; clear HK K
  generalize hw1 : World.alloc _ _ = w1
  obtain ⟨b1, b2, hB, hs1⟩ := blkE2 hw1
  clear hw1
  refine wp_scope_jumps2 0 (fun a' w' => ∃ (r ba : Nat), r ≤ n ∧ w.heap.size + 3 ≤ ba ∧ a' = frR n ad ws.length cap w.heap.size ba r (fun i => a'.tmps.getD i undef) ∧
    w'.heap[w.heap.size]? = some (.cells #[.int .i64 n, .slice ad ws.length cap] 24 (0, 0)) ∧ w'.heap[w.heap.size + 1]? = some (.cells #[.int .i64 num, .int .i64 den] 26 (0, 0)) ∧ w'.heap[w.heap.size + 2]? = some (.cells (rowX n (rounds (eds ws num den) r).x).toArray 3 (0, 0)) ∧ w'.heap[ba]? = some (.cells (rowX 10 fun v => ((rounds (eds ws num den) r).by_ v : Nat)).toArray 125 (0, 0)) ∧ Below w.heap.size w w') (fun a' _ => 20 - (intOf (a'.tmps.getD 7 undef)).toNat) rfl ?first ?pass
  case first =>
    intro Q' hJ
    have HJ := Lib.hid hJ
    clear hJ
    refine wp_seq_k (fun K hK => ?_)
    have HK := Lib.hid hK; clear hK
    have c0 := cell_blk (i := 0) b1
    simp only [List.getElem?_toArray, List.getElem?_cons_zero] at c0
    go_wp2_with (at_make; refine wpList_make_full w1 rfl (.tmp 14) (.tmp 14) 45 rfl w1.heap.size 3 i3 (.int .i64 0) 1 Try.underlying45 HI.out.1 HI.out.2.1 HI.out.2.2.1 .i64 .i64 _ _ n rfl rfl rfl rfl (by rw [HI.out.2.2.2]; omega) (Nat.le_trans (by omega : n ≤ 100) (by decide)) (Nat.le_refl _) ?_; intro w5 q1 q2)
    refine HK.out _ _ ?_; clear HK K
    rw [made_rep _ rfl] at q1
    have hb5 : Below w1.heap.size w1 w5 := ⟨q2.os, q2.tape, q2.output, q2.size, fun k hk => q2.block k hk (by simp)⟩
    have q3 := row_full q1
    have hs5 := lt_blk q3
    have g1 := blk_keep b1 hb5
    have g2 := blk_keep b2 hb5
    have hB5 := hB.trans (hb5.mono (by omega))
    clear q1 q2 c0 hb5 b1 b2 hB
    rw [hs1] at q3 hs5
    have hs5' : w.heap.size + 3 ≤ w5.heap.size := hs5
    clear hs5 hs1
    refine wp_seq_k (fun K hK => ?_)
    have HK := Lib.hid hK; clear hK
    go_wp2
    refine HK.out _ _ ?_; clear HK K
    generalize hw6 : World.alloc _ _ = w6
    obtain ⟨b4, hB6, hs6⟩ := blk1 hw6
    clear hw6
    go_wp2
    go_step3
    rename_i K hK
    refine hK _ _ (HJ.out _ _ ⟨0, w5.heap.size, Nat.zero_le _, hs5', rfl, blk_keep g1 hB6, blk_keep g2 hB6, ?_, ?_, hB5.trans (hB6.mono hB5.size)⟩)
    · show w6.heap[w.heap.size + 2]? = some (Obj.cells (rowX n fun _ => 0).toArray 3 (0, 0))
      rw [rowX_zero]; exact blk_keep q3 hB6
    · exact b4
  case pass =>
    rintro a' w1 ⟨r, ba, hr, hba, hfr, g1, g2, g3, g4, hB⟩
    obtain ⟨us, rfl⟩ := of_frR hfr
    clear hfr
    unfold frR
    generalize hQQ : Exit.jump 0 _ _ = QQ
    have HQ := Lib.hid hQQ
    clear hQQ
    have c1 := cell_blk (i := 1) g1
    simp only [List.getElem?_toArray, List.getElem?_cons_zero, List.getElem?_cons_succ] at c1
    go_wp2
    go_loopw [8, 19] (fun ra i wr => ∃ k : Nat, k ≤ ws.length ∧ i = .int .i64 k ∧ ra = .int .i64 (raI (runTo (eds ws num den) (r + 1) k (rounds (eds ws num den) r)).ra) ∧ w.heap.size + 3 ≤ wr.heap.size ∧
      wr.heap[w.heap.size]? = some (.cells #[.int .i64 n, .slice ad ws.length cap] 24 (0, 0)) ∧ wr.heap[w.heap.size + 1]? = some (.cells #[.int .i64 num, .int .i64 den] 26 (0, 0)) ∧ wr.heap[w.heap.size + 2]? = some (.cells (rowX n (runTo (eds ws num den) (r + 1) k (rounds (eds ws num den) r)).x).toArray 3 (0, 0)) ∧ wr.heap[ba]? = some (.cells (rowX 10 fun v => ((runTo (eds ws num den) (r + 1) k (rounds (eds ws num den) r)).by_ v : Nat)).toArray 125 (0, 0)) ∧ Below w.heap.size w wr) (fun _ i _ => ws.length - (intOf i).toNat)
    case atStart => exact ⟨0, Nat.zero_le _, rfl, rfl, by have := lt_blk g4; omega, g1, g2, g3, g4, hB⟩
    case round =>
      clear g1 g2 g3 g4 hB c1
      obtain ⟨k, hk, rfl, rfl, hsz, g1, g2, g3, g4, hB⟩ := hrel
      by_cases hkl : k < ws.length
      · have hva := HVA.out.ok k hkl
        obtain ⟨ad', cap', he, hm', hcp', hc⟩ := HV.out
        injection he with he1 he2 he3
        subst he1
        subst he3
        obtain ⟨b, off, rfl, hlt, hcell⟩ := hc (by omega)
        obtain ⟨q0, q1, q2, q3, q4⟩ := a_cells hcell (n := k) hkl rfl
        have r0 := (hB.cell (p := ⟨b, off + k * 5, none⟩) hlt).trans q0
        have r1 := (hB.cell (p := ⟨b, off + k * 5 + 1, none⟩) hlt).trans q1
        have r2 := (hB.cell (p := ⟨b, off + k * 5 + 2, none⟩) hlt).trans q2
        have r3 := (hB.cell (p := ⟨b, off + k * 5 + 3, none⟩) hlt).trans q3
        have r4 := (hB.cell (p := ⟨b, off + k * 5 + 4, none⟩) hlt).trans q4
        have hmb := fun v => PanPlain.mid_bound (HVA.out.wt hp.1 (by omega : (0 : Int) ≤ den)) (by omega) r k (by rw [eds_len]; omega) v
        have hone : runTo (eds ws num den) (r + 1) (k + 1) (rounds (eds ws num den) r) = PanPlain.one (r + 1) k ⟨(at_ ws k).f.toNat, (at_ ws k).t.toNat, (at_ ws k).hi * den - (at_ ws k).b * num⟩ (runTo (eds ws num den) (r + 1) k (rounds (eds ws num den) r)) := by
          show (match (eds ws num den)[k]? with | some e => _ | none => _) = _
          rw [eds_get hkl]
        have hmx : ((r + 1) * (eds ws num den).length : Nat) ≤ 440 := by
          rw [eds_len]
          exact Nat.le_trans (Nat.mul_le_mul (by omega : r + 1 ≤ 11) hlen) (by omega)
        generalize runTo (eds ws num den) (r + 1) k (rounds (eds ws num den) r) = st at *
        obtain ⟨st1, hst1⟩ : ∃ s, s = runTo (eds ws num den) (r + 1) (k + 1) (rounds (eds ws num den) r) := ⟨_, rfl⟩
        rw [← hst1] at hone
        have HS1 := Lib.hid hst1
        clear hst1
        obtain ⟨⟨f0, f1⟩, ⟨t0, t1⟩, -, l1, ⟨bk0, bk1⟩⟩ := hva
        obtain ⟨⟨l0, l2⟩, -⟩ := (HVA.out.ok k hkl).2.2
        obtain ⟨fn, hfn⟩ := Int.eq_ofNat_of_zero_le f0
        obtain ⟨tn, htn⟩ := Int.eq_ofNat_of_zero_le t0
        have hx0 := hmb fn
        have hx1 := hmb tn
        have hM : (((r + 1) * (eds ws num den).length : Nat) : Int) * (10000 * den) ≤ 440 * 10000000 := by
          refine Int.mul_le_mul (by omega) (by omega) (by omega) (by omega)
        rw [hfn] at r0 f1
        rw [htn] at r1 t1
        rw [hfn, htn] at hone
        clear hmb hcell hc q0 q1 q2 q3 q4 hmx
        simp only [Int.toNat_natCast] at hone
        generalize hxw : (at_ ws k).hi = xh at *
        generalize hxb : (at_ ws k).b = xb at *
        generalize (at_ ws k).lo = xl at *
        have HONE := Lib.hid hone
        have p1 : 0 ≤ xh * den := Int.mul_nonneg (by omega) (by omega)
        have p2 : xh * den ≤ 10000000 := Int.le_trans (Int.mul_le_mul l1 hd.2 (by omega) (by omega)) (by omega)
        have p3 : 0 ≤ xb * num := Int.mul_nonneg bk0 hp.1
        have p4 : xb * num ≤ 4000000 := Int.le_trans (Int.mul_le_mul bk1 hp.2 hp.1 (by omega)) (by omega)
        have hx00 := hx0.1
        have hx01 := Int.le_trans hx0.2 hM
        have hx10 := hx1.1
        have hx11 := Int.le_trans hx1.2 hM
        clear hx0 hx1 hM
        have d0 := cell_blk (i := fn) g3
        have d1 := cell_blk (i := tn) g3
        have e0 := cell_blk (i := 0) g2
        have e1 := cell_blk (i := 1) g2
        have fz3 := free_blk (i := tn) g3
        have fz4 := free_blk (i := tn) g4
        rw [List.getElem?_toArray, rowX_get _ (by omega)] at d0 d1
        simp only [List.getElem?_toArray, List.getElem?_cons_zero, List.getElem?_cons_succ] at e0 e1
        have s1 : IntKind.i64.wrap (xh * den) = xh * den := by rw [IntKind.wrap_i64]; omega
        have s2 : IntKind.i64.wrap (st.x fn + xh * den) = st.x fn + xh * den := by rw [IntKind.wrap_i64]; omega
        have s3 : IntKind.i64.wrap (xb * num) = xb * num := by rw [IntKind.wrap_i64]; omega
        have s4 : IntKind.i64.wrap (st.x fn + xh * den - xb * num) = st.x fn + xh * den - xb * num := by rw [IntKind.wrap_i64]; omega
        clear hfn htn hxw hxb hone f0 t0
        generalize hxf : st.x fn = xf at *
        generalize hxt : st.x tn = xt at *
        have HXT := Lib.hid hxt
        have HXF := Lib.hid hxf
        clear hxf
        clear hxt
        have z0 : w.heap.size < wr.heap.size := by omega
        have z1 : w.heap.size + 1 < wr.heap.size := by omega
        have z2 : w.heap.size + 2 < wr.heap.size := by omega
        go_wp2
        go_quiet (fail)
        clear s1 s2 s3 s4 d0 d1 e0 e1 fz3 fz4 r0 r1 r2 r3 r4
        generalize hw2 : World.drewN _ _ = W2
        have hb2 : Below wr.heap.size wr W2 := by rw [← hw2]; exact below_drewN ((Below.refl _ wr).alloc (Nat.le_refl _) _) _
        have b5 : W2.heap[wr.heap.size]? = some (.cells #[.int .i64 fn, .int .i64 tn, .int .i64 xl, .int .i64 xh, .int .i64 xb] 82 (0, 0)) := by rw [← hw2]; exact heap_newI rfl
        clear hw2
        have zbr : ba < wr.heap.size := lt_blk g4
        replace g1 := blk_keep g1 hb2
        replace g2 := blk_keep g2 hb2
        replace g3 := blk_keep g3 hb2
        replace g4 := blk_keep g4 hb2
        have hsz2 := hb2.size
        replace hB := hB.trans (hb2.mono hB.size)
        have hbw : ba ≠ w.heap.size + 2 := by omega
        have z2w : w.heap.size + 2 < W2.heap.size := by omega
        have zba : ba < W2.heap.size := lt_blk g4
        clear hb2
        have d1 := cell_blk (i := tn) g3
        have b50 := cell_blk (i := 0) b5
        have b51 := cell_blk (i := 1) b5
        have fz3 := free_blk (i := tn) g3
        have fz4 := free_blk (i := tn) g4
        rw [List.getElem?_toArray, rowX_get _ (by omega), HXT.out] at d1
        simp only [List.getElem?_toArray, List.getElem?_cons_zero, List.getElem?_cons_succ] at b50 b51
        have hbx : ∃ u, W2.cell? ⟨ba, tn, none⟩ = some (.int .i64 u) := ⟨_, by rw [cell_blk g4, List.getElem?_toArray, rowX_get _ (by omega)]⟩
        obtain ⟨ux, hbx⟩ := hbx
        generalize hy : xf + xh * den - xb * num = y at *
        have hy0 : -100000000000 ≤ y ∧ y ≤ 100000000000 := by omega
        have HY := Lib.hid hy
        clear hy p1 p2 p3 p4 hx00 hx01
        by_cases hgt : xt < y
        · have hone : st1 = PanPlain.raise (r + 1) k ⟨fn, tn, xh * den - xb * num⟩ st := by
            rw [HONE.out]; unfold PanPlain.one
            rw [if_pos]
            have := HY.out; have := HXT.out; have := HXF.out
            show st.x tn < st.x fn + (xh * den - xb * num); omega
          have HST := Lib.hid hone
          clear hone
          go_wp2
          have t3 : ((W2.setCell ⟨w.heap.size + 2, tn, none⟩ (.int .i64 y)).setCell ⟨ba, tn, none⟩ (.int .i64 k)).heap[w.heap.size + 2]? = some (.cells (rowX n st1.x).toArray 3 (0, 0)) := by
            rw [heap_set_other (by omega), heap_set_blk g3, rowX_set, HST.out]
            have : y = st.x fn + (xh * den - xb * num) := by have := HY.out; have := HXF.out; omega
            rw [this]; rfl
          have t4 : ((W2.setCell ⟨w.heap.size + 2, tn, none⟩ (.int .i64 y)).setCell ⟨ba, tn, none⟩ (.int .i64 k)).heap[ba]? = some (.cells (rowX 10 fun v => (st1.by_ v : Nat)).toArray 125 (0, 0)) := by
            rw [heap_set_blk ((heap_set_other hbw).trans g4), rowX_set, HST.out]
            rw [rowX_same (n := 10) (k := fun v => (((PanPlain.raise (r + 1) k ⟨fn, tn, xh * den - xb * num⟩ st).by_ v : Nat) : Int))]
            intro v _
            show PanPlain.upd _ _ _ v = ((PanPlain.upd _ _ _ v : Nat) : Int)
            unfold PanPlain.upd
            split <;> rfl
          have t1 : ((W2.setCell ⟨w.heap.size + 2, tn, none⟩ (.int .i64 y)).setCell ⟨ba, tn, none⟩ (.int .i64 k)).heap[w.heap.size]? = some (.cells #[.int .i64 n, .slice (some ⟨b, off, none⟩) ws.length cap] 24 (0, 0)) := by
            rw [heap_set_other (by omega), heap_set_other (by omega)]; exact g1
          have t2 : ((W2.setCell ⟨w.heap.size + 2, tn, none⟩ (.int .i64 y)).setCell ⟨ba, tn, none⟩ (.int .i64 k)).heap[w.heap.size + 1]? = some (.cells #[.int .i64 num, .int .i64 den] 26 (0, 0)) := by
            rw [heap_set_other (by omega), heap_set_other (by omega)]; exact g2
          have tB := (hB.setCell (p := ⟨w.heap.size + 2, tn, none⟩) (show w.heap.size ≤ w.heap.size + 2 by omega) (.int .i64 y)).setCell (p := ⟨ba, tn, none⟩) (show w.heap.size ≤ ba by omega) (.int .i64 k)
          go_roundw
          case rel => exact ⟨k + 1, by omega, by go_num, by rw [← HS1.out, HST.out]; rfl, by simp only [World.size_setCell]; omega, t1, t2, by rw [← HS1.out]; exact t3, by rw [← HS1.out]; exact t4, tB⟩
          case measure => simp [intOf]; omega
        · have hone : st1 = st := by
            rw [HONE.out]; unfold PanPlain.one
            rw [if_neg]
            have := HY.out; have := HXT.out; have := HXF.out
            show ¬ st.x tn < st.x fn + (xh * den - xb * num); omega
          have HST := Lib.hid hone
          clear hone
          go_wp2
          go_roundw
          case rel => exact ⟨k + 1, by omega, by go_num, by rw [← HS1.out, HST.out], by omega, g1, g2, by rw [← HS1.out, HST.out]; exact g3, by rw [← HS1.out, HST.out]; exact g4, hB⟩
          case measure => simp [intOf]; omega
      · have hke : k = ws.length := by omega
        subst hke
        have hfin : runTo (eds ws num den) (r + 1) ws.length (rounds (eds ws num den) r) = rounds (eds ws num den) (r + 1) := by show _ = runTo _ _ (eds ws num den).length _; rw [eds_len]
        rw [hfin] at g3 g4 ⊢
        clear hfin hk
        cases hra : (rounds (eds ws num den) (r + 1)).ra with
        | none =>
          have HRA := Lib.hid hra
          clear hra
          have hxx := (PanPlain.steady HRA.out).2
          rw [hxx] at g3
          clear hxx
          have hr0 : ((-1 : Int) < 0) := by omega
          simp only [raI]
          go_wp2
          rw [← HQ.out]
          simp only [Exit.jump]
          go_ret2
          refine ⟨hB, .inl ⟨r, hr, HRA.out, _, rfl, ?_, _, _, _, rfl, by omega⟩⟩
          have hsl := slI_new (w := wr) (xs := (List.range n).map (rounds (eds ws num den) r).x) (t := 3) (cap := n) (fr := (0, 0)) (k := w.heap.size + 2) (by simp; omega) (by simp) (by rw [g3]; simp [rowX])
          simpa using hsl
        | some v =>
          have HRA := Lib.hid hra
          clear hra
          simp only [raI]
          have c0 := cell_blk (i := 0) g1
          simp only [List.getElem?_toArray, List.getElem?_cons_zero] at c0
          by_cases hrn : r + 1 ≤ n
          · have hrz : ((r : Int) + 1 ≤ n) := by omega
            go_wp2
            go_step3
            rw [← HQ.out]
            have hr1 : ((r : Int) + 1) = ((r + 1 : Nat) : Int) := by omega
            rw [hr1]
            refine ⟨rfl, ⟨r + 1, ba, hrn, hba, rfl, g1, g2, g3, g4, hB⟩, ?_⟩
            show 20 - ((((r + 1 : Nat) : Int)).toNat) < 20 - (((r : Nat) : Int).toNat)
            omega
          · have hrz : ¬ ((r : Int) + 1 ≤ n) := by omega
            have hrn2 : r = n := by omega
            subst hrn2
            obtain ⟨hbk1, k, hbk⟩ := PanPlain.back_of (HVA.out.ed num den) HRA.out
            have HB1 := Lib.hid hbk1
            have HB2 := Lib.hid hbk
            clear hbk1 hbk hrn hr
            have HG := Lib.hid (And.intro g1 (And.intro g4 hB))
            clear g2 g3
            go_wp2
            go_loopw [8, 72] (fun s i wx => ∃ j : Nat, j ≤ r ∧ i = .int .i64 j ∧ s = .int .i64 (it (pf (eds ws num den) (rounds (eds ws num den) (r + 1))) j v : Nat) ∧ Below wr.heap.size wr wx) (fun _ i _ => r - (intOf i).toNat)
            case atStart => exact ⟨0, Nat.zero_le _, rfl, rfl, Below.refl _ _⟩
            case round =>
              obtain ⟨j, hj, rfl, rfl, hb2⟩ := hrel
              by_cases hjr : j < r
              · obtain ⟨hrd, hlt0, e, he, hef⟩ := HB1.out j (by omega)
                obtain ⟨hil, rfl⟩ := eds_some he
                have hef' : (at_ ws ((rounds (eds ws num den) (r + 1)).by_ (it (pf (eds ws num den) (rounds (eds ws num den) (r + 1))) j v))).f = (it (pf (eds ws num den) (rounds (eds ws num den) (r + 1))) (j + 1) v : Nat) := by
                  have := (HVA.out.ok _ hil).1.1
                  simp only at hef
                  omega
                clear he hef hrd
                have g4r := blk_keep HG.out.2.1 hb2
                have g1r := blk_keep HG.out.1 hb2
                have hBx := HG.out.2.2.trans (hb2.mono HG.out.2.2.size)
                obtain ⟨ad', cap', he, hm', hcp', hc⟩ := HV.out
                injection he with he1 he2 he3
                subst he1
                subst he3
                obtain ⟨b, off, rfl, hltb, hcell⟩ := hc (by omega)
                have c4 := cell_blk (i := it (pf (eds ws num den) (rounds (eds ws num den) (r + 1))) j v) g4r
                rw [List.getElem?_toArray, rowX_get _ (by omega)] at c4
                have q0 := (a_cells hcell hil rfl).1
                have r0 := (hBx.cell (p := ⟨b, off + (rounds (eds ws num den) (r + 1)).by_ (it (pf (eds ws num den) (rounds (eds ws num den) (r + 1))) j v) * 5, none⟩) hltb).trans q0
                rw [hef'] at r0
                have c1 := cell_blk (i := 1) g1r
                simp only [List.getElem?_toArray, List.getElem?_cons_zero, List.getElem?_cons_succ] at c1
                have z1 := lt_blk g1r
                have z4 := lt_blk g4r
                generalize (rounds (eds ws num den) (r + 1)).by_ (it (pf (eds ws num den) (rounds (eds ws num den) (r + 1))) j v) = bi at *
                obtain ⟨nx, hnx⟩ : ∃ nx, nx = it (pf (eds ws num den) (rounds (eds ws num den) (r + 1))) (j + 1) v := ⟨_, rfl⟩
                rw [← hnx] at r0
                have HNX := Lib.hid hnx
                clear hnx hef' q0 hcell hc g4r g1r
                generalize it (pf (eds ws num den) (rounds (eds ws num den) (r + 1))) j v = cu at *
                go_wp2
                go_quiet (fail)
                go_wp2
                go_roundw
                case rel => exact ⟨j + 1, by omega, by go_num, by rw [HNX.out], below_drewN hb2 _⟩
                case measure => simp [intOf]; omega
              · have hjr2 : r = j := by omega
                subst hjr2
                clear hj hjr HB1
                have g1x := blk_keep HG.out.1 hb2
                have g4x := blk_keep HG.out.2.1 hb2
                have hBx := HG.out.2.2.trans (hb2.mono HG.out.2.2.size)
                have HX := Lib.hid (And.intro g1x (And.intro g4x hBx))
                have zx := lt_blk g1x
                have hszx := hBx.size
                have hk1 := HB2.out.k1
                have hkn := HB2.out.kn
                obtain ⟨v0, hv0⟩ : ∃ v0, v0 = it (pf (eds ws num den) (rounds (eds ws num den) (r + 1))) r v := ⟨_, rfl⟩
                rw [← hv0] at HB2 ⊢
                have HV0 := Lib.hid hv0
                clear hv0 hb2 HG c0 g1 g4 hB g1x g4x hBx
                have zb := lt_blk HX.out.2.1
                obtain ⟨B3, hB3⟩ : ∃ B3, B3 = wr.heap.size := ⟨_, rfl⟩
                rw [← hB3] at zx zb
                have hB3' : B3 ≤ wr.heap.size := by omega
                clear hB3 hszx
                go_wp2
                go_loopw [5, 12] (fun c s wy => ∃ j : Nat, j ≤ k ∧ s = .int .i64 (it (pf (eds ws num den) (rounds (eds ws num den) (r + 1))) j v0 : Nat) ∧ wy.ownsRow B3 3 1 c j (((backC (eds ws num den) (rounds (eds ws num den) (r + 1)) v0 j).map fun (i : Nat) => (i : Int)).map (.int .i64)) ∧
                  wy.heap[w.heap.size]? = some (.cells #[.int .i64 r, .slice ad ws.length cap] 24 (0, 0)) ∧ wy.heap[ba]? = some (.cells (rowX 10 fun v => ((rounds (eds ws num den) (r + 1)).by_ v : Nat)).toArray 125 (0, 0)) ∧ Below w.heap.size w wy ∧ B3 ≤ wy.heap.size ∧ (1 ≤ j → ∃ g, c.ownBlock = some g)) (fun c _ _ => k - (match c with | .slice _ m _ => m | _ => 0))
                case atStart => exact ⟨0, Nat.zero_le _, rfl, World.ownsRow_nil _ _ _ _, HX.out.1, HX.out.2.1, HX.out.2.2, hB3', fun h => by omega⟩
                case round =>
                  clear hB3'
                  obtain ⟨j, hj, rfl, hrow, g1, g4, hBy, hB3', hown⟩ := hrel
                  obtain ⟨ac, cc, rfl⟩ := form_of hrow
                  have HOWN := Lib.hid hown
                  clear hown
                  by_cases hjk : j < k
                  · obtain ⟨e, he, het, hef⟩ := HB2.out.edge j
                    have hlt0 := HB2.out.lt j
                    obtain ⟨hil, rfl⟩ := eds_some he
                    have hbs := PanPlain.backC_succ (eds ws num den) (rounds (eds ws num den) (r + 1)) v0 j
                    have hef' : (at_ ws ((rounds (eds ws num den) (r + 1)).by_ (it (pf (eds ws num den) (rounds (eds ws num den) (r + 1))) j v0))).f = (it (pf (eds ws num den) (rounds (eds ws num den) (r + 1))) (j + 1) v0 : Nat) := by
                      have := (HVA.out.ok _ hil).1.1
                      simp only at hef
                      omega
                    have hnv : 1 ≤ j → ((it (pf (eds ws num den) (rounds (eds ws num den) (r + 1))) j v0 : Nat) : Int) ≠ (v0 : Nat) := fun h e => HB2.out.least j h hjk (by omega)
                    clear he hef het
                    obtain ⟨ad', cap', he, hm', hcp', hc⟩ := HV.out
                    injection he with he1 he2 he3
                    subst he1
                    subst he3
                    obtain ⟨b, off, rfl, hltb, hcell⟩ := hc (by omega)
                    have c4 := cell_blk (i := it (pf (eds ws num den) (rounds (eds ws num den) (r + 1))) j v0) g4
                    rw [List.getElem?_toArray, rowX_get _ (by omega)] at c4
                    have q0 := (a_cells hcell hil rfl).1
                    generalize hbi : (rounds (eds ws num den) (r + 1)).by_ (it (pf (eds ws num den) (rounds (eds ws num den) (r + 1))) j v0) = bi at *
                    obtain ⟨nx, hnx⟩ : ∃ nx, nx = it (pf (eds ws num den) (rounds (eds ws num den) (r + 1))) (j + 1) v0 := ⟨_, rfl⟩
                    rw [hef', ← hnx] at q0
                    have HNX := Lib.hid hnx
                    have HBS := Lib.hid hbs
                    clear hnx hef' hcell hc hbs
                    have z1 := lt_blk g1
                    have z4 := lt_blk g4
                    generalize it (pf (eds ws num den) (rounds (eds ws num den) (r + 1))) j v0 = cu at *
                    have HBI := Lib.hid hbi
                    clear hbi
                    have HROW := Lib.hid hrow
                    clear hrow
                    by_cases hj0 : j = 0
                    · have hj0b : ((j : Int) == 0) = true := by simpa using hj0
                      have HJ0 := Lib.hid hj0
                      clear hj0
                      go_wp2_with (at_builtin; refine wpList_append_own _ rfl _ _ 45 rfl B3 3 i3 (.int .i64 0) 1 8 Try.underlying45 HI.out.1 HI.out.2.1 HI.out.2.2.1 HI.out.2.2.2 rfl (by decide) _ _ _ rfl (row_below HROW.out ((Below.refl _ _).alloc (Nat.le_refl _) _)) ⟨wr.heap.size, 0, none⟩ 1 1 [.int .i64 bi] rfl rfl (cell_new1 rfl) (by simp [Value.oneCell']) (Nat.le_trans (by omega : j + 1 ≤ 100) (by decide)) (by omega) (by rw [World.size_alloc]; omega) ?_; intro v' w6 r1 r2 _)
                      have hbn : Below B3 wr w6 := grown_below1 r2 HROW.out (Nat.le_refl _) hB3' (Below.refl _ _)
                      have hg6 := hbn.size
                      have g16 := blk_below g1 hbn zx
                      have g46 := blk_below g4 hbn zb
                      have c46 := cell_blk (i := cu) g46
                      rw [List.getElem?_toArray, rowX_get _ (by omega), HBI.out] at c46
                      have c16 := cell_blk (i := 1) g16
                      simp only [List.getElem?_toArray, List.getElem?_cons_zero, List.getElem?_cons_succ] at c16
                      have hB6 := hBy.trans (hbn.mono (by omega))
                      have r0 := (hB6.cell (p := ⟨b, off + bi * 5, none⟩) hltb).trans q0
                      have z16 := lt_blk g16
                      have z46 := lt_blk g46
                      have z06 : b < w6.heap.size := by have := hB6.size; exact Nat.lt_of_lt_of_le hltb this
                      have hrow6 : w6.ownsRow B3 3 1 v' (j + 1) (((backC (eds ws num den) (rounds (eds ws num den) (r + 1)) v0 (j + 1)).map fun (i : Nat) => (i : Int)).map (.int .i64)) := by
                        rw [HBS.out, List.map_append, List.map_append]; exact r1
                      have hown6 : ∃ g, v'.ownBlock = some g := by
                        rcases r1.2 with ⟨_, h0⟩ | ⟨g, _, _, rfl, _⟩
                        · omega
                        · exact ⟨g, rfl⟩
                      have HR6 := Lib.hid (And.intro hrow6 (And.intro hown6 r2))
                      clear hrow6 hown6 r1 r2 hbn
                      go_quiet (fail)
                      go_wp2
                      obtain ⟨a6, c6, rfl⟩ := form_of HR6.out.1
                      go_roundw
                      case rel => exact ⟨j + 1, by omega, by rw [HNX.out], HR6.out.1, g16, g46, below_drewN hB6 _, by simpa using (by omega : B3 ≤ w6.heap.size), fun _ => HR6.out.2.1⟩
                      case measure => simp; omega
                    · have hcv : ((cu : Int) != (v0 : Int)) = true := bne_iff_ne.2 (hnv (by omega))
                      have hj0z : ¬ ((j : Int) = 0) := by omega
                      have hj0b : ((j : Int) == 0) = false := by simpa using hj0z
                      go_wp2_with (at_builtin; refine wpList_append_own _ rfl _ _ 45 rfl B3 3 i3 (.int .i64 0) 1 8 Try.underlying45 HI.out.1 HI.out.2.1 HI.out.2.2.1 HI.out.2.2.2 rfl (by decide) _ _ _ rfl (row_below HROW.out ((Below.refl _ _).alloc (Nat.le_refl _) _)) ⟨wr.heap.size, 0, none⟩ 1 1 [.int .i64 bi] rfl rfl (cell_new1 rfl) (by simp [Value.oneCell']) (Nat.le_trans (by omega : j + 1 ≤ 100) (by decide)) (by omega) (by rw [World.size_alloc]; omega) ?_; intro v' w6 r1 r2 _)
                      have hbn : Below B3 wr w6 := grown_below1 r2 HROW.out (Nat.le_refl _) hB3' (Below.refl _ _)
                      have hg6 := hbn.size
                      have g16 := blk_below g1 hbn zx
                      have g46 := blk_below g4 hbn zb
                      have c46 := cell_blk (i := cu) g46
                      rw [List.getElem?_toArray, rowX_get _ (by omega), HBI.out] at c46
                      have c16 := cell_blk (i := 1) g16
                      simp only [List.getElem?_toArray, List.getElem?_cons_zero, List.getElem?_cons_succ] at c16
                      have hB6 := hBy.trans (hbn.mono (by omega))
                      have r0 := (hB6.cell (p := ⟨b, off + bi * 5, none⟩) hltb).trans q0
                      have z16 := lt_blk g16
                      have z46 := lt_blk g46
                      have z06 : b < w6.heap.size := by have := hB6.size; exact Nat.lt_of_lt_of_le hltb this
                      have hrow6 : w6.ownsRow B3 3 1 v' (j + 1) (((backC (eds ws num den) (rounds (eds ws num den) (r + 1)) v0 (j + 1)).map fun (i : Nat) => (i : Int)).map (.int .i64)) := by
                        rw [HBS.out, List.map_append, List.map_append]; exact r1
                      have hown6 : ∃ g, v'.ownBlock = some g := by
                        rcases r1.2 with ⟨_, h0⟩ | ⟨g, _, _, rfl, _⟩
                        · omega
                        · exact ⟨g, rfl⟩
                      have HR6 := Lib.hid (And.intro hrow6 (And.intro hown6 r2))
                      clear hrow6 hown6 r1 r2 hbn
                      go_quiet (fail)
                      go_wp2
                      obtain ⟨a6, c6, rfl⟩ := form_of HR6.out.1
                      go_roundw
                      case rel => exact ⟨j + 1, by omega, by rw [HNX.out], HR6.out.1, g16, g46, below_drewN hB6 _, by simpa using (by omega : B3 ≤ w6.heap.size), fun _ => HR6.out.2.1⟩
                      case measure => simp; omega
                  · have hjk2 : k = j := by omega
                    subst hjk2
                    have hit := HB2.out.it_
                    rw [hit]
                    clear hit
                    have hkz : ((k : Int) == 0) = false := by simp; omega
                    have hvv : ((v0 : Int) != (v0 : Int)) = false := by simp
                    obtain ⟨g, hg⟩ := HOWN.out hk1
                    obtain ⟨ga, rfl⟩ : ∃ ga, ac = some ⟨ga, 0, none⟩ := by
                      rcases Joins.ownsRow_forms hrow with ⟨h, h0⟩ | ⟨ga, cap2, h⟩
                      · rw [h] at hg; simp [Value.ownBlock] at hg
                      · injection h with h1 _ _; exact ⟨ga, h1⟩
                    clear hg
                    have hlen2 : ((backC (eds ws num den) (rounds (eds ws num den) (r + 1)) v0 k).map fun (i : Nat) => (i : Int)).length = k := by rw [List.length_map, PanPlain.backC_len]
                    have HROW := Lib.hid hrow
                    have hrev := rev_any B3 ga cc ((backC (eds ws num den) (rounds (eds ws num den) (r + 1)) v0 k).map fun (i : Nat) => (i : Int)) wr (by rw [hlen2]; exact hrow) (by rw [hlen2]; omega)
                    rw [hlen2] at hrev
                    have hga := (hrow.lt ga rfl).1
                    have HL2 := Lib.hid hlen2
                    clear hrow hlen2 g1 g4
                    go_wp2_with (go_at_call 80; refine hrev.mono ?_; rintro e w7 ⟨rfl, h7, hb7⟩)
                    rw [← HQ.out]
                    simp only [Exit.jump]
                    go_ret2
                    have hB7 : Below w.heap.size w w7 := ⟨hb7.os.trans hBy.os, hb7.tape.trans hBy.tape, hb7.output.trans hBy.output, Nat.le_trans hBy.size hb7.size, fun i hi => (hb7.block i (by have := hBy.size; omega) (by omega)).trans (hBy.block i hi)⟩
                    refine ⟨hB7, .inr ⟨v, k, _, HRA.out, by rw [← HV0.out]; exact HB2.out, rfl, ?_, ga, _, _, rfl, by omega⟩⟩
                    rw [← HV0.out]
                    have hsl := slI_own (xs := ((backC (eds ws num den) (rounds (eds ws num den) (r + 1)) v0 k).map fun (i : Nat) => (i : Int)).reverse) h7 (by rw [List.length_reverse, HL2.out]) (by rw [List.length_reverse, HL2.out]; omega)
                    rw [← List.map_reverse] at hsl
                    exact hsl
end Yteileadcmekkoaa
end Go.Proofs
