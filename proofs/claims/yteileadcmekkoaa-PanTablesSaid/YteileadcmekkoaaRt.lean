/- Pans: the reference's Table: numbers are raised as long as they must be. -/
import Derived.Test.YteileadcmekkoaaRs
import Derived.Test.YteileadcmekkoaaRv
open Go Go.RowKit Go.YteileadcmekkoaaIt
namespace Go.Proofs
namespace Yteileadcmekkoaa
open PanPlain (Ed St rounds runTo upd)
theorem run_strict {es : List Ed} {R : Nat} {s : St} : ∀ i v, (runTo es R i s).ra = some v → s.x v < (runTo es R i s).x v
  | 0, v, h => by
    have h2 : (none : Option Nat) = some v := h
    cases h2
  | i + 1, v, h => by
    have ih := run_strict (es := es) (R := R) (s := s) i v
    have hg := PanPlain.run_grow (es := es) (R := R) (s := s) i
    unfold runTo at h ⊢
    cases he : es[i]? with
    | none => rw [he] at h; exact ih h
    | some e =>
      rw [he] at h
      simp only at h ⊢
      unfold PanPlain.one at h ⊢
      by_cases hc : (runTo es R i s).x e.t < (runTo es R i s).x e.f + e.w
      · rw [if_pos hc] at h ⊢
        have hv : e.t = v := by injection h
        subst hv
        show s.x e.t < PanPlain.upd _ _ _ e.t
        rw [PanPlain.upd_same]
        have := hg e.t
        omega
      · rw [if_neg hc] at h ⊢
        exact ih h
theorem run_ra_of {es : List Ed} {R : Nat} {s : St} : ∀ i v, (runTo es R i s).ra = some v → ∃ (j : Nat) (e : Ed), es[j]? = some e ∧ e.t = v
  | 0, v, h => by
    have h2 : (none : Option Nat) = some v := h
    cases h2
  | i + 1, v, h => by
    have ih := run_ra_of (es := es) (R := R) (s := s) i v
    unfold runTo at h
    cases he : es[i]? with
    | none => rw [he] at h; exact ih h
    | some e =>
      rw [he] at h
      simp only at h
      unfold PanPlain.one at h
      by_cases hc : (runTo es R i s).x e.t < (runTo es R i s).x e.f + e.w
      · rw [if_pos hc] at h
        exact ⟨i, e, he, by injection h⟩
      · rw [if_neg hc] at h
        exact ih h
/-- What is still missing to a timetable. -/
def gapS (P x : Nat → Int) : Nat → Nat
  | 0 => 0
  | n + 1 => gapS P x n + (P n - x n).toNat
theorem gap_le {P x y : Nat → Int} (h : ∀ v, x v ≤ y v) : ∀ n, gapS P y n ≤ gapS P x n
  | 0 => Nat.le_refl _
  | n + 1 => by have := gap_le (P := P) h n; have := h n; unfold gapS; omega
theorem gap_lt {P x y : Nat → Int} (h : ∀ v, x v ≤ y v) {u : Nat} (h1 : x u < y u) (h2 : y u ≤ P u) : ∀ n, u < n → gapS P y n < gapS P x n
  | 0, hu => absurd hu (Nat.not_lt_zero _)
  | n + 1, hu => by
    have h3 := h n
    unfold gapS
    rcases (show u < n ∨ u = n by omega) with hu | rfl
    · have := gap_lt h h1 h2 n hu; omega
    · have := gap_le (P := P) h u; omega
theorem gap_same {P x y : Nat → Int} : ∀ n, (∀ v, v < n → x v = y v) → gapS P x n = gapS P y n
  | 0, _ => rfl
  | n + 1, h => by unfold gapS; rw [gap_same n (fun v hv => h v (by omega)), h n (by omega)]
def intO : Option Value → Int
  | some (.int _ i) => i
  | _ => 0
def boolN : Value → Nat
  | .bool true => 1
  | _ => 0
def moreB (es : List Ed) : Nat → Bool
  | 0 => true
  | r + 1 => (rounds es (r + 1)).ra.isSome
theorem moreB_succ (es : List Ed) (r : Nat) : moreB es (r + 1) = (rounds es (r + 1)).ra.isSome := rfl
/-- Each round with a raise leaves less to go. -/
theorem gap_round {es : List Ed} {n : Nat} (hf : ∀ (j : Nat) (e : Ed), es[j]? = some e → e.f < n ∧ e.t < n) {P : Nat → Int} (hP : ∀ (j : Nat) (e : Ed), es[j]? = some e → P e.f + e.w ≤ P e.t) (h0 : ∀ v, 0 ≤ P v) (r : Nat) :
    2 * gapS P (rounds es (r + 1)).x n + boolN (.bool (moreB es (r + 1))) < 2 * gapS P (rounds es r).x n + 1 := by
  have hg : ∀ v, (rounds es r).x v ≤ (rounds es (r + 1)).x v := fun v => PanPlain.run_grow _ v
  show 2 * gapS P (rounds es (r + 1)).x n + boolN (.bool (rounds es (r + 1)).ra.isSome) < _
  cases hra : (rounds es (r + 1)).ra with
  | none =>
    have := gap_le (P := P) hg n
    show 2 * gapS P (rounds es (r + 1)).x n + 0 < _
    omega
  | some v =>
    have h1 := run_strict (es := es) (R := r + 1) (s := rounds es r) es.length v hra
    have h2 := PanPlain.rounds_least hP h0 (r + 1) v
    have h3 : v < n := by
      obtain ⟨i, e, he, hv⟩ : ∃ (i : Nat) (e : Ed), es[i]? = some e ∧ e.t = v := run_ra_of es.length v hra
      rw [← hv]; exact (hf i e he).2
    have := gap_lt (P := P) hg h1 h2 n h3
    show 2 * gapS P (rounds es (r + 1)).x n + 1 < _
    omega
theorem measure_lt {W W0 : World} {g m : Nat} {P x y : Nat → Int} {b : Bool} (h1 : gapS P (fun v => intO (W.cell? ⟨g, v, none⟩)) m = gapS P y m) (h2 : W0.heap[g]? = some (.cells (rowX m x).toArray 3 (0, 0))) (h3 : 2 * gapS P y m + boolN (.bool b) < 2 * gapS P x m + 1) :
    2 * gapS P (fun v => intO (W.cell? ⟨g, v, none⟩)) m + boolN (.bool b) < 2 * gapS P (fun v => intO (W0.cell? ⟨g, v, none⟩)) m + boolN (.bool true) := by
  have h4 : gapS P (fun v => intO (W0.cell? ⟨g, v, none⟩)) m = gapS P x m := gap_same m fun v hv => by
    have := cell_blk (i := v) h2
    rw [List.getElem?_toArray, rowX_get _ hv] at this
    rw [this]; rfl
  rw [h1, h4]
  exact h3
set_option maxRecDepth 100000 in
set_option maxHeartbeats 8000000 in
theorem rtable_any (n : Int) (v : Value) (ws : List Wa) (w : World) (hv : SlA w v ws) :
    Calls Try.prog 29 #[.agg #[.int .i64 n, v]] w fun e w' => (∃ t, e = .returned (.tuple #[t, .int .i64 (chkE n ws)]) ∧ SlI w' t (tabL n ws)) ∧ Below w.heap.size w w' := by
  have HV := Lib.hid hv
  obtain ⟨ad, cap, rfl, -, -, -⟩ := hv
  obtain ⟨i3, hi3, hz1, hz2, hz3⟩ := info_parts info3
  have HI := Lib.hid (And.intro hi3 (And.intro hz1 (And.intro hz2 hz3)))
  clear hi3 hz1 hz2 hz3
  go_enter Try.func29, Try.ntmps29
  refine wp_seq_k (fun K hK => ?_)
  have HK := Lib.hid hK; clear hK
  go_wp2
  refine HK.out _ _ ?_; clear HK K
  generalize hw1 : World.alloc _ _ = w1
  obtain ⟨b1, hB, hs1⟩ := blk1 hw1
  clear hw1
  have h19 := rpace_any n _ ws w1 (HV.out.below hB (Nat.le_refl _))
  obtain ⟨E, hE⟩ : ∃ E, E = chkE n ws := ⟨_, rfl⟩
  obtain ⟨A, hA⟩ : ∃ A, A = pnum n ws := ⟨_, rfl⟩
  obtain ⟨D, hD⟩ : ∃ D, D = pden n ws := ⟨_, rfl⟩
  rw [← hE, ← hA, ← hD] at h19
  have HE := Lib.hid (And.intro hE (And.intro hA hD))
  rw [← hE]
  clear hE hA hD
  refine wp_seq_k (fun K hK => ?_)
  have HK := Lib.hid hK; clear hK
  go_wp2_with (first | (refine wpList_load_blk rfl 31 _ rfl _ rfl b1 Try.underlying31 rfl size31 rfl ?_) | (go_at_call 19; refine h19.mono ?_; rintro e w2 ⟨rfl, hb2⟩))
  refine HK.out _ _ ?_; clear HK K h19
  replace b1 := blk_keep b1 hb2
  replace hB := btr hB hb2 (Nat.le_refl _)
  clear hb2
  generalize hw3 : World.alloc _ _ = w3
  obtain ⟨b4, hB3, hs3⟩ := blk1 hw3
  clear hw3
  replace b1 := blk_keep b1 hB3
  have l4 := hB.size
  replace hB := btr hB hB3 (Nat.le_refl _)
  by_cases h0 : E = 0
  · subst h0
    obtain ⟨m, l0, rfl, hV, hns, hsl⟩ := pace_ok HE.out.1.symm
    rw [← HE.out.2.1, ← HE.out.2.2] at hsl
    have hT := tabL_ok HE.out.1.symm
    have hb := hsl.b
    have hn1 := hV.n1
    have hlen := hV.len
    have HS := Lib.hid (And.intro hsl (And.intro hT (And.intro hV hns)))
    clear hsl hT
    obtain ⟨P, hP⟩ : ∃ P, P = ptab (m : Int) ws := ⟨_, rfl⟩
    rw [← hP] at HS
    have HP := Lib.hid hP
    clear hP
    obtain ⟨es, hes⟩ : ∃ es, es = eds ws (A : Int) (D : Int) := ⟨_, rfl⟩
    have HES := Lib.hid hes
    have hef : ∀ (j : Nat) (e : Ed), es[j]? = some e → e.f < m ∧ e.t < m := by rw [hes]; exact HS.out.2.2.1.ed _ _
    have hek : ∀ (j : Nat) (e : Ed), es[j]? = some e → P e.f + e.w ≤ P e.t := by rw [hes]; exact HS.out.1.keep
    have HEF := Lib.hid (And.intro hef hek)
    clear hes hef hek
    have c10 := cell_blk (i := 0) b1
    simp only [List.getElem?_toArray, List.getElem?_cons_zero] at c10
    refine wp_seq_k (fun K hK => ?_)
    have HK := Lib.hid hK; clear hK
    go_wp2
    refine HK.out _ _ ?_; clear HK K
    refine wp_seq_k (fun K hK => ?_)
    have HK := Lib.hid hK; clear hK
    go_wp2_with (at_make; refine wpList_make_full w3 rfl (.tmp 20) (.tmp 20) 45 rfl w3.heap.size 3 i3 (.int .i64 0) 1 Try.underlying45 HI.out.1 HI.out.2.1 HI.out.2.2.1 .i64 .i64 _ _ m rfl rfl rfl rfl (by rw [HI.out.2.2.2]; omega) (Nat.le_trans (by omega : m ≤ 100) (by decide)) (Nat.le_refl _) ?_; intro w5 q1 q2)
    refine HK.out _ _ ?_; clear HK K
    rw [made_rep _ rfl] at q1
    have hb5 : Below w3.heap.size w3 w5 := ⟨q2.os, q2.tape, q2.output, q2.size, fun k hk => q2.block k hk (by simp)⟩
    have q3 := row_full q1
    have hs5 := lt_blk q3
    replace b1 := blk_keep b1 hb5
    replace b4 := blk_keep b4 hb5
    have l6 := hB.size
    replace hB := btr hB hb5 (Nat.le_refl _)
    clear q1 q2 c10 hb5 hB3 hs1
    obtain ⟨g4, hg4⟩ : ∃ g, g = w2.heap.size := ⟨_, rfl⟩
    obtain ⟨g6, hg6⟩ : ∃ g, g = w3.heap.size := ⟨_, rfl⟩
    rw [← hg4] at b4 hs3 l4 ⊢
    rw [← hg6] at q3 hs5 hs3 l6 ⊢
    clear hg4 hg6
    have lb1 := lt_blk b1
    have hne1 : w.heap.size ≠ g6 := by omega
    have hne4 : g4 ≠ g6 := by omega
    go_wp2_with (refine wp_seq_k (fun K hK => ?_); fail)
    go_loopw [7] (fun mv wr => ∃ r : Nat, r ≤ m + 1 ∧ mv = .bool (moreB es r) ∧ wr.heap[w.heap.size]? = some (.cells #[.int .i64 m, .slice ad ws.length cap] 31 (0, 0)) ∧ wr.heap[g4]? = some (.cells #[.int .i64 A, .int .i64 D] 36 (0, 0)) ∧ wr.heap[g6]? = some (.cells (rowX m (rounds es r).x).toArray 3 (0, 0)) ∧ Below w.heap.size w wr) (fun mv wr => 2 * gapS P (fun v => intO (wr.cell? ⟨g6, v, none⟩)) m + boolN mv)
    case atStart => exact ⟨0, Nat.zero_le _, rfl, b1, b4, by show w5.heap[g6]? = some (Obj.cells (rowX m fun _ => 0).toArray 3 (0, 0)); rw [rowX_zero]; exact q3, hB⟩
    case round =>
      clear b1 b4 q3 hB
      obtain ⟨r, hr, rfl, b1, b4, q3, hB⟩ := hrel
      obtain ⟨mb, hmb⟩ : ∃ mb, mb = moreB es r := ⟨_, rfl⟩
      rw [← hmb]
      have HMB := Lib.hid hmb
      clear hmb
      cases mb
      · have hr1 : 1 ≤ r := Nat.pos_of_ne_zero fun e => by have := HMB.out; rw [e] at this; cases this
        obtain ⟨r', rfl⟩ : ∃ r', r = r' + 1 := ⟨r - 1, by omega⟩
        have hra : (rounds es (r' + 1)).ra = none := by
          have := HMB.out
          rw [moreB_succ] at this
          cases hc : (rounds es (r' + 1)).ra with
          | none => rfl
          | some v => rw [hc] at this; cases this
        have hx := (PanPlain.steady hra).2
        rw [hx] at q3
        have hsl2 : Slow m ws A D (rounds es r').x l0 := by
          rw [HES.out] at hra ⊢
          exact slow_of HS.out.2.2.1 hb.1 hb.2 (by omega) hra HS.out.1.cyc
        have hP2 : (rounds es r').x = P := by
          obtain ⟨_, _, h3⟩ := hsl2.uniq HS.out.1
          exact funext h3
        rw [hP2] at q3
        have hsl := slI_new (w := wr) (xs := (List.range m).map P) (t := 3) (cap := m) (fr := (0, 0)) (k := g6) (by simp; omega) (by simp) (by rw [q3]; simp [rowX])
        have HSL := Lib.hid hsl
        clear hsl hP2 hsl2 hx hra
        go_wp2
        go_ret2
        refine ⟨⟨_, rfl, ?_⟩, hB⟩
        rw [HS.out.2.1]
        simpa using HSL.out
      · have hrm : r ≤ m := by
          rcases (show r ≤ m ∨ r = m + 1 by omega) with h | h
          · exact h
          · exfalso
            have h1 := PanPlain.ends HEF.out.1 HEF.out.2
            have h2 := HMB.out
            subst h
            rw [moreB_succ] at h2
            rw [h1] at h2
            cases h2
        go_wp2_with (refine wp_seq_k (fun K hK => ?_); fail)
        go_loopw [7, 8] (fun mv i wx => ∃ k : Nat, k ≤ ws.length ∧ i = .int .i64 k ∧ mv = .bool (runTo es (r + 1) k (rounds es r)).ra.isSome ∧ wx.heap[w.heap.size]? = some (.cells #[.int .i64 m, .slice ad ws.length cap] 31 (0, 0)) ∧ wx.heap[g4]? = some (.cells #[.int .i64 A, .int .i64 D] 36 (0, 0)) ∧ wx.heap[g6]? = some (.cells (rowX m (runTo es (r + 1) k (rounds es r)).x).toArray 3 (0, 0)) ∧ Below w.heap.size w wx) (fun _ i _ => ws.length - (intOf i).toNat)
        case atStart => exact ⟨0, Nat.zero_le _, rfl, rfl, b1, b4, q3, hB⟩
        case round =>
          have HQ3 := Lib.hid q3
          clear b1 b4 q3 hB
          obtain ⟨k, hk, rfl, rfl, b1, b4, q3, hB⟩ := hrel
          have e1 := cell_blk (i := 1) b1
          simp only [List.getElem?_toArray, List.getElem?_cons_zero, List.getElem?_cons_succ] at e1
          by_cases hkl : k < ws.length
          · have hva := hV.ok k hkl
            obtain ⟨ad', cap', he, -, -, hc⟩ := HV.out
            injection he with he1 he2 he3
            subst he1 he3
            obtain ⟨b, off, rfl, hlt, hcell⟩ := hc (by omega)
            obtain ⟨p0, p1, p2, p3, p4⟩ := a_cells hcell (n := k) hkl rfl
            have r0 := (hB.cell (p := ⟨b, off + k * 5, none⟩) hlt).trans p0
            have r1 := (hB.cell (p := ⟨b, off + k * 5 + 1, none⟩) hlt).trans p1
            have r2 := (hB.cell (p := ⟨b, off + k * 5 + 2, none⟩) hlt).trans p2
            have r3 := (hB.cell (p := ⟨b, off + k * 5 + 3, none⟩) hlt).trans p3
            have r4 := (hB.cell (p := ⟨b, off + k * 5 + 4, none⟩) hlt).trans p4
            have heg : es[k]? = some ⟨(at_ ws k).f.toNat, (at_ ws k).t.toNat, (at_ ws k).hi * D - (at_ ws k).b * A⟩ := by rw [HES.out]; exact eds_get hkl
            have helen : es.length = ws.length := by rw [HES.out, eds_len]
            have hmb := fun v => PanPlain.mid_bound (es := es) (M := 10000 * (D : Int)) (by rw [HES.out]; exact hV.wt (by omega) (by omega)) (by omega) r k (by rw [helen]; omega) v
            have hone : runTo es (r + 1) (k + 1) (rounds es r) = PanPlain.one (r + 1) k ⟨(at_ ws k).f.toNat, (at_ ws k).t.toNat, (at_ ws k).hi * D - (at_ ws k).b * A⟩ (runTo es (r + 1) k (rounds es r)) := by
              show (match es[k]? with | some e => _ | none => _) = _
              rw [heg]
            have hmx : ((r + 1) * es.length : Nat) ≤ 440 := by
              rw [helen]
              exact Nat.le_trans (Nat.mul_le_mul (by omega : r + 1 ≤ 11) hlen) (by omega)
            generalize runTo es (r + 1) k (rounds es r) = st at *
            obtain ⟨st1, hst1⟩ : ∃ s, s = runTo es (r + 1) (k + 1) (rounds es r) := ⟨_, rfl⟩
            rw [← hst1] at hone
            have HS1 := Lib.hid hst1
            clear hst1 heg
            obtain ⟨⟨t0, t1⟩, ⟨t2, t3⟩, ⟨l0', l2'⟩, l1, ⟨bk0, bk1⟩⟩ := hva
            obtain ⟨fn, hfn⟩ := Int.eq_ofNat_of_zero_le t0
            obtain ⟨tn, htn⟩ := Int.eq_ofNat_of_zero_le t2
            have hx0 := hmb fn
            have hx1 := hmb tn
            have hM : (((r + 1) * es.length : Nat) : Int) * (10000 * (D : Int)) ≤ 440 * 400000 := Int.mul_le_mul (by omega) (by omega) (by omega) (by omega)
            rw [hfn] at r0 t1
            rw [htn] at r1 t3
            rw [hfn, htn] at hone
            clear hmb hcell hc p0 p1 p2 p3 p4 hmx helen
            simp only [Int.toNat_natCast] at hone
            generalize hxw : (at_ ws k).hi = xh at *
            generalize hxb : (at_ ws k).b = xb at *
            generalize (at_ ws k).lo = xl at *
            have HONE := Lib.hid hone
            have p1 : 0 ≤ xh * (D : Int) := Int.mul_nonneg (by omega) (by omega)
            have p2 : xh * (D : Int) ≤ 10000 * 40 := Int.mul_le_mul l1 (by omega) (by omega) (by omega)
            have p3 : 0 ≤ xb * (A : Int) := Int.mul_nonneg bk0 (by omega)
            have p4 : xb * (A : Int) ≤ 4 * 100000 := Int.mul_le_mul bk1 (by omega) (by omega) (by omega)
            have hx00 := hx0.1
            have hx01 := Int.le_trans hx0.2 hM
            have hx10 := hx1.1
            have hx11 := Int.le_trans hx1.2 hM
            clear hx0 hx1 hM
            have d0 := cell_blk (i := fn) q3
            rw [List.getElem?_toArray, rowX_get _ (by omega)] at d0
            have s1 : IntKind.i64.wrap (xh * (D : Int)) = xh * (D : Int) := by rw [IntKind.wrap_i64]; omega
            have s2 : IntKind.i64.wrap (st.x fn + xh * (D : Int)) = st.x fn + xh * (D : Int) := by rw [IntKind.wrap_i64]; omega
            have s3 : IntKind.i64.wrap (xb * (A : Int)) = xb * (A : Int) := by rw [IntKind.wrap_i64]; omega
            have s4 : IntKind.i64.wrap (st.x fn + xh * (D : Int) - xb * (A : Int)) = st.x fn + xh * (D : Int) - xb * (A : Int) := by rw [IntKind.wrap_i64]; omega
            have h67 := fun W => after_any fn tn xl xh xb A D (st.x fn) W s1 s3 s2 s4
            have H67 := Lib.hid h67
            clear hfn htn hxw hxb hone t0 t2 s1 s2 s3 s4 h67
            generalize hy : st.x fn + xh * (D : Int) - xb * (A : Int) = y at *
            have HY := Lib.hid hy
            clear hy p1 p2 p3 p4
            generalize hxf : st.x fn = xf at *
            generalize hxt : st.x tn = xt at *
            have HXT := Lib.hid hxt
            have HXF := Lib.hid hxf
            clear hxf hxt hx00 hx01 hx10 hx11
            have zf : (fn : Int) < (m : Int) := t1
            have zt : (tn : Int) < (m : Int) := t3
            have hki : (k : Int) < (ws.length : Int) := by omega
            have hE : Below wr.heap.size wr (wr.alloc (Obj.cells #[.int .i64 fn, .int .i64 tn, .int .i64 xl, .int .i64 xh, .int .i64 xb] 91)) := (Below.refl _ _).alloc (Nat.le_refl _) _
            have hB2 := btr hB hE (Nat.le_refl _)
            have b10 : (wr.alloc (Obj.cells #[.int .i64 fn, .int .i64 tn, .int .i64 xl, .int .i64 xh, .int .i64 xb] 91)).heap[wr.heap.size]? = _ := heap_newI rfl
            have b12 := blk_keep b1 hE
            have b42 := blk_keep b4 hE
            have q32 := blk_keep q3 hE
            have d0E := (hE.cell (p := ⟨g6, fn, none⟩) (lt_blk q3)).trans d0
            have gg0 := cell_blk (i := 0) b10
            simp only [List.getElem?_toArray, List.getElem?_cons_zero] at gg0
            have D0 := ab_cellR d0E
            have G0 := ab_cellR gg0
            have HE2 := Lib.hid (And.intro hB2 (And.intro b12 (And.intro b42 (And.intro b10 q32))))
            have lr1 := lt_blk b1
            have lr4 := lt_blk b4
            have lr6 := lt_blk q3
            clear hE hB2 b10 b12 b42 q32 d0 gg0 b1 b4 q3
            go_wp2
            generalize hwE : World.alloc wr _ = wE at *
            clear hwE
            refine wp_region_ab wE.heap.size wE (by kernel_rfl) (by kernel_rfl) (Below.refl _ _) ?_
            have B4 : ∀ W, AbC wE.heap.size wE W → W.heap[g4]? = _ := fun W ⟨X, hX⟩ => hX ▸ blk_keep HE2.out.2.2.1 X.ok
            have B10 : ∀ W, AbC wE.heap.size wE W → W.heap[wr.heap.size]? = _ := fun W ⟨X, hX⟩ => hX ▸ blk_keep HE2.out.2.2.2.1 X.ok
            unfold AbC
            repeat (first | (refine wpQuiet_load_blk rfl 91 _ rfl _ rfl B10 Try.underlying91 rfl size91 rfl ?_; simp only [Act.put, List.setIfInBounds_toArray, List.set_cons_succ, List.set_cons_zero]) | (refine wpQuiet_load_blk rfl 36 _ rfl _ rfl B4 Try.underlying36 rfl size36 rfl ?_; simp only [Act.put, List.setIfInBounds_toArray, List.set_cons_succ, List.set_cons_zero]) | go_big_quiet_step (first | (go_at_call 67; exact Calls.ab _ (Nat.le_refl _) (H67.out _))))
            refine wpQuiet_nil ?_
            rintro W' ⟨X0, rfl⟩
            have hX := X0.ok
            clear B4 B10 D0 G0
            have f1 := blk_keep HE2.out.2.1 hX
            have f4 := blk_keep HE2.out.2.2.1 hX
            have f10 := blk_keep HE2.out.2.2.2.1 hX
            have f6 := blk_keep HE2.out.2.2.2.2 hX
            have hBX := btr HE2.out.1 hX (Nat.le_refl _)
            generalize X0.val = W2 at *
            have k11 := cell_blk (i := 1) f10
            simp only [List.getElem?_toArray, List.getElem?_cons_zero, List.getElem?_cons_succ] at k11
            have k6 := cell_blk (i := tn) f6
            rw [List.getElem?_toArray, rowX_get _ (by omega), HXT.out] at k6
            have kf6 := free_blk (i := tn) f6
            have hne10 : wr.heap.size ≠ g6 := by omega
            clear d0E e1 r0 r1 r2 r3 r4
            by_cases hgt : xt < y
            · have hone : st1 = PanPlain.raise (r + 1) k ⟨fn, tn, xh * D - xb * A⟩ st := by
                rw [HONE.out]; unfold PanPlain.one
                rw [if_pos]
                have := HY.out; have := HXT.out; have := HXF.out
                show st.x tn < st.x fn + (xh * D - xb * A); omega
              have HST := Lib.hid hone
              clear hone
              go_wp2
              have t6 : (W2.setCell ⟨g6, tn, none⟩ (.int .i64 y)).heap[g6]? = some (.cells (rowX m st1.x).toArray 3 (0, 0)) := by
                rw [heap_set_blk f6, rowX_set, HST.out]
                have : y = st.x fn + (xh * D - xb * A) := by have := HY.out; have := HXF.out; omega
                rw [this]; rfl
              have t1 : (W2.setCell ⟨g6, tn, none⟩ (.int .i64 y)).heap[w.heap.size]? = _ := (heap_set_other (by omega)).trans f1
              have t4 : (W2.setCell ⟨g6, tn, none⟩ (.int .i64 y)).heap[g4]? = _ := (heap_set_other (by omega)).trans f4
              have tB := hBX.setCell (p := ⟨g6, tn, none⟩) (show w.heap.size ≤ g6 by omega) (.int .i64 y)
              go_roundw
              case rel => exact ⟨k + 1, by omega, by go_num, by rw [← HS1.out, HST.out]; rfl, t1, t4, by rw [← HS1.out]; exact t6, tB⟩
              case measure => simp [intOf]; omega
            · have hone : st1 = st := by
                rw [HONE.out]; unfold PanPlain.one
                rw [if_neg]
                have := HY.out; have := HXT.out; have := HXF.out
                show ¬ st.x tn < st.x fn + (xh * D - xb * A); omega
              have HST := Lib.hid hone
              clear hone
              go_wp2
              go_roundw
              case rel => exact ⟨k + 1, by omega, by go_num, by rw [← HS1.out, HST.out], f1, f4, by rw [← HS1.out, HST.out]; exact f6, hBX⟩
              case measure => simp [intOf]; omega
          · have hke : k = ws.length := by omega
            have hfin : runTo es (r + 1) ws.length (rounds es r) = rounds es (r + 1) := by
              show _ = runTo es (r + 1) es.length _
              rw [HES.out, eds_len]
            have hkl2 : ¬ ((k : Int) < (ws.length : Int)) := by omega
            rw [hke, hfin] at q3 ⊢
            rw [hke] at hkl2
            clear hfin hk hkl hke
            have hms := gap_round HEF.out.1 HEF.out.2 HS.out.1.nn r
            have hg1 : gapS P (fun v => intO (wr.cell? ⟨g6, v, none⟩)) m = gapS P (rounds es (r + 1)).x m := gap_same m fun v hv => by
              have := cell_blk (i := v) q3
              rw [List.getElem?_toArray, rowX_get _ hv] at this
              rw [this]; rfl
            have HG1 := Lib.hid hg1
            have HMS := Lib.hid hms
            clear hg1 hms
            have hmo := moreB_succ es r
            have HMO := Lib.hid hmo
            clear hmo
            rw [← HMO.out]
            go_wp2
            go_roundw
            case rel => exact ⟨r + 1, by omega, rfl, b1, b4, q3, hB⟩
            case measure => exact measure_lt HG1.out HQ3.out HMS.out
  · have hne : (E != 0) = true := by simpa using h0
    have H0 := Lib.hid h0
    clear h0
    go_wp2
    go_ret2
    exact ⟨⟨_, rfl, by rw [tabL_err (by rw [← HE.out.1]; exact H0.out)]; exact slI_nil _⟩, hB⟩
end Yteileadcmekkoaa
end Go.Proofs
