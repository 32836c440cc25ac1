/- Pans: when steps begin at the earliest. -/
import Derived.Test.YteileadcmekkoaaQ19
import Derived.Test.YteileadcmekkoaaGenG
open Go Go.RowKit Go.YteileadcmekkoaaIt
namespace Go.Proofs
namespace Yteileadcmekkoaa
open PanPlain (upd upd_same upd_ne)
def encP (p : Int × Int) : List Value := [.int .i64 p.1, .int .i64 p.2]
theorem encP_len (p : Int × Int) : (encP p).length = 2 := rfl
/-- A row's cells. -/
def rowC (n : Nat) (f : Nat → Int × Int) : List Value := ((List.range n).map f).flatMap encP
theorem rowC_len (n : Nat) (f : Nat → Int × Int) : (rowC n f).length = n * 2 := by
  unfold rowC; rw [flat_length encP_len]; simp
theorem rowC_get (n : Nat) (f : Nat → Int × Int) {v : Nat} (h : v < n) : (rowC n f)[v * 2]? = some (.int .i64 (f v).1) ∧ (rowC n f)[v * 2 + 1]? = some (.int .i64 (f v).2) := by
  have hl : v < ((List.range n).map f).length := by simpa using h
  have e : ((List.range n).map f)[v] = f v := by simp
  refine ⟨?_, ?_⟩
  · have := flat_get encP_len hl (f := 0) (by omega)
    rw [e] at this; exact this
  · have := flat_get encP_len hl (f := 1) (by omega)
    rw [e] at this; exact this
theorem rowC_set (n : Nat) (f : Nat → Int × Int) (s : Nat) (x : Int × Int) : ((rowC n f).toArray.setIfInBounds (s * 2) (.int .i64 x.1)).setIfInBounds (s * 2 + 1) (.int .i64 x.2) = (rowC n (upd f s x)).toArray := by
  apply Array.toList_inj.1
  apply List.ext_getElem?
  intro i
  rw [Array.toList_setIfInBounds, Array.toList_setIfInBounds, List.getElem?_set, List.getElem?_set]
  simp only [List.length_set, rowC_len]
  by_cases hi : i < n * 2
  · have hv : i / 2 < n := by omega
    obtain ⟨g0, g1⟩ := rowC_get n f hv
    obtain ⟨u0, u1⟩ := rowC_get n (upd f s x) hv
    by_cases hs : i / 2 = s
    · subst hs
      rw [upd_same] at u0 u1
      by_cases h2 : i % 2 = 0
      · have e : i / 2 * 2 = i := by omega
        rw [e] at u0 u1 ⊢
        rw [if_neg (by omega), if_pos rfl, if_pos hi, u0]
      · have e : i / 2 * 2 + 1 = i := by omega
        rw [e] at u1
        rw [if_pos e, if_pos (by omega), u1]
    · rw [upd_ne _ _ hs] at u0 u1
      by_cases h2 : i % 2 = 0
      · have e : i / 2 * 2 = i := by omega
        rw [e] at g0 u0
        rw [if_neg (by omega), if_neg (by omega), u0, g0]
      · have e : i / 2 * 2 + 1 = i := by omega
        rw [e] at g1 u1
        rw [if_neg (by omega), if_neg (by omega), u1, g1]
  · have e1 : (rowC n f)[i]? = none := List.getElem?_eq_none (by rw [rowC_len]; omega)
    have e2 : (rowC n (upd f s x))[i]? = none := List.getElem?_eq_none (by rw [rowC_len]; omega)
    rw [e1, e2]
    by_cases h1 : s * 2 + 1 = i
    · rw [if_pos h1, if_neg (by omega)]
    · rw [if_neg h1]
      by_cases h2 : s * 2 = i
      · rw [if_pos h2, if_neg (by omega)]
      · rw [if_neg h2]
theorem rowC_zero (n : Nat) : rowC n (fun _ => (0, 0)) = List.replicate (n * 2) (.int .i64 0) := by
  apply List.ext_getElem?
  intro i
  rw [List.getElem?_replicate]
  by_cases hi : i < n * 2
  · obtain ⟨g0, g1⟩ := rowC_get n (fun _ => (0, 0)) (show i / 2 < n by omega)
    rw [if_pos hi]
    by_cases h2 : i % 2 = 0
    · rw [show i / 2 * 2 = i by omega] at g0; exact g0
    · rw [show i / 2 * 2 + 1 = i by omega] at g1; exact g1
  · rw [if_neg hi]; exact List.getElem?_eq_none (by rw [rowC_len]; omega)
theorem rowC_same {n : Nat} {f g : Nat → Int × Int} (h : ∀ v, v < n → f v = g v) : rowC n f = rowC n g := by
  unfold rowC
  congr 1
  exact List.map_congr_left fun v hv => h v (by simpa using hv)
theorem lastA_same {n : Nat} {gs gs' : Nat → Nat} : ∀ c, (∀ k, k < c → gs k = gs' k) → lastA n gs c = lastA n gs' c
  | 0, _ => rfl
  | c + 1, h => by unfold lastA; rw [lastA_same c fun k hk => h k (by omega), h c (by omega)]
theorem recA_same {n : Nat} {gs gs' : Nat → Nat} (c : Nat) (h : ∀ k, k < c → gs k = gs' k) : recA n gs c = recA n gs' c := by unfold recA; rw [lastA_same c h]
/-- What lies in memory: c rows are begun, m are handed over. -/
structure RM (w0 : World) (B n : Nat) (vw : Value) (gs : Nat → Nat) (R : Rows) (c m : Nat) (ov : Value) (bb : Nat) (W : World) : Prop where
  wk : W.heap[B]? = some (.cells #[.int .i64 n, vw] 24 (0, 0))
  bf : W.heap[bb]? = some (.cells (recA n gs c).toArray 115 (0, 0))
  rows : ∀ k, k < c → W.heap[gs k]? = some (.cells (rowC n (R k)).toArray 80 (0, 0))
  inj : ∀ k k', k < c → k' < c → gs k = gs k' → k = k'
  lo : ∀ k, k < c → bb < gs k
  out : W.ownsRow (bb + 1) 61 1 ov m ((List.range m).map fun k => slR n (gs k))
  b : Below bb w0 W
  lt : B < bb
theorem RM.stb {w0 : World} {B n : Nat} {vw : Value} {gs : Nat → Nat} {R : Rows} {c m : Nat} {ov : Value} {bb D : Nat} (h0 : bb ≤ w0.heap.size) (hB : bb ≤ D) : Stb D (RM w0 B n vw gs R c m ov bb) := fun W W' g h =>
  ⟨Stb.cells (B := D) W W' g h.wk, Stb.cells (B := D) W W' g h.bf, fun k hk => Stb.cells (B := D) W W' g (h.rows k hk), h.inj, h.lo, Stb.row (B := D) W W' g h.out, Stb.below hB h0 W W' g h.b, h.lt⟩
theorem RM.below {w0 : World} {B n : Nat} {vw : Value} {gs : Nat → Nat} {R : Rows} {c m : Nat} {ov : Value} {bb : Nat} {W W' : World} (h0 : bb ≤ w0.heap.size) (h : RM w0 B n vw gs R c m ov bb W) (hb : Below W.heap.size W W') : RM w0 B n vw gs R c m ov bb W' := RM.stb (D := bb) h0 (Nat.le_refl _) W W' (Gr.below hb) h
/-- A further strike is begun: its row is new. -/
theorem RM.begin {w0 : World} {B n : Nat} {vw : Value} {gs gs' : Nat → Nat} {R : Rows} {k : Nat} {ov : Value} {bb : Nat} {wo w6 w7 : World} (h : RM w0 B n vw gs R k k ov bb wo) (hb6 : Below wo.heap.size wo w6) (hm7 : Bm bb w6.heap.size w6 w7) (hz : R k = fun _ => (0, 0)) (hgk : gs' k = wo.heap.size) (hgo : ∀ q, q < k → gs q = gs' q)
    (hrow : w6.heap[wo.heap.size]? = some (.cells (List.replicate (n * 2) (.int .i64 0)).toArray 80 (0, 0))) (hbf : w7.heap[bb]? = some (.cells (recA n gs' (k + 1)).toArray 115 (0, 0))) : RM w0 B n vw gs' R (k + 1) k ov bb w7 := by
  have hbb := lt_blk h.bf
  have h6 : ∀ b o, wo.heap[b]? = some o → b ≠ bb → w7.heap[b]? = some o := fun b o ho hne => (hm7.block b (by have := hb6.size; have := lt_blk ho; omega) hne).trans (blk_keep ho hb6)
  have hne : ∀ q, q < k → gs q ≠ bb := fun q hq e => by have := h.lo q hq; omega
  refine ⟨h6 _ _ h.wk (by have := h.lt; omega), hbf, fun q hq => ?_, fun q q' hq hq' e => ?_, fun q hq => ?_, ?_, ?_, h.lt⟩
  · by_cases hqk : q < k
    · rw [← hgo q hqk]; exact h6 _ _ (h.rows q hqk) (hne q hqk)
    · have : q = k := by omega
      subst this
      rw [hgk, hz, rowC_zero]
      exact (hm7.block _ (lt_blk hrow) (by omega)).trans hrow
  · have hlt : ∀ q, q < k → gs q < wo.heap.size := fun q hq => lt_blk (h.rows q hq)
    by_cases h1 : q < k <;> by_cases h2 : q' < k
    · rw [← hgo q h1, ← hgo q' h2] at e; exact h.inj q q' h1 h2 e
    · have : q' = k := by omega
      subst this
      rw [← hgo q h1, hgk] at e; have := hlt q h1; omega
    · have : q = k := by omega
      subst this
      rw [← hgo q' h2, hgk] at e; have := hlt q' h2; omega
    · omega
  · by_cases hqk : q < k
    · rw [← hgo q hqk]; exact h.lo q hqk
    · have : q = k := by omega
      subst this
      rw [hgk]; exact hbb
  · have e : ((List.range k).map fun q => slR n (gs q)) = (List.range k).map fun q => slR n (gs' q) := List.map_congr_left fun q hq => by rw [hgo q (List.mem_range.1 hq)]
    rw [← e]
    have h1 := row_below h.out hb6
    exact row_same h1 fun g hg => hm7.block g (h1.lt g hg).2 fun eg => own_ne h1 (blk_keep h.bf hb6) (by decide) (by rw [hg, eg])
  · exact ⟨hm7.os.trans (hb6.os.trans h.b.os), hm7.tape.trans (hb6.tape.trans h.b.tape), hm7.output.trans (hb6.output.trans h.b.output), Nat.le_trans h.b.size (Nat.le_trans hb6.size hm7.size), fun b hb => (hm7.block b (by have := hb6.size; omega) (by omega)).trans ((hb6.block b (by omega)).trans (h.b.block b hb))⟩
/-- A number of the last row is changed. -/
theorem RM.set {w0 : World} {B n : Nat} {vw : Value} {gs : Nat → Nat} {R : Rows} {k : Nat} {ov : Value} {bb : Nat} {W W' : World} (h : RM w0 B n vw gs R (k + 1) k ov bb W) {s : Nat} {x : Int × Int} (hg : W'.heap[gs k]? = some (.cells (rowC n (upd (R k) s x)).toArray 80 (0, 0))) (ho : ∀ b, b ≠ gs k → W'.heap[b]? = W.heap[b]?) (hs : W'.heap.size = W.heap.size) (h1 : W'.os = W.os) (h2 : W'.tape = W.tape) (h3 : W'.output = W.output) :
    RM w0 B n vw gs (updR R k s x) (k + 1) k ov bb W' := by
  have hlo := h.lo k (by omega)
  have hlt := h.lt
  refine ⟨(ho _ (by omega)).trans h.wk, (ho _ (by omega)).trans h.bf, fun q hq => ?_, h.inj, h.lo, ?_, ?_, h.lt⟩
  · by_cases hqk : q = k
    · subst hqk
      have e : updR R q s x q = upd (R q) s x := by funext v; unfold updR upd; by_cases hv : v = s <;> simp [hv]
      rw [e]; exact hg
    · have e : updR R k s x q = R q := by funext v; exact updR_ne (fun e => hqk e.1)
      rw [e, ho _ (fun e => hqk (h.inj q k hq (by omega) e))]
      exact h.rows q hq
  · exact row_same h.out fun g hg => ho g fun eg => own_ne h.out (h.rows k (by omega)) (by decide) (by rw [hg, eg])
  · exact ⟨h1.trans h.b.os, h2.trans h.b.tape, h3.trans h.b.output, by rw [hs]; exact h.b.size, fun b hb => (ho b (by omega)).trans (h.b.block b hb)⟩
/-- What is wrong with strikes. -/
noncomputable def runsE (n : Int) (ws : List Wa) (st : Int) : Int := if chkE n ws ≠ 0 then chkE n ws else if btw 0 st 200 = false then 2 else 0
abbrev SlP (w : World) (v : Value) (xs : List (Int × Int)) : Prop := SlG encP 2 w v xs
def SlPP (w : World) (v : Value) (rows : List (List (Int × Int))) : Prop := ∃ vs : List Value, SlV w v vs ∧ vs.length = rows.length ∧ ∀ i (h : i < vs.length) (h' : i < rows.length), SlP w vs[i] rows[i]
theorem slPP_nil (w : World) : SlPP w (.slice none 0 0) [] := ⟨[], ⟨none, 0, rfl, by simp, by simp, fun h => by simp at h⟩, rfl, fun i h => by simp at h⟩
theorem SlPP.below {w w' : World} {v : Value} {rows : List (List (Int × Int))} {B : Nat} (h : SlPP w v rows) (hb : Below B w w') (hB : w.heap.size ≤ B) : SlPP w' v rows := by
  obtain ⟨vs, h1, h2, h3⟩ := h
  exact ⟨vs, h1.below hb hB, h2, fun i a b => (h3 i a b).below hb hB⟩
/-- What is returned. -/
def RunsR (n : Int) (ws : List Wa) (st : Int) (e : Ending) (w' : World) : Prop :=
  ∃ v rows, e = .returned (.tuple #[v, .int .i64 (runsE n ws st)]) ∧ SlPP w' v rows ∧ (runsE n ws st ≠ 0 → rows = []) ∧
    (runsE n ws st = 0 → ∃ (m N : Nat) (R : Rows), n = m ∧ st = N ∧ Val m ws ∧ NS ws ∧ N ≤ 200 ∧ RunEq m ws N R ∧ rows = (List.range N).map (fun k => (List.range m).map (R k)) ∧ ∀ k v, 0 ≤ (R k v).1 ∧ (R k v).1 ≤ (R k v).2 ∧ (k < N → (R k v).2 ≤ 100000 * ((k : Int) + 1)))
theorem row_fullG {W : World} {base : Nat} {e : TypeId} {n g sz : Nat} {xs : List Value} (h : W.ownsRow base e sz (.slice (some ⟨g, 0, none⟩) n n) n xs) : W.heap[g]? = some (.cells xs.toArray e (0, 0)) := by
  rcases h.2 with ⟨e1, _⟩ | ⟨g', cap, cur, e1, _, hh, _, _, hcs, htake⟩
  · cases e1
  · injection e1 with e2 e3 e4
    injection e2 with e2
    injection e2 with e2
    subst e2 e4
    have hx : xs = cur.toList := by
      have h1 := htake
      have hl : xs.length = n * sz := h.1
      rw [← h1]
      rw [List.take_of_length_le (by rw [Array.length_toList, hcs]; exact Nat.le_refl _)]
    rw [hh, hx]
theorem made_pairs (n : Nat) : (madeCells (Value.agg #[.int .i64 0, .int .i64 0]).cells (n * 2)).toList = List.replicate (n * 2) (.int .i64 0) := by
  apply List.ext_getElem?
  intro i
  rw [List.getElem?_replicate]
  by_cases h : i < n * 2
  · have h2 : i % 2 = 0 ∨ i % 2 = 1 := by omega
    rcases h2 with h2 | h2 <;> simp [madeCells, Value.cells, h, h2]
  · simp [madeCells, h]
/-- The frames of the two loops. -/
def fr1 (m N B bb : Nat) (vw vo ov : Value) (k : Nat) (us : Nat → Value) (ds : List Nat) : Act := ⟨#[.agg #[.int .i64 m, vw], .int .i64 N, .pointer (some ⟨B, 0, none⟩), undef, .slice none 0 0, .int .i64 0, .int .i64 0, vo, .bool true, .pointer (some ⟨bb, 0, none⟩), ov, us 11, us 12, us 13, us 14, us 15, us 16, us 17, us 18, us 19, us 20, us 21, us 22, us 23, us 24, us 25, us 26, us 27, us 28, us 29, us 30, us 31, .int .i64 N, .int .i64 k, us 34, us 35, us 36, us 37, us 38, us 39, us 40, us 41, us 42, us 43, us 44, us 45, us 46, us 47, us 48, us 49, us 50, us 51, us 52, us 53, us 54, us 55, us 56, us 57, us 58, us 59, us 60, us 61, us 62, us 63, us 64, us 65, us 66, us 67, us 68, us 69, us 70, us 71, us 72, us 73, us 74, us 75, us 76, us 77, us 78, us 79, us 80, us 81, us 82, us 83, us 84, us 85, us 86, us 87, us 88, us 89, us 90, us 91, us 92, us 93, us 94, us 95, us 96, us 97], ds.map mk⟩
def fr2 (m N B bb : Nat) (vw vo ov : Value) (k bn L j : Nat) (us : Nat → Value) (ds : List Nat) : Act := ⟨#[.agg #[.int .i64 m, vw], .int .i64 N, .pointer (some ⟨B, 0, none⟩), undef, .slice none 0 0, .int .i64 0, .int .i64 0, vo, .bool true, .pointer (some ⟨bb, 0, none⟩), ov, .pointer (some ⟨bn, 0, none⟩), us 12, us 13, us 14, us 15, us 16, us 17, us 18, us 19, us 20, us 21, us 22, us 23, us 24, us 25, us 26, us 27, us 28, us 29, us 30, us 31, .int .i64 N, .int .i64 k, us 34, us 35, us 36, us 37, us 38, us 39, vo, .int .i64 L, .int .i64 j, us 43, us 44, us 45, us 46, us 47, us 48, us 49, us 50, us 51, us 52, us 53, us 54, us 55, us 56, us 57, us 58, us 59, us 60, us 61, us 62, us 63, us 64, us 65, us 66, us 67, us 68, us 69, us 70, us 71, us 72, us 73, us 74, us 75, us 76, us 77, us 78, us 79, us 80, us 81, us 82, us 83, us 84, us 85, us 86, us 87, us 88, us 89, us 90, us 91, us 92, us 93, us 94, us 95, us 96, us 97], ds.map mk⟩
theorem ty_ne {W : World} {a b : Nat} {c c' : Array Value} {t t' : TypeId} {fr fr' : Nat × Nat} (h : W.heap[a]? = some (.cells c t fr)) (h' : W.heap[b]? = some (.cells c' t' fr')) (ht : t ≠ t') : a ≠ b := by
  rintro rfl; rw [h] at h'; cases h'; exact ht rfl
theorem info61 : (Try.prog.info? 61).map (fun i => (i.zero, i.size, i.bytes)) = some (some (.slice none 0 0), 1, 24) := by kernel_rfl
theorem info80 : (Try.prog.info? 80).map (fun i => (i.zero, i.size, i.bytes)) = some (some (.agg #[.int .i64 0, .int .i64 0]), 2, 16) := by kernel_rfl
set_option maxRecDepth 100000 in
set_option maxHeartbeats 4000000 in
theorem runs_any (n : Int) (vw : Value) (ws : List Wa) (st : Int) (w : World) (hvw : SlA w vw ws) :
    Calls Try.prog 33 #[.agg #[.int .i64 n, vw], .int .i64 st] w fun e w' => RunsR n ws st e w' ∧ Below w.heap.size w w' := by
  have HV := Lib.hid hvw
  obtain ⟨ad, cap, rfl, -, -, -⟩ := hvw
  unfold RunsR
  obtain ⟨E, hE⟩ : ∃ E, E = chkE n ws := ⟨_, rfl⟩
  obtain ⟨RE, hRE⟩ : ∃ RE, RE = runsE n ws st := ⟨_, rfl⟩
  rw [← hRE]
  have HE := Lib.hid (And.intro hE hRE)
  clear hE hRE
  refine calls_of_wpM Try.func33 rfl ?_
  simp only [Try.ntmps33, List.size_toArray, List.length_cons, List.length_nil, Nat.reduceAdd, Nat.reduceSub, Array.replicate_succ, Array.replicate_zero, List.push_toArray, List.append_toArray, List.nil_append, List.cons_append]
  refine wpIn_seq_k (fun K hK => ?_)
  have HK := Lib.hid hK; clear hK
  gi_wp2
  refine HK.out _ _ ?_; clear HK K
  generalize hw1 : World.alloc _ _ = w1
  obtain ⟨b1, hB, hs1⟩ := blk1 hw1
  clear hw1
  have h22 := check_any n _ ws w1 (HV.out.below hB (Nat.le_refl _))
  rw [← HE.out.1] at h22
  refine wpIn_seq_k (fun K hK => ?_)
  have HK := Lib.hid hK; clear hK
  refine wpIn_seq_k (fun K2 hK2 => ?_)
  have HK2 := Lib.hid hK2; clear hK2
  gi_wp2_with (first | (refine wpListIn_load_blk rfl 24 _ rfl _ rfl b1 Try.underlying24 rfl size24 rfl ?_) | (gi_at_call 22; refine callsTo h22 ?_; rintro e w2 ⟨rfl, hb2⟩))
  refine HK2.out _ _ ?_; clear HK2 K2
  replace b1 := blk_keep b1 hb2
  replace hB := btr hB hb2 (Nat.le_refl _)
  clear h22
  by_cases h0 : E = 0
  rotate_left
  · have hne : (E != 0) = true := by simpa using h0
    have hRe : RE = E := by rw [HE.out.2]; unfold runsE; rw [if_pos (by rw [← HE.out.1]; exact h0), HE.out.1]
    subst hRe
    have H0 := Lib.hid h0
    clear h0
    gi_wp2
    refine ⟨_, results_tmp2 rfl _ _ _, ?_⟩
    exact ⟨⟨_, [], rfl, slPP_nil _, fun _ => rfl, fun h => absurd h H0.out⟩, hB⟩
  · obtain ⟨m, rfl, hV, hns⟩ := chk_ok (HE.out.1.symm.trans h0)
    have hRS : RE = if btw 0 st 200 = false then 2 else 0 := by rw [HE.out.2]; unfold runsE; rw [if_neg (by rw [← HE.out.1]; simpa using h0)]
    subst h0
    gi_wp2
    refine HK.out _ _ ?_; clear HK
    have h58 := between_any 0 st 200 w2
    obtain ⟨q, hq⟩ : ∃ q, q = btw 0 st 200 := ⟨_, rfl⟩
    rw [← hq] at h58 hRS
    have HQ := Lib.hid hq
    clear hq
    cases q
    · have hR2 : RE = 2 := by rw [hRS]; rfl
      subst hR2
      clear hRS HE
      gi_wp2_with (gi_at_call 58; refine callsTo h58 ?_; rintro e w3 ⟨rfl, hw3⟩; subst hw3)
      refine ⟨_, results_tmp2 rfl _ _ _, ?_⟩
      exact ⟨⟨_, [], rfl, slPP_nil _, fun _ => rfl, fun h => absurd h (by decide)⟩, hB⟩
    · have hR0 : RE = 0 := by rw [hRS]; rfl
      have hst := btw_true.1 HQ.out.symm
      obtain ⟨N, hN⟩ := Int.eq_ofNat_of_zero_le hst.1
      subst hN
      subst hR0
      clear hRS
      refine wpIn_seq_k (fun K hK => ?_)
      have HK := Lib.hid hK; clear hK
      gi_wp2_with (gi_at_call 58; refine callsTo h58 ?_; rintro e w3 ⟨rfl, hw3⟩; subst hw3)
      refine HK.out _ _ ?_; clear HK K h58
      have h60 := order_any m _ ws w2 hV (HV.out.below hB (Nat.le_refl _))
      refine wpIn_seq_k (fun K hK => ?_)
      have HK := Lib.hid hK; clear hK
      gi_wp2_with (first | (refine wpListIn_load_blk rfl 24 _ rfl _ rfl b1 Try.underlying24 rfl size24 rfl ?_) | (gi_at_call 60; refine callsTo h60 ?_; rintro e w3 ⟨⟨vo, l, bb, rfl, hvo, htp, hbb⟩, hb3⟩))
      refine HK.out _ _ ?_; clear HK K h60
      obtain ⟨ao, co, hvf⟩ := slI_form hvo
      rw [List.length_map] at hvf
      subst hvf
      obtain rfl : bb = true := hbb.2 hns
      have hT := htp rfl
      clear htp hbb
      replace b1 := blk_keep b1 hb3
      have hlt3 := lt_blk b1
      have hn10 := hV.n1
      have hln := hT.len
      replace hB := btr hB hb3 (Nat.le_refl _)
      refine wpIn_seq_k (fun K hK => ?_)
      have HK := Lib.hid hK; clear hK
      gi_wp2
      refine HK.out _ _ ?_; clear HK K
      generalize hw4 : World.alloc _ _ = w4
      obtain ⟨bF, hB4, hs4⟩ := blk1 hw4
      clear hw4
      replace b1 := blk_keep b1 hB4
      have hs3 := hB.size
      have HB3 := Lib.hid hB
      have HB4 := Lib.hid hB4
      clear hB
      have hlt1 := lt_blk b1
      obtain ⟨bb, hbb⟩ : ∃ bb, bb = w3.heap.size := ⟨_, rfl⟩
      rw [← hbb] at bF hs4 hs3 hlt3 HB4 ⊢
      have HVO := Lib.hid hvo
      clear hvo
      have HBB := Lib.hid hbb
      clear hbb
      clear hB4
      refine wpIn_seq_k (fun K hK => ?_)
      have HK := Lib.hid hK; clear hK
      gi_wp2
      refine HK.out _ _ ?_; clear HK K
      refine wpIn_seq_k (fun K hK => ?_)
      have HK := Lib.hid hK; clear hK
      gi_wp2
      have hRM0 : RM w3 w.heap.size m (.slice ad ws.length cap) (fun _ => 0) (fun _ _ => (0, 0)) 0 0 (.slice none 0 0) bb w4 :=
        ⟨b1, bF, fun k hk => by omega, fun k k' hk => by omega, fun k hk => by omega, World.ownsRow_nil _ _ _ _, HB4.out, hlt3⟩
      refine wpIn_loop (fun a wr => ∃ (k : Nat) (gs : Nat → Nat) (R : Rows) (ov : Value) (ds : List Nat), k ≤ N ∧ RM w3 w.heap.size m (.slice ad ws.length cap) gs R k k ov bb wr ∧ StrI m ws l k 0 R ∧ Mk (bb + 1) ds wr ∧ w.heap.size < bb ∧ bb < wr.heap.size ∧ a = fr1 m N w.heap.size bb (.slice ad ws.length cap) (.slice ao l.length co) ov k (fun i => a.tmps.getD i undef) ds) (fun a _ => N - (intOf (a.tmps.getD 33 undef)).toNat) ⟨0, fun _ => 0, _, _, [], Nat.zero_le _, hRM0, StrI.start m ws l, Mk.nil _ _, by omega, by omega, rfl⟩ ?_
      rintro a wr ⟨k, gs, R, ov, ds, hk, hRM, hSt, hM, hbbw, hbbr, hfr⟩
      obtain ⟨us, rfl⟩ : ∃ us, a = fr1 m N w.heap.size bb (.slice ad ws.length cap) (.slice ao l.length co) ov k us ds := ⟨_, hfr⟩
      clear hfr
      unfold fr1
      clear hRM0 b1 bF
      by_cases hkN : k < N
      · have e0 := cell_blk (i := 0) hRM.wk
        simp only [List.getElem?_toArray, List.getElem?_cons_zero] at e0
        have z0 := lt_blk hRM.wk
        obtain ⟨i80, hi80, hz1, hz2, hz3⟩ := info_parts info80
        have HI := Lib.hid (And.intro hi80 (And.intro hz1 (And.intro hz2 hz3)))
        clear hi80 hz1 hz2 hz3
        obtain ⟨wo, rfl⟩ : ∃ wo, wo = wr := ⟨_, rfl⟩
        have hwo := hRM.b.size
        rw [← HBB.out] at hwo
        have hzero : R k = fun _ => (0, 0) := funext fun v => hSt.zero v (by simp)
        have hgk : upd gs k wo.heap.size k = wo.heap.size := upd_same _ _ _
        have hgo : ∀ q, q < k → gs q = upd gs k wo.heap.size q := fun q hq => (upd_ne _ _ (by omega)).symm
        have h70 : ∀ W, W.heap[bb]? = some (.cells (recA m (upd gs k wo.heap.size) k).toArray 115 (0, 0)) → Calls Try.prog 70 #[.pointer (some ⟨bb, 0, none⟩), .slice (some ⟨wo.heap.size, 0, none⟩) m m] W fun e w' => (∃ v, e = .returned v) ∧ w'.heap[bb]? = some (.cells (recA m (upd gs k wo.heap.size) (k + 1)).toArray 115 (0, 0)) ∧ Bm bb W.heap.size W w' := fun W h => by
          have := add_any m (upd gs k wo.heap.size) k bb W (by omega) h
          unfold slR at this
          rw [hgk] at this
          exact this
        have hbf := hRM.bf
        rw [recA_same k hgo] at hbf
        have HG := Lib.hid (And.intro hzero (And.intro hgk hgo))
        have H70 := Lib.hid h70
        clear hzero hgk hgo h70
        generalize hgs : upd gs k wo.heap.size = gs' at *
        clear hgs
        have hM0 := hM
        gi_wp2_with (first | (gi_at_make; refine wpListIn_make_full wo rfl (.tmp 36) (.tmp 36) 61 rfl (bb + 1) 80 i80 (.agg #[.int .i64 0, .int .i64 0]) 2 Try.underlying61 HI.out.1 HI.out.2.1 HI.out.2.2.1 .i64 .i64 _ _ m rfl rfl rfl rfl (by rw [HI.out.2.2.2]; omega) (Nat.le_trans (by omega : m ≤ 100) (by decide)) (by omega) ?_; intro w5 q1 q2; have hb5 : Below wo.heap.size wo w5 := ⟨q2.os, q2.tape, q2.output, q2.size, fun k hk => q2.block k hk (by simp)⟩; rw [made_pairs] at q1; have q3 := row_fullG q1; clear q1 q2; have hbf6 := fun o => (heap_oldI (w := w5) (o := o) (lt_blk (blk_keep hbf hb5))).trans (blk_keep hbf hb5); have b11 := fun o => heap_newI (w := w5) (o := o) rfl; have q36 := fun o => (heap_oldI (w := w5) (o := o) (lt_blk q3)).trans q3; have hb6 := fun o => hb5.alloc hb5.size o; have hlt5 := lt_blk q3) |
          (gi_at_call 70; refine callsTo (H70.out _ (hbf6 _)) ?_; rintro e w7 ⟨⟨v7, rfl⟩, hbf7, hbm7⟩; have hb67 := hb6 (Obj.cells #[Value.slice (some ⟨wo.heap.size, 0, none⟩) m m] 61)))
        obtain ⟨hzero, hgk, hgo⟩ := HG.out
        have hRM7 := hRM.begin hb67 hbm7 hzero hgk hgo (q36 _) hbf7
        have b117 : w7.heap[w5.heap.size]? = some (.cells #[.slice (some ⟨gs' k, 0, none⟩) m m] 61 (0, 0)) := by
          rw [hgk]; exact (hbm7.block _ (by rw [World.size_alloc]; omega) (by omega)).trans (b11 _)
        have hM7 : Mk (bb + 1) ds w7 := hM.keep fun q o ho hc => by
          have hq : q ≠ bb := by rintro rfl; rw [hRM.bf] at ho; cases ho; cases hc
          exact (hbm7.block q (by have := hb67.size; have := lt_blk ho; omega) hq).trans (blk_keep ho hb67)
        have hbn : bb < w5.heap.size := by omega
        have hbne : w5.heap.size ≠ gs' k := by omega
        obtain ⟨bn, hbn'⟩ : ∃ bn, bn = w5.heap.size := ⟨_, rfl⟩
        rw [← hbn'] at b117 hbn hbne ⊢
        have hIR : StrI m ws l k 0 R ∧ Mk (bb + 1) ds w7 := ⟨hSt, hM7⟩
        clear hbn' hbf7 hbm7 hb67 hb6 hbf6 b11 q36 hlt5 q3 hb5 hRM hM hM7 hSt hbf e0 z0 hgk hgo hzero HG H70 hM0 hwo hbbr
        refine wpIn_loop (fun a wr => ∃ (j : Nat) (R : Rows) (ds : List Nat), j ≤ l.length ∧ RM w3 w.heap.size m (.slice ad ws.length cap) gs' R (k + 1) k ov bb wr ∧ StrI m ws l k j R ∧ wr.heap[bn]? = some (.cells #[.slice (some ⟨gs' k, 0, none⟩) m m] 61 (0, 0)) ∧ Mk (bb + 1) ds wr ∧ a = fr2 m N w.heap.size bb (.slice ad ws.length cap) (.slice ao l.length co) ov k bn l.length j (fun i => a.tmps.getD i undef) ds) (fun a _ => l.length - (intOf (a.tmps.getD 42 undef)).toNat) ⟨0, R, ds, Nat.zero_le _, hRM7, hIR.1, b117, hIR.2, rfl⟩ ?_
        clear hRM7 b117 hIR R
        rintro a wr ⟨j, R, ds, hj, hRM, hSt, bN, hM, hfr⟩
        obtain ⟨us, rfl⟩ : ∃ us, a = fr2 m N w.heap.size bb (.slice ad ws.length cap) (.slice ao l.length co) ov k bn l.length j us ds := ⟨_, hfr⟩
        clear hfr
        unfold fr2
        obtain ⟨wp, rfl⟩ : ∃ wp, wp = wr := ⟨_, rfl⟩
        by_cases hjl : j < l.length
        · obtain ⟨a2, c2, ha2, -, -, hcc2⟩ := HVO.out
          obtain ⟨bc, oc, rfl, hlc, hcell⟩ := hcc2 (by rw [List.length_map]; omega)
          rw [List.length_map] at hcell ha2
          injection ha2 with ha3 ha4 ha5
          subst ha3
          have d0 := (hRM.b.cell (p := ⟨bc, oc + j, none⟩) (by rw [HBB.out]; exact hlc)).trans (hcell j hjl)
          have hat : at0 (l.map fun (i : Nat) => (i : Int)) j = (l[j] : Nat) := by unfold at0; simp [hjl]
          rw [hat] at d0
          have hsl : l[j] < m := (hT.mem _).1 (List.getElem_mem hjl)
          have b1 := hRM.wk
          have hlb : bc < wp.heap.size := Nat.lt_of_lt_of_le hlc (Nat.le_trans (by rw [HBB.out]; exact Nat.le_refl _) (show bb ≤ wp.heap.size from Nat.le_of_lt (lt_blk hRM.bf)))
          have hstep := hSt.step hV hT hjl
          generalize hs : l[j] = s at *
          have HST := Lib.hid (And.intro hstep hs)
          clear hstep hs hat hcell hcc2 ha4 ha5
          have hE : Below wp.heap.size wp (wp.alloc (.cells #[.int .i64 s] 3)) := (Below.refl _ _).alloc (Nat.le_refl _) _
          have b13 : (wp.alloc (.cells #[.int .i64 s] 3)).heap[wp.heap.size]? = some (.cells #[.int .i64 s] 3 (0, 0)) := heap_newI rfl
          have hRM2 := hRM.below (by rw [HBB.out]; exact Nat.le_refl _) hE
          refine wpIn_seq_k (fun K hK => ?_)
          have HK := Lib.hid hK; clear hK
          gi_wp2
          refine HK.out _ _ ?_; clear HK
          refine wpIn_seq_k (fun K hK => ?_)
          have HK := Lib.hid hK; clear hK
          gi_wp2
          refine HK.out _ _ ?_; clear HK
          refine wpIn_seq_k (fun K hK => ?_)
          have HK4 := Lib.hid hK; clear hK
          refine wpIn_block ?_
          refine wpIn_seq_k (fun K hK => ?_)
          have HK := Lib.hid hK; clear hK
          gi_wp2
          refine HK.out _ _ ?_; clear HK
          replace b1 := blk_keep b1 hE
          replace bN := blk_keep bN hE
          replace hM := hM.below hE
          generalize hwE : World.alloc wp _ = wE at *
          have hszE : wp.heap.size + 1 ≤ wE.heap.size := by rw [← hwE, World.size_alloc]; omega
          clear hwE hE hRM d0
          have e13 := cell_blk (i := 0) b13
          simp only [List.getElem?_toArray, List.getElem?_cons_zero] at e13
          have z13 := lt_blk b13
          have hwz : Below w.heap.size w wE := HB3.out.trans (hRM2.b.mono (by rw [HBB.out]; exact HB3.out.size))
          have h71 := to_any (.slice ad ws.length cap) m ws s wE (HV.out.below hwz (Nat.le_refl _))
          refine wpIn_seq_k (fun K hK => ?_)
          have HK := Lib.hid hK; clear hK
          gi_wp2_with (first | (refine wpListIn_load_blk rfl 24 _ rfl _ rfl b1 Try.underlying24 rfl size24 rfl ?_) | (gi_at_call 71; refine callsTo h71 ?_; rintro e w9 ⟨rfl, hke, hb9, hs9⟩))
          refine HK.out _ _ ?_; clear HK
          refine wpIn_block ?_
          replace hRM2 := hRM2.below (by rw [HBB.out]; exact Nat.le_refl _) hb9
          replace bN := blk_keep bN hb9
          replace b13 := blk_keep b13 hb9
          have hM9 := hM.below hb9
          clear h71 e13 z13 b1 hwz hM
          have hit := to_iter TTo wE.heap.size (wE.heap.size + 1) (.slice ad ws.length cap) m ws s
          have hyl : (toY ws s).length = (toL ws s).length := by simp [toY]
          have hbbE : bb < w9.heap.size := lt_blk hRM2.bf
          have hc0 : updR R k s (stepR ws R k s 0) = R := by
            funext k' v
            by_cases he : k' = k ∧ v = s
            · obtain ⟨rfl, rfl⟩ := he
              rw [updR_self, hSt.zero v]
              · rfl
              · intro hm
                have := mem_idx hT.nd hjl hm
                rw [← HST.out.2, List.Nodup.idxOf_getElem hT.nd j hjl] at this
                omega
            · exact updR_ne he
          refine wpIn_range (gf := 79) (lb := #[.pointer (some ⟨wE.heap.size, 0, none⟩), .pointer (some ⟨wE.heap.size + 1, 0, none⟩)]) ?hg ?eg hit ?hps
            (fun c W => RM w3 w.heap.size m (.slice ad ws.length cap) gs' (updR R k s (stepR ws R k s c)) (k + 1) k ov bb W ∧ W.heap[bn]? = some (.cells #[.slice (some ⟨gs' k, 0, none⟩) m m] 61 (0, 0)) ∧ W.heap[wp.heap.size]? = some (.cells #[.int .i64 s] 3 (0, 0)) ∧ (W.heap[wE.heap.size]? = some (.cells #[.int .i64 m, .slice ad ws.length cap] 24 (0, 0)) ∧ W.heap[wE.heap.size + 1]? = some (.cells #[.int .i64 s] 3 (0, 0))) ∧ Mk (bb + 1) ds W)
            (fun _ _ => False) ?hK ?sI ?sIx ?h0 ?round ?done ?stop
          case hg => rfl
          case eg => exact (enters_of Try.func79 (by kernel_rfl) rfl)
          case hps => intro y hy; simp [toY] at hy; obtain ⟨i, _, rfl⟩ := hy; rfl
          case hK => exact fun c W h => ⟨h.2.2.2.1.1, h.2.2.2.1.2, HV.out.below (HB3.out.trans (h.1.b.mono (by rw [HBB.out]; exact HB3.out.size))) (Nat.le_refl _)⟩
          case sI => exact fun c => (RM.stb (by rw [HBB.out]; exact Nat.le_refl _) (by omega)).and (Stb.cells.and (Stb.cells.and ((Stb.cells.and Stb.cells).and (hM9.stb (Nat.le_refl _)))))
          case sIx => exact fun c => Stb.pure
          case h0 => exact ⟨by rw [show updR R k s (stepR ws R k s 0) = R from hc0]; exact hRM2, bN, b13, ⟨hke.wk, hke.st⟩, hM9⟩
          case stop => exact fun _ _ h => h.elim
          case done =>
            rintro W ⟨hRW, bNW, -, -, hMW⟩ hD
            rw [hyl] at hRW
            have hM10 := hM9.cons hMW rfl (by omega) hD
            simp only [Exit.inBlock]
            refine HK4.out _ _ ?_; clear HK4
            have hst1 := HST.out.1
            clear hit hke hM9 hD hRM2 bN b13
            gi_wp2
            refine ⟨⟨j + 1, _, (w9.heap.size :: ds), by omega, hRW, hst1, bNW, hM10, rfl⟩, ?_⟩
            simp [intOf]; omega
          case round =>
            rintro c hc l2 W ⟨hRW, bNW, bsW, hkW, hMW⟩
            have hc' : c < (toL ws s).length := by rw [← hyl]; exact hc
            have hyk : (toY ws s)[c] = #[.int .i64 (((toL ws s)[c] : Nat) : Int), .agg #[.int .i64 (at_ ws (toL ws s)[c]).f, .int .i64 (at_ ws (toL ws s)[c]).t, .int .i64 (at_ ws (toL ws s)[c]).lo, .int .i64 (at_ ws (toL ws s)[c]).hi, .int .i64 (at_ ws (toL ws s)[c]).b]] := by simp [toY]
            rw [hyk]
            have hmm := toL_mem hc'
            have hsuc := stepR_succ (ws := ws) R k hc'
            have hok := hV.ok _ hmm.1
            have hget := hSt.get hV hmm.1
            have htop := fun (h0 : (at_ ws (toL ws s)[c]).b = 0) => hT.top j hjl _ hmm.1 h0 (by rw [hmm.2, HST.out.2]; rfl)
            generalize (toL ws s)[c] = i at *
            have hyl2 : c < (toL ws s).length := hc'
            clear hyk hc hc' hit hyl hmm
            have hacc : stepR ws R k s (c + 1) = if (at_ ws i).b ≤ (k : Int) then (max (stepR ws R k s c).1 ((R (k - (at_ ws i).b.toNat) (at_ ws i).f.toNat).1 + (at_ ws i).lo), max (stepR ws R k s c).2 ((R (k - (at_ ws i).b.toNat) (at_ ws i).f.toNat).2 + (at_ ws i).hi)) else stepR ws R k s c := hsuc
            clear hsuc
            obtain ⟨⟨f0, f1⟩, -, ⟨l0, l1⟩, l3, ⟨g0, g1⟩⟩ := hok
            obtain ⟨fn, hfn⟩ := Int.eq_ofNat_of_zero_le f0
            obtain ⟨bk, hbk⟩ := Int.eq_ofNat_of_zero_le g0
            rw [hfn] at hacc f1 hget htop ⊢
            rw [hbk] at hacc g1 hget htop ⊢
            simp only [Int.toNat_natCast] at hacc hget htop
            clear f0 g0 hfn hbk
            generalize (at_ ws i).t = xt at *
            generalize (at_ ws i).lo = xl at *
            generalize (at_ ws i).hi = xh at *
            have HH := Lib.hid (And.intro hacc (And.intro hget htop))
            clear hacc hget htop
            simp only [List.zip_toArray, List.zip_cons_cons, List.zip_nil_right, List.foldl_toArray', List.size_toArray, List.length_cons, List.length_nil, List.foldl_cons, List.foldl_nil, List.setIfInBounds_toArray, List.set_cons_succ, List.set_cons_zero]
            gi_wp2_with (first | (refine wpListIn_store_blk rfl 82 _ _ rfl _ rfl rfl (World.alloc_heap_new _ _) size82 rfl rfl (by simp [Value.oneCell']) ?_))
            have hbV : Below W.heap.size W ((W.alloc (.cells #[.int .i64 0, .int .i64 0, .int .i64 0, .int .i64 0, .int .i64 0] 82)).putObj W.heap.size (.cells #[.int .i64 fn, .int .i64 xt, .int .i64 xl, .int .i64 xh, .int .i64 bk] 82 (0, 0))) :=
              below_putObj ((Below.refl _ W).alloc (Nat.le_refl _) _) (Nat.le_refl _)
            have b7 : ((W.alloc (.cells #[.int .i64 0, .int .i64 0, .int .i64 0, .int .i64 0, .int .i64 0] 82)).putObj W.heap.size (.cells #[.int .i64 fn, .int .i64 xt, .int .i64 xl, .int .i64 xh, .int .i64 bk] 82 (0, 0))).heap[W.heap.size]? = some (.cells #[.int .i64 fn, .int .i64 xt, .int .i64 xl, .int .i64 xh, .int .i64 bk] 82 (0, 0)) := World.putObj_heap_same (by simp)
            replace hRW := hRW.below (by rw [HBB.out]; exact Nat.le_refl _) hbV
            replace bNW := blk_keep bNW hbV
            replace bsW := blk_keep bsW hbV
            replace hkW := And.intro (blk_keep hkW.1 hbV) (blk_keep hkW.2 hbV)
            replace hMW := hMW.below hbV
            generalize World.putObj _ _ _ = V4 at *
            refine ⟨Kx.below hbV, fun U => (RM w3 w.heap.size m (.slice ad ws.length cap) gs' (updR R k s (stepR ws R k s c)) (k + 1) k ov bb U ∧ U.heap[bn]? = some (.cells #[.slice (some ⟨gs' k, 0, none⟩) m m] 61 (0, 0)) ∧ U.heap[wp.heap.size]? = some (.cells #[.int .i64 s] 3 (0, 0)) ∧ (U.heap[wE.heap.size]? = some (.cells #[.int .i64 m, .slice ad ws.length cap] 24 (0, 0)) ∧ U.heap[wE.heap.size + 1]? = some (.cells #[.int .i64 s] 3 (0, 0))) ∧ Mk (bb + 1) ds U) ∧ U.heap[W.heap.size]? = some (.cells #[.int .i64 fn, .int .i64 xt, .int .i64 xl, .int .i64 xh, .int .i64 bk] 82 (0, 0)),
              ((RM.stb (by rw [HBB.out]; exact Nat.le_refl _) (by omega)).and (Stb.cells.and (Stb.cells.and ((Stb.cells.and Stb.cells).and (hM9.stb (Nat.le_refl _)))))).and Stb.cells, ⟨⟨hRW, bNW, bsW, hkW, hMW⟩, b7⟩, ?_⟩
            clear b7 hbV hRW bNW bsW hkW hMW V4
            rintro U - ⟨⟨hRW, bNW, bsW, hkW, hMW⟩, b7⟩
            have z7 := lt_blk b7
            have e4 := cell_blk (i := 4) b7
            simp only [List.getElem?_toArray, List.getElem?_cons_zero, List.getElem?_cons_succ] at e4
            have h72 := back_any m gs' (k + 1) bb bk U (by omega) (by omega) hRW.bf
            by_cases hbk : bk ≤ k
            rotate_left
            · rw [if_neg (by omega), decide_eq_false (by omega)] at h72
              have hno : stepR ws R k s (c + 1) = stepR ws R k s c := by rw [HH.out.1, if_neg (by omega)]
              have HNO := Lib.hid hno
              clear hno hbk
              gi_wp2_with (gi_at_call 72; refine callsTo h72 ?_; rintro e U3 ⟨rfl, hb3⟩)
              exact ⟨Kx.below hb3, by rw [HNO.out]; exact hRW.below (by rw [HBB.out]; exact Nat.le_refl _) hb3, blk_keep bNW hb3, blk_keep bsW hb3, ⟨blk_keep hkW.1 hb3, blk_keep hkW.2 hb3⟩, hMW.below hb3⟩
            · rw [if_pos (by omega), decide_eq_true (by omega)] at h72
              simp only [Int.toNat_natCast] at h72
              rw [show k + 1 - 1 - bk = k - bk by omega] at h72
              unfold slR at h72
              obtain ⟨qn, hqn⟩ : ∃ qn, qn = k - bk := ⟨_, rfl⟩
              rw [← hqn] at h72
              have hrc : updR R k s (stepR ws R k s c) qn fn = R qn fn := updR_ne (by
                rintro ⟨e1, e2⟩
                have hb0 : (bk : Int) = 0 := by omega
                have h1 := HH.out.2.2 hb0
                rw [e2] at h1
                have h2 := mem_idx hT.nd hjl h1
                rw [← HST.out.2, List.Nodup.idxOf_getElem hT.nd j hjl] at h2
                omega)
              have hgt := HH.out.2.1 (by omega)
              have hval : stepR ws R k s (c + 1) = (max (stepR ws R k s c).1 ((R qn fn).1 + xl), max (stepR ws R k s c).2 ((R qn fn).2 + xh)) := by rw [HH.out.1, if_pos (by omega), hqn]
              rw [← hqn] at hgt
              have hqk : qn ≤ k := by omega
              clear hqn
              refine wpIn_block ?_
              refine wpIn_seq_k (fun K hK => ?_)
              have HK := Lib.hid hK; clear hK
              gi_wp2_with (gi_at_call 72; refine callsTo h72 ?_; rintro e U3 ⟨rfl, hb3⟩)
              refine HK.out _ _ ?_; clear HK
              clear h72 e4 z7
              have hRW3 := hRW.below (by rw [HBB.out]; exact Nat.le_refl _) hb3
              have bNW3 := blk_keep bNW hb3
              have bsW3 := blk_keep bsW hb3
              have hkW3 := And.intro (blk_keep hkW.1 hb3) (blk_keep hkW.2 hb3)
              have hMW3 := hMW.below hb3
              have b73 := blk_keep b7 hb3
              have hkx := Kx.below (B := w9.heap.size) (TT := TTo) hb3
              clear hRW bNW bsW hkW hMW b7 hb3
              have hrow := hRW3.rows qn (by omega)
              have r0 := cell_blk (i := fn * 2) hrow
              have r1 := cell_blk (i := fn * 2 + 1) hrow
              rw [List.getElem?_toArray, (rowC_get m _ (by omega)).1, hrc] at r0
              rw [List.getElem?_toArray, (rowC_get m _ (by omega)).2, hrc] at r1
              have hcr := hRW3.rows k (by omega)
              have p0 := cell_blk (i := s * 2) hcr
              have p1 := cell_blk (i := s * 2 + 1) hcr
              rw [List.getElem?_toArray, (rowC_get m _ hsl).1, updR_self] at p0
              rw [List.getElem?_toArray, (rowC_get m _ hsl).2, updR_self] at p1
              have fr0 := free_blk (i := s * 2) hcr
              have fr1 := free_blk (i := s * 2 + 1) hcr
              have x0 := cell_blk (i := 0) b73
              have x2 := cell_blk (i := 2) b73
              have x3 := cell_blk (i := 3) b73
              have n0 := cell_blk (i := 0) bNW3
              have s0 := cell_blk (i := 0) bsW3
              simp only [List.getElem?_toArray, List.getElem?_cons_zero, List.getElem?_cons_succ] at x0 x2 x3 n0 s0
              have hsb := hSt.stepB hV s c (by omega)
              obtain ⟨fa, hfa⟩ : ∃ fa, fa = (R qn fn).1 := ⟨_, rfl⟩
              obtain ⟨fb, hfb⟩ : ∃ fb, fb = (R qn fn).2 := ⟨_, rfl⟩
              obtain ⟨ca, hca⟩ : ∃ ca, ca = (stepR ws R k s c).1 := ⟨_, rfl⟩
              obtain ⟨cb, hcb⟩ : ∃ cb, cb = (stepR ws R k s c).2 := ⟨_, rfl⟩
              rw [← hfa, ← hfb, ← hca, ← hcb] at hval
              rw [← hfa] at r0 hgt
              rw [← hfb] at r1 hgt
              rw [← hca] at p0 hsb
              rw [← hcb] at p1 hsb
              have HVL := Lib.hid (And.intro hval hrc)
              have HRW := Lib.hid hRW3
              clear hval hrc hfa hfb hca hcb hRW3
              have zr := lt_blk hrow
              have zc := lt_blk hcr
              have zn := lt_blk bNW3
              have zs := lt_blk bsW3
              have zx := lt_blk b73
              have HB7 := Lib.hid (And.intro hcr (And.intro bNW3 (And.intro bsW3 (And.intro b73 (And.intro hkW3 hMW3)))))
              refine wpIn_seq_k (fun K hK => ?_)
              have HK := Lib.hid hK; clear hK
              gi_wp2
              refine HK.out _ _ ?_; clear HK
              refine wpIn_cond (t := true) rfl ?_
              simp only [if_true]
              have hE : Below U3.heap.size U3 (U3.alloc (.cells #[.int .i64 fa, .int .i64 fb] 80)) := (Below.refl _ _).alloc (Nat.le_refl _) _
              have b18 : (U3.alloc (.cells #[.int .i64 fa, .int .i64 fb] 80)).heap[U3.heap.size]? = some (.cells #[.int .i64 fa, .int .i64 fb] 80 (0, 0)) := heap_newI rfl
              refine wpIn_seq_k (fun K hK => ?_)
              have HK := Lib.hid hK; clear hK
              gi_wp2
              refine HK.out _ _ ?_; clear HK
              have t1 : IntKind.i64.wrap (fa + xl) = fa + xl := by rw [IntKind.wrap_i64]; omega
              have t2 : IntKind.i64.wrap (fb + xh) = fb + xh := by rw [IntKind.wrap_i64]; omega
              have cE : ∀ b i, b < U3.heap.size → (U3.alloc (.cells #[.int .i64 fa, .int .i64 fb] 80)).cell? ⟨b, i, none⟩ = U3.cell? ⟨b, i, none⟩ := fun b i hb => hE.cell (p := ⟨b, i, none⟩) hb
              have q0 := (cE _ _ zc).trans p0
              have q1 := (cE _ _ zc).trans p1
              have y0 := (cE _ _ zx).trans x0
              have y2 := (cE _ _ zx).trans x2
              have y3 := (cE _ _ zx).trans x3
              have m0 := (cE _ _ zn).trans n0
              have v0 := (cE _ _ zs).trans s0
              have u0 := cell_blk (i := 0) b18
              have u1 := cell_blk (i := 1) b18
              simp only [List.getElem?_toArray, List.getElem?_cons_zero, List.getElem?_cons_succ] at u0 u1
              have hRE := HRW.out.below (by rw [HBB.out]; exact Nat.le_refl _) hE
              have hcE := blk_keep HB7.out.1 hE
              have hsE : U3.heap.size + 1 ≤ (U3.alloc (.cells #[.int .i64 fa, .int .i64 fb] 80)).heap.size := by rw [World.size_alloc]; omega
              have g0 := free_blk (i := s * 2) hcE
              have g1 := free_blk (i := s * 2 + 1) hcE
              have HHE := Lib.hid (And.intro hE (And.intro hRE hcE))
              clear p0 p1 x0 x2 x3 n0 s0 r0 r1 fr0 fr1 hcr hrow bNW3 bsW3 b73 hkW3 hMW3 cE hE hRE hcE b18
              generalize World.alloc U3 _ = UE at *
              refine wpIn_region_tail 28 (by kernel_rfl) (by kernel_rfl) (by kernel_rfl) (fun ⟨_, _, h⟩ => h) ?_
              simp only [List.take_succ_cons, List.take_zero, List.drop_succ_cons, List.drop_zero]
              change wpStill _ _ (World.drew UE) _ _ _
              iterate 13 still_step
              refine wpStill_max (by kernel_rfl) (.tmp 69) (.tmp 75) _ rfl rfl rfl ?_
              simp only [Act.put, List.setIfInBounds_toArray, List.set_cons_zero, List.set_cons_succ]
              iterate 11 still_step
              refine wpStill_max (by kernel_rfl) (.tmp 81) (.tmp 87) _ rfl rfl rfl ?_
              simp only [Act.put, List.setIfInBounds_toArray, List.set_cons_zero, List.set_cons_succ]
              iterate 2 still_step
              refine wpStill_nil ?_
              change wpList _ _ _ _ _ (World.drew UE)
              go_wp2
              obtain ⟨hE, hRE, hcE⟩ := HHE.out
              have e80 : ∀ b, b ≠ gs' k → (((UE.setCell ⟨gs' k, s * 2, none⟩ (.int .i64 (max ca (fa + xl)))).setCell ⟨gs' k, s * 2 + 1, none⟩ (.int .i64 (max cb (fb + xh)))).drew).heap[b]? = UE.heap[b]? := fun b hb => (heap_set_other hb).trans (heap_set_other hb)
              have hcF : (((UE.setCell ⟨gs' k, s * 2, none⟩ (.int .i64 (max ca (fa + xl)))).setCell ⟨gs' k, s * 2 + 1, none⟩ (.int .i64 (max cb (fb + xh)))).drew).heap[gs' k]? = some (.cells (rowC m (upd (updR R k s (stepR ws R k s c) k) s (max ca (fa + xl), max cb (fb + xh)))).toArray 80 (0, 0)) := by
                refine (heap_set_blk (heap_set_blk hcE)).trans ?_
                rw [← rowC_set]
              have hszF : (((UE.setCell ⟨gs' k, s * 2, none⟩ (.int .i64 (max ca (fa + xl)))).setCell ⟨gs' k, s * 2 + 1, none⟩ (.int .i64 (max cb (fb + xh)))).drew).heap.size = UE.heap.size := by
                show ((UE.setCell _ _).setCell _ _).heap.size = _
                rw [World.size_setCell, World.size_setCell]
              have hRF := hRE.set hcF e80 hszF rfl rfl rfl
              rw [updR_updR, ← HVL.out.1] at hRF
              obtain ⟨-, i1, i2, i3, ⟨i4, i5⟩, i6⟩ := HB7.out
              have hk1 : ∀ {b : Nat} {cs : Array Value} {t : TypeId}, U3.heap[b]? = some (.cells cs t (0, 0)) → t ≠ 80 → (((UE.setCell ⟨gs' k, s * 2, none⟩ (.int .i64 (max ca (fa + xl)))).setCell ⟨gs' k, s * 2 + 1, none⟩ (.int .i64 (max cb (fb + xh)))).drew).heap[b]? = some (.cells cs t (0, 0)) := fun {b cs t} h ht => (e80 b (ty_ne (blk_keep h hE) hcE ht)).trans (blk_keep h hE)
              refine ⟨hkx.trans ((Kx.below hE).trans ⟨by rw [hszF]; exact Nat.le_refl _, fun q o _ hq ho => (e80 q (by rintro rfl; rw [hcE] at hq; cases hq; cases ho)).trans hq, fun _ _ _ _ _ h => h.elim⟩), hRF, hk1 i1 (by decide), hk1 i2 (by decide), ⟨hk1 i4 (by decide), hk1 i5 (by decide)⟩, ?_⟩
              exact (i6.below hE).keep fun q o ho hc => (e80 q (by rintro rfl; rw [hcE] at ho; cases ho; cases hc)).trans ho
        · have hje : j = l.length := by omega
          subst hje
          have hnx := hSt.next hV hT
          have HNX := Lib.hid hnx
          clear hSt hnx hjl hj
          have hne24 := own_ne hRM.out hRM.wk (by decide)
          have hne115 := own_ne hRM.out hRM.bf (by decide)
          have c11 := cell_blk (i := 0) bN
          simp only [List.getElem?_toArray, List.getElem?_cons_zero] at c11
          have z11 := lt_blk bN
          obtain ⟨av, cv, hov⟩ := form_of hRM.out
          subst hov
          obtain ⟨i61, hi61, y1, y2, y3⟩ := info_parts info61
          have HY := Lib.hid (And.intro hi61 (And.intro y1 (And.intro y2 y3)))
          clear hi61 y1 y2 y3
          have hbbs := lt_blk hRM.bf
          have HRM := Lib.hid hRM
          have hout := hRM.out
          clear hRM
          gi_wp2_with (gi_at_builtin; refine wpListIn_append_own _ rfl _ _ 56 rfl (bb + 1) 61 i61 (.slice none 0 0) 1 24 Try.underlying56 HY.out.1 HY.out.2.1 HY.out.2.2.1 HY.out.2.2.2 rfl (by decide) _ _ _ rfl (hout.alloc _) ⟨wp.heap.size, 0, none⟩ 1 1 [.slice (some ⟨gs' k, 0, none⟩) m m] rfl rfl (cell_new1 rfl) (by simp [Value.oneCell']) (Nat.le_trans (by omega : k + 1 ≤ 1000) (by decide)) (by omega) (by rw [World.size_alloc]; omega) ?_; intro v' w6 r1 r2 _)
          obtain ⟨hk6, hs6, e1, e2, e3⟩ := append_same1 hout r2
          have hR6 : RM w3 w.heap.size m (.slice ad ws.length cap) gs' R (k + 1) (k + 1) v' bb w6 := by
            obtain ⟨a1, a2, a3, a4, a5, a6, a7, a8⟩ := HRM.out
            refine ⟨(hk6 _ (lt_blk a1) hne24).trans a1, (hk6 _ (lt_blk a2) hne115).trans a2, fun q hq => (hk6 _ (lt_blk (a3 q hq)) (own_ne a6 (a3 q hq) (by decide))).trans (a3 q hq), a4, a5, ?_, ⟨e1.trans a7.os, e2.trans a7.tape, e3.trans a7.output, by have := a7.size; omega, fun b hb => (hk6 b (by omega) (fun eg => by have := (a6.lt b eg).1; omega)).trans (a7.block b hb)⟩, a8⟩
            rw [List.range_succ, List.map_append]
            exact r1
          have hM6 : Mk (bb + 1) ds w6 := hM.keep fun q o ho hc => (hk6 q (lt_blk ho) (fun eg => by obtain ⟨cur, hcur⟩ := row_cells hout eg; rw [hcur] at ho; cases ho; cases hc)).trans ho
          refine ⟨⟨k + 1, gs', R, v', ds, by omega, hR6, HNX.out, hM6, hbbw, by omega, rfl⟩, ?_⟩
          simp [intOf]; omega
      · have hke : k = N := by omega
        subst hke
        have HRM := Lib.hid hRM
        clear hkN hk
        gi_wp2
        refine HK.out _ _ ?_; clear HK
        gi_wp2
        refine leaves_marks ds _ hM (fun w' h1 h2 => ⟨_, results_tmp2 rfl _ _ _, ?_⟩)
        obtain ⟨a1, a2, a3, a4, a5, a6, a7, a8⟩ := HRM.out
        have hB7 : Below w.heap.size w w' := HB3.out.trans ((a7.mono (by rw [HBB.out]; exact HB3.out.size)).trans (h1.mono (by omega)))
        have hout : w'.ownsRow (bb + 1) 61 1 ov k ((List.range k).map fun q => slR m (gs q)) := row_same a6 fun g hg => by
          obtain ⟨cur, hc⟩ := row_cells a6 hg
          rw [h2 _ _ _ _ hc, hc]
        refine ⟨⟨ov, (List.range k).map (fun q => (List.range m).map (R q)), rfl, ⟨(List.range k).map fun q => slR m (gs q), slV_own hout (by simp) (by simp; omega), by simp, fun i hi hi' => ?_⟩, fun h => absurd rfl h, fun _ => ⟨m, k, R, rfl, rfl, hV, hns, by omega, fun q hq v hv => hSt.old q hq v hv, rfl, fun q v => ⟨(hSt.ord q v).1, (hSt.ord q v).2, fun hq => hSt.bo q hq v⟩⟩⟩, hB7⟩
        have hik : i < k := by simpa using hi
        simp only [List.getElem_map, List.getElem_range]
        have h3 := slG_new (enc := encP) (sz := 2) encP_len (xs := (List.range m).map (R i)) (cap := m) (by simp; omega) (by simp) (h2 _ _ _ _ (a3 i hik))
        simpa [slR] using h3
end Yteileadcmekkoaa
end Go.Proofs
