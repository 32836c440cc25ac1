/- Laws of rotation: the law that is made of numbers. -/
import Derived.Test.YtnjgglnpmhjmiaaD3
import Derived.Test.YtnjgglnpmhjmiaaP2
open Go Go.RowKit Go.YtnjgglnpmhjmiaaIt
namespace Go
namespace YtnjgglnpmhjmiaaIt
theorem wpList_min {P : Program} {ops : Array Oper} {rest : List Oper} {o : Oper} {a : Act} {w : World} {Q : Exit → Act → World → Prop} (hgd : o.guard = none) (x y : Operand) (ats : Array TypeId)
  (ho : o.op = .call { callee := .builtin .min, args := #[x, y], argTypes := ats }) {k : IntKind} {m n : Int} (hx : a.eval x = .int k m) (hy : a.eval y = .int k n)
  (h : wpList P ops Q rest (a.put o.dst (.int k (min m n))) w) : wpList P ops Q (o :: rest) a w :=
 wpList_plain hgd fun K hK => by
  have hr : (execOp a.eval o).run P w = .ok (.value (.int k (min m n))) w := by
   unfold execOp
   simp only [ho, resolve, invoke, builtin, Sem.run_bind, Sem.run_pure, Result.andThen_ok, List.map_toArray, List.map_cons, List.map_nil, hx, hy]
   have e : (if n < m then n else m) = min m n := by rw [Int.min_def]; split <;> split <;> omega
   simp [Builtin.min_, Builtin.min2, go_sem, e]
  unfold Oper.wp
  rw [hr]
  exact hK _ _ h
end YtnjgglnpmhjmiaaIt
end Go
open Rest
namespace Go.Proofs
namespace Ytnjgglnpmhjmiaa
/-- The row that is laid, the rows, and whether states are good. -/
structure RK (base g8 : Nat) (Z : Nat → Prop) (W : World) (v10 vn vg : Value) (ro : List Int) (us : List Value) (rows : List (List Int)) (gs : List Bool) : Prop where
 o10 : W.ownsRow base 3 1 v10 ro.length (ro.map (Value.int .i64))
 on : W.ownsRow base 40 1 vn us.length us
 og : W.ownsRow base 4 1 vg gs.length (gs.map Value.bool)
 rn : Rws Z W us rows
 box : W.heap[g8]? = some (.cells #[vn, vg] 25 (0, 0))
 zt : ∀ i, Z i → base ≤ i ∧ ∃ cs, W.heap[i]? = some (.cells cs 3 (0, 0))
 z10 : ∀ i, Z i → v10.ownBlock ≠ some i
section
variable {base g8 : Nat} {Z : Nat → Prop} {W W' : World} {v10 vn vg : Value} {ro : List Int} {us : List Value} {rows : List (List Int)} {gs : List Bool}
theorem RK.start {W : World} {base g8 : Nat} (h : W.heap[g8]? = some (.cells #[.slice none 0 0, .slice none 0 0] 25 (0, 0))) : RK base g8 (fun _ => False) W (.slice none 0 0) (.slice none 0 0) (.slice none 0 0) [] [] [] [] :=
 ⟨⟨rfl, .inl ⟨rfl, rfl⟩⟩, ⟨rfl, .inl ⟨rfl, rfl⟩⟩, ⟨rfl, .inl ⟨rfl, rfl⟩⟩, Rws.nil _ _, h, fun _ h => h.elim, fun _ h => h.elim⟩
theorem RK.same (h : RK base g8 Z W v10 vn vg ro us rows gs) {B : Nat} (hB : B ≤ base ∧ B ≤ g8) (hs : W.heap.size ≤ W'.heap.size) (hk : ∀ i, B ≤ i → i < W.heap.size → W'.heap[i]? = W.heap[i]?) : RK base g8 Z W' v10 vn vg ro us rows gs where
 o10 := own_same h.o10 fun g hg => hk g (by have := (own_lt h.o10 hg).1; omega) (own_lt h.o10 hg).2.1
 on := own_same h.on fun g hg => hk g (by have := (own_lt h.on hg).1; omega) (own_lt h.on hg).2.1
 og := own_same h.og fun g hg => hk g (by have := (own_lt h.og hg).1; omega) (own_lt h.og hg).2.1
 rn := h.rn.keep (fun _ h => h) hs fun i hi hl => hk i (by have := (h.zt i hi).1; omega) hl
 box := (hk g8 hB.2 (lt_blk h.box)).trans h.box
 zt := fun i hi => ⟨(h.zt i hi).1, by obtain ⟨cs, hc⟩ := (h.zt i hi).2; exact ⟨cs, (hk i (by have := (h.zt i hi).1; omega) (lt_blk hc)).trans hc⟩⟩
 z10 := h.z10
theorem RK.quiet (h : RK base g8 Z W v10 vn vg ro us rows gs) (hb : Below W.heap.size W W') : RK base g8 Z W' v10 vn vg ro us rows gs :=
 h.same (B := 0) ⟨Nat.zero_le _, Nat.zero_le _⟩ hb.size fun i _ hi => hb.block i hi
/-- One entry more. -/
theorem RK.app10 (h : RK base g8 Z W v10 vn vg ro us rows gs) {v' : Value} {x : Int} (q : W'.ownsRow base 3 1 v' (ro.length + 1) (ro.map (Value.int .i64) ++ [.int .i64 x])) (g : W.grownBy W' v10.ownBlock) (e : v'.ownBlock = v10.ownBlock ∨ v'.ownBlock = some W.heap.size) : RK base g8 Z W' v' vn vg (ro ++ [x]) us rows gs := by
 have hz : ∀ i, Z i → i < W.heap.size → W'.heap[i]? = W.heap[i]? := fun i hi hl => g.block i hl fun e => h.z10 i hi e.symm
 have hty : ∀ (i : Nat) {cs : Array Value} {t : TypeId} {fr : Nat × Nat}, W.heap[i]? = some (.cells cs t fr) → t ≠ 3 → W'.heap[i]? = W.heap[i]? := fun i {cs} {t} {fr} hc ht => g.block i (lt_blk hc) fun e => ht (own_ty h.o10 e.symm hc)
 exact {
  o10 := by rw [List.length_append, List.map_append]; exact q
  on := own_same h.on fun i hi => by obtain ⟨_, _, cur, hc⟩ := own_lt h.on hi; exact hty i hc (by decide)
  og := own_same h.og fun i hi => by obtain ⟨_, _, cur, hc⟩ := own_lt h.og hi; exact hty i hc (by decide)
  rn := h.rn.keep (fun _ h => h) g.size hz
  box := (hty g8 h.box (by decide)).trans h.box
  zt := fun i hi => ⟨(h.zt i hi).1, by obtain ⟨cs, hc⟩ := (h.zt i hi).2; exact ⟨cs, (hz i hi (lt_blk hc)).trans hc⟩⟩
  z10 := fun i hi e' => by
   rcases own_or e e' with e' | e'
   ·exact h.z10 i hi e'
   ·obtain ⟨cs, hc⟩ := (h.zt i hi).2; have := lt_blk hc; omega }
/-- A row and whether its state is good are laid: the lists. -/
theorem RK.rowG (h : RK base g8 Z W v10 vn vg ro us rows gs) (hl : ro.length ≤ 10000) {W1 W2 W3 : World} {vn' vg' : Value} {b : Bool} (hb1 : Below W.heap.size W W1) (q : W2.ownsRow base 40 1 vn' (us.length + 1) (us ++ [v10])) (g : W1.grownBy W2 vn.ownBlock) (_ : vn'.ownBlock = vn.ownBlock ∨ vn'.ownBlock = some W1.heap.size)
  (hb3 : Below W2.heap.size W2 W3) (q' : W'.ownsRow base 4 1 vg' (gs.length + 1) (gs.map Value.bool ++ [.bool b])) (g' : W3.grownBy W' vg.ownBlock) :
  RK base g8 (fun i => Z i ∨ v10.ownBlock = some i) ((W'.setCell ⟨g8, 0, none⟩ vn').setCell ⟨g8, 1, none⟩ vg') (.slice none 0 0) vn' vg' [] (us ++ [v10]) (rows ++ [ro]) (gs ++ [b]) ∧ W'.heap[g8]? = some (.cells #[vn, vg] 25 (0, 0)) := by
 have hW1 := hb1.size
 have hW3 := hb3.size
 have hty1 : ∀ (i : Nat) {cs : Array Value} {t : TypeId} {fr : Nat × Nat}, W.heap[i]? = some (.cells cs t fr) → t ≠ 40 → W3.heap[i]? = W.heap[i]? := fun i {cs} {t} {fr} hc ht =>
  (hb3.block i (Nat.lt_of_lt_of_le (Nat.lt_of_lt_of_le (lt_blk hc) hW1) g.size)).trans ((g.block i (Nat.lt_of_lt_of_le (lt_blk hc) hW1) fun e => ht (own_ty (h.quiet hb1).on e.symm (blk_keep hc hb1))).trans (hb1.block i (lt_blk hc)))
 have ho3 : W3.ownsRow base 4 1 vg gs.length (gs.map Value.bool) := own_same h.og fun i hi => by obtain ⟨_, _, cur, hc⟩ := own_lt h.og hi; exact hty1 i hc (by decide)
 have hty : ∀ (i : Nat) {cs : Array Value} {t : TypeId} {fr : Nat × Nat}, W.heap[i]? = some (.cells cs t fr) → t ≠ 40 → t ≠ 4 → W'.heap[i]? = W.heap[i]? := fun i {cs} {t} {fr} hc ht ht' =>
  (g'.block i (lt_blk ((hty1 i hc ht).trans hc)) fun e => ht' (own_ty ho3 e.symm ((hty1 i hc ht).trans hc))).trans (hty1 i hc ht)
 have hb8 : W'.heap[g8]? = some (.cells #[vn, vg] 25 (0, 0)) := (hty g8 h.box (by decide) (by decide)).trans h.box
 refine ⟨?_, hb8⟩
 have hset : ∀ (i : Nat), i ≠ g8 → ((W'.setCell ⟨g8, 0, none⟩ vn').setCell ⟨g8, 1, none⟩ vg').heap[i]? = W'.heap[i]? := fun i hi => (heap_set_other hi).trans (heap_set_other hi)
 have hall : ∀ (i : Nat) {cs : Array Value} {t : TypeId} {fr : Nat × Nat}, W.heap[i]? = some (.cells cs t fr) → t ≠ 40 → t ≠ 4 → t ≠ 25 → ((W'.setCell ⟨g8, 0, none⟩ vn').setCell ⟨g8, 1, none⟩ vg').heap[i]? = W.heap[i]? := fun i {cs} {t} {fr} hc h1 h2 h3 =>
  (hset i (fun e => h3 (by rw [e, h.box] at hc; injection hc with hc; injection hc with _ hc _; exact hc.symm))).trans (hty i hc h1 h2)
 have hsz : W.heap.size ≤ ((W'.setCell ⟨g8, 0, none⟩ vn').setCell ⟨g8, 1, none⟩ vg').heap.size := by
  rw [World.size_setCell, World.size_setCell]
  have := g.size
  have := g'.size
  omega
 have ht : ∀ i, (Z i ∨ v10.ownBlock = some i) → base ≤ i ∧ ∃ cs, W.heap[i]? = some (.cells cs 3 (0, 0)) := fun i hi => by
  rcases hi with hi | hi
  ·exact h.zt i hi
  ·obtain ⟨h1, _, cur, hc⟩ := own_lt h.o10 hi; exact ⟨h1, cur, hc⟩
 have hz2 : ∀ i, Z i ∨ v10.ownBlock = some i → i < W.heap.size → ((W'.setCell ⟨g8, 0, none⟩ vn').setCell ⟨g8, 1, none⟩ vg').heap[i]? = W.heap[i]? := fun i hi _ => by obtain ⟨cs, hc⟩ := (ht i hi).2; exact hall i hc (by decide) (by decide) (by decide)
 have h10 := slI_own h.o10 rfl (by omega)
 have hrn := (h.rn.keep (Z' := fun i => Z i ∨ v10.ownBlock = some i) (fun _ h => .inl h) (Nat.le_refl _) (fun _ _ _ => rfl)).push (v := v10) (l := ro) h10 (fun g off n c e => .inr (by
  rcases h.o10.2 with ⟨e2, _⟩ | ⟨g', cap, cur, e2, _⟩
  ·rw [e] at e2; cases e2
  ·rw [e] at e2; injection e2 with e2 _ _; injection e2 with e2; injection e2 with e2 _ _
   rw [e, e2]
   subst e2
   rfl))
 exact {
  o10 := ⟨rfl, .inl ⟨rfl, rfl⟩⟩
  on := by
   rw [List.length_append]
   refine own_same q fun i hi => ?_
   obtain ⟨_, hl2, cur, hc⟩ := own_lt q hi
   have e1 := hb3.block i hl2
   have e2 := g'.block i (by omega) fun e => by
    obtain ⟨_, _, c4, hc4⟩ := own_lt ho3 e.symm
    rw [e1, hc] at hc4
    injection hc4 with hc4
    injection hc4 with _ hc4 _
    cases hc4
   refine (hset i (fun e3 => ?_)).trans (e2.trans e1)
   have h8 := e2.trans (e1.trans hc)
   rw [e3, hb8] at h8
   injection h8 with h8
   injection h8 with _ h8 _
   cases h8
  og := by
   rw [List.length_append, List.map_append]
   refine own_same q' fun i hi => hset i (fun e3 => ?_)
   obtain ⟨_, _, cur, hc⟩ := own_lt q' hi
   rw [e3, hb8] at hc
   injection hc with hc
   injection hc with _ hc _
   cases hc
  rn := hrn.keep (fun _ h => h) hsz hz2
  box := by
   rw [heap_set_blk (heap_set_blk hb8)]; rfl
  zt := fun i hi => ⟨(ht i hi).1, by obtain ⟨cs, hc⟩ := (ht i hi).2; exact ⟨cs, (hall i hc (by decide) (by decide) (by decide)).trans hc⟩⟩
  z10 := fun i _ e' => by cases e' }
/-- A law that has been laid. -/
theorem RK.law (h : RK base g8 Z W v10 vn vg ro us rows gs) (h1 : us.length ≤ 10000) (h2 : gs.length ≤ 10000) : LawX W g8 25 ⟨rows, gs⟩ vn vg :=
 ⟨h.box, h.rn.slII h.on h1, slV_own h.og (by simp) (by simp; omega)⟩
end
theorem RK.lit {base g8 : Nat} {Z : Nat → Prop} {W W' : World} {vn vg : Value} {us : List Value} {rows : List (List Int)} {gs : List Bool} {x0 x1 : Int} (h : RK base g8 Z W (.slice none 0 0) vn vg [] us rows gs) (hb : base ≤ W.heap.size) (hw : W' = W.alloc (.cells #[.int .i64 x0, .int .i64 x1] 3)) : RK base g8 Z W' (.slice (some ⟨W.heap.size, 0, none⟩) 2 2) vn vg [x0, x1] us rows gs := by
 have hB : Below W.heap.size W W' := by rw [hw]; exact (Below.refl _ _).alloc (Nat.le_refl _) _
 have h1 := h.quiet hB
 exact {
  o10 := ⟨rfl, .inr ⟨W.heap.size, 2, #[.int .i64 x0, .int .i64 x1], rfl, hb, by rw [hw]; exact heap_newI rfl, Nat.le_refl _, by decide, rfl, rfl⟩⟩
  on := h1.on
  og := h1.og
  rn := h1.rn
  box := h1.box
  zt := h1.zt
  z10 := fun i hi e => by
   obtain ⟨-, cs, hc⟩ := h.zt i hi
   have := lt_blk hc
   have e2 : W.heap.size = i := by simpa [Value.ownBlock] using e
   omega }
/-- Triples of bytes, and a slice of them. -/
structure T3 where
 a : Int
 b : Int
 c : Int
def T3.ok (q : T3) : Prop := (0 ≤ q.a ∧ q.a < 256) ∧ (0 ≤ q.b ∧ q.b < 256) ∧ (0 ≤ q.c ∧ q.c < 256)
def encT (q : T3) : List Value := [.int .u8 q.a, .int .u8 q.b, .int .u8 q.c]
def SlT3 (w : World) (v : Value) (qs : List T3) : Prop :=
 ∃ ad cap, v = .slice ad qs.length cap ∧ qs.length ≤ 9223372036854775807 ∧
  (0 < qs.length → ∃ b off, ad = some ⟨b, off, none⟩ ∧ b < w.heap.size ∧ ∀ i (h : i < qs.length) f u, (encT qs[i])[f]? = some u → w.cell? ⟨b, off + i * 3 + f, none⟩ = some u)
theorem SlT3.below {w w' : World} {v : Value} {xs : List T3} {B : Nat} (h : SlT3 w v xs) (hb : Below B w w') (hB : w.heap.size ≤ B) : SlT3 w' v xs := by
 obtain ⟨ad, cap, hv, hm, hc⟩ := h
 refine ⟨ad, cap, hv, hm, fun h0 => ?_⟩
 obtain ⟨b, off, ha, hlt, hcell⟩ := hc h0
 exact ⟨b, off, ha, Nat.lt_of_lt_of_le hlt hb.size, fun i hi f u hu => (hb.cell (p := ⟨b, _, none⟩) (by simpa using by omega)).trans (hcell i hi f u hu)⟩
/-- The law of numbers: how many states, where they lead, and which are good. -/
def mkL (n : Nat) (f : Nat → Int × Int) (g : Nat → Bool) : Lw := ⟨(List.range n).map fun s => [(f s).1, (f s).2], (List.range n).map g⟩
def mkN (ts : List T3) : Nat := min 5 (max 1 ts.length)
def mkF (ts : List T3) (s : Nat) : Int × Int := match ts[s]? with | none => (0, 0) | some q => (q.a.tmod (mkN ts : Nat), q.b.tmod (mkN ts : Nat))
def mkG (ts : List T3) (s : Nat) : Bool := match ts[s]? with | none => true | some q => q.c.tmod 2 == 1
def madeL (ts : List T3) : Lw := mkL (mkN ts) (mkF ts) (mkG ts)
theorem mkL_succ (n : Nat) (f : Nat → Int × Int) (g : Nat → Bool) : (mkL (n + 1) f g).nx = (mkL n f g).nx ++ [[(f n).1, (f n).2]] ∧ (mkL (n + 1) f g).gd = (mkL n f g).gd ++ [g n] := by simp [mkL, List.range_succ]
theorem mkL_len (n : Nat) (f : Nat → Int × Int) (g : Nat → Bool) : (mkL n f g).nx.length = n ∧ (mkL n f g).gd.length = n := by simp [mkL]
theorem mkN_bd (ts : List T3) : 1 ≤ mkN ts ∧ mkN ts ≤ 5 := by unfold mkN; omega
theorem tmod_bd {a : Int} {n : Nat} (h : 0 ≤ a) (hn : 1 ≤ n) : 0 ≤ a.tmod n ∧ a.tmod n < n := ⟨Int.tmod_nonneg _ h, Int.tmod_lt_of_pos _ (by omega)⟩
theorem mkF_bd {ts : List T3} (h : ∀ q ∈ ts, q.ok) (s : Nat) : (0 ≤ (mkF ts s).1 ∧ (mkF ts s).1 < mkN ts) ∧ 0 ≤ (mkF ts s).2 ∧ (mkF ts s).2 < mkN ts := by
 have hn := (mkN_bd ts).1
 unfold mkF
 cases e : ts[s]? with
 | none => simp only; omega
 | some q =>
  have hq := h q (List.mem_of_getElem? e)
  exact ⟨tmod_bd hq.1.1 hn, tmod_bd hq.2.1.1 hn⟩
theorem made_ok {ts : List T3} (h : ∀ q ∈ ts, q.ok) : (madeL ts).Ok ∧ (madeL ts).k = 2 ∧ (madeL ts).nx.length = mkN ts := by
 have hn := mkN_bd ts
 have hl := mkL_len (mkN ts) (mkF ts) (mkG ts)
 have hrow : ∀ i (hi : i < (madeL ts).nx.length), (madeL ts).nx[i] = [(mkF ts i).1, (mkF ts i).2] := fun i hi => by simp [madeL, mkL]
 have hk : (madeL ts).k = 2 := by
  have h0 : 0 < (madeL ts).nx.length := by rw [madeL, hl.1]; omega
  unfold Lw.k
  cases e : (madeL ts).nx with
  | nil => rw [e] at h0; simp at h0
  | cons r rs =>
   have := hrow 0 h0
   simp only [e, List.getElem_cons_zero] at this
   rw [List.headD_cons, this]
   rfl
 refine ⟨⟨by rw [madeL, hl.1]; omega, by rw [madeL, hl.1]; omega, by omega, by omega, by rw [madeL, hl.1, hl.2], fun i hi => by rw [hrow i hi, hk]; rfl, fun i hi s hs => ?_⟩, hk, hl.1⟩
 rw [hrow i hi] at hs
 have hb := mkF_bd h i
 rw [madeL, hl.1]
 simp only [List.mem_cons, List.not_mem_nil, or_false] at hs
 rcases hs with rfl | rfl
 ·exact hb.1
 ·exact hb.2
theorem below_ow3 {bs : Nat} {w2 X Y : World} {v : Value} {e : TypeId} {n : Nat} {ys : List Value} (hb : bs = w2.heap.size) (hX : Below bs w2 X) (ho : X.ownsRow bs e 1 v n ys) (hg : X.grownBy Y v.ownBlock) : Below bs w2 Y :=
 ⟨hg.os.trans hX.os, hg.tape.trans hX.tape, hg.output.trans hX.output, Nat.le_trans hX.size hg.size, fun i hi => (hg.block i (Nat.lt_of_lt_of_le hi (by have := hX.size; omega)) (fun e => by have := (own_lt ho e.symm).1; omega)).trans (hX.block i hi)⟩
set_option maxRecDepth 100000 in
set_option maxHeartbeats 4000000 in
theorem made_any {v : Value} {ts : List T3} {w : World} (hv : SlT3 w v ts) (hq : ∀ q ∈ ts, q.ok) : Calls Try.prog 48 #[v] w fun e w' => ∃ vn vg, e = .returned (.agg #[vn, vg]) ∧ LawA w' (.agg #[vn, vg]) (madeL ts) ∧ Below w.heap.size w w' := by
 obtain ⟨av, cv, rfl, hvm, -⟩ := id hv
 obtain ⟨N, hN⟩ : ∃ N, N = mkN ts := ⟨_, rfl⟩
 have hNb : 1 ≤ N ∧ N ≤ 5 := by rw [hN]; exact mkN_bd ts
 have hNi : min (5 : Int) (max 1 (ts.length : Int)) = (N : Int) := by rw [hN, mkN]; omega
 have HN := Lib.hid hN
 clear hN
 go_enter Try.func48, Try.ntmps48
 refine wp_seq_k (fun K hK => ?_)
 have HK := Lib.hid hK; clear hK
 go_wp2
 refine HK.out _ _ ?_; clear HK
 refine wp_seq_k (fun K hK => ?_)
 have HK := Lib.hid hK; clear hK
 go_wp2_with (first | (refine wpList_max rfl _ _ _ rfl rfl rfl ?_) | (refine wpList_min rfl _ _ _ rfl rfl rfl ?_))
 refine HK.out _ _ ?_; clear HK
 refine wp_seq_k (fun K hK => ?_)
 have HK := Lib.hid hK; clear hK
 go_wp2_with (refine wpList_store_blk rfl 25 _ _ rfl _ rfl rfl (heap_newI rfl) size25 rfl rfl (by simp [Value.oneCell']) ?_)
 refine HK.out _ _ ?_; clear HK
 obtain ⟨w1, hw1⟩ : ∃ q, q = w.alloc (.cells #[.slice none 0 0, .slice none 0 0] 25) := ⟨_, rfl⟩
 have c2 : w1.heap[w.heap.size]? = some (.cells #[.slice none 0 0, .slice none 0 0] 25 (0, 0)) := by rw [hw1]; exact heap_newI rfl
 have hb1 : Below w.heap.size w w1 := by rw [hw1]; exact (Below.refl _ _).alloc (Nat.le_refl _) _
 have hz1 : w1.heap.size = w.heap.size + 1 := by rw [hw1, World.size_alloc]
 obtain ⟨w2, hw2⟩ : ∃ q, q = w1.alloc (.cells #[.slice none 0 0, .slice none 0 0] 25) := ⟨_, rfl⟩
 have c4 : w2.heap[w1.heap.size]? = some (.cells #[.slice none 0 0, .slice none 0 0] 25 (0, 0)) := by rw [hw2]; exact heap_newI rfl
 have hb12 : Below w1.heap.size w1 w2 := by rw [hw2]; exact (Below.refl _ _).alloc (Nat.le_refl _) _
 rw [← hw1, ← hw2, ← hz1]
 obtain ⟨g2, hg2⟩ : ∃ q, q = w.heap.size := ⟨_, rfl⟩
 obtain ⟨g4, hg4⟩ : ∃ q, q = w1.heap.size := ⟨_, rfl⟩
 obtain ⟨bs, hbs⟩ : ∃ q, q = w1.heap.size := ⟨_, rfl⟩
 have HG4 := Lib.hid (show bs ≤ g4 by omega)
 rw [← hg2] at c2 hb1 hz1 ⊢
 rw [← hg4] at c4 ⊢
 rw [← hbs] at hb12
 have HBS := Lib.hid hbs
 have HBW := Lib.hid (show g2 < bs from by omega)
 have HB1 := Lib.hid hb1
 have HC2 := Lib.hid c2
 have HV1 := Lib.hid (hv.below hb1 (by omega))
 have HQ := Lib.hid hq
 obtain ⟨FF, hFF⟩ : ∃ q, q = mkF ts := ⟨_, rfl⟩
 obtain ⟨GF, hGF⟩ : ∃ q, q = mkG ts := ⟨_, rfl⟩
 have HFF := Lib.hid (And.intro hFF hGF)
 have HJ0 := Lib.hid (And.intro (RK.start (base := bs) c4) hb12)
 clear hw1 hw2 hg2 hg4 hbs hz1 hb1 hb12 c2 c4 hv hq hFF hGF hNi
 go_wp2
 go_loopw [5] (fun i wr => ∃ (s : Nat) (Z : Nat → Prop) (vn vg : Value) (us : List Value), s ≤ N ∧ i = .int .i64 s ∧ Hid (RK bs g4 Z wr (.slice none 0 0) vn vg [] us (mkL s FF GF).nx (mkL s FF GF).gd ∧ Below bs w1 wr)) (fun i _ => N - (intOf i).toNat)
 case atStart => exact ⟨0, _, _, _, [], Nat.zero_le _, rfl, HJ0⟩
 case round =>
  clear HJ0
  obtain ⟨s, Z, vn, vg, us, hs, rfl, HJ1⟩ := hrel
  obtain ⟨wo, rfl⟩ : ∃ q, q = wr := ⟨_, rfl⟩
  by_cases hsN : s < N
  ·have hsi : (s : Int) < (N : Int) := by omega
   have hbsz : bs ≤ wo.heap.size := by have := HJ1.out.2.size; rw [← HBS.out] at this; exact this
   obtain ⟨wl, hwl⟩ : ∃ q, q = wo.alloc (.cells #[.int .i64 0, .int .i64 0] 3) := ⟨_, rfl⟩
   have hbl : Below wo.heap.size wo wl := by rw [hwl]; exact (Below.refl _ _).alloc (Nat.le_refl _) _
   obtain ⟨hul, hgl⟩ : us.length = s ∧ (mkL s FF GF).gd.length = s := ⟨by rw [HJ1.out.1.rn.1, (mkL_len s FF GF).1], (mkL_len s FF GF).2⟩
   have HUL := Lib.hid (And.intro hul hgl)
   by_cases hst : s < ts.length
   ·have hsti : (s : Int) < (ts.length : Int) := by omega
    have hVl := HV1.out.below HJ1.out.2 (Nat.le_of_eq HBS.out.symm)
    have hVl := hVl.below hbl (Nat.le_refl _)
    obtain ⟨ad, cap, e, -, hcc⟩ := hVl
    injection e with e1 e2 e3
    subst e1
    obtain ⟨b, off, rfl, hb, hcell⟩ := hcc (by omega)
    obtain ⟨qa, qb, qc, hqq⟩ : ∃ qa qb qc : Nat, ts[s] = ⟨qa, qb, qc⟩ ∧ qa < 256 ∧ qb < 256 ∧ qc < 256 := by
     obtain ⟨⟨h1, h2⟩, ⟨h3, h4⟩, h5, h6⟩ := HQ.out _ (List.getElem_mem hst)
     generalize ts[s] = q at *
     obtain ⟨a, b, c⟩ := q
     simp only at h1 h2 h3 h4 h5 h6
     exact ⟨a.toNat, b.toNat, c.toNat, by congr 1 <;> omega, by omega, by omega, by omega⟩
    have k0 := hcell s hst 0 (.int .u8 qa) (by rw [hqq.1]; rfl)
    have k1 := hcell s hst 1 (.int .u8 qb) (by rw [hqq.1]; rfl)
    have k2 := hcell s hst 2 (.int .u8 qc) (by rw [hqq.1]; rfl)
    have hF : FF s = ((qa : Int).tmod N, (qb : Int).tmod N) := by
     rw [HFF.out.1, mkF, List.getElem?_eq_getElem hst, hqq.1, HN.out]
    have hG : GF s = ((qc : Int).tmod 2 == 1) := by
     rw [HFF.out.2, mkG, List.getElem?_eq_getElem hst, hqq.1]
    have HF := Lib.hid (And.intro hF hG)
    have HC := Lib.hid (And.intro hb (And.intro k0 (And.intro k1 k2)))
    have HBL := Lib.hid hbl
    have HWL := Lib.hid hwl
    obtain ⟨hqq, hqa, hqb, hqc⟩ := hqq
    have hN0 : ¬ N = 0 := by omega
    have hwa : IntKind.i64.wrap (qa : Int) = (qa : Int) := c64 (by omega)
    have hwb : IntKind.i64.wrap (qb : Int) = (qb : Int) := c64 (by omega)
    clear hcell hcc e2 e3 k0 k1 k2 hF hG hqq hbl hwl hb hul hgl
    go_wp2
    rw [← HWL.out]
    refine wp_region_x (R := fun U => Below wl.heap.size wl U) (S := fun _ => True) (z := 999) rfl ?_
    change wpAnyX _ _ _ _ _ _ _ _ _ _ wl.drew
    have Hq0 := Lib.hid (show Below wl.heap.size wl wl.drew from (Below.refl _ _).drew)
    obtain ⟨wq0, hwq⟩ : ∃ q, q = wl.drew := ⟨_, rfl⟩
    rw [← hwq] at Hq0 ⊢
    clear hwq
    refine wpX_kp (i := 0) (oi := ⟨some 23, _, _, _, _, none⟩) (v := ?_) rfl (fun _ _ _ h => h) ?_ ⟨(by first | exact Hq4.out | exact Hq3.out | exact Hq2.out | exact Hq1.out | exact Hq0.out), fun _ => trivial⟩ ?_
    rotate_left
    ·intro U hU
     go_simp
     all_goals with_reducible rfl
    simp only [putE]
    refine wpX_kp (i := 1) (oi := ⟨some 24, _, _, _, _, none⟩) (v := ?_) rfl (fun _ _ _ h => h) ?_ ⟨(by first | exact Hq4.out | exact Hq3.out | exact Hq2.out | exact Hq1.out | exact Hq0.out), fun _ => trivial⟩ ?_
    rotate_left
    ·intro U hU
     go_simp
     all_goals with_reducible rfl
    simp only [putE]
    refine wpX_kp (i := 2) (oi := ⟨some 25, _, _, _, _, none⟩) (v := ?_) rfl (fun _ _ _ h => h) ?_ ⟨(by first | exact Hq4.out | exact Hq3.out | exact Hq2.out | exact Hq1.out | exact Hq0.out), fun _ => trivial⟩ ?_
    rotate_left
    ·intro U hU
     go_simp
     all_goals with_reducible rfl
    simp only [putE]
    refine wpX_kp (i := 3) (oi := ⟨some 26, _, _, _, _, none⟩) (v := ?_) rfl (fun _ _ _ h => h) ?_ ⟨(by first | exact Hq4.out | exact Hq3.out | exact Hq2.out | exact Hq1.out | exact Hq0.out), fun _ => trivial⟩ ?_
    rotate_left
    ·intro U hU
     go_simp
     all_goals with_reducible rfl
    simp only [putE]
    refine wpX_kp (i := 4) (oi := ⟨some 27, _, _, _, _, none⟩) (v := ?_) rfl (fun _ _ _ h => h) ?_ ⟨(by first | exact Hq4.out | exact Hq3.out | exact Hq2.out | exact Hq1.out | exact Hq0.out), fun _ => trivial⟩ ?_
    rotate_left
    ·intro U hU
     have u0 := (hU.cell (p := ⟨b, off + s * 3, none⟩) HC.out.1).trans HC.out.2.1
     go_simp
     all_goals with_reducible rfl
    simp only [putE]
    refine wpX_kp (i := 5) (oi := ⟨some 28, _, _, _, _, none⟩) (v := ?_) rfl (fun _ _ _ h => h) ?_ ⟨(by first | exact Hq4.out | exact Hq3.out | exact Hq2.out | exact Hq1.out | exact Hq0.out), fun _ => trivial⟩ ?_
    rotate_left
    ·intro U hU
     go_simp
     all_goals with_reducible rfl
    simp only [putE]
    refine wpX_kp (i := 6) (oi := ⟨some 29, _, _, _, _, none⟩) (v := ?_) rfl (fun _ _ _ h => h) ?_ ⟨(by first | exact Hq4.out | exact Hq3.out | exact Hq2.out | exact Hq1.out | exact Hq0.out), fun _ => trivial⟩ ?_
    rotate_left
    ·intro U hU
     go_simp
     all_goals with_reducible rfl
    simp only [putE]
    refine wpX_kp (i := 7) (oi := ⟨some 30, _, _, _, _, none⟩) (v := ?_) rfl (fun _ _ _ h => h) ?_ ⟨(by first | exact Hq4.out | exact Hq3.out | exact Hq2.out | exact Hq1.out | exact Hq0.out), fun _ => trivial⟩ ?_
    rotate_left
    ·intro U hU
     go_simp
     all_goals with_reducible rfl
    simp only [putE]
    refine wpX_kp (i := 8) (oi := ⟨some 31, _, _, _, _, none⟩) (v := ?_) rfl (fun _ _ _ h => h) ?_ ⟨(by first | exact Hq4.out | exact Hq3.out | exact Hq2.out | exact Hq1.out | exact Hq0.out), fun _ => trivial⟩ ?_
    rotate_left
    ·intro U hU
     go_simp
     all_goals with_reducible rfl
    simp only [putE]
    refine wpX_kp (i := 9) (oi := ⟨some 32, _, _, _, _, none⟩) (v := ?_) rfl (fun _ _ _ h => h) ?_ ⟨(by first | exact Hq4.out | exact Hq3.out | exact Hq2.out | exact Hq1.out | exact Hq0.out), fun _ => trivial⟩ ?_
    rotate_left
    ·intro U hU
     go_simp
     all_goals with_reducible rfl
    simp only [putE]
    refine wpX_kp (i := 10) (oi := ⟨some 33, _, _, _, _, none⟩) (v := ?_) rfl (fun _ _ _ h => h) ?_ ⟨(by first | exact Hq4.out | exact Hq3.out | exact Hq2.out | exact Hq1.out | exact Hq0.out), fun _ => trivial⟩ ?_
    rotate_left
    ·intro U hU
     go_simp
     all_goals with_reducible rfl
    simp only [putE]
    refine wpX_kp (i := 11) (oi := ⟨some 34, _, _, _, _, none⟩) (v := ?_) rfl (fun _ _ _ h => h) ?_ ⟨(by first | exact Hq4.out | exact Hq3.out | exact Hq2.out | exact Hq1.out | exact Hq0.out), fun _ => trivial⟩ ?_
    rotate_left
    ·intro U hU
     go_simp
     all_goals with_reducible rfl
    simp only [putE]
    refine wpX_kp (i := 12) (oi := ⟨some 35, _, _, _, _, none⟩) (v := ?_) rfl (fun _ _ _ h => h) ?_ ⟨(by first | exact Hq4.out | exact Hq3.out | exact Hq2.out | exact Hq1.out | exact Hq0.out), fun _ => trivial⟩ ?_
    rotate_left
    ·intro U hU
     have u0 := (hU.cell (p := ⟨b, off + s * 3 + 1, none⟩) HC.out.1).trans HC.out.2.2.1
     go_simp
     all_goals with_reducible rfl
    simp only [putE]
    refine wpX_kp (i := 13) (oi := ⟨some 36, _, _, _, _, none⟩) (v := ?_) rfl (fun _ _ _ h => h) ?_ ⟨(by first | exact Hq4.out | exact Hq3.out | exact Hq2.out | exact Hq1.out | exact Hq0.out), fun _ => trivial⟩ ?_
    rotate_left
    ·intro U hU
     go_simp
     all_goals with_reducible rfl
    simp only [putE]
    refine wpX_kp (i := 14) (oi := ⟨some 37, _, _, _, _, none⟩) (v := ?_) rfl (fun _ _ _ h => h) ?_ ⟨(by first | exact Hq4.out | exact Hq3.out | exact Hq2.out | exact Hq1.out | exact Hq0.out), fun _ => trivial⟩ ?_
    rotate_left
    ·intro U hU
     go_simp
     all_goals with_reducible rfl
    simp only [putE]
    refine wpX_kp (i := 15) (oi := ⟨some 38, _, _, _, _, none⟩) (v := ?_) rfl (fun _ _ _ h => h) ?_ ⟨(by first | exact Hq4.out | exact Hq3.out | exact Hq2.out | exact Hq1.out | exact Hq0.out), fun _ => trivial⟩ ?_
    rotate_left
    ·intro U hU
     go_simp
     all_goals with_reducible rfl
    simp only [putE]
    refine wpX_kp (i := 17) (oi := ⟨some 40, _, _, _, _, none⟩) (v := ?_) rfl (fun _ _ _ h => h) ?_ ⟨(by first | exact Hq4.out | exact Hq3.out | exact Hq2.out | exact Hq1.out | exact Hq0.out), fun _ => trivial⟩ ?_
    rotate_left
    ·intro U hU
     go_simp
     all_goals with_reducible rfl
    simp only [putE]
    refine wpX_kp (i := 18) (oi := ⟨some 41, _, _, _, _, none⟩) (v := ?_) rfl (fun _ _ _ h => h) ?_ ⟨(by first | exact Hq4.out | exact Hq3.out | exact Hq2.out | exact Hq1.out | exact Hq0.out), fun _ => trivial⟩ ?_
    rotate_left
    ·intro U hU
     go_simp
     all_goals with_reducible rfl
    simp only [putE]
    refine wpX_kp (i := 19) (oi := ⟨some 42, _, _, _, _, none⟩) (v := ?_) rfl (fun _ _ _ h => h) ?_ ⟨(by first | exact Hq4.out | exact Hq3.out | exact Hq2.out | exact Hq1.out | exact Hq0.out), fun _ => trivial⟩ ?_
    rotate_left
    ·intro U hU
     go_simp
     all_goals with_reducible rfl
    simp only [putE]
    refine wpX_kp (i := 20) (oi := ⟨some 43, _, _, _, _, none⟩) (v := ?_) rfl (fun _ _ _ h => h) ?_ ⟨(by first | exact Hq4.out | exact Hq3.out | exact Hq2.out | exact Hq1.out | exact Hq0.out), fun _ => trivial⟩ ?_
    rotate_left
    ·intro U hU
     go_simp
     all_goals with_reducible rfl
    simp only [putE]
    refine wpX_kp (i := 21) (oi := ⟨some 44, _, _, _, _, none⟩) (v := ?_) rfl (fun _ _ _ h => h) ?_ ⟨(by first | exact Hq4.out | exact Hq3.out | exact Hq2.out | exact Hq1.out | exact Hq0.out), fun _ => trivial⟩ ?_
    rotate_left
    ·intro U hU
     have u0 := (hU.cell (p := ⟨b, off + s * 3 + 2, none⟩) HC.out.1).trans HC.out.2.2.2
     go_simp
     all_goals with_reducible rfl
    simp only [putE]
    refine wpX_kp (i := 22) (oi := ⟨some 45, _, _, _, _, none⟩) (v := ?_) rfl (fun _ _ _ h => h) ?_ ⟨(by first | exact Hq4.out | exact Hq3.out | exact Hq2.out | exact Hq1.out | exact Hq0.out), fun _ => trivial⟩ ?_
    rotate_left
    ·intro U hU
     go_simp
     all_goals with_reducible rfl
    simp only [putE]
    refine wpX_kp (i := 23) (oi := ⟨some 46, _, _, _, _, none⟩) (v := ?_) rfl (fun _ _ _ h => h) ?_ ⟨(by first | exact Hq4.out | exact Hq3.out | exact Hq2.out | exact Hq1.out | exact Hq0.out), fun _ => trivial⟩ ?_
    rotate_left
    ·intro U hU
     go_simp
     all_goals with_reducible rfl
    simp only [putE]
    refine wpAnyX_one (i := 16) (o := ⟨some 39, _, _, _, _, none⟩) (by kernel_rfl) rfl (by rfl) (fun K1 hK1 => ?_)
    have HK1 := Lib.hid hK1; clear hK1
    have hK1 := HK1.out
    clear HK1
    go_simp
    obtain ⟨wq1, hwq1⟩ : ∃ q, q = wq0.alloc (.cells #[.int .i64 ((qa : Int).tmod N), .int .i64 ((qb : Int).tmod N)] 3) := ⟨_, rfl⟩
    rw [← hwq1]
    have Hq1 := Lib.hid (show Below wl.heap.size wl wq1 by rw [hwq1]; exact Hq0.out.alloc Hq0.out.size _)
    refine hK1 _ _ ⟨Hq1.out, fun _ => trivial⟩ ?_
    clear hK1
    try simp only [putE]
    refine wpX_kp (i := 24) (oi := ⟨some 6, _, _, _, _, none⟩) (v := ?_) rfl (fun _ _ _ h => h) ?_ ⟨(by first | exact Hq4.out | exact Hq3.out | exact Hq2.out | exact Hq1.out | exact Hq0.out), fun _ => trivial⟩ ?_
    rotate_left
    ·intro U hU
     go_simp
     all_goals with_reducible rfl
    simp only [putE]
    refine wpX_kp (i := 25) (oi := ⟨some 7, _, _, _, _, none⟩) (v := ?_) rfl (fun _ _ _ h => h) ?_ ⟨(by first | exact Hq4.out | exact Hq3.out | exact Hq2.out | exact Hq1.out | exact Hq0.out), fun _ => trivial⟩ ?_
    rotate_left
    ·intro U hU
     go_simp
     all_goals with_reducible rfl
    simp only [putE]
    refine wpAnyX_done (by kernel_rfl) ?_ _
    have hJL := HJ1.out.1.quiet HBL.out
    have hJQ := hJL.quiet Hq0.out
    have hbq : bs ≤ wq0.heap.size := by have := Hq0.out.size; have := HBL.out.size; omega
    have hJw := hJQ.lit (x0 := (qa : Int).tmod N) (x1 := (qb : Int).tmod N) hbq hwq1
    have hBw : Below bs w1 wq1 := (HJ1.out.2.trans (HBL.out.mono hbsz)).trans (Hq1.out.mono (by have := HBL.out.size; omega))
    obtain ⟨bg, hbg⟩ : ∃ q, q = ((qc : Int).tmod 2 == 1) := ⟨_, rfl⟩
    obtain ⟨x0, hx0⟩ : ∃ q, q = (qa : Int).tmod N := ⟨_, rfl⟩
    obtain ⟨x1, hx1⟩ : ∃ q, q = (qb : Int).tmod N := ⟨_, rfl⟩
    obtain ⟨g10, hg10⟩ : ∃ q, q = wq0.heap.size := ⟨_, rfl⟩
    have HX := Lib.hid (show (x0, x1) = FF s ∧ bg = GF s by rw [HF.out.1, HF.out.2, hx0, hx1, hbg]; exact ⟨rfl, rfl⟩)
    rw [← hbg]
    rw [← hx0, ← hx1] at hJw
    rw [← hg10] at hJw ⊢
    have HJW := Lib.hid (And.intro hJw hBw)
    clear hJL hJQ hbq hJw hBw hbg hx0 hx1 hg10 hwq1 Hq0 Hq1 HC hN0 hwa hwb HF HBL HWL hqa hqb hqc hsti hbsz
    obtain ⟨wv, rfl⟩ : ∃ q, q = wq1 := ⟨_, rfl⟩
    obtain ⟨hJv, hBv⟩ := HJW.out
    obtain ⟨NX, hNX⟩ : ∃ q, q = (mkL s FF GF).nx := ⟨_, rfl⟩
    obtain ⟨GS, hGS⟩ : ∃ q, q = (mkL s FF GF).gd := ⟨_, rfl⟩
    rw [← hNX, ← hGS] at hJv
    have hul := HUL.out.1
    have hgl := HUL.out.2
    rw [← hGS] at hgl
    obtain ⟨an', cn', en', -⟩ := own_form hJv.on
    obtain ⟨ag', cg', eg', -⟩ := own_form hJv.og
    rw [hul] at en'
    rw [hgl] at eg'
    subst en' eg'
    have HNG := Lib.hid (And.intro hNX hGS)
    clear hNX hGS
    go_wp2
    refine wp_region_x (R := fun _ => True) (S := fun U => U.heap[g4]? = some (.cells #[.slice an' s cn', .slice ag' s cg'] 25 (0, 0))) (z := 11) rfl ?_
    change wpAnyX _ _ _ _ _ _ _ _ _ _ wv.drew
    have hJd := hJv.quiet ((Below.refl _ wv).drew)
    have hBd := hBv.drew
    obtain ⟨wq, hwq⟩ : ∃ q, q = wv.drew := ⟨_, rfl⟩
    rw [← hwq] at hJd hBd ⊢
    have hSq := hJd.box
    clear hwq
    refine wpX_kp (i := 0) (oi := ⟨some 47, _, _, _, _, none⟩) (v := ?_) rfl (fun _ _ _ h => h) ?_ ⟨trivial, fun _ => hSq⟩ ?_
    rotate_left
    ·intro U hU
     go_simp
     all_goals with_reducible rfl
    simp only [putE]
    refine wpAnyX_take (i := 1) (oi := ⟨some 48, _, _, _, _, none⟩) (v := ?_) rfl (by kernel_rfl) (by kernel_rfl) (by kernel_rfl) (fun _ _ _ h => h) (Or.inl ⟨by rfl, ?_⟩) ⟨trivial, fun _ => hSq⟩ ?_
    rotate_left
    ·intro U hU
     have u0 := cell_blk (i := 0) hU.2
     simp only [List.getElem?_toArray, List.getElem?_cons_zero] at u0
     go_simp
     all_goals with_reducible rfl
    simp only [putE]
    refine wpX_kp (i := 2) (oi := ⟨some 49, _, _, _, _, none⟩) (v := ?_) rfl (fun _ _ _ h => h) ?_ ⟨trivial, fun _ => hSq⟩ ?_
    rotate_left
    ·intro U hU
     go_simp
     all_goals with_reducible rfl
    simp only [putE]
    refine wpX_kp (i := 5) (oi := ⟨some 52, _, _, _, _, none⟩) (v := ?_) rfl (fun _ _ _ h => h) ?_ ⟨trivial, fun _ => hSq⟩ ?_
    rotate_left
    ·intro U hU
     go_simp
     all_goals with_reducible rfl
    simp only [putE]
    refine wpAnyX_take (i := 6) (oi := ⟨some 53, _, _, _, _, none⟩) (v := ?_) rfl (by kernel_rfl) (by kernel_rfl) (by kernel_rfl) (fun _ _ _ h => h) (Or.inl ⟨by rfl, ?_⟩) ⟨trivial, fun _ => hSq⟩ ?_
    rotate_left
    ·intro U hU
     have u0 := cell_blk (i := 1) hU.2
     simp only [List.getElem?_toArray, List.getElem?_cons_zero, List.getElem?_cons_succ] at u0
     go_simp
     all_goals with_reducible rfl
    simp only [putE]
    refine wpX_kp (i := 7) (oi := ⟨some 54, _, _, _, _, none⟩) (v := ?_) rfl (fun _ _ _ h => h) ?_ ⟨trivial, fun _ => hSq⟩ ?_
    rotate_left
    ·intro U hU
     go_simp
     all_goals with_reducible rfl
    simp only [putE]
    refine (fun (FIN : KeyP (?P9 : Prop)) => ?main9) ⟨?key9⟩
    case main9 =>
     refine wpAnyX_ready (rs := [3, 8]) (by kernel_rfl) (by simp) ?_
     refine AllReadyX.cons (o := ⟨some 50, _, _, _, _, none⟩) rfl (by rfl) (fun K1 hK1 => ?_) ?_
     ·have HK1 := Lib.hid hK1; clear hK1
      have hK1 := HK1.out
      clear HK1
      go_simp
      obtain ⟨wa, hwa⟩ : ∃ q, q = wq.alloc (.cells #[.slice (some ⟨g10, 0, none⟩) 2 2] 40) := ⟨_, rfl⟩
      rw [← hwa]
      have hbwa : Below wq.heap.size wq wa := by rw [hwa]; exact (Below.refl _ _).alloc (Nat.le_refl _) _
      obtain ⟨p3, hp3⟩ : ∃ g, g = wq.heap.size := ⟨_, rfl⟩
      have bp3 : wa.heap[p3]? = some (.cells #[.slice (some ⟨g10, 0, none⟩) 2 2] 40 (0, 0)) := by rw [hwa, hp3]; exact heap_newI rfl
      rw [← hp3]
      clear hwa hp3
      have hJwa := hJd.quiet hbwa
      have hBwa := hBd.trans (hbwa.mono (by have := hBd.size; rw [HBS.out] at *; omega))
      refine hK1 _ _ ⟨trivial, fun _ => hJwa.box⟩ ?_
      clear hK1
      try simp only [putE]
      refine wpAnyX_ready (rs := [4, 8]) (by kernel_rfl) (by simp) ?_
      refine AllReadyX.cons (o := ⟨some 51, _, _, _, _, none⟩) rfl (by rfl) (fun K1 hK1 => ?_) ?_
      ·have HK1 := Lib.hid hK1; clear hK1
       have hbz1 : bs ≤ wa.heap.size := by have := hBwa.size; rw [HBS.out] at *; omega
       refine oper_app (.tmp 48) (.tmp 50) 22 40 rfl Try.underlying22 info40 rfl (by decide) (xs := us) hJwa.on (by rw [hul]; omega) rfl rfl bp3 rfl hbz1 ?_
       intro vn' wb qn gn en
       obtain ⟨an2, cn2, en2, -⟩ := own_form qn
       rw [hul] at en2
       subst en2
       have hSwb : wb.heap[g4]? = some (.cells #[.slice an' s cn', .slice ag' s cg'] 25 (0, 0)) := (gn.block g4 (lt_blk hJwa.box) (fun e => by have := own_ty hJwa.on e.symm hJwa.box; cases this)).trans hJwa.box
       have hBwb := below_ow3 HBS.out hBwa hJwa.on gn
       have ogwb : wb.ownsRow bs 4 1 (.slice ag' s cg') GS.length (GS.map Value.bool) := own_grown hJwa.og hJwa.on (by decide) gn
       refine HK1.out _ _ ⟨trivial, fun _ => hSwb⟩ ?_
       clear HK1
       try simp only [putE]
       refine wpX_kp (i := 10) (oi := ⟨some 57, _, _, _, _, none⟩) (v := ?_) rfl (fun _ _ _ h => h) ?_ ⟨trivial, fun _ => hSwb⟩ ?_
       rotate_left
       ·intro U hU
        go_simp
        all_goals with_reducible rfl
       simp only [putE]
       refine wpAnyX_one (i := 8) (o := ⟨some 55, _, _, _, _, none⟩) (by kernel_rfl) rfl (by rfl) (fun K1 hK1 => ?_)
       have HK1 := Lib.hid hK1; clear hK1
       have hK1 := HK1.out
       clear HK1
       go_simp
       obtain ⟨wc, hwc⟩ : ∃ q, q = wb.alloc (.cells #[.bool bg] 4) := ⟨_, rfl⟩
       rw [← hwc]
       have hbwc : Below wb.heap.size wb wc := by rw [hwc]; exact (Below.refl _ _).alloc (Nat.le_refl _) _
       obtain ⟨p10, hp10⟩ : ∃ g, g = wb.heap.size := ⟨_, rfl⟩
       have bp10 : wc.heap[p10]? = some (.cells #[.bool bg] 4 (0, 0)) := by rw [hwc, hp10]; exact heap_newI rfl
       rw [← hp10]
       clear hwc hp10
       have hSwc := blk_keep hSwb hbwc
       have hBwc := hBwb.trans (hbwc.mono (by have := hBwb.size; rw [HBS.out] at *; omega))
       have ogwc := own_same ogwb fun i hi => hbwc.block i (own_lt ogwb hi).2.1
       refine hK1 _ _ ⟨trivial, fun _ => hSwc⟩ ?_
       clear hK1
       try simp only [putE]
       refine wpAnyX_one (i := 9) (o := ⟨some 56, _, _, _, _, none⟩) (by kernel_rfl) rfl (by rfl) (fun K1 hK1 => ?_)
       have HK1 := Lib.hid hK1; clear hK1
       have hbz3 : bs ≤ wc.heap.size := by have := hBwc.size; rw [HBS.out] at *; omega
       refine oper_app (.tmp 53) (.tmp 55) 23 4 rfl Try.underlying23 info4 rfl (by decide) (xs := GS.map Value.bool) (by rw [List.length_map]; exact ogwc) (by rw [List.length_map, hgl]; omega) rfl rfl bp10 rfl hbz3 ?_
       intro vg' we qg gg eg
       rw [List.length_map] at qg
       obtain ⟨ag2, cg2, eg2, -⟩ := own_form qg
       rw [hgl] at eg2
       subst eg2
       have hBwe := below_ow3 HBS.out hBwc ogwc gg
       have hRG := hJd.rowG (by simp) hbwa qn gn en hbwc qg gg
       have hfin : RK bs g4 (fun i => Z i ∨ (Value.slice (some ⟨g10, 0, none⟩) 2 2).ownBlock = some i) ((we.setCell ⟨g4, 0, none⟩ (.slice an2 (s + 1) cn2)).setCell ⟨g4, 1, none⟩ (.slice ag2 (s + 1) cg2)) (.slice none 0 0) (.slice an2 (s + 1) cn2) (.slice ag2 (s + 1) cg2) [] (us ++ [.slice (some ⟨g10, 0, none⟩) 2 2]) (NX ++ [[x0, x1]]) (GS ++ [bg]) ∧ we.heap[g4]? = some (.cells #[.slice an' s cn', .slice ag' s cg'] 25 (0, 0)) ∧ Below bs w1 we := ⟨hRG.1, hRG.2, hBwe⟩
       have hS4 := hRG.2
       refine HK1.out _ _ ⟨trivial, fun _ => hS4⟩ ?_
       clear HK1
       try simp only [putE]
       clear hRG hS4 hBwe hbz1 hbz3 eg gg qg ogwc hBwc hSwc bp10 hbwc ogwb hBwb hSwb en gn qn hJwa hBwa bp3 hbwa
       revert hfin; revert we; revert cg2; revert ag2; revert cn2; revert an2; revert p10; revert p3
       exact FIN.out
      refine AllReadyX.cons (o := ⟨some 55, _, _, _, _, none⟩) rfl (by rfl) (fun K1 hK1 => ?_) AllReadyX.nil
      have HK1 := Lib.hid hK1; clear hK1
      have hK1 := HK1.out
      clear HK1
      go_simp
      obtain ⟨wc, hwc⟩ : ∃ q, q = wa.alloc (.cells #[.bool bg] 4) := ⟨_, rfl⟩
      rw [← hwc]
      have hbwc : Below wa.heap.size wa wc := by rw [hwc]; exact (Below.refl _ _).alloc (Nat.le_refl _) _
      obtain ⟨p10, hp10⟩ : ∃ g, g = wa.heap.size := ⟨_, rfl⟩
      have bp10 : wc.heap[p10]? = some (.cells #[.bool bg] 4 (0, 0)) := by rw [hwc, hp10]; exact heap_newI rfl
      rw [← hp10]
      clear hwc hp10
      have hJwc := hJwa.quiet hbwc
      have hBwc := hBwa.trans (hbwc.mono (by have := hBwa.size; rw [HBS.out] at *; omega))
      refine hK1 _ _ ⟨trivial, fun _ => hJwc.box⟩ ?_
      clear hK1
      try simp only [putE]
      refine wpAnyX_one (i := 4) (o := ⟨some 51, _, _, _, _, none⟩) (by kernel_rfl) rfl (by rfl) (fun K1 hK1 => ?_)
      have HK1 := Lib.hid hK1; clear hK1
      have hbz1 : bs ≤ wc.heap.size := by have := hBwc.size; rw [HBS.out] at *; omega
      refine oper_app (.tmp 48) (.tmp 50) 22 40 rfl Try.underlying22 info40 rfl (by decide) (xs := us) hJwc.on (by rw [hul]; omega) rfl rfl (blk_keep bp3 hbwc) rfl hbz1 ?_
      intro vn' wb qn gn en
      obtain ⟨an2, cn2, en2, -⟩ := own_form qn
      rw [hul] at en2
      subst en2
      have hSwb : wb.heap[g4]? = some (.cells #[.slice an' s cn', .slice ag' s cg'] 25 (0, 0)) := (gn.block g4 (lt_blk hJwc.box) (fun e => by have := own_ty hJwc.on e.symm hJwc.box; cases this)).trans hJwc.box
      have hBwb := below_ow3 HBS.out hBwc hJwc.on gn
      have ogwb : wb.ownsRow bs 4 1 (.slice ag' s cg') GS.length (GS.map Value.bool) := own_grown hJwc.og hJwc.on (by decide) gn
      refine HK1.out _ _ ⟨trivial, fun _ => hSwb⟩ ?_
      clear HK1
      try simp only [putE]
      refine wpX_kp (i := 10) (oi := ⟨some 57, _, _, _, _, none⟩) (v := ?_) rfl (fun _ _ _ h => h) ?_ ⟨trivial, fun _ => hSwb⟩ ?_
      rotate_left
      ·intro U hU
       go_simp
       all_goals with_reducible rfl
      simp only [putE]
      have bp10b := blk_grown hJwc.on gn bp10 (by decide)
      refine wpAnyX_one (i := 9) (o := ⟨some 56, _, _, _, _, none⟩) (by kernel_rfl) rfl (by rfl) (fun K1 hK1 => ?_)
      have HK1 := Lib.hid hK1; clear hK1
      have hbz3 : bs ≤ wb.heap.size := by have := hBwb.size; rw [HBS.out] at *; omega
      refine oper_app (.tmp 53) (.tmp 55) 23 4 rfl Try.underlying23 info4 rfl (by decide) (xs := GS.map Value.bool) (by rw [List.length_map]; exact ogwb) (by rw [List.length_map, hgl]; omega) rfl rfl bp10b rfl hbz3 ?_
      intro vg' we qg gg eg
      rw [List.length_map] at qg
      obtain ⟨ag2, cg2, eg2, -⟩ := own_form qg
      rw [hgl] at eg2
      subst eg2
      have hBwe := below_ow3 HBS.out hBwb ogwb gg
      have hRG := hJd.rowG (by simp) (btr hbwa hbwc (Nat.le_refl _)) qn gn en (Below.refl _ _) qg gg
      have hfin : RK bs g4 (fun i => Z i ∨ (Value.slice (some ⟨g10, 0, none⟩) 2 2).ownBlock = some i) ((we.setCell ⟨g4, 0, none⟩ (.slice an2 (s + 1) cn2)).setCell ⟨g4, 1, none⟩ (.slice ag2 (s + 1) cg2)) (.slice none 0 0) (.slice an2 (s + 1) cn2) (.slice ag2 (s + 1) cg2) [] (us ++ [.slice (some ⟨g10, 0, none⟩) 2 2]) (NX ++ [[x0, x1]]) (GS ++ [bg]) ∧ we.heap[g4]? = some (.cells #[.slice an' s cn', .slice ag' s cg'] 25 (0, 0)) ∧ Below bs w1 we := ⟨hRG.1, hRG.2, hBwe⟩
      have hS4 := hRG.2
      refine HK1.out _ _ ⟨trivial, fun _ => hS4⟩ ?_
      clear HK1
      try simp only [putE]
      exact FIN.out p3 p10 an2 cn2 ag2 cg2 we hfin
     refine AllReadyX.cons (o := ⟨some 55, _, _, _, _, none⟩) rfl (by rfl) (fun K1 hK1 => ?_) AllReadyX.nil
     have HK1 := Lib.hid hK1; clear hK1
     have hK1 := HK1.out
     clear HK1
     go_simp
     obtain ⟨wa, hwa⟩ : ∃ q, q = wq.alloc (.cells #[.bool bg] 4) := ⟨_, rfl⟩
     rw [← hwa]
     have hbwa : Below wq.heap.size wq wa := by rw [hwa]; exact (Below.refl _ _).alloc (Nat.le_refl _) _
     obtain ⟨p10, hp10⟩ : ∃ g, g = wq.heap.size := ⟨_, rfl⟩
     have bp10 : wa.heap[p10]? = some (.cells #[.bool bg] 4 (0, 0)) := by rw [hwa, hp10]; exact heap_newI rfl
     rw [← hp10]
     clear hwa hp10
     have hJwa := hJd.quiet hbwa
     have hBwa := hBd.trans (hbwa.mono (by have := hBd.size; rw [HBS.out] at *; omega))
     refine hK1 _ _ ⟨trivial, fun _ => hJwa.box⟩ ?_
     clear hK1
     try simp only [putE]
     refine wpAnyX_one (i := 3) (o := ⟨some 50, _, _, _, _, none⟩) (by kernel_rfl) rfl (by rfl) (fun K1 hK1 => ?_)
     have HK1 := Lib.hid hK1; clear hK1
     have hK1 := HK1.out
     clear HK1
     go_simp
     obtain ⟨wc, hwc⟩ : ∃ q, q = wa.alloc (.cells #[.slice (some ⟨g10, 0, none⟩) 2 2] 40) := ⟨_, rfl⟩
     rw [← hwc]
     have hbwc : Below wa.heap.size wa wc := by rw [hwc]; exact (Below.refl _ _).alloc (Nat.le_refl _) _
     obtain ⟨p3, hp3⟩ : ∃ g, g = wa.heap.size := ⟨_, rfl⟩
     have bp3 : wc.heap[p3]? = some (.cells #[.slice (some ⟨g10, 0, none⟩) 2 2] 40 (0, 0)) := by rw [hwc, hp3]; exact heap_newI rfl
     rw [← hp3]
     clear hwc hp3
     have hJwc := hJwa.quiet hbwc
     have hBwc := hBwa.trans (hbwc.mono (by have := hBwa.size; rw [HBS.out] at *; omega))
     have bp10c := blk_keep bp10 hbwc
     refine hK1 _ _ ⟨trivial, fun _ => hJwc.box⟩ ?_
     clear hK1
     try simp only [putE]
     refine wpAnyX_one (i := 4) (o := ⟨some 51, _, _, _, _, none⟩) (by kernel_rfl) rfl (by rfl) (fun K1 hK1 => ?_)
     have HK1 := Lib.hid hK1; clear hK1
     have hbz1 : bs ≤ wc.heap.size := by have := hBwc.size; rw [HBS.out] at *; omega
     refine oper_app (.tmp 48) (.tmp 50) 22 40 rfl Try.underlying22 info40 rfl (by decide) (xs := us) hJwc.on (by rw [hul]; omega) rfl rfl bp3 rfl hbz1 ?_
     intro vn' wb qn gn en
     obtain ⟨an2, cn2, en2, -⟩ := own_form qn
     rw [hul] at en2
     subst en2
     have hSwb : wb.heap[g4]? = some (.cells #[.slice an' s cn', .slice ag' s cg'] 25 (0, 0)) := (gn.block g4 (lt_blk hJwc.box) (fun e => by have := own_ty hJwc.on e.symm hJwc.box; cases this)).trans hJwc.box
     have hBwb := below_ow3 HBS.out hBwc hJwc.on gn
     have ogwb : wb.ownsRow bs 4 1 (.slice ag' s cg') GS.length (GS.map Value.bool) := own_grown hJwc.og hJwc.on (by decide) gn
     refine HK1.out _ _ ⟨trivial, fun _ => hSwb⟩ ?_
     clear HK1
     try simp only [putE]
     refine wpX_kp (i := 10) (oi := ⟨some 57, _, _, _, _, none⟩) (v := ?_) rfl (fun _ _ _ h => h) ?_ ⟨trivial, fun _ => hSwb⟩ ?_
     rotate_left
     ·intro U hU
      go_simp
      all_goals with_reducible rfl
     simp only [putE]
     have bp10b := blk_grown hJwc.on gn bp10c (by decide)
     refine wpAnyX_one (i := 9) (o := ⟨some 56, _, _, _, _, none⟩) (by kernel_rfl) rfl (by rfl) (fun K1 hK1 => ?_)
     have HK1 := Lib.hid hK1; clear hK1
     have hbz3 : bs ≤ wb.heap.size := by have := hBwb.size; rw [HBS.out] at *; omega
     refine oper_app (.tmp 53) (.tmp 55) 23 4 rfl Try.underlying23 info4 rfl (by decide) (xs := GS.map Value.bool) (by rw [List.length_map]; exact ogwb) (by rw [List.length_map, hgl]; omega) rfl rfl bp10b rfl hbz3 ?_
     intro vg' we qg gg eg
     rw [List.length_map] at qg
     obtain ⟨ag2, cg2, eg2, -⟩ := own_form qg
     rw [hgl] at eg2
     subst eg2
     have hBwe := below_ow3 HBS.out hBwb ogwb gg
     have hRG := hJd.rowG (by simp) (btr hbwa hbwc (Nat.le_refl _)) qn gn en (Below.refl _ _) qg gg
     have hfin : RK bs g4 (fun i => Z i ∨ (Value.slice (some ⟨g10, 0, none⟩) 2 2).ownBlock = some i) ((we.setCell ⟨g4, 0, none⟩ (.slice an2 (s + 1) cn2)).setCell ⟨g4, 1, none⟩ (.slice ag2 (s + 1) cg2)) (.slice none 0 0) (.slice an2 (s + 1) cn2) (.slice ag2 (s + 1) cg2) [] (us ++ [.slice (some ⟨g10, 0, none⟩) 2 2]) (NX ++ [[x0, x1]]) (GS ++ [bg]) ∧ we.heap[g4]? = some (.cells #[.slice an' s cn', .slice ag' s cg'] 25 (0, 0)) ∧ Below bs w1 we := ⟨hRG.1, hRG.2, hBwe⟩
     have hS4 := hRG.2
     refine HK1.out _ _ ⟨trivial, fun _ => hS4⟩ ?_
     clear HK1
     try simp only [putE]
     exact FIN.out p3 p10 an2 cn2 ag2 cg2 we hfin
    case key9 =>
     intro p3 p10 an2 cn2 ag2 cg2 we hfin
     have y0 := cell_blk (i := 0) hfin.2.1
     have f0 := free_blk (i := 0) hfin.2.1
     simp only [List.getElem?_toArray, List.getElem?_cons_zero] at y0
     refine wpAnyX_one (i := 11) (o := ⟨none, _, _, _, _, none⟩) (by kernel_rfl) rfl (by rfl) (fun K1 hK1 => ?_)
     have HK1 := Lib.hid hK1; clear hK1
     go_simp
     have hb1' := heap_set_blk (i := 0) (v := .slice an2 (s + 1) cn2) hfin.2.1
     refine HK1.out _ _ ⟨trivial, fun h => by simp at h⟩ ?_
     clear HK1
     try simp only [putE]
     refine wpX_kp (i := 12) (oi := ⟨some 58, _, _, _, _, none⟩) (v := ?_) rfl (fun _ _ _ h => h) ?_ ⟨trivial, fun h => by simp at h⟩ ?_
     rotate_left
     ·intro U hU
      go_simp
      all_goals with_reducible rfl
     simp only [putE]
     have y1 := cell_blk (i := 1) hb1'
     have f1 := free_blk (i := 1) hb1'
     simp only [List.getElem?_toArray, List.setIfInBounds_toArray, List.set_cons_zero, List.getElem?_cons_zero, List.getElem?_cons_succ] at y1
     refine wpAnyX_one (i := 13) (o := ⟨none, _, _, _, _, none⟩) (by kernel_rfl) rfl (by rfl) (fun K1 hK1 => ?_)
     have HK1 := Lib.hid hK1; clear hK1
     go_simp
     refine HK1.out _ _ ⟨trivial, fun h => by simp at h⟩ ?_
     clear HK1
     try simp only [putE]
     refine wpAnyX_done (by kernel_rfl) ?_ _
     obtain ⟨hR, -, hB4⟩ := hfin
     have hBf : Below bs w1 ((we.setCell ⟨g4, 0, none⟩ (.slice an2 (s + 1) cn2)).setCell ⟨g4, 1, none⟩ (.slice ag2 (s + 1) cg2)) := (hB4.setCell (p := ⟨g4, 0, none⟩) HG4.out _).setCell (p := ⟨g4, 1, none⟩) HG4.out _
     have hnx : NX ++ [[x0, x1]] = (mkL (s + 1) FF GF).nx := by rw [(mkL_succ s FF GF).1, ← HNG.out.1, ← HX.out.1]
     have hgd : GS ++ [bg] = (mkL (s + 1) FF GF).gd := by rw [(mkL_succ s FF GF).2, ← HNG.out.2, ← HX.out.2]
     rw [hnx, hgd] at hR
     have HF := Lib.hid (And.intro hR hBf)
     clear hR hB4 hBf hnx hgd hSq hJd hBd hJv hBv
     go_wp2
     exact ⟨⟨s + 1, _, _, _, _, by omega, by go_num, HF⟩, by simp only [intOf]; omega⟩
   ·have hsti : ¬ (s : Int) < (ts.length : Int) := by omega
    have hJL := HJ1.out.1.lit (x0 := 0) (x1 := 0) hbsz hwl
    have hBw : Below bs w1 wl := HJ1.out.2.trans (hbl.mono hbsz)
    obtain ⟨g10, hg10⟩ : ∃ q, q = wo.heap.size := ⟨_, rfl⟩
    obtain ⟨x0, hx0⟩ : ∃ q : Int, q = 0 := ⟨_, rfl⟩
    obtain ⟨x1, hx1⟩ : ∃ q : Int, q = 0 := ⟨_, rfl⟩
    have HX := Lib.hid (show (x0, x1) = FF s ∧ true = GF s by rw [HFF.out.1, HFF.out.2, mkF, mkG, List.getElem?_eq_none (by omega), hx0, hx1]; exact ⟨rfl, rfl⟩)
    have HWL := Lib.hid (And.intro hwl hg10)
    rw [show ([0, 0] : List Int) = [x0, x1] by rw [hx0, hx1], ← hg10] at hJL
    have HJW := Lib.hid (And.intro hJL hBw)
    clear hJL hBw hbl hbsz hx0 hx1 hwl hg10 hul hgl
    obtain ⟨wv, rfl⟩ : ∃ q, q = wl := ⟨_, rfl⟩
    obtain ⟨hJv, hBv⟩ := HJW.out
    obtain ⟨NX, hNX⟩ : ∃ q, q = (mkL s FF GF).nx := ⟨_, rfl⟩
    obtain ⟨GS, hGS⟩ : ∃ q, q = (mkL s FF GF).gd := ⟨_, rfl⟩
    rw [← hNX, ← hGS] at hJv
    have hul := HUL.out.1
    have hgl := HUL.out.2
    rw [← hGS] at hgl
    obtain ⟨an', cn', en', -⟩ := own_form hJv.on
    obtain ⟨ag', cg', eg', -⟩ := own_form hJv.og
    rw [hul] at en'
    rw [hgl] at eg'
    subst en' eg'
    have HNG := Lib.hid (And.intro hNX hGS)
    clear hNX hGS
    go_wp2
    rw [← HWL.out.1, ← HWL.out.2]
    refine wp_region_x (R := fun _ => True) (S := fun U => U.heap[g4]? = some (.cells #[.slice an' s cn', .slice ag' s cg'] 25 (0, 0))) (z := 11) rfl ?_
    change wpAnyX _ _ _ _ _ _ _ _ _ _ wv.drew
    have hJd := hJv.quiet ((Below.refl _ wv).drew)
    have hBd := hBv.drew
    obtain ⟨wq, hwq⟩ : ∃ q, q = wv.drew := ⟨_, rfl⟩
    rw [← hwq] at hJd hBd ⊢
    have hSq := hJd.box
    clear hwq
    refine wpX_kp (i := 0) (oi := ⟨some 47, _, _, _, _, none⟩) (v := ?_) rfl (fun _ _ _ h => h) ?_ ⟨trivial, fun _ => hSq⟩ ?_
    rotate_left
    ·intro U hU
     go_simp
     all_goals with_reducible rfl
    simp only [putE]
    refine wpAnyX_take (i := 1) (oi := ⟨some 48, _, _, _, _, none⟩) (v := ?_) rfl (by kernel_rfl) (by kernel_rfl) (by kernel_rfl) (fun _ _ _ h => h) (Or.inl ⟨by rfl, ?_⟩) ⟨trivial, fun _ => hSq⟩ ?_
    rotate_left
    ·intro U hU
     have u0 := cell_blk (i := 0) hU.2
     simp only [List.getElem?_toArray, List.getElem?_cons_zero] at u0
     go_simp
     all_goals with_reducible rfl
    simp only [putE]
    refine wpX_kp (i := 2) (oi := ⟨some 49, _, _, _, _, none⟩) (v := ?_) rfl (fun _ _ _ h => h) ?_ ⟨trivial, fun _ => hSq⟩ ?_
    rotate_left
    ·intro U hU
     go_simp
     all_goals with_reducible rfl
    simp only [putE]
    refine wpX_kp (i := 5) (oi := ⟨some 52, _, _, _, _, none⟩) (v := ?_) rfl (fun _ _ _ h => h) ?_ ⟨trivial, fun _ => hSq⟩ ?_
    rotate_left
    ·intro U hU
     go_simp
     all_goals with_reducible rfl
    simp only [putE]
    refine wpAnyX_take (i := 6) (oi := ⟨some 53, _, _, _, _, none⟩) (v := ?_) rfl (by kernel_rfl) (by kernel_rfl) (by kernel_rfl) (fun _ _ _ h => h) (Or.inl ⟨by rfl, ?_⟩) ⟨trivial, fun _ => hSq⟩ ?_
    rotate_left
    ·intro U hU
     have u0 := cell_blk (i := 1) hU.2
     simp only [List.getElem?_toArray, List.getElem?_cons_zero, List.getElem?_cons_succ] at u0
     go_simp
     all_goals with_reducible rfl
    simp only [putE]
    refine wpX_kp (i := 7) (oi := ⟨some 54, _, _, _, _, none⟩) (v := ?_) rfl (fun _ _ _ h => h) ?_ ⟨trivial, fun _ => hSq⟩ ?_
    rotate_left
    ·intro U hU
     go_simp
     all_goals with_reducible rfl
    simp only [putE]
    refine (fun (FIN : KeyP (?P8 : Prop)) => ?main8) ⟨?key8⟩
    case main8 =>
     refine wpAnyX_ready (rs := [3, 8]) (by kernel_rfl) (by simp) ?_
     refine AllReadyX.cons (o := ⟨some 50, _, _, _, _, none⟩) rfl (by rfl) (fun K1 hK1 => ?_) ?_
     ·have HK1 := Lib.hid hK1; clear hK1
      have hK1 := HK1.out
      clear HK1
      go_simp
      obtain ⟨wa, hwa⟩ : ∃ q, q = wq.alloc (.cells #[.slice (some ⟨g10, 0, none⟩) 2 2] 40) := ⟨_, rfl⟩
      rw [← hwa]
      have hbwa : Below wq.heap.size wq wa := by rw [hwa]; exact (Below.refl _ _).alloc (Nat.le_refl _) _
      obtain ⟨p3, hp3⟩ : ∃ g, g = wq.heap.size := ⟨_, rfl⟩
      have bp3 : wa.heap[p3]? = some (.cells #[.slice (some ⟨g10, 0, none⟩) 2 2] 40 (0, 0)) := by rw [hwa, hp3]; exact heap_newI rfl
      rw [← hp3]
      clear hwa hp3
      have hJwa := hJd.quiet hbwa
      have hBwa := hBd.trans (hbwa.mono (by have := hBd.size; rw [HBS.out] at *; omega))
      refine hK1 _ _ ⟨trivial, fun _ => hJwa.box⟩ ?_
      clear hK1
      try simp only [putE]
      refine wpAnyX_ready (rs := [4, 8]) (by kernel_rfl) (by simp) ?_
      refine AllReadyX.cons (o := ⟨some 51, _, _, _, _, none⟩) rfl (by rfl) (fun K1 hK1 => ?_) ?_
      ·have HK1 := Lib.hid hK1; clear hK1
       have hbz1 : bs ≤ wa.heap.size := by have := hBwa.size; rw [HBS.out] at *; omega
       refine oper_app (.tmp 48) (.tmp 50) 22 40 rfl Try.underlying22 info40 rfl (by decide) (xs := us) hJwa.on (by rw [hul]; omega) rfl rfl bp3 rfl hbz1 ?_
       intro vn' wb qn gn en
       obtain ⟨an2, cn2, en2, -⟩ := own_form qn
       rw [hul] at en2
       subst en2
       have hSwb : wb.heap[g4]? = some (.cells #[.slice an' s cn', .slice ag' s cg'] 25 (0, 0)) := (gn.block g4 (lt_blk hJwa.box) (fun e => by have := own_ty hJwa.on e.symm hJwa.box; cases this)).trans hJwa.box
       have hBwb := below_ow3 HBS.out hBwa hJwa.on gn
       have ogwb : wb.ownsRow bs 4 1 (.slice ag' s cg') GS.length (GS.map Value.bool) := own_grown hJwa.og hJwa.on (by decide) gn
       refine HK1.out _ _ ⟨trivial, fun _ => hSwb⟩ ?_
       clear HK1
       try simp only [putE]
       refine wpX_kp (i := 10) (oi := ⟨some 57, _, _, _, _, none⟩) (v := ?_) rfl (fun _ _ _ h => h) ?_ ⟨trivial, fun _ => hSwb⟩ ?_
       rotate_left
       ·intro U hU
        go_simp
        all_goals with_reducible rfl
       simp only [putE]
       refine wpAnyX_one (i := 8) (o := ⟨some 55, _, _, _, _, none⟩) (by kernel_rfl) rfl (by rfl) (fun K1 hK1 => ?_)
       have HK1 := Lib.hid hK1; clear hK1
       have hK1 := HK1.out
       clear HK1
       go_simp
       obtain ⟨wc, hwc⟩ : ∃ q, q = wb.alloc (.cells #[.bool true] 4) := ⟨_, rfl⟩
       rw [← hwc]
       have hbwc : Below wb.heap.size wb wc := by rw [hwc]; exact (Below.refl _ _).alloc (Nat.le_refl _) _
       obtain ⟨p10, hp10⟩ : ∃ g, g = wb.heap.size := ⟨_, rfl⟩
       have bp10 : wc.heap[p10]? = some (.cells #[.bool true] 4 (0, 0)) := by rw [hwc, hp10]; exact heap_newI rfl
       rw [← hp10]
       clear hwc hp10
       have hSwc := blk_keep hSwb hbwc
       have hBwc := hBwb.trans (hbwc.mono (by have := hBwb.size; rw [HBS.out] at *; omega))
       have ogwc := own_same ogwb fun i hi => hbwc.block i (own_lt ogwb hi).2.1
       refine hK1 _ _ ⟨trivial, fun _ => hSwc⟩ ?_
       clear hK1
       try simp only [putE]
       refine wpAnyX_one (i := 9) (o := ⟨some 56, _, _, _, _, none⟩) (by kernel_rfl) rfl (by rfl) (fun K1 hK1 => ?_)
       have HK1 := Lib.hid hK1; clear hK1
       have hbz3 : bs ≤ wc.heap.size := by have := hBwc.size; rw [HBS.out] at *; omega
       refine oper_app (.tmp 53) (.tmp 55) 23 4 rfl Try.underlying23 info4 rfl (by decide) (xs := GS.map Value.bool) (by rw [List.length_map]; exact ogwc) (by rw [List.length_map, hgl]; omega) rfl rfl bp10 rfl hbz3 ?_
       intro vg' we qg gg eg
       rw [List.length_map] at qg
       obtain ⟨ag2, cg2, eg2, -⟩ := own_form qg
       rw [hgl] at eg2
       subst eg2
       have hBwe := below_ow3 HBS.out hBwc ogwc gg
       have hRG := hJd.rowG (by simp) hbwa qn gn en hbwc qg gg
       have hfin : RK bs g4 (fun i => Z i ∨ (Value.slice (some ⟨g10, 0, none⟩) 2 2).ownBlock = some i) ((we.setCell ⟨g4, 0, none⟩ (.slice an2 (s + 1) cn2)).setCell ⟨g4, 1, none⟩ (.slice ag2 (s + 1) cg2)) (.slice none 0 0) (.slice an2 (s + 1) cn2) (.slice ag2 (s + 1) cg2) [] (us ++ [.slice (some ⟨g10, 0, none⟩) 2 2]) (NX ++ [[x0, x1]]) (GS ++ [true]) ∧ we.heap[g4]? = some (.cells #[.slice an' s cn', .slice ag' s cg'] 25 (0, 0)) ∧ Below bs w1 we := ⟨hRG.1, hRG.2, hBwe⟩
       have hS4 := hRG.2
       refine HK1.out _ _ ⟨trivial, fun _ => hS4⟩ ?_
       clear HK1
       try simp only [putE]
       clear hRG hS4 hBwe hbz1 hbz3 eg gg qg ogwc hBwc hSwc bp10 hbwc ogwb hBwb hSwb en gn qn hJwa hBwa bp3 hbwa
       revert hfin; revert we; revert cg2; revert ag2; revert cn2; revert an2; revert p10; revert p3
       exact FIN.out
      refine AllReadyX.cons (o := ⟨some 55, _, _, _, _, none⟩) rfl (by rfl) (fun K1 hK1 => ?_) AllReadyX.nil
      have HK1 := Lib.hid hK1; clear hK1
      have hK1 := HK1.out
      clear HK1
      go_simp
      obtain ⟨wc, hwc⟩ : ∃ q, q = wa.alloc (.cells #[.bool true] 4) := ⟨_, rfl⟩
      rw [← hwc]
      have hbwc : Below wa.heap.size wa wc := by rw [hwc]; exact (Below.refl _ _).alloc (Nat.le_refl _) _
      obtain ⟨p10, hp10⟩ : ∃ g, g = wa.heap.size := ⟨_, rfl⟩
      have bp10 : wc.heap[p10]? = some (.cells #[.bool true] 4 (0, 0)) := by rw [hwc, hp10]; exact heap_newI rfl
      rw [← hp10]
      clear hwc hp10
      have hJwc := hJwa.quiet hbwc
      have hBwc := hBwa.trans (hbwc.mono (by have := hBwa.size; rw [HBS.out] at *; omega))
      refine hK1 _ _ ⟨trivial, fun _ => hJwc.box⟩ ?_
      clear hK1
      try simp only [putE]
      refine wpAnyX_one (i := 4) (o := ⟨some 51, _, _, _, _, none⟩) (by kernel_rfl) rfl (by rfl) (fun K1 hK1 => ?_)
      have HK1 := Lib.hid hK1; clear hK1
      have hbz1 : bs ≤ wc.heap.size := by have := hBwc.size; rw [HBS.out] at *; omega
      refine oper_app (.tmp 48) (.tmp 50) 22 40 rfl Try.underlying22 info40 rfl (by decide) (xs := us) hJwc.on (by rw [hul]; omega) rfl rfl (blk_keep bp3 hbwc) rfl hbz1 ?_
      intro vn' wb qn gn en
      obtain ⟨an2, cn2, en2, -⟩ := own_form qn
      rw [hul] at en2
      subst en2
      have hSwb : wb.heap[g4]? = some (.cells #[.slice an' s cn', .slice ag' s cg'] 25 (0, 0)) := (gn.block g4 (lt_blk hJwc.box) (fun e => by have := own_ty hJwc.on e.symm hJwc.box; cases this)).trans hJwc.box
      have hBwb := below_ow3 HBS.out hBwc hJwc.on gn
      have ogwb : wb.ownsRow bs 4 1 (.slice ag' s cg') GS.length (GS.map Value.bool) := own_grown hJwc.og hJwc.on (by decide) gn
      refine HK1.out _ _ ⟨trivial, fun _ => hSwb⟩ ?_
      clear HK1
      try simp only [putE]
      refine wpX_kp (i := 10) (oi := ⟨some 57, _, _, _, _, none⟩) (v := ?_) rfl (fun _ _ _ h => h) ?_ ⟨trivial, fun _ => hSwb⟩ ?_
      rotate_left
      ·intro U hU
       go_simp
       all_goals with_reducible rfl
      simp only [putE]
      have bp10b := blk_grown hJwc.on gn bp10 (by decide)
      refine wpAnyX_one (i := 9) (o := ⟨some 56, _, _, _, _, none⟩) (by kernel_rfl) rfl (by rfl) (fun K1 hK1 => ?_)
      have HK1 := Lib.hid hK1; clear hK1
      have hbz3 : bs ≤ wb.heap.size := by have := hBwb.size; rw [HBS.out] at *; omega
      refine oper_app (.tmp 53) (.tmp 55) 23 4 rfl Try.underlying23 info4 rfl (by decide) (xs := GS.map Value.bool) (by rw [List.length_map]; exact ogwb) (by rw [List.length_map, hgl]; omega) rfl rfl bp10b rfl hbz3 ?_
      intro vg' we qg gg eg
      rw [List.length_map] at qg
      obtain ⟨ag2, cg2, eg2, -⟩ := own_form qg
      rw [hgl] at eg2
      subst eg2
      have hBwe := below_ow3 HBS.out hBwb ogwb gg
      have hRG := hJd.rowG (by simp) (btr hbwa hbwc (Nat.le_refl _)) qn gn en (Below.refl _ _) qg gg
      have hfin : RK bs g4 (fun i => Z i ∨ (Value.slice (some ⟨g10, 0, none⟩) 2 2).ownBlock = some i) ((we.setCell ⟨g4, 0, none⟩ (.slice an2 (s + 1) cn2)).setCell ⟨g4, 1, none⟩ (.slice ag2 (s + 1) cg2)) (.slice none 0 0) (.slice an2 (s + 1) cn2) (.slice ag2 (s + 1) cg2) [] (us ++ [.slice (some ⟨g10, 0, none⟩) 2 2]) (NX ++ [[x0, x1]]) (GS ++ [true]) ∧ we.heap[g4]? = some (.cells #[.slice an' s cn', .slice ag' s cg'] 25 (0, 0)) ∧ Below bs w1 we := ⟨hRG.1, hRG.2, hBwe⟩
      have hS4 := hRG.2
      refine HK1.out _ _ ⟨trivial, fun _ => hS4⟩ ?_
      clear HK1
      try simp only [putE]
      exact FIN.out p3 p10 an2 cn2 ag2 cg2 we hfin
     refine AllReadyX.cons (o := ⟨some 55, _, _, _, _, none⟩) rfl (by rfl) (fun K1 hK1 => ?_) AllReadyX.nil
     have HK1 := Lib.hid hK1; clear hK1
     have hK1 := HK1.out
     clear HK1
     go_simp
     obtain ⟨wa, hwa⟩ : ∃ q, q = wq.alloc (.cells #[.bool true] 4) := ⟨_, rfl⟩
     rw [← hwa]
     have hbwa : Below wq.heap.size wq wa := by rw [hwa]; exact (Below.refl _ _).alloc (Nat.le_refl _) _
     obtain ⟨p10, hp10⟩ : ∃ g, g = wq.heap.size := ⟨_, rfl⟩
     have bp10 : wa.heap[p10]? = some (.cells #[.bool true] 4 (0, 0)) := by rw [hwa, hp10]; exact heap_newI rfl
     rw [← hp10]
     clear hwa hp10
     have hJwa := hJd.quiet hbwa
     have hBwa := hBd.trans (hbwa.mono (by have := hBd.size; rw [HBS.out] at *; omega))
     refine hK1 _ _ ⟨trivial, fun _ => hJwa.box⟩ ?_
     clear hK1
     try simp only [putE]
     refine wpAnyX_one (i := 3) (o := ⟨some 50, _, _, _, _, none⟩) (by kernel_rfl) rfl (by rfl) (fun K1 hK1 => ?_)
     have HK1 := Lib.hid hK1; clear hK1
     have hK1 := HK1.out
     clear HK1
     go_simp
     obtain ⟨wc, hwc⟩ : ∃ q, q = wa.alloc (.cells #[.slice (some ⟨g10, 0, none⟩) 2 2] 40) := ⟨_, rfl⟩
     rw [← hwc]
     have hbwc : Below wa.heap.size wa wc := by rw [hwc]; exact (Below.refl _ _).alloc (Nat.le_refl _) _
     obtain ⟨p3, hp3⟩ : ∃ g, g = wa.heap.size := ⟨_, rfl⟩
     have bp3 : wc.heap[p3]? = some (.cells #[.slice (some ⟨g10, 0, none⟩) 2 2] 40 (0, 0)) := by rw [hwc, hp3]; exact heap_newI rfl
     rw [← hp3]
     clear hwc hp3
     have hJwc := hJwa.quiet hbwc
     have hBwc := hBwa.trans (hbwc.mono (by have := hBwa.size; rw [HBS.out] at *; omega))
     have bp10c := blk_keep bp10 hbwc
     refine hK1 _ _ ⟨trivial, fun _ => hJwc.box⟩ ?_
     clear hK1
     try simp only [putE]
     refine wpAnyX_one (i := 4) (o := ⟨some 51, _, _, _, _, none⟩) (by kernel_rfl) rfl (by rfl) (fun K1 hK1 => ?_)
     have HK1 := Lib.hid hK1; clear hK1
     have hbz1 : bs ≤ wc.heap.size := by have := hBwc.size; rw [HBS.out] at *; omega
     refine oper_app (.tmp 48) (.tmp 50) 22 40 rfl Try.underlying22 info40 rfl (by decide) (xs := us) hJwc.on (by rw [hul]; omega) rfl rfl bp3 rfl hbz1 ?_
     intro vn' wb qn gn en
     obtain ⟨an2, cn2, en2, -⟩ := own_form qn
     rw [hul] at en2
     subst en2
     have hSwb : wb.heap[g4]? = some (.cells #[.slice an' s cn', .slice ag' s cg'] 25 (0, 0)) := (gn.block g4 (lt_blk hJwc.box) (fun e => by have := own_ty hJwc.on e.symm hJwc.box; cases this)).trans hJwc.box
     have hBwb := below_ow3 HBS.out hBwc hJwc.on gn
     have ogwb : wb.ownsRow bs 4 1 (.slice ag' s cg') GS.length (GS.map Value.bool) := own_grown hJwc.og hJwc.on (by decide) gn
     refine HK1.out _ _ ⟨trivial, fun _ => hSwb⟩ ?_
     clear HK1
     try simp only [putE]
     refine wpX_kp (i := 10) (oi := ⟨some 57, _, _, _, _, none⟩) (v := ?_) rfl (fun _ _ _ h => h) ?_ ⟨trivial, fun _ => hSwb⟩ ?_
     rotate_left
     ·intro U hU
      go_simp
      all_goals with_reducible rfl
     simp only [putE]
     have bp10b := blk_grown hJwc.on gn bp10c (by decide)
     refine wpAnyX_one (i := 9) (o := ⟨some 56, _, _, _, _, none⟩) (by kernel_rfl) rfl (by rfl) (fun K1 hK1 => ?_)
     have HK1 := Lib.hid hK1; clear hK1
     have hbz3 : bs ≤ wb.heap.size := by have := hBwb.size; rw [HBS.out] at *; omega
     refine oper_app (.tmp 53) (.tmp 55) 23 4 rfl Try.underlying23 info4 rfl (by decide) (xs := GS.map Value.bool) (by rw [List.length_map]; exact ogwb) (by rw [List.length_map, hgl]; omega) rfl rfl bp10b rfl hbz3 ?_
     intro vg' we qg gg eg
     rw [List.length_map] at qg
     obtain ⟨ag2, cg2, eg2, -⟩ := own_form qg
     rw [hgl] at eg2
     subst eg2
     have hBwe := below_ow3 HBS.out hBwb ogwb gg
     have hRG := hJd.rowG (by simp) (btr hbwa hbwc (Nat.le_refl _)) qn gn en (Below.refl _ _) qg gg
     have hfin : RK bs g4 (fun i => Z i ∨ (Value.slice (some ⟨g10, 0, none⟩) 2 2).ownBlock = some i) ((we.setCell ⟨g4, 0, none⟩ (.slice an2 (s + 1) cn2)).setCell ⟨g4, 1, none⟩ (.slice ag2 (s + 1) cg2)) (.slice none 0 0) (.slice an2 (s + 1) cn2) (.slice ag2 (s + 1) cg2) [] (us ++ [.slice (some ⟨g10, 0, none⟩) 2 2]) (NX ++ [[x0, x1]]) (GS ++ [true]) ∧ we.heap[g4]? = some (.cells #[.slice an' s cn', .slice ag' s cg'] 25 (0, 0)) ∧ Below bs w1 we := ⟨hRG.1, hRG.2, hBwe⟩
     have hS4 := hRG.2
     refine HK1.out _ _ ⟨trivial, fun _ => hS4⟩ ?_
     clear HK1
     try simp only [putE]
     exact FIN.out p3 p10 an2 cn2 ag2 cg2 we hfin
    case key8 =>
     intro p3 p10 an2 cn2 ag2 cg2 we hfin
     have y0 := cell_blk (i := 0) hfin.2.1
     have f0 := free_blk (i := 0) hfin.2.1
     simp only [List.getElem?_toArray, List.getElem?_cons_zero] at y0
     refine wpAnyX_one (i := 11) (o := ⟨none, _, _, _, _, none⟩) (by kernel_rfl) rfl (by rfl) (fun K1 hK1 => ?_)
     have HK1 := Lib.hid hK1; clear hK1
     go_simp
     have hb1' := heap_set_blk (i := 0) (v := .slice an2 (s + 1) cn2) hfin.2.1
     refine HK1.out _ _ ⟨trivial, fun h => by simp at h⟩ ?_
     clear HK1
     try simp only [putE]
     refine wpX_kp (i := 12) (oi := ⟨some 58, _, _, _, _, none⟩) (v := ?_) rfl (fun _ _ _ h => h) ?_ ⟨trivial, fun h => by simp at h⟩ ?_
     rotate_left
     ·intro U hU
      go_simp
      all_goals with_reducible rfl
     simp only [putE]
     have y1 := cell_blk (i := 1) hb1'
     have f1 := free_blk (i := 1) hb1'
     simp only [List.getElem?_toArray, List.setIfInBounds_toArray, List.set_cons_zero, List.getElem?_cons_zero, List.getElem?_cons_succ] at y1
     refine wpAnyX_one (i := 13) (o := ⟨none, _, _, _, _, none⟩) (by kernel_rfl) rfl (by rfl) (fun K1 hK1 => ?_)
     have HK1 := Lib.hid hK1; clear hK1
     go_simp
     refine HK1.out _ _ ⟨trivial, fun h => by simp at h⟩ ?_
     clear HK1
     try simp only [putE]
     refine wpAnyX_done (by kernel_rfl) ?_ _
     obtain ⟨hR, -, hB4⟩ := hfin
     have hBf : Below bs w1 ((we.setCell ⟨g4, 0, none⟩ (.slice an2 (s + 1) cn2)).setCell ⟨g4, 1, none⟩ (.slice ag2 (s + 1) cg2)) := (hB4.setCell (p := ⟨g4, 0, none⟩) HG4.out _).setCell (p := ⟨g4, 1, none⟩) HG4.out _
     have hnx : NX ++ [[x0, x1]] = (mkL (s + 1) FF GF).nx := by rw [(mkL_succ s FF GF).1, ← HNG.out.1, ← HX.out.1]
     have hgd : GS ++ [true] = (mkL (s + 1) FF GF).gd := by rw [(mkL_succ s FF GF).2, ← HNG.out.2, ← HX.out.2]
     rw [hnx, hgd] at hR
     have HF := Lib.hid (And.intro hR hBf)
     clear hR hB4 hBf hnx hgd hSq hJd hBd hJv hBv
     go_wp2
     exact ⟨⟨s + 1, _, _, _, _, by omega, by go_num, HF⟩, by simp only [intOf]; omega⟩
  ·have hsi : ¬ (s : Int) < (N : Int) := by omega
   have hse : s = N := by omega
   obtain ⟨hJ, hB⟩ := HJ1.out
   rw [hse] at hJ
   have hul : us.length = N := by rw [hJ.rn.1, (mkL_len N FF GF).1]
   have HJF := Lib.hid hJ
   have hX := hJ.law (by omega) (by rw [(mkL_len N FF GF).2]; omega)
   have hL : (⟨(mkL N FF GF).nx, (mkL N FF GF).gd⟩ : Lw) = madeL ts := by rw [madeL, ← HN.out, ← HFF.out.1, ← HFF.out.2]
   rw [hL] at hX
   have HX := Lib.hid hX
   have HB := Lib.hid hB
   have HUL := Lib.hid hul
   have HLL := Lib.hid hL
   have HC := Lib.hid ((hB.block g2 HBW.out).trans HC2.out)
   clear hJ hB hul hX hL hse HJ1
   go_wp2_with (first | (refine wpList_load_blk rfl 25 _ rfl _ rfl HX.out.blk Try.underlying25 rfl size25 rfl ?_) | (refine wpList_store_blk rfl 25 _ _ rfl _ rfl rfl HC.out size25 rfl rfl HX.out.law.one ?_))
   refine bodyPost_ret (results_blk rfl _ _ g2 rfl (World.putObj_heap_same (lt_blk HC.out)) Try.underlying25 rfl size25 rfl) rfl ?_
   have hw := HBW.out
   refine ⟨_, _, rfl, ?_, below_putObj (HB1.out.trans (HB.out.mono (by omega))) (Nat.le_refl _)⟩
   have hJ2 := HJF.out.same (W' := wo.putObj g2 (.cells #[vn, vg] 25)) (B := bs) ⟨Nat.le_refl _, HG4.out⟩ (by rw [World.putObj_size]; exact Nat.le_refl _) (fun i hi _ => World.putObj_heap_other (by omega))
   have h2 := hJ2.law (by have := HUL.out; omega) (by rw [(mkL_len N FF GF).2]; omega)
   rw [HLL.out] at h2
   exact h2.law
end Ytnjgglnpmhjmiaa
end Go.Proofs
