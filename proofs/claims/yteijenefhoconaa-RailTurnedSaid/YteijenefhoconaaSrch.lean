/- The search for a plan: it stops by a panic that bears the plan. -/
import Derived.Test.YteijenefhoconaaGood
import Derived.Test.YteijenefhoconaaDrawn
open Go Go.RowKit Go.YteijenefhoconaaIt
namespace Go
namespace YteijenefhoconaaIt
open Go.Proofs.Yteijenefhoconaa
theorem Kx.mono {B B' : Nat} {TT : TypeId → Prop} {X Y : World} (h : Kx B TT X Y) (hB : B ≤ B') : Kx B' TT X Y := ⟨h.size, fun k o hk => h.same k o (Nat.le_trans hB hk), h.typed⟩
theorem Stb.kx {B n : Nat} {TT : TypeId → Prop} {X : World} (hX : X.heap.size ≤ B) : Stb B (fun W => Kx n TT X W) := fun _ _ g h =>
  ⟨Nat.le_trans h.size g.size,
   fun k o hk ho hc => (g.block k (Array.getElem?_eq_some_iff.1 (h.same k o hk ho hc)).1 (.inl (Nat.lt_of_lt_of_le (Array.getElem?_eq_some_iff.1 ho).1 hX))).trans (h.same k o hk ho hc),
   fun k c t fr hk ht => (g.block k (Array.getElem?_eq_some_iff.1 (h.typed k c t fr hk ht)).1 (.inl (Nat.lt_of_lt_of_le (Array.getElem?_eq_some_iff.1 hk).1 hX))).trans (h.typed k c t fr hk ht)⟩
section
variable {P : Program}
theorem yieldsIf_load_one {ops : Array Oper} {S : World → Prop} {o : Oper} {a : Act} {b : Nat} {v : Value} {d : TypeDesc} (hw : Region.wanted o (yielded ops a.tmps) = true) (ty : TypeId) (x : Operand) (ho : o.op = .load ty x)
    (hx : a.eval x = .pointer (some ⟨b, 0, none⟩)) (hc : ∀ w, S w → w.cell? ⟨b, 0, none⟩ = some v) (hu : P.underlying ty = some d) (hd : (match d with | .struct _ | .array _ _ => true | _ => false) = false) : YieldsIf P ops S o v a := by
  refine .inl ⟨hw, fun w hS => ?_⟩
  unfold execOp
  simp only [ho, hx, Instr.loadAt, Instr.sureAddr, Sem.run_bind, Sem.run_pure, Result.andThen_ok, run_loadVar_one (hc w hS) hu hd]
theorem yieldsIf_load_blk {ops : Array Oper} {S : World → Prop} {o : Oper} {a : Act} {b : Nat} {t : TypeId} {cs : Array Value} {fr : Nat × Nat} {d : TypeDesc} (hw : Region.wanted o (yielded ops a.tmps) = true) (ty : TypeId) (x : Operand) (ho : o.op = .load ty x)
    (hx : a.eval x = .pointer (some ⟨b, 0, none⟩)) (hg : ∀ w, S w → w.heap[b]? = some (.cells cs t fr)) (hu : P.underlying ty = some d) (hd : (match d with | .struct _ | .array _ _ => true | _ => false) = true)
    {k : Nat} (hi : (P.info? ty).map (·.size) = some k) (hk : cs.size = k) : YieldsIf P ops S o (.agg cs) a := by
  subst hk
  refine .inl ⟨hw, fun w hS => ?_⟩
  unfold execOp
  simp only [ho, hx, Instr.loadAt, Instr.sureAddr, Sem.run_bind, Sem.run_pure, Result.andThen_ok, run_loadVar_row w b t ty cs fr d (hg w hS) hu hd hi]
theorem yieldsIf_move {ops : Array Oper} {S : World → Prop} {o : Oper} {a : Act} (hw : Region.wanted o (yielded ops a.tmps) = true) (x : Operand) (ho : o.op = .move x) : YieldsIf P ops S o (a.eval x) a := by
  refine .inl ⟨hw, fun w hS => ?_⟩
  unfold execOp
  simp only [ho, Sem.run_pure]
/-- An append onto a slice of the call's own, as one step. -/
theorem oper_append_own {o : Oper} {a : Act} {w : World} {K : Act → World → Prop} {Q : Exit → Act → World → Prop}
    (s x : Operand) (t : TypeId) (hop : o.op = Op.call { callee := Callee.builtin Builtin.append, args := #[s, x], argTypes := #[t, t] })
    (base e : Nat) (i : TypeInfo) (z : Value) (size bytes : Nat) (h1 : P.underlying t = some (.slice e)) (h2 : P.info? e = some i) (h3 : i.zero = some z) (h4 : i.size = size) (h5 : i.bytes = bytes) (h6 : z.cells.size = size) (h7 : 0 < size)
    (v : Value) (n : Nat) (xs : List Value) (hs : a.eval s = v) (hown : w.ownsRow base e size v n xs)
    (ad : Addr) (m c : Nat) (news : List Value) (hx : a.eval x = .slice (some ad) m c) (hn : news.length = m * size) (hc : ∀ j u, news[j]? = some u → w.cell? (ad.add j) = some u) (h1c : ∀ u ∈ news, u.oneCell' = true)
    (b1 : n + m ≤ maxLen) (b2 : (n + m) * bytes ≤ 140737488355328) (hbase : base ≤ w.heap.size)
    (hK : ∀ v' w', w'.ownsRow base e size v' (n + m) (xs ++ news) → w.grownBy w' v.ownBlock → K (a.put o.dst v') w') : Oper.wp P o a w K Q := by
  obtain ⟨v', w', hrun, r1, r2, _⟩ := run_append_own (P := P) w base t o.type e i z size bytes h1 h2 h3 h4 h5 h6 h7 v n xs hown ad m c news hn hc h1c b1 b2 hbase
  unfold Oper.wp
  simp [execOp, hop, resolve, invoke, builtin, hs, hx, hrun, Result.andThen]
  exact hK v' w' r1 r2
theorem append_same {W w1 : World} {base : Nat} {e : TypeId} {sz : Nat} {v : Value} {n : Nat} {xs : List Value} {o : Obj} (ho : W.ownsRow base e sz v n xs) (hg : (W.alloc o).drew.grownBy w1 v.ownBlock) :
    (∀ k, k < W.heap.size → v.ownBlock ≠ some k → w1.heap[k]? = W.heap[k]?) ∧ W.heap.size + 1 ≤ w1.heap.size ∧ (base ≤ W.heap.size → Below base W w1) := by
  have hsz : (W.alloc o).drew.heap.size = W.heap.size + 1 := by show (W.alloc o).heap.size = _; rw [World.size_alloc]
  have h1 : ∀ k, k < W.heap.size → v.ownBlock ≠ some k → w1.heap[k]? = W.heap[k]? := fun k hk hne => by
    rw [hg.block k (by omega) (fun h => hne h.symm)]
    exact heap_oldI hk
  refine ⟨h1, by have := hg.size; omega, fun hb => ⟨hg.os, hg.tape, hg.output, by have := hg.size; omega, fun k hk => h1 k (by omega) (fun h => by have := (ho.lt k h).1; omega)⟩⟩
theorem own_ne {W : World} {base k : Nat} {e : TypeId} {sz : Nat} {v : Value} {n : Nat} {xs : List Value} {c : Array Value} {t : TypeId} {fr : Nat × Nat} (ho : W.ownsRow base e sz v n xs) (h : W.heap[k]? = some (.cells c t fr)) (ht : t ≠ e) : v.ownBlock ≠ some k := by
  rcases ho.2 with ⟨rfl, _⟩ | ⟨g, cap, cur, rfl, hbg, hh, _⟩
  · simp [Value.ownBlock]
  · intro hk
    have hg : g = k := by simpa [Value.ownBlock] using hk
    subst hg
    rw [h] at hh
    cases hh
    exact ht rfl
theorem append_kx {W w1 : World} {base B : Nat} {TT : TypeId → Prop} {e : TypeId} {sz : Nat} {v : Value} {n : Nat} {xs : List Value} {o : Obj} (ho : W.ownsRow base e sz v n xs) (hg : (W.alloc o).drew.grownBy w1 v.ownBlock) (he : ¬ TT e) : Kx B TT W w1 := by
  obtain ⟨h1, h2, -⟩ := append_same ho hg
  rcases ho.2 with ⟨rfl, _⟩ | ⟨g, cap, cur, rfl, hbg, hh, _⟩
  · exact ⟨by omega, fun k _ _ h _ => (h1 k (Array.getElem?_eq_some_iff.1 h).1 (by simp [Value.ownBlock])).trans h, fun k _ _ _ h _ => (h1 k (Array.getElem?_eq_some_iff.1 h).1 (by simp [Value.ownBlock])).trans h⟩
  · exact Kx.one (b := g) hh he (by omega) (fun k hk hne => h1 k hk (by simpa [Value.ownBlock] using fun h => hne h.symm))
end
end YteijenefhoconaaIt
namespace Proofs
namespace Yteijenefhoconaa
/-- The plan that is found: the first move after which the state is safe, and so on. -/
def planF : Nat → List Int → List Int → List Int → List Int
  | 0, _, _, _ => []
  | n + 1, L, T, A => match (movL L T A).find? (fun i => safeB L T (after L T A i)) with
    | none => []
    | some i => (i : Int) :: planF n L T (after L T A i)
def planL (L T A : List Int) : List Int := planF (left A T) L T A
theorem planF_nil {L T A : List Int} (h : wayL A T = []) (n : Nat) : planF n L T A = [] := by
  cases n with
  | zero => rfl
  | succ n => simp [planF, mov_nil (L := L) h]
theorem planL_nil {L T A : List Int} (h : wayL A T = []) : planL L T A = [] := planF_nil h _
theorem planL_step {L T A : List Int} (ok : Okt L T A) {i : Nat} (h : (movL L T A).find? (fun i => safeB L T (after L T A i)) = some i) : planL L T A = (i : Int) :: planL L T (after L T A i) := by
  obtain ⟨h1, h2, h3⟩ := mov_mem (List.mem_of_find?_eq_some h)
  have hl := left_after ok h1 h2 h3
  unfold planL
  rw [← hl]
  simp [planF, h]
theorem find_at {α : Type} {p : α → Bool} : ∀ {l : List α} {k : Nat} (hk : k < l.length), (l.take k).any p = false → p l[k] = true → l.find? p = some l[k]
  | x :: l, 0, _, _, h => by simpa using List.find?_cons_of_pos (l := l) h
  | x :: l, k + 1, hk, h0, h => by
    simp only [List.take_succ_cons, List.any_cons, Bool.or_eq_false_iff] at h0
    rw [List.find?_cons_of_neg (by simp [h0.1])]
    exact find_at (by simpa using hk) h0.2 h
/-- What holds where the search stops. -/
structure SrP (L T A done : List Int) (w : World) (base bm : Nat) (ch : List PanicEntry) (V : World) : Prop where
  ex : ∃ v, ch = [{ v := .iface 123 v, recovered := false }] ∧ V.ownsRow base 3 1 v (done ++ planL L T A).length ((done ++ planL L T A).map (.int .i64))
  bm_ : Bm bm base w V
  kx : Kx (bm + 1) TTm w V
/-- What holds before round k of the search's loop. -/
structure SrI (L T A done : List Int) (w : World) (vd : Value) (base B5 b4 bx bm b2 b5 : Nat) (k : Nat) (V : World) : Prop where
  x : V.heap[b4]? = some (.cells #[.pointer (some ⟨bx, 0, none⟩)] 82 (0, 0))
  at_ : V.heap[b4 + 1]? = some (.cells (arr A) 84 (0, 0))
  v5 : V.heap[B5]? = some (.cells #[vd] 22 (0, 0))
  c2 : V.heap[b2]? = some (.cells #[.pointer (some ⟨bx, 0, none⟩)] 82 (0, 0))
  c5 : V.heap[b5]? = some (.cells #[.func (.func 78) #[] #[.pointer (some ⟨b2, 0, none⟩), .pointer (some ⟨b5, 0, none⟩)]] 126 (0, 0))
  row : V.ownsRow base 3 1 vd done.length (done.map (.int .i64))
  memo : Memo V bm (GSafe L T)
  bm_ : Bm bm base w V
  kx : Kx (bm + 1) TTm w V
  no : ((movL L T A).take k).any (fun i => safeB L T (after L T A i)) = false
theorem SrI.stb {L T A done : List Int} {w : World} {vd : Value} {base B5 b4 bx bm b2 b5 k B : Nat} (h1 : bm < B) (h2 : base ≤ w.heap.size) (h3 : w.heap.size ≤ B) : Stb B (SrI L T A done w vd base B5 b4 bx bm b2 b5 k) := fun W W' g h =>
  ⟨Stb.cells (B := B) W W' g h.x, Stb.cells (B := B) W W' g h.at_, Stb.cells (B := B) W W' g h.v5, Stb.cells (B := B) W W' g h.c2, Stb.cells (B := B) W W' g h.c5, Stb.row (B := B) W W' g h.row, Memo.stb h1 W W' g h.memo, Stb.bm (Nat.le_trans h2 h3) h2 W W' g h.bm_, Stb.kx h3 W W' g h.kx, h.no⟩
set_option maxRecDepth 100000 in
set_option maxHeartbeats 4000000 in
theorem search_any (bx bm b2 b5 base : Nat) (vL vT : Value) (L T : List Int) (w0 : World) (hw0 : w0.heap.size = base) (hT0 : Tk w0 bx bm vL vT L T) (hM0 : Memo w0 bm (GSafe L T)) : ∀ (A done : List Int) (vd : Value) (w : World), Okt L T A → safeB L T A = true → Bm bm base w0 w → Memo w bm (GSafe L T) →
    w.heap[b2]? = some (.cells #[.pointer (some ⟨bx, 0, none⟩)] 82 (0, 0)) → w.heap[b5]? = some (.cells #[.func (.func 78) #[] #[.pointer (some ⟨b2, 0, none⟩), .pointer (some ⟨b5, 0, none⟩)]] 126 (0, 0)) →
    w.ownsRow base 3 1 vd done.length (done.map (.int .i64)) → bm < base → b2 < base → b5 < base → base ≤ w.heap.size → done.length + left A T ≤ 1000 →
    Calls Try.prog 78 #[.agg (arr A), vd, .pointer (some ⟨b2, 0, none⟩), .pointer (some ⟨b5, 0, none⟩)] w fun e w' =>
      ∃ v, e = .panicked [{ v := .iface 123 v, recovered := false }] ∧ w'.ownsRow base 3 1 v (done ++ planL L T A).length ((done ++ planL L T A).map (.int .i64)) ∧ Bm bm base w w' ∧ Kx (bm + 1) TTm w w' := by
  have hTk : ∀ V, Bm bm base w0 V → Tk V bx bm vL vT L T := fun V h => hT0.bm hM0 (by rw [hw0]; exact h)
  clear hw0
  intro A
  induction hn : left A T using Nat.strongRecOn generalizing A with
  | _ n ih =>
  intro done vd w ok hsafe hB0 hM hc2 hc5 hrow hbm hb2 hb5 hbase hlen
  have hA5 : (arr A).size = 5 := by rw [arr_size, ok.a5]
  obtain ⟨ad, cap, rfl⟩ : ∃ ad cap, vd = .slice ad done.length cap := by
    rcases Joins.ownsRow_forms hrow with ⟨h, h0⟩ | ⟨g, cap, h⟩
    · exact ⟨none, 0, by rw [h0]; exact h⟩
    · exact ⟨_, _, h⟩
  have hne2 : b2 ≠ bm := by rintro rfl; obtain ⟨es, cl, h1, _⟩ := hM; rw [hc2] at h1; cases h1
  have hne5 : b5 ≠ bm := by rintro rfl; obtain ⟨es, cl, h1, _⟩ := hM; rw [hc5] at h1; cases h1
  have hT := hTk w hB0
  have HN := Lib.hid hn
  have HSF := Lib.hid hsafe
  clear hn hsafe
  refine calls_of_wpV (V := okF) Try.func78 rfl (by unfold okF; rw [Try.func78]; rfl) ?_
  simp only [Try.ntmps78, List.size_toArray, List.length_cons, List.length_nil, Nat.reduceAdd, Nat.reduceSub, Array.replicate_succ, Array.replicate_zero, List.push_toArray, List.append_toArray, List.nil_append, List.cons_append]
  refine wpV_then (fun K hK => ?_)
  have HK := Lib.hid hK; clear hK
  gi_wp2
  refine HK.out _ _ ?_; clear HK K
  generalize hw1 : World.alloc _ _ = w1
  have a4 : w1.heap[w.heap.size]? = some (.cells (arr A) 84 (0, 0)) := by rw [← hw1]; simp (disch := first | omega | (simp only [World.size_alloc]; done) | (simp only [World.size_alloc]; omega)) only [heap_newI, heap_oldI]
  have a5 : w1.heap[w.heap.size + 1]? = some (.cells #[.slice ad done.length cap] 22 (0, 0)) := by rw [← hw1]; simp (disch := first | omega | (simp only [World.size_alloc]; done) | (simp only [World.size_alloc]; omega)) only [heap_newI]
  have hb1 : Below w.heap.size w w1 := by rw [← hw1]; go_grown
  have hs1 : w.heap.size + 2 ≤ w1.heap.size := by rw [← hw1]; simp
  clear hw1
  have g2 := blk_below hc2 hb1 (lt_blk hc2)
  have g5 := blk_below hc5 hb1 (lt_blk hc5)
  have hT1 := hT.below hb1 (Nat.le_refl _)
  have c2 := cell_blk (i := 0) g2
  have c5 := cell_blk (i := 0) a5
  simp at c2 c5
  obtain ⟨acc, hacc⟩ : ∃ acc, acc = decide (wayL A T = []) := ⟨_, rfl⟩
  have HA := Lib.hid hacc
  have harr := arrived_any bx bm vL vT L T A w1 ok hT1
  rw [← hacc] at harr
  clear hacc
  cases acc
  rotate_left
  · have hw : wayL A T = [] := by simpa using HA.out.symm
    have hp := planL_nil (L := L) hw
    have HP := Lib.hid hp
    clear hp hw
    refine wpV_then (fun K hK => ?_)
    clear hK
    have hmk := fun (w : World) => show (Instr.makeInterface 123 (.slice ad done.length cap)).run Try.prog w = .ok (.iface 123 (.slice ad done.length cap)) w from rfl
    gi_wp2_with (first | (refine wpListIn_load_blk rfl 84 _ rfl _ rfl a4 Try.underlying84 rfl size84 hA5 ?_) | (gi_at_call 52; refine callsTo harr ?_; rintro e w2 ⟨rfl, hb2⟩; have e5 := blk_below a5 hb2 (lt_blk a5); have c5 := cell_blk (i := 0) e5; simp at c5))
    have hB2 : Below w.heap.size w w2 := hb1.trans (hb2.mono hb1.size)
    refine (⟨_, rfl, ?_, Bm.of (hB2.mono hbase), Kx.below hB2⟩ : ∃ v, Ending.panicked [{ v := Value.iface 123 (Value.slice ad done.length cap), recovered := false }] = Ending.panicked [{ v := Value.iface 123 v, recovered := false }] ∧ _ ∧ _ ∧ _)
    rw [HP.out, List.append_nil]
    exact Stb.row (B := 0) _ _ (Gr.below hB2) hrow
  · have hno : wayL A T ≠ [] := by simpa using HA.out.symm
    refine wpV_then (fun K hK => ?_)
    have HK := Lib.hid hK; clear hK
    gi_wp2_with (first | (refine wpListIn_load_blk rfl 84 _ rfl _ rfl a4 Try.underlying84 rfl size84 hA5 ?_) | (gi_at_call 52; refine callsTo harr ?_; rintro e w2 ⟨rfl, hb2⟩))
    refine HK.out _ _ ?_; clear HK K
    have hs2 := hb2.size
    have hB2 : Below w.heap.size w w2 := hb1.trans (hb2.mono hb1.size)
    have f4 := blk_below a4 hb2 (lt_blk a4)
    have f5 := blk_below a5 hb2 (lt_blk a5)
    have f2 := blk_below g2 hb2 (lt_blk g2)
    have f3 := blk_below g5 hb2 (lt_blk g5)
    have hT2 : Tk w2 bx bm vL vT L T := hT.below hB2 (Nat.le_refl _)
    have hlm := hM.lt
    clear a4 a5 g2 g5 harr hT1 c2 c5
    have c2 := cell_blk (i := 0) f2
    simp at c2
    refine wpV_then (fun K hK => ?_)
    have HK := Lib.hid hK; clear hK
    gi_wp2_with (first | (refine wpListIn_load_blk rfl 84 _ rfl _ rfl f4 Try.underlying84 rfl size84 hA5 ?_) | (gi_at_call 51; refine callsTo (moves_any bx bm vL vT L T A w2 hT2) ?_; rintro e w5 ⟨rfl, hke, hb5'⟩))
    refine HK.out _ _ ?_; clear HK K
    have hs5 := hb5'.size
    have hB5 : Below w.heap.size w w5 := hB2.trans (hb5'.mono hB2.size)
    have g4 := blk_below f4 hb5' (lt_blk f4)
    have g5 := blk_below f5 hb5' (lt_blk f5)
    have g2 := blk_below f2 hb5' (lt_blk f2)
    have g3 := blk_below f3 hb5' (lt_blk f3)
    have hM5 : Memo w5 bm (GSafe L T) := hM.below hB5 hlm
    have hrow5 := Stb.row (B := 0) _ _ (Gr.below hB5) hrow
    have hs6 : w2.heap.size + 2 ≤ w5.heap.size := by have := lt_blk hke.at_; omega
    have hit := moves_iter TTm (fun _ h => h) w2.heap.size (w2.heap.size + 1) bx bm vL vT L T A ok
    refine wpV_block ?_
    refine wpV_rangeR (gf := 72) (lb := #[.pointer (some ⟨w2.heap.size, 0, none⟩), .pointer (some ⟨w2.heap.size + 1, 0, none⟩)]) ?hg ?eg hit ?hps
      (SrI L T A done w (.slice ad done.length cap) base (w.heap.size + 1) w2.heap.size bx bm b2 b5) (fun _ _ => False)
      (SrP L T A done w base bm)
      ?hval ?hK ?sI ?sIx ?sIp ?h0 ?round ?done ?stop ?panic
    case hg => rfl
    case eg => exact (enters_of Try.func72 (by kernel_rfl) rfl)
    case hps => intro y hy; simp [movY] at hy; obtain ⟨i, _, rfl⟩ := hy; rfl
    case hval => exact fun _ fn h => h
    case hK => exact fun k V h => ⟨h.x, h.at_, hTk V (hB0.trans h.bm_)⟩
    case sI => exact fun k => SrI.stb (by omega) hbase (by omega)
    case sIx => exact fun c => Stb.pure
    case sIp => exact fun ch W W' g h => ⟨(Stb.ex fun _ => Stb.pure.and Stb.row) W W' g h.ex, Stb.bm (by omega) hbase W W' g h.bm_, Stb.kx (by omega) W W' g h.kx⟩
    case h0 => exact ⟨hke.x, hke.at_, g5, g2, g3, hrow5, hM5, Bm.of (hB5.mono hbase), Kx.below hB5, rfl⟩
    case stop => exact fun _ _ h => h.elim
    case done =>
      intro V h _
      exfalso
      have h1 := safeB_step ok
      rw [HSF.out] at h1
      have h2 := h.no
      rw [List.take_of_length_le (by simp [movY])] at h2
      rw [h2] at h1
      simp [hno] at h1
    case panic =>
      rintro ch V ⟨⟨v, rfl, h1⟩, h2, h3⟩ hD
      exact leave_mark_panic rfl hD ⟨v, rfl, Stb.row (B := w5.heap.size) _ _ (Gr.putObj _ (Nat.le_refl _) hD rfl) h1, h2.trans (Bm.of (below_putObj (Below.refl _ _) (by omega))), Stb.kx (B := w5.heap.size) (by omega) _ _ (Gr.putObj _ (Nat.le_refl _) hD rfl) h3⟩
    case round =>
      intro k hk l V hI
      have hk' : k < (movL L T A).length := by simpa [movY] using hk
      have hyk : (movY L T A)[k] = #[.int .i64 (((movL L T A)[k] : Nat) : Int), .agg (arr (after L T A (movL L T A)[k]))] := by simp [movY]
      have hmem := mov_mem (List.getElem_mem hk')
      have htk : ((movL L T A).take (k + 1)).any (fun i => safeB L T (after L T A i)) = (((movL L T A).take k).any (fun i => safeB L T (after L T A i)) || safeB L T (after L T A (movL L T A)[k])) := by
        rw [List.take_succ_eq_append_getElem hk', List.any_append]; simp
      have hfind : safeB L T (after L T A (movL L T A)[k]) = true → planL L T A = ((movL L T A)[k] : Int) :: planL L T (after L T A (movL L T A)[k]) := fun h => planL_step ok (find_at hk' hI.no h)
      rw [hyk]
      generalize (movL L T A)[k] = i at *
      have HTK := Lib.hid htk
      have HF := Lib.hid hfind
      have HM := Lib.hid hmem
      have hsV := hI.bm_.size
      have HI := Lib.hid hI
      clear hfind hmem htk hyk hI hit hk hk' hke g2 g3 g4 g5 hrow5 hM5 f2 f3 f4 f5 c2 hT2 hb5' hb2 hb1 hrow hc2 hc5
      simp only [List.zip_toArray, List.zip_cons_cons, List.zip_nil_right, List.foldl_toArray', List.size_toArray, List.length_cons, List.length_nil, List.foldl_cons, List.foldl_nil, List.setIfInBounds_toArray, List.set_cons_succ, List.set_cons_zero]
      obtain ⟨hi, hio, hic⟩ := HM.out
      have ok6 := ok.after hi hio
      have hA6 : (arr (after L T A i)).size = 5 := by rw [arr_size, ok6.a5]
      have hl6 : left (after L T A i) T + 1 = n := by have := left_after ok hi hio hic; have := HN.out; omega
      have HL6 := Lib.hid hl6
      have hl6' : left (after L T A i) T < n := by omega
      clear hi hio hic hl6
      refine wpV_of (n := 0) ?_
      gi_wp2_with (first | (refine wpListIn_store_blk rfl 84 _ _ rfl _ rfl rfl (World.alloc_heap_new _ _) size84 hA6 rfl (arr_one _) ?_))
      have hbV : Below V.heap.size V ((V.alloc (.cells #[.int .i64 0, .int .i64 0, .int .i64 0, .int .i64 0, .int .i64 0] 84)).putObj V.heap.size (.cells (arr (after L T A i)) 84 (0, 0))) :=
        below_putObj ((Below.refl _ V).alloc (Nat.le_refl _) _) (Nat.le_refl _)
      have b7 : ((V.alloc (.cells #[.int .i64 0, .int .i64 0, .int .i64 0, .int .i64 0, .int .i64 0] 84)).putObj V.heap.size (.cells (arr (after L T A i)) 84 (0, 0))).heap[V.heap.size]? = some (.cells (arr (after L T A i)) 84 (0, 0)) := World.putObj_heap_same (by simp)
      have hI4 := SrI.stb (B := w5.heap.size) (by omega) hbase (by omega) V _ (Gr.below hbV) HI.out
      clear HI
      generalize World.putObj _ _ _ = V4 at *
      refine ⟨Kx.below hbV, fun U => SrI L T A done w (.slice ad done.length cap) base (w.heap.size + 1) w2.heap.size bx bm b2 b5 k U ∧ U.heap[V.heap.size]? = some (.cells (arr (after L T A i)) 84 (0, 0)), (SrI.stb (by omega) hbase (by omega)).and Stb.cells, ⟨hI4, b7⟩, ?_⟩
      clear hI4 b7 hbV
      rintro V2 - ⟨⟨q1, q2, q3, q4, q5, q6, q7, q8, q9, q10⟩, q11⟩
      have c2 := cell_blk (i := 0) q4
      simp at c2
      have hTV := hTk V2 (hB0.trans q8)
      have hcall := safe_any bx bm vL vT L T _ V2 ok6 hTV q7
      obtain ⟨sv, hsv⟩ : ∃ sv, sv = safeB L T (after L T A i) := ⟨_, rfl⟩
      rw [← hsv] at hcall
      have HSV := Lib.hid hsv
      clear hsv
      refine wpV_block ?_
      refine wpV_then (fun K hK => ?_)
      have HK := Lib.hid hK; clear hK
      gi_wp2_with (first | (refine wpListIn_load_blk rfl 84 _ rfl _ rfl q11 Try.underlying84 rfl size84 hA6 ?_) | (gi_at_call 49; refine callsTo hcall ?_; rintro e V3 ⟨rfl, hM3, hBV⟩))
      refine HK.out _ _ ?_; clear HK K
      have hkx : Kx (bm + 1) TTm V2 V3 := by
        obtain ⟨es, clock, hm1, _⟩ := q7
        exact Kx.bm hBV hm1 rfl (by omega)
      have hkx5 : Kx w5.heap.size TTm V2 V3 := by
        obtain ⟨es, clock, hm1, _⟩ := q7
        exact Kx.bm hBV hm1 rfl (by omega)
      have hs3 := hBV.size
      have r1 := (hBV.block _ (lt_blk q1) (by omega)).trans q1
      have r2 := (hBV.block _ (lt_blk q2) (by omega)).trans q2
      have r3 := (hBV.block _ (lt_blk q3) (by omega)).trans q3
      have r4 := (hBV.block _ (lt_blk q4) (by omega)).trans q4
      have r5 := (hBV.block _ (lt_blk q5) (by omega)).trans q5
      have r6 := row_bm q6 hBV (by omega)
      have hlv : V.heap.size < V2.heap.size := lt_blk q11
      have r11 := (hBV.block _ hlv (by omega)).trans q11
      have hV3 : w.heap.size ≤ V2.heap.size := q8.size
      have r8 : Bm bm base w V3 := q8.trans (hBV.mono (by omega))
      have r9 : Kx (bm + 1) TTm w V3 := q9.trans hkx
      clear hcall hTV q1 q2 q3 q4 q5 q6 q7 q8 q9 q11 hBV c2
      cases sv
      · have hn : ((movL L T A).take (k + 1)).any (fun i => safeB L T (after L T A i)) = false := by rw [HTK.out, q10, ← HSV.out]; rfl
        have HNN := Lib.hid hn
        clear hn q10
        refine wpV_of (n := 0) ?_
        gi_wp2
        exact ⟨hkx5, r1, r2, r3, r4, r5, r6, hM3, r8, r9, HNN.out⟩
      · have hpl := HF.out HSV.out.symm
        have HPL := Lib.hid hpl
        have hs6 : safeB L T (after L T A i) = true := HSV.out.symm
        have hih := fun (vd' : Value) (W : World) => ih _ hl6' _ rfl (done ++ [(i : Int)]) vd' W ok6 hs6
        have HIH := Lib.hid hih
        clear hpl q10 hih hs6
        refine wpV_cond (t := true) rfl ?_
        simp only [if_true]
        refine wpV_of (n := 0) ?_
        refine wpIn_region_held (S := fun U => U.heap[b5]? = some (.cells #[.func (.func 78) #[] #[.pointer (some ⟨b2, 0, none⟩), .pointer (some ⟨b5, 0, none⟩)]] 126 (0, 0)) ∧ U.heap[V.heap.size]? = some (.cells (arr (after L T A i)) 84 (0, 0)) ∧ U.heap[w.heap.size + 1]? = some (.cells #[.slice ad done.length cap] 22 (0, 0))) (by kernel_rfl) (by kernel_rfl) (fun ⟨_, _, h⟩ => h) ?_
        have hS : ∀ U : World, U.heap = V3.heap → U.heap[b5]? = some (.cells #[.func (.func 78) #[] #[.pointer (some ⟨b2, 0, none⟩), .pointer (some ⟨b5, 0, none⟩)]] 126 (0, 0)) ∧ U.heap[V.heap.size]? = some (.cells (arr (after L T A i)) 84 (0, 0)) ∧ U.heap[w.heap.size + 1]? = some (.cells #[.slice ad done.length cap] 22 (0, 0)) := fun U h => by rw [h]; exact ⟨r5, r11, r3⟩
        refine wpAnyH_take (i := 0) rfl (by kernel_rfl) (by kernel_rfl) (by kernel_rfl) (fun _ _ _ h => h) (yieldsIf_load_one (by rfl) 126 (.tmp 3) rfl rfl (v := .func (.func 78) #[] #[.pointer (some ⟨b2, 0, none⟩), .pointer (some ⟨b5, 0, none⟩)]) (fun U hU => by rw [cell_blk hU.1]; rfl) Try.underlying126 rfl) (hS _ rfl) ?_
        refine wpAnyH_take (i := 1) rfl (by kernel_rfl) (by kernel_rfl) (by kernel_rfl) (fun _ _ _ h => h) (yieldsIf_load_blk (by rfl) 84 (.tmp 7) rfl rfl (fun U hU => hU.2.1) Try.underlying84 rfl size84 hA6) (hS _ rfl) ?_
        refine wpAnyH_take (i := 2) rfl (by kernel_rfl) (by kernel_rfl) (by kernel_rfl) (fun _ _ _ h => h) (yieldsIf_load_one (by rfl) 22 (.tmp 5) rfl rfl (v := .slice ad done.length cap) (fun U hU => by rw [cell_blk hU.2.2]; rfl) Try.underlying22 rfl) (hS _ rfl) ?_
        refine wpAnyH_take (i := 3) rfl (by kernel_rfl) (by kernel_rfl) (by kernel_rfl) (fun _ _ _ h => h) (yieldsIf_move (by rfl) (.tmp 6) rfl) (hS _ rfl) ?_
        refine wpAnyH_one (i := 4) (by kernel_rfl) rfl (by rfl) (fun K hK => ?_)
        have HK := Lib.hid hK; clear hK
        simp only [Act.put, List.setIfInBounds_toArray]
        go_simp
        have l5 := lt_blk r5
        have l11 := lt_blk r11
        have l3 := lt_blk r3
        refine HK.out _ _ ⟨(heap_oldI l5).trans r5, (heap_oldI l11).trans r11, (heap_oldI l3).trans r3⟩ ?_
        clear HK K
        refine wpAnyH_one (i := 5) (by kernel_rfl) rfl (by rfl) (fun K hK => ?_)
        have HK := Lib.hid hK; clear hK
        obtain ⟨i3, hi3, hz1, hz2, hz3⟩ := info_parts info3
        refine oper_append_own (.tmp 23) (.tmp 25) 22 rfl base 3 i3 (.int .i64 0) 1 8 Try.underlying22 hi3 hz1 hz2 hz3 rfl (by decide) _ _ _ rfl (World.ownsRow.drew (r6.alloc _)) ⟨V3.heap.size, 0, none⟩ 1 1 [.int .i64 i] rfl rfl (cell_new1 rfl) (by simp [Value.oneCell']) (Nat.le_trans (by omega : done.length + 1 ≤ 2000) (by decide)) (by omega) (by show base ≤ (World.alloc V3 _).heap.size; rw [World.size_alloc]; omega) ?_
        intro v' w6 p1 p2
        obtain ⟨p3, p4, p5⟩ := append_same r6 p2
        have p6 := append_kx (B := bm + 1) (TT := TTm) r6 p2 (by unfold TTm; decide)
        have t5 := (p3 _ l5 (own_ne r6 r5 (by decide))).trans r5
        have t11 := (p3 _ l11 (own_ne r6 r11 (by decide))).trans r11
        have t3 := (p3 _ l3 (own_ne r6 r3 (by decide))).trans r3
        have t4 := (p3 _ (lt_blk r4) (own_ne r6 r4 (by decide))).trans r4
        have p7 := p5 (by omega)
        have hM6 : Memo w6 bm (GSafe L T) := hM3.below p7 (by omega)
        have hk6 := append_kx (B := w5.heap.size) (TT := TTm) r6 p2 (by unfold TTm; decide)
        have hi6 := HIH.out v' w6 (hB0.trans (r8.trans (Bm.of p7))) hM6 t4 t5 (by rw [List.length_append, List.map_append]; exact p1) hbm hb2 hb5 (by omega) (by have := HL6.out; simp; omega)
        have HI6 := Lib.hid hi6
        clear hi6
        refine HK.out _ _ ⟨t5, t11, t3⟩ ?_
        clear HK K p1 p2 p3 r5 r11 r3 r4 r6
        simp only [Act.put, List.setIfInBounds_toArray]
        refine wpAnyH_one (i := 6) (by kernel_rfl) rfl (by rfl) (fun K hK => ?_)
        have HK := Lib.hid hK; clear hK
        have hrun := enters_of Try.func78 (by kernel_rfl) rfl
        go_simp
        refine HI6.out.mono ?_
        rintro e w7 ⟨v, rfl, y1, y2, y3⟩
        refine ⟨rfl, hkx5.trans (hk6.trans (y3.mono (by omega))), ⟨v, rfl, ?_⟩, r8.trans ((Bm.of p7).trans y2), r9.trans (p6.trans y3)⟩
        rw [HPL.out]
        rw [List.append_assoc] at y1
        exact y1
end Yteijenefhoconaa
end Proofs
end Go
