/- Pans: the search of an order. -/
import Derived.Test.YteileadcmekkoaaQ10
import Derived.Test.YteileadcmekkoaaGenF
open Go Go.RowKit Go.YteileadcmekkoaaIt
namespace Go.Proofs
namespace Yteileadcmekkoaa
open PanPlain (upd upd_same upd_ne)
/-- What lies in memory during the search. -/
structure VS (w0 : World) (n : Nat) (vw : Value) (ws : List Wa) (d : Ds) (ov : Value) (W : World) : Prop where
  wk : W.heap[w0.heap.size]? = some (.cells #[.int .i64 n, vw] 24 (0, 0))
  o : W.heap[w0.heap.size + 1]? = some (.cells #[ov] 45 (0, 0))
  s : W.heap[w0.heap.size + 2]? = some (.cells (rowX 10 d.sta).toArray 125 (0, 0))
  k : W.heap[w0.heap.size + 3]? = some (.cells #[.bool d.stk] 4 (0, 0))
  v : W.heap[w0.heap.size + 4]? = some (.cells #[.func (.func 75) #[] #[.pointer (some ⟨w0.heap.size + 2, 0, none⟩), .pointer (some ⟨w0.heap.size, 0, none⟩), .pointer (some ⟨w0.heap.size + 3, 0, none⟩), .pointer (some ⟨w0.heap.size + 4, 0, none⟩), .pointer (some ⟨w0.heap.size + 1, 0, none⟩)]] 126 (0, 0))
  row : W.ownsRow (w0.heap.size + 5) 3 1 ov d.out.length (d.out.map fun (i : Nat) => .int .i64 (i : Int))
  b : Below w0.heap.size w0 W
  sz : w0.heap.size + 5 ≤ W.heap.size
theorem VS.stb {w0 : World} {n : Nat} {vw : Value} {ws : List Wa} {d : Ds} {ov : Value} {B : Nat} (hB : w0.heap.size ≤ B) : Stb B (VS w0 n vw ws d ov) := fun W W' g h =>
  ⟨Stb.cells (B := B) W W' g h.wk, Stb.cells (B := B) W W' g h.o, Stb.cells (B := B) W W' g h.s, Stb.cells (B := B) W W' g h.k, Stb.cells (B := B) W W' g h.v, Stb.row (B := B) W W' g h.row, Stb.below hB (Nat.le_refl _) W W' g h.b, Nat.le_trans h.sz g.size⟩
theorem VS.below {w0 : World} {n : Nat} {vw : Value} {ws : List Wa} {d : Ds} {ov : Value} {W W' : World} (h : VS w0 n vw ws d ov W) (hb : Below W.heap.size W W') : VS w0 n vw ws d ov W' := VS.stb (Nat.le_refl _) W W' (Gr.below hb) h
/-- What the search turns: its own variables, the row of the order. -/
structure Ch (w0 : World) (ov : Value) (w : World) (ov' : Value) (w' : World) : Prop where
  keep : ∀ k, k < w.heap.size → k ≠ w0.heap.size + 1 → k ≠ w0.heap.size + 2 → k ≠ w0.heap.size + 3 → ov.ownBlock ≠ some k → w'.heap[k]? = w.heap[k]?
  own : ∀ g, ov'.ownBlock = some g → ov.ownBlock = some g ∨ w.heap.size ≤ g
  size : w.heap.size ≤ w'.heap.size
theorem Ch.refl (w0 : World) (ov : Value) (w : World) : Ch w0 ov w ov w := ⟨fun _ _ _ _ _ _ => rfl, fun _ h => .inl h, Nat.le_refl _⟩
theorem Ch.trans {w0 x y z : World} {a b c : Value} (h : Ch w0 a x b y) (k : Ch w0 b y c z) : Ch w0 a x c z :=
  ⟨fun i hi h1 h2 h3 h4 => (k.keep i (Nat.lt_of_lt_of_le hi h.size) h1 h2 h3 (fun e => by rcases h.own _ e with e | e; exact h4 e; omega)).trans (h.keep i hi h1 h2 h3 h4),
   fun g hg => by
    rcases k.own g hg with h1 | h1
    · exact h.own g h1
    · have := h.size; exact .inr (by omega), Nat.le_trans h.size k.size⟩
theorem Ch.below {w0 w w' : World} (ov : Value) (h : Below w.heap.size w w') : Ch w0 ov w ov w' := ⟨fun k hk _ _ _ _ => h.block k hk, fun _ h => .inl h, h.size⟩
theorem Ch.one {w0 w : World} (ov : Value) {b i : Nat} {x : Value} (hb : b = w0.heap.size + 1 ∨ b = w0.heap.size + 2 ∨ b = w0.heap.size + 3) : Ch w0 ov w ov (w.setCell ⟨b, i, none⟩ x) :=
  ⟨fun k _ h1 h2 h3 _ => heap_set_other (by omega), fun _ h => .inl h, by simp⟩
theorem Ch.app {w0 W3 w6 : World} {base : Nat} {ov v' : Value} {n : Nat} {xs : List Value} {o : Obj} (h : W3.ownsRow base 3 1 ov n xs) (r2 : (W3.alloc o).grownBy w6 ov.ownBlock) (r3 : ∀ g, v'.ownBlock = some g → ov.ownBlock = some g ∨ (W3.alloc o).heap.size ≤ g) : Ch w0 ov W3 v' w6 :=
  ⟨fun k hk _ _ _ h4 => (append_same1 h r2).1 k hk h4, fun g hg => by rcases r3 g hg with h1 | h1; exact .inl h1; rw [World.size_alloc] at h1; exact .inr (by omega), by have := (append_same1 h r2).2.1; omega⟩
theorem Ch.stb {w0 w : World} {ov ov' : Value} {B : Nat} (hB : w.heap.size ≤ B) : Stb B (Ch w0 ov w ov') := fun _ _ g h =>
  ⟨fun k hk h1 h2 h3 h4 => (g.block k (Nat.lt_of_lt_of_le hk h.size) (.inl (Nat.lt_of_lt_of_le hk hB))).trans (h.keep k hk h1 h2 h3 h4), h.own, Nat.le_trans h.size g.size⟩
theorem row_cells {W : World} {base : Nat} {e : TypeId} {sz n g : Nat} {v : Value} {xs : List Value} (h : W.ownsRow base e sz v n xs) (hg : v.ownBlock = some g) : ∃ cur, W.heap[g]? = some (.cells cur e (0, 0)) := by
  obtain ⟨ad, cap, rfl⟩ := form_of h
  rcases h.2 with ⟨e1, _⟩ | ⟨g', cap', cur, e1, _, hh, _⟩
  · rw [e1] at hg; simp [Value.ownBlock] at hg
  · rw [e1] at hg
    have : g' = g := by simpa [Value.ownBlock] using hg
    subst this
    exact ⟨cur, hh⟩
theorem Ch.kx {w0 : World} {n : Nat} {vw : Value} {ws : List Wa} {d : Ds} {ov ov' : Value} {w w' : World} {TT : TypeId → Prop} {B : Nat} (hT : ∀ t, ¬ TT t) (hv : VS w0 n vw ws d ov w) (h : Ch w0 ov w ov' w') : Kx B TT w w' :=
  ⟨h.size, fun k o _ hk ho => (h.keep k (Array.getElem?_eq_some_iff.1 hk).1 (fun e => by rw [e, hv.o] at hk; cases hk; cases ho) (fun e => by rw [e, hv.s] at hk; cases hk; cases ho) (fun e => by rw [e, hv.k] at hk; cases hk; cases ho)
    (fun e => by obtain ⟨cur, hc⟩ := row_cells hv.row e; rw [hc] at hk; cases hk; cases ho)).trans hk, fun _ _ t _ _ ht => absurd ht (hT t)⟩
abbrev TTo : TypeId → Prop := fun _ => False
theorem size125' : (Try.prog.info? 125).map (·.size) = some 10 := by kernel_rfl
theorem size82 : (Try.prog.info? 82).map (·.size) = some 5 := by kernel_rfl
set_option maxRecDepth 100000 in
set_option maxHeartbeats 4000000 in
theorem visit_any (w0 : World) (n : Nat) (vw : Value) (ws : List Wa) (hV : Val n ws) (hvw : SlA w0 vw ws) : ∀ (m : Nat) (s : Nat) (d : Ds) (ov : Value) (w : World), wh d n = m → s < n → d.sta s = 0 → DI n ws d → Above ws d s → VS w0 n vw ws d ov w →
    Calls Try.prog 75 #[.int .i64 s, .pointer (some ⟨w0.heap.size + 2, 0, none⟩), .pointer (some ⟨w0.heap.size, 0, none⟩), .pointer (some ⟨w0.heap.size + 3, 0, none⟩), .pointer (some ⟨w0.heap.size + 4, 0, none⟩), .pointer (some ⟨w0.heap.size + 1, 0, none⟩)] w fun e w' =>
      (∃ v, e = .returned v) ∧ ∃ d' ov', VS w0 n vw ws d' ov' w' ∧ DI n ws d' ∧ DPost s d d' ∧ Ch w0 ov w ov' w' := by
  intro m
  induction m using Nat.strongRecOn with
  | _ m ih =>
  intro s d ov w hm hs hs0 hD hA hVS
  have HIH := Lib.hid ih
  have HV := Lib.hid hvw
  have HD := Lib.hid (And.intro hm (And.intro hs0 (And.intro hD hA)))
  have hn10 := hV.n1
  obtain ⟨i3, hi3, hz1, hz2, hz3⟩ := info_parts info3
  have HI3 := Lib.hid (And.intro hi3 (And.intro hz1 (And.intro hz2 hz3)))
  clear hi3 hz1 hz2 hz3
  clear ih hm hs0 hD hA hvw
  refine calls_of_wpM Try.func75 rfl ?_
  simp only [Try.ntmps75, List.size_toArray, List.length_cons, List.length_nil, Nat.reduceAdd, Nat.reduceSub, Array.replicate_succ, Array.replicate_zero, List.push_toArray, List.append_toArray, List.nil_append, List.cons_append]
  have f0 := free_blk (i := s) hVS.s
  have c0 := cell_blk (i := s) hVS.s
  rw [List.getElem?_toArray, rowX_get _ (by omega)] at c0
  have z0 := lt_blk hVS.s
  refine wpIn_seq_k (fun K hK => ?_)
  have HK := Lib.hid hK; clear hK
  gi_wp2
  refine HK.out _ _ ?_; clear HK K
  have hV1 : VS w0 n vw ws (grayD s d) ov (w.setCell ⟨w0.heap.size + 2, s, none⟩ (.int .i64 1)) :=
    ⟨(heap_set_other (by omega)).trans hVS.wk, (heap_set_other (by omega)).trans hVS.o, by rw [heap_set_blk hVS.s, rowX_set]; rfl, (heap_set_other (by omega)).trans hVS.k, (heap_set_other (by omega)).trans hVS.v, row_same hVS.row (fun g hg => heap_set_other (by have := (hVS.row.lt g hg).1; omega)), hVS.b.setCell (by simp) _, by rw [World.size_setCell]; exact hVS.sz⟩
  have hK1 : Ch w0 ov w ov (w.setCell ⟨w0.heap.size + 2, s, none⟩ (.int .i64 1)) := Ch.one ov (.inr (.inl rfl))
  have hown : ∀ g, ov.ownBlock = some g → g < w.heap.size := fun g hg => (hVS.row.lt g hg).2
  have HSW := Lib.hid (show (w.setCell ⟨w0.heap.size + 2, s, none⟩ (.int .i64 1)).heap.size = w.heap.size from World.size_setCell _ _ _)
  generalize World.setCell _ _ _ = w1 at *
  clear f0 c0 z0 hVS
  have b1 := hV1.wk
  have hsl := HV.out.below hV1.b (Nat.le_refl _)
  have h71 := to_any vw n ws s w1 hsl
  refine wpIn_seq_k (fun K hK => ?_)
  have HK := Lib.hid hK; clear hK
  refine wpIn_seq_k (fun K2 hK2 => ?_)
  have HK2 := Lib.hid hK2; clear hK2
  gi_wp2_with (first | (refine wpListIn_load_blk rfl 24 _ rfl _ rfl b1 Try.underlying24 rfl size24 rfl ?_) | (gi_at_call 71; refine callsTo h71 ?_; rintro e w2 ⟨rfl, hke, hb2, hs2⟩))
  refine HK2.out _ _ ?_; clear HK2 K2
  have hV2 := hV1.below hb2
  have hC2 := hK1.trans (Ch.below ov hb2)
  have hsz1 := hV1.sz
  clear b1 h71 hsl hb2 hV1 hK1
  refine wpIn_block ?_
  have hit := to_iter TTo w1.heap.size (w1.heap.size + 1) vw n ws s
  have hyl : (toY ws s).length = (toL ws s).length := by simp [toY]
  refine wpIn_range (gf := 79) (lb := #[.pointer (some ⟨w1.heap.size, 0, none⟩), .pointer (some ⟨w1.heap.size + 1, 0, none⟩)]) ?hg ?eg hit ?hps
    (fun k W => ∃ d' ov', VS w0 n vw ws d' ov' W ∧ LI n ws d s k d' ∧ Ch w0 ov w2 ov' W)
    (fun c W => False) ?hK ?sI ?sIx ?h0 ?round ?done ?stop
  case hg => rfl
  case eg => exact (enters_of Try.func79 (by kernel_rfl) rfl)
  case hps => intro y hy; simp [toY] at hy; obtain ⟨i, _, rfl⟩ := hy; rfl
  case hK =>
    rintro k W ⟨d', ov', h1, h2, h3⟩
    have hk2 : ∀ b, (b = w1.heap.size ∨ b = w1.heap.size + 1) → W.heap[b]? = w2.heap[b]? := fun b hb => h3.keep b (by omega) (by omega) (by omega) (by omega) (fun e => by have := hown b e; have := HSW.out; omega)
    exact ⟨(hk2 _ (.inl rfl)).trans hke.wk, (hk2 _ (.inr rfl)).trans hke.st, HV.out.below h1.b (Nat.le_refl _)⟩
  case sI => exact fun k => Stb.ex fun d' => Stb.ex fun ov' => (VS.stb (by have := hV2.b.size; omega)).and (Stb.pure.and (Ch.stb (Nat.le_refl _)))
  case sIx => exact fun c => Stb.pure
  case h0 => exact ⟨grayD s d, ov, hV2, LI.start HD.out.2.2.1 HD.out.2.1 hs, Ch.refl _ _ _⟩
  case stop => exact fun _ _ h => h.elim
  case round =>
    rintro k hk l W ⟨d', ov', hVW, hLI, hCW⟩
    have hk' : k < (toL ws s).length := by rw [← hyl]; exact hk
    have hyk : (toY ws s)[k] = #[.int .i64 (((toL ws s)[k] : Nat) : Int), .agg #[.int .i64 (at_ ws (toL ws s)[k]).f, .int .i64 (at_ ws (toL ws s)[k]).t, .int .i64 (at_ ws (toL ws s)[k]).lo, .int .i64 (at_ ws (toL ws s)[k]).hi, .int .i64 (at_ ws (toL ws s)[k]).b]] := by simp [toY]
    rw [hyk]
    have hmm := toL_mem hk'
    have hok := hV.ok _ hmm.1
    have hsk := hLI.skip hk'
    have hvs := fun (f : Nat) (hf : (at_ ws (toL ws s)[k]).f.toNat = f) (d2 : Ds) => hLI.visit (d' := d2) hk' hf
    have hgs := gray_stuck HD.out.2.2.2 hLI hmm.1 
    have hab := LI.above HD.out.2.2.2 hLI hmm.1
    have hmt := hLI.meet
    generalize (toL ws s)[k] = i at *
    obtain ⟨hi, ht⟩ := hmm
    have HI := Lib.hid (And.intro hsk (And.intro hvs (And.intro hgs (And.intro hab (And.intro hmt (And.intro ht hi))))))
    clear hyk hk hk' hsk hvs hgs hab hmt ht hi hit hyl
    obtain ⟨⟨f0, f1⟩, -, -, -, ⟨g0, g1⟩⟩ := hok
    obtain ⟨fn, hfn⟩ := Int.eq_ofNat_of_zero_le f0
    rw [hfn] at HI f1 ⊢
    clear f0 hfn
    generalize (at_ ws i).t = xt at *
    generalize (at_ ws i).lo = xl at *
    generalize (at_ ws i).hi = xh at *
    generalize (at_ ws i).b = xb at *
    simp only [List.zip_toArray, List.zip_cons_cons, List.zip_nil_right, List.foldl_toArray', List.size_toArray, List.length_cons, List.length_nil, List.foldl_cons, List.foldl_nil, List.setIfInBounds_toArray, List.set_cons_succ, List.set_cons_zero]
    gi_wp2_with (first | (refine wpListIn_store_blk rfl 82 _ _ rfl _ rfl rfl (World.alloc_heap_new _ _) size82 rfl rfl (by simp [Value.oneCell']) ?_))
    have hbV : Below W.heap.size W ((W.alloc (.cells #[.int .i64 0, .int .i64 0, .int .i64 0, .int .i64 0, .int .i64 0] 82)).putObj W.heap.size (.cells #[.int .i64 fn, .int .i64 xt, .int .i64 xl, .int .i64 xh, .int .i64 xb] 82 (0, 0))) :=
      below_putObj ((Below.refl _ W).alloc (Nat.le_refl _) _) (Nat.le_refl _)
    have b7 : ((W.alloc (.cells #[.int .i64 0, .int .i64 0, .int .i64 0, .int .i64 0, .int .i64 0] 82)).putObj W.heap.size (.cells #[.int .i64 fn, .int .i64 xt, .int .i64 xl, .int .i64 xh, .int .i64 xb] 82 (0, 0))).heap[W.heap.size]? = some (.cells #[.int .i64 fn, .int .i64 xt, .int .i64 xl, .int .i64 xh, .int .i64 xb] 82 (0, 0)) := World.putObj_heap_same (by simp)
    have hVW2 := hVW.below hbV
    have hCW2 := hCW.trans (Ch.below ov' hbV)
    have hsW := hCW.size
    have hownW : ∀ g, ov'.ownBlock = some g → g < W.heap.size := fun g hg => (hVW.row.lt g hg).2
    clear hVW hCW
    generalize World.putObj _ _ _ = V4 at *
    refine ⟨Kx.below hbV, fun U => (VS w0 n vw ws d' ov' U ∧ Ch w0 ov w2 ov' U) ∧ U.heap[W.heap.size]? = some (.cells #[.int .i64 fn, .int .i64 xt, .int .i64 xl, .int .i64 xh, .int .i64 xb] 82 (0, 0)), ((VS.stb (by have := hV2.b.size; omega)).and (Ch.stb (Nat.le_refl _))).and Stb.cells, ⟨⟨hVW2, hCW2⟩, b7⟩, ?_⟩
    clear b7 hbV hVW2 hCW2 V4
    rintro U - ⟨⟨hU, hCU⟩, b7⟩
    have z7 := lt_blk b7
    have e0 := cell_blk (i := 0) b7
    have e4 := cell_blk (i := 4) b7
    have c3 := cell_blk (i := fn) hU.s
    rw [List.getElem?_toArray, rowX_get _ (by omega)] at c3
    simp only [List.getElem?_toArray, List.getElem?_cons_zero, List.getElem?_cons_succ] at e0 e4
    have f3 := free_blk (i := 0) hU.k
    have ck := cell_blk (i := 0) hU.k
    have zs := lt_blk hU.s
    have zk := lt_blk hU.k
    have cv := cell_blk (i := 0) hU.v
    simp only [List.getElem?_toArray, List.getElem?_cons_zero] at ck cv
    have hkx : ∀ {ov2 : Value} {U2 : World}, Ch w0 ov' U ov2 U2 → Kx w2.heap.size TTo U U2 := fun h => Ch.kx (fun _ h => h) hU h
    by_cases hxb : 0 < xb
    · have hxb2 : (xb > 0) = True := by simp [hxb]
      have H := Lib.hid (HI.out.1 fun _ h => by omega)
      clear e0 c3 f3 ck cv
      gi_wp2
      exact ⟨Kx.refl _ _ _, d', ov', hU, H.out, hCU⟩
    · have hxb0 : xb = 0 := by omega
      subst hxb0
      have hst := hU.s
      have hdst := hLI.di.st fn
      obtain ⟨st, hst2⟩ : ∃ st, st = d'.sta fn := ⟨_, rfl⟩
      rw [← hst2] at c3 hdst
      have HST := Lib.hid hst2
      clear hst2 hst
      by_cases h1 : st = 1
      · subst h1
        have H := Lib.hid (HI.out.2.2.2.2.1 (HI.out.2.2.1 rfl HI.out.2.2.2.2.2.1 HST.out.symm))
        clear cv hdst
        gi_wp2
        refine ⟨hkx (Ch.one ov' (.inr (.inr rfl))), stuckD d', ov', ?_, H.out, hCU.trans (Ch.one ov' (.inr (.inr rfl)))⟩
        exact ⟨(heap_set_other (by omega)).trans hU.wk, (heap_set_other (by omega)).trans hU.o, (heap_set_other (by omega)).trans hU.s, by rw [heap_set_blk hU.k]; rfl, (heap_set_other (by omega)).trans hU.v, row_same hU.row (fun g hg => heap_set_other (by have := (hU.row.lt g hg).1; omega)), hU.b.setCell (by simp) _, by rw [World.size_setCell]; exact hU.sz⟩
      · have hb1 : (st == 1) = false := by simpa using h1
        by_cases h0 : st = 0
        · subst h0
          have hwl : wh d' n < m := by
            rw [← HD.out.1]
            exact wh_lt (hLI.white HD.out.2.2.1) HD.out.2.1 (by have := (hLI.gray s).2 (.inl rfl); omega) n hs
          have hrec := HIH.out _ hwl fn d' ov' U rfl (by omega) HST.out.symm hLI.di (HI.out.2.2.2.1 rfl HI.out.2.2.2.2.2.1) hU
          have HR := Lib.hid hrec
          clear hdst hrec h1 hwl ck f3
          gi_wp2_with (first | (gi_at_call 75; refine callsTo HR.out ?_; rintro e U3 ⟨⟨v, rfl⟩, d3, ov3, hU3, hD3, hP3, hC3⟩))
          exact ⟨hkx hC3, d3, ov3, hU3, HI.out.2.1 fn rfl d3 hD3 hP3, hCU.trans hC3⟩
        · have hb0 : (st == 0) = false := by simpa using h0
          have H := Lib.hid (HI.out.1 fun _ _ => by have := HST.out; rw [Int.toNat_natCast]; omega)
          clear hdst h1 h0 ck f3 cv
          gi_wp2
          exact ⟨Kx.refl _ _ _, d', ov', hU, H.out, hCU⟩
  case done =>
    rintro W ⟨d', ov', hU, hLI, hCU⟩ hD
    refine HK.out _ _ ?_; clear HK K
    clear hit hke
    have hs1 := (hLI.gray s).2 (.inl rfl)
    rw [hyl] at hLI
    have hfin := hLI.done hV HD.out.2.1
    have hln := hLI.di.len
    have f2 := free_blk (i := s) hU.s
    have c2 := cell_blk (i := s) hU.s
    rw [List.getElem?_toArray, rowX_get _ (by omega)] at c2
    have z2 := lt_blk hU.s
    have zD := lt_blk hD
    refine wpIn_seq_k (fun K hK => ?_)
    have HK := Lib.hid hK; clear hK
    gi_wp2
    refine HK.out _ _ ?_; clear HK K
    have hD2 : (W.setCell ⟨w0.heap.size + 2, s, none⟩ (.int .i64 2)).heap[w2.heap.size]? = some (.deferred (some [])) := (heap_set_other (by have := hV2.sz; omega)).trans hD
    have hC3 : Ch w0 ov w2 ov' (W.setCell ⟨w0.heap.size + 2, s, none⟩ (.int .i64 2)) := hCU.trans (Ch.one ov' (.inr (.inl rfl)))
    have g1 : (W.setCell ⟨w0.heap.size + 2, s, none⟩ (.int .i64 2)).heap[w0.heap.size]? = _ := (heap_set_other (by omega)).trans hU.wk
    have g2 : (W.setCell ⟨w0.heap.size + 2, s, none⟩ (.int .i64 2)).heap[w0.heap.size + 1]? = _ := (heap_set_other (by omega)).trans hU.o
    have g3 : (W.setCell ⟨w0.heap.size + 2, s, none⟩ (.int .i64 2)).heap[w0.heap.size + 2]? = some (.cells (rowX 10 (blackD s d').sta).toArray 125 (0, 0)) := by rw [heap_set_blk hU.s, rowX_set]; rfl
    have g4 : (W.setCell ⟨w0.heap.size + 2, s, none⟩ (.int .i64 2)).heap[w0.heap.size + 3]? = _ := (heap_set_other (by omega)).trans hU.k
    have g5 : (W.setCell ⟨w0.heap.size + 2, s, none⟩ (.int .i64 2)).heap[w0.heap.size + 4]? = _ := (heap_set_other (by omega)).trans hU.v
    have g6 : (W.setCell ⟨w0.heap.size + 2, s, none⟩ (.int .i64 2)).ownsRow _ _ _ _ _ _ := row_same hU.row (fun g hg => heap_set_other (by have := (hU.row.lt g hg).1; omega))
    have g7 := hU.b.setCell (p := ⟨w0.heap.size + 2, s, none⟩) (show w0.heap.size ≤ w0.heap.size + 2 by omega) (.int .i64 2)
    have g8 : w0.heap.size + 5 ≤ (W.setCell ⟨w0.heap.size + 2, s, none⟩ (.int .i64 2)).heap.size := by rw [World.size_setCell]; exact hU.sz
    have hC0 := hC2.trans hC3
    generalize World.setCell _ _ _ = W3 at *
    clear f2 c2 z2 zD hU hCU hC3 hD
    obtain ⟨ad, cap, hov⟩ := form_of g6
    subst hov
    have co := cell_blk (i := 0) g2
    have fo := free_blk (i := 0) g2
    simp only [List.getElem?_toArray, List.getElem?_cons_zero] at co
    have l1 := lt_blk g1
    have l2 := lt_blk g2
    have l3 := lt_blk g3
    have l4 := lt_blk g4
    have l5 := lt_blk g5
    have lD := lt_blk hD2
    have hV2s := hV2.sz
    gi_wp2_with (gi_at_builtin; refine wpListIn_append_own2 _ rfl _ _ 45 rfl (w0.heap.size + 5) 3 i3 (.int .i64 0) 1 8 Try.underlying45 HI3.out.1 HI3.out.2.1 HI3.out.2.2.1 HI3.out.2.2.2 rfl (by decide) _ _ _ rfl (g6.alloc _) ⟨W3.heap.size, 0, none⟩ 1 1 [.int .i64 s] rfl rfl (cell_new1 rfl) (by simp [Value.oneCell']) (Nat.le_trans (by omega : d'.out.length + 1 ≤ 100) (by decide)) (by omega) (by rw [World.size_alloc]; omega) ?_; intro v' w6 r1 r2 r3; obtain ⟨ad6, cap6, rfl⟩ := form_of r1; have hk6 : ∀ k, k < W3.heap.size → (Value.slice ad d'.out.length cap).ownBlock ≠ some k → w6.heap[k]? = W3.heap[k]? := (append_same1 g6 r2).1; have k2 := (hk6 _ l2 (own_ne g6 g2 (by decide))).trans g2; have co6 := cell_blk (i := 0) k2; have fo6 := free_blk (i := 0) k2; simp only [List.getElem?_toArray, List.getElem?_cons_zero] at co6)
    obtain ⟨-, hs6, e1, e2, e3⟩ := append_same1 g6 r2
    have hA := Ch.app (w0 := w0) g6 r2 r3
    have hB6 : Below w0.heap.size w0 w6 := ⟨e1.trans g7.os, e2.trans g7.tape, e3.trans g7.output, by have := g7.size; omega, fun k hk => (hk6 k (by omega) (fun e => by have := (g6.lt k e).1; omega)).trans (g7.block k hk)⟩
    have k1 := (hk6 _ l1 (own_ne g6 g1 (by decide))).trans g1
    have k3 := (hk6 _ l3 (own_ne g6 g3 (by decide))).trans g3
    have k4 := (hk6 _ l4 (own_ne g6 g4 (by decide))).trans g4
    have k5 := (hk6 _ l5 (own_ne g6 g5 (by decide))).trans g5
    have kD := (hk6 _ lD (fun e => by obtain ⟨cur, hc⟩ := row_cells g6 e; rw [hc] at hD2; cases hD2)).trans hD2
    have hwD := HSW.out
    have hC2s := hC2.size
    refine leave_mark_end rfl ((heap_set_other (by omega)).trans kD) (results_none rfl _ _ _) ⟨⟨_, rfl⟩, blackD s d', .slice ad6 (d'.out.length + 1) cap6, ?_, hfin.1, hfin.2, ?_⟩
    · refine ⟨(World.putObj_heap_other (by omega)).trans ((heap_set_other (by omega)).trans k1), (World.putObj_heap_other (by omega)).trans ?_, (World.putObj_heap_other (by omega)).trans ((heap_set_other (by omega)).trans k3), (World.putObj_heap_other (by omega)).trans ((heap_set_other (by omega)).trans k4), (World.putObj_heap_other (by omega)).trans ((heap_set_other (by omega)).trans k5), ?_, below_putObj (hB6.setCell (show w0.heap.size ≤ w0.heap.size + 1 by omega) _) (by omega), by simp; omega⟩
      · rw [heap_set_blk k2]; rfl
      · show World.ownsRow _ _ _ _ _ (d'.out ++ [s]).length ((d'.out ++ [s]).map _)
        rw [List.length_append, List.map_append]
        refine row_same r1 fun g hg => (World.putObj_heap_other ?_).trans (heap_set_other (by have := (r1.lt g hg).1; omega))
        rintro rfl
        obtain ⟨cur, hc⟩ := row_cells r1 hg
        rw [hc] at kD
        cases kD
    · have HH := (hC0.trans hA).trans (Ch.one (i := 0) (x := .slice ad6 (d'.out.length + 1) cap6) _ (.inl rfl))
      exact ⟨fun k hk h1 h2 h3 h4 => (World.putObj_heap_other (by omega)).trans (HH.keep k hk h1 h2 h3 h4), HH.own, Nat.le_trans HH.size (by simp)⟩
end Yteileadcmekkoaa
end Go.Proofs
