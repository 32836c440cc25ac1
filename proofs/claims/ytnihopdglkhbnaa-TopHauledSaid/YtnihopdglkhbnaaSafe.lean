/- Whether a state is safe: the program's search, with what it remembers. -/
import Derived.Test.YtnihopdglkhbnaaSafem
import Derived.Test.YtnihopdglkhbnaaMemo
import Derived.StillTailTactics
open Go Go.RowKit Go.YtnihopdglkhbnaaIt
namespace Go.Proofs
namespace Ytnihopdglkhbnaa

theorem arr_inj {A B : List Int} (h : arr A = arr B) : A = B := by
  have h2 : A.map (Value.int .i64) = B.map (Value.int .i64) := by simpa [arr] using congrArg Array.toList h
  exact (List.map_inj_right (fun a b e => by cases e; rfl)).1 h2
theorem key84 : WideMaps.ArrKey Try.prog 49 3 5 := ⟨Try.underlying49, by kernel_rfl, by kernel_rfl, by kernel_rfl⟩
theorem keyed84 : Maps.Keyed Try.prog 49 := Maps.Keyed.of_law key84.law
theorem tsize : ∃ m, Try.prog.types.size = m + 1 := ⟨116, by kernel_rfl⟩
theorem wf_small {x : Int} (h0 : 0 ≤ x) (h1 : x < 100) : (Lit.int .i64 x).wf = true := by
  have e1 : IntKind.i64.min ≤ 0 := by decide
  have e2 : 100 ≤ IntKind.i64.max := by decide
  simp only [Lit.wf, Bool.and_eq_true, decide_eq_true_eq]; omega
/-- An entry of what is remembered. -/
def GSafe (L T : List Int) (k v : Value) : Prop := ∃ A, Okt L T A ∧ k = .agg (arr A) ∧ v = .bool (safeB L T A)
theorem gkey {L T : List Int} {k v : Value} (h : GSafe L T k v) : ∃ l, keyOf Try.prog 49 k = some l := by
  obtain ⟨A, ok, rfl, _⟩ := h
  exact keyOf_ints key84 Try.underlying3 tsize ok.a5 (fun x hx => wf_small (ok.bnd x hx).1 (ok.bnd x hx).2)
theorem akey {L T A : List Int} (ok : Okt L T A) : ∃ l, keyOf Try.prog 49 (.agg (arr A)) = some l :=
  keyOf_ints key84 Try.underlying3 tsize ok.a5 (fun x hx => wf_small (ok.bnd x hx).1 (ok.bnd x hx).2)
theorem gval {L T A : List Int} {v : Value} (h : GSafe L T (.agg (arr A)) v) : v = .bool (safeB L T A) := by
  obtain ⟨B, _, h1, h2⟩ := h
  cases arr_inj (by injection h1)
  exact h2
theorem zero4 (w : World) : (zeroValue 4).run Try.prog w = .ok (.bool false) w := by kernel_rfl

theorem SlI.bm {w w' : World} {v : Value} {xs : List Int} {m : Nat} {o : Obj} (h : SlI w v xs) (hb : Bm m w.heap.size w w') (hm : w.heap[m]? = some o) (ho : o.isCells = false) : SlI w' v xs := by
  obtain ⟨ad, cap, hv, hmx, hc⟩ := h
  refine ⟨ad, cap, hv, hmx, fun h0 => ?_⟩
  obtain ⟨b, off, ha, hlt, hcell⟩ := hc h0
  have hne : b ≠ m := by
    rintro rfl
    obtain ⟨_, o2, h2, h3⟩ := YtnihopdglkhbnaaIt.cells_of_cell (hcell 0 h0)
    have he := Option.some.inj (hm.symm.trans h2)
    rw [← he, ho] at h3
    exact absurd h3 (by simp)
  exact ⟨b, off, ha, Nat.lt_of_lt_of_le hlt hb.size, fun i hi => (World.cell?_of_block (w := w) (hb.block b hlt hne)).trans (hcell i hi)⟩
theorem Tk.bm {W W' : World} {bx bm : Nat} {vL vT : Value} {L T : List Int} {G : Value → Value → Prop} (h : Tk W bx bm vL vT L T) (hm : Memo W bm G) (hb : Bm bm W.heap.size W W') : Tk W' bx bm vL vT L T := by
  obtain ⟨es, clock, h1, _⟩ := hm
  have hne : bx ≠ bm := by rintro rfl; rw [h.blk] at h1; cases h1
  exact ⟨(hb.block bx (lt_blk h.blk) hne).trans h.blk, h.sl.bm hb h1 rfl, h.st.bm hb h1 rfl⟩

set_option maxRecDepth 100000 in
set_option maxHeartbeats 4000000 in
theorem safe_any (bx bm : Nat) (vL vT : Value) (L T : List Int) : ∀ (A : List Int) (w : World), Okt L T A → Tk w bx bm vL vT L T → Memo w bm (GSafe L T) →
    Calls Try.prog 12 #[.pointer (some ⟨bx, 0, none⟩), .agg (arr A)] w fun e w' => e = .returned (.bool (safeB L T A)) ∧ Memo w' bm (GSafe L T) ∧ Bm bm w.heap.size w w' := by
  intro A
  induction hn : left A T using Nat.strongRecOn generalizing A with
  | _ n ih =>
  intro w ok hT hM
  have hA5 : (arr A).size = 5 := by rw [arr_size, ok.a5]
  have HN := Lib.hid hn
  clear hn
  refine calls_of_wpM Try.func12 rfl ?_
  simp only [Try.ntmps12, List.size_toArray, List.length_cons, List.length_nil, Nat.reduceAdd, Nat.reduceSub, Array.replicate_succ, Array.replicate_zero, List.push_toArray, List.append_toArray, List.nil_append, List.cons_append]
  refine wpIn_seq_k (fun K hK => ?_)
  have HK := Lib.hid hK; clear hK
  gi_wp2
  refine HK.out _ _ ?_; clear HK K
  generalize hw1 : World.alloc _ _ = w1
  have b1 : w1.heap[w.heap.size]? = some (.cells #[.pointer (some ⟨bx, 0, none⟩)] 47 (0, 0)) := by rw [← hw1]; simp (disch := first | omega | (simp only [World.size_alloc]; done) | (simp only [World.size_alloc]; omega)) only [heap_newI, heap_oldI]
  have b2 : w1.heap[w.heap.size + 1]? = some (.cells (arr A) 49 (0, 0)) := by rw [← hw1]; simp (disch := first | omega | (simp only [World.size_alloc]; done) | (simp only [World.size_alloc]; omega)) only [heap_newI]
  have hb1 : Below w.heap.size w w1 := by rw [← hw1]; go_grown
  have hs1 : w.heap.size + 2 ≤ w1.heap.size := by rw [← hw1]; simp
  clear hw1
  have hT1 : Tk w1 bx bm vL vT L T := hT.below hb1 (Nat.le_refl _)
  have hM1 : Memo w1 bm (GSafe L T) := hM.below hb1 hM.lt
  obtain ⟨kl, hkl⟩ := akey ok
  have c1 := cell_blk (i := 0) b1
  have cm := cell_blk (i := 2) hT1.blk
  simp at c1 cm
  refine wpIn_seq_k (fun K hK => ?_)
  have HK := Lib.hid hK; clear hK
  refine wpIn_seq_k (fun K2 hK2 => ?_)
  have HK2 := Lib.hid hK2; clear hK2
  refine wpIn_of_wp ?_
  rcases hM1.look keyed84 Try.underlying71 zero4 (fun _ _ => gkey) hkl with hlk | hlk
  · have hlk' : ∀ W, (∃ n, W = w1.drewN n) → (Instr.lookup 71 (.map (some bm)) (.agg (arr A)) true).run Try.prog W = .ok (.tuple #[.bool false, .bool false]) W := by rintro W ⟨n, rfl⟩; exact hlk _ rfl
    have HL := Lib.hid hlk'
    clear hlk hlk'
    refine wp_region_quiet_lit (by kernel_rfl) (by kernel_rfl) ?_
    have hq84 : ∀ W, (∃ n, W = w1.drewN n) → W.heap[w.heap.size + 1]? = some (.cells (arr A) 49 (0, 0)) := by rintro W ⟨n, rfl⟩; exact b2
    have HQ := Lib.hid hq84
    clear hq84
    iterate 4 go_big_quiet_step (fail)
    refine wpQuiet_load_blk rfl 49 _ rfl _ rfl HQ.out Try.underlying49 rfl size84 hA5 ?_
    simp only [Act.put, List.setIfInBounds_toArray, List.set_cons_succ, List.set_cons_zero]
    refine wpQuiet_lookup_run rfl 71 _ _ true rfl rfl rfl HL.out ?_
    simp only [Act.put, List.setIfInBounds_toArray, List.set_cons_succ, List.set_cons_zero]
    repeat go_big_quiet_step (fail)
    refine wpQuiet_nil ?_
    rintro W ⟨nq, rfl⟩
    refine HK2.out _ _ ?_; clear HK2 K2
    generalize hw2 : World.drewN _ _ = w2
    have b1' : w2.heap[w.heap.size]? = some (.cells #[.pointer (some ⟨bx, 0, none⟩)] 47 (0, 0)) := by rw [← hw2]; exact b1
    have b2' : w2.heap[w.heap.size + 1]? = some (.cells (arr A) 49 (0, 0)) := by rw [← hw2]; exact b2
    have hb2 : Below w.heap.size w w2 := by rw [← hw2]; exact below_drewN hb1 _
    have hs2 : w.heap.size + 2 ≤ w2.heap.size := by rw [← hw2]; exact hs1
    clear hw2 b1 b2 hb1 hs1 hT1 hM1 c1 cm HL HQ
    have hT2 : Tk w2 bx bm vL vT L T := hT.below hb2 (Nat.le_refl _)
    have hM2 : Memo w2 bm (GSafe L T) := hM.below hb2 hM.lt
    have c1 := cell_blk (i := 0) b1'
    simp at c1
    gi_wp2
    refine HK.out _ _ ?_; clear HK K
    refine wpIn_seq_k (fun K hK => ?_)
    have HK := Lib.hid hK; clear hK
    obtain ⟨acc, hacc⟩ : ∃ acc, acc = decide (wayL A T = []) := ⟨_, rfl⟩
    have HA := Lib.hid hacc
    have harr := arrived_any bx bm vL vT L T A w2 ok hT2
    rw [← hacc] at harr
    clear hacc
    gi_wp2_with (first | (refine wpListIn_load_blk rfl 49 _ rfl _ rfl b2' Try.underlying49 rfl size84 hA5 ?_) | (gi_at_call 30; refine callsTo harr ?_; rintro e w3 ⟨rfl, hb3⟩))
    refine HK.out _ _ ?_; clear HK K
    generalize hw4 : World.alloc _ _ = w4
    have hb4 : Below w2.heap.size w2 w4 := by rw [← hw4]; exact hb3.alloc hb3.size _
    have b7 : w4.heap[w3.heap.size]? = some (.cells #[.bool acc] 4 (0, 0)) := by rw [← hw4]; exact heap_newI rfl
    have hs7 := hb3.size
    have hs4 : w3.heap.size + 1 ≤ w4.heap.size := by rw [← hw4]; simp
    clear hw4 hb3 harr
    generalize w3.heap.size = c7 at *
    have g1 := blk_below b1' hb4 (by omega)
    have g2 := blk_below b2' hb4 (by omega)
    have hbw4 : Below w.heap.size w w4 := hb2.trans (hb4.mono (by omega))
    have hT4 : Tk w4 bx bm vL vT L T := hT.below hbw4 (Nat.le_refl _)
    have hM4 : Memo w4 bm (GSafe L T) := hM.below hbw4 hM.lt
    have hlt := hM.lt
    clear b1' b2' hb2 hb4 hT2 hM2 c1
    have c1 := cell_blk (i := 0) g1
    simp at c1
    refine wpIn_seq_k (fun K hK => ?_)
    have HK := Lib.hid hK; clear hK
    refine wpIn_seq_k (fun K2 hK2 => ?_)
    have HK2 := Lib.hid hK2; clear hK2
    gi_wp2_with (first | (refine wpListIn_load_blk rfl 49 _ rfl _ rfl g2 Try.underlying49 rfl size84 hA5 ?_) | (gi_at_call 31; refine callsTo (moves_any bx bm vL vT L T A w4 hT4) ?_; rintro e w5 ⟨rfl, hke, hb5⟩))
    refine HK2.out _ _ ?_; clear HK2 K2
    have hs5 := hb5.size
    have b7' := blk_below b7 hb5 (by omega)
    have g1' := blk_below g1 hb5 (by omega)
    have g2' := blk_below g2 hb5 (by omega)
    have hM5 : Memo w5 bm (GSafe L T) := hM4.below hb5 hM4.lt
    have hB5 : Bm bm w.heap.size w w5 := Bm.of (hbw4.trans (hb5.mono (by omega)))
    have hit := moves_iter TTm (fun _ h => h) w4.heap.size (w4.heap.size + 1) bx bm vL vT L T A ok
    refine wpIn_block ?_
    refine wpIn_range (gf := 44) (lb := #[.pointer (some ⟨w4.heap.size, 0, none⟩), .pointer (some ⟨w4.heap.size + 1, 0, none⟩)]) ?hg ?eg hit ?hps
      (fun k V => ((V.heap[w4.heap.size]? = some (.cells #[.pointer (some ⟨bx, 0, none⟩)] 47 (0, 0)) ∧ V.heap[w4.heap.size + 1]? = some (.cells (arr A) 49 (0, 0))) ∧ (V.heap[w.heap.size]? = some (.cells #[.pointer (some ⟨bx, 0, none⟩)] 47 (0, 0)) ∧ V.heap[w.heap.size + 1]? = some (.cells (arr A) 49 (0, 0)))) ∧
        V.heap[c7]? = some (.cells #[.bool acc] 4 (0, 0)) ∧ Memo V bm (GSafe L T) ∧ Bm bm w.heap.size w V ∧ ((movL L T A).take k).any (fun i => safeB L T (after L T A i)) = false)
      (fun c V => c = .exit 0 ∧ (V.heap[w.heap.size]? = some (.cells #[.pointer (some ⟨bx, 0, none⟩)] 47 (0, 0)) ∧ V.heap[w.heap.size + 1]? = some (.cells (arr A) 49 (0, 0))) ∧
        V.heap[c7]? = some (.cells #[.bool true] 4 (0, 0)) ∧ Memo V bm (GSafe L T) ∧ Bm bm w.heap.size w V ∧ (movL L T A).any (fun i => safeB L T (after L T A i)) = true) ?hK ?sI ?sIx ?h0 ?round ?done ?stop
    case hg => rfl
    case eg => exact (enters_of Try.func44 (by kernel_rfl) rfl)
    case hps => intro y hy; simp [movY] at hy; obtain ⟨i, _, rfl⟩ := hy; rfl
    case hK => exact fun k V ⟨⟨⟨h1, h2⟩, _⟩, _, _, h5, _⟩ => ⟨h1, h2, hT.bm hM h5⟩
    case h0 => exact ⟨⟨⟨hke.x, hke.at_⟩, g1', g2'⟩, b7', hM5, hB5, rfl⟩
    case sI => exact fun k => ((Stb.cells.and Stb.cells).and (Stb.cells.and Stb.cells)).and (Stb.cells.and ((Memo.stb (by omega)).and ((Stb.bm (by omega) (Nat.le_refl _)).and Stb.pure)))
    case sIx => exact fun k => Stb.pure.and ((Stb.cells.and Stb.cells).and (Stb.cells.and ((Memo.stb (by omega)).and ((Stb.bm (by omega) (Nat.le_refl _)).and Stb.pure))))
    case round =>
      intro k hk l V hI
      have hk' : k < (movL L T A).length := by simpa [movY] using hk
      have hyk : (movY L T A)[k] = #[.int .i64 (((movL L T A)[k] : Nat) : Int), .agg (arr (after L T A (movL L T A)[k]))] := by simp [movY]
      have hmem := mov_mem (List.getElem_mem hk')
      have htk : ((movL L T A).take (k + 1)).any (fun i => safeB L T (after L T A i)) = (((movL L T A).take k).any (fun i => safeB L T (after L T A i)) || safeB L T (after L T A (movL L T A)[k])) := by
        rw [List.take_succ_eq_append_getElem hk', List.any_append]; simp
      have hall : safeB L T (after L T A (movL L T A)[k]) = true → (movL L T A).any (fun i => safeB L T (after L T A i)) = true := fun h => List.any_eq_true.2 ⟨_, List.getElem_mem hk', h⟩
      rw [hyk]
      generalize (movL L T A)[k] = i at *
      have HI := Lib.hid hI
      have HT := Lib.hid htk
      have HALL := Lib.hid hall
      have HM := Lib.hid hmem
      clear hall hmem htk hyk hI hit hk hk' hke b7' g1' g2' hM5 hB5 b7 g1 g2 c1 hM4 hT4 hb5 hbw4
      simp only [List.zip_toArray, List.zip_cons_cons, List.zip_nil_right, List.foldl_toArray', List.size_toArray, List.length_cons, List.length_nil, List.foldl_cons, List.foldl_nil, List.setIfInBounds_toArray, List.set_cons_succ, List.set_cons_zero]
      obtain ⟨hi, hio, hic⟩ := HM.out
      have hA6 : (arr (after L T A i)).size = 5 := by rw [arr_size, (ok.after hi hio).a5]
      have hl6 : left (after L T A i) T < n := by have := left_after ok hi hio hic; have := HN.out; omega
      have ok6 := ok.after hi hio
      clear hi hio hic
      gi_wp2_with (first | (refine wpListIn_store_blk rfl 49 _ _ rfl _ rfl rfl (World.alloc_heap_new _ _) size84 hA6 rfl (arr_one _) ?_))
      have hbV : Below V.heap.size V ((V.alloc (.cells #[.int .i64 0, .int .i64 0, .int .i64 0, .int .i64 0, .int .i64 0] 49)).putObj V.heap.size (.cells (arr (after L T A i)) 49 (0, 0))) :=
        below_putObj ((Below.refl _ V).alloc (Nat.le_refl _) _) (Nat.le_refl _)
      have b9 : ((V.alloc (.cells #[.int .i64 0, .int .i64 0, .int .i64 0, .int .i64 0, .int .i64 0] 49)).putObj V.heap.size (.cells (arr (after L T A i)) 49 (0, 0))).heap[V.heap.size]? = some (.cells (arr (after L T A i)) 49 (0, 0)) := World.putObj_heap_same (by simp)
      obtain ⟨⟨⟨g1, g2⟩, g3, g4⟩, g5, g6, g7, g8⟩ := HI.out
      clear HI
      generalize World.putObj _ _ _ = V4 at *
      refine ⟨Kx.below hbV, fun U => (((U.heap[w4.heap.size]? = some (.cells #[.pointer (some ⟨bx, 0, none⟩)] 47 (0, 0)) ∧ U.heap[w4.heap.size + 1]? = some (.cells (arr A) 49 (0, 0))) ∧ (U.heap[w.heap.size]? = some (.cells #[.pointer (some ⟨bx, 0, none⟩)] 47 (0, 0)) ∧ U.heap[w.heap.size + 1]? = some (.cells (arr A) 49 (0, 0)))) ∧
        U.heap[c7]? = some (.cells #[.bool acc] 4 (0, 0)) ∧ Memo U bm (GSafe L T) ∧ Bm bm w.heap.size w U) ∧ U.heap[V.heap.size]? = some (.cells (arr (after L T A i)) 49 (0, 0)),
        (((Stb.cells.and Stb.cells).and (Stb.cells.and Stb.cells)).and (Stb.cells.and ((Memo.stb (by omega)).and (Stb.bm (by omega) (Nat.le_refl _))))).and Stb.cells,
        ⟨⟨⟨⟨blk_below g1 hbV (lt_blk g1), blk_below g2 hbV (lt_blk g2)⟩, blk_below g3 hbV (lt_blk g3), blk_below g4 hbV (lt_blk g4)⟩, blk_below g5 hbV (lt_blk g5), g6.below hbV g6.lt, g7.trans (Bm.of (hbV.mono g7.size))⟩, b9⟩, ?_⟩
      have hgV := g7.size
      clear g1 g2 g3 g4 g5 g6 g7 b9 hbV
      rintro V2 - ⟨⟨⟨⟨g1, g2⟩, g3, g4⟩, g5, g6, g7⟩, g9⟩
      have c1 := cell_blk (i := 0) g3
      simp at c1
      have hT2 := hT.bm hM g7
      have hcall := ih _ hl6 _ rfl V2 ok6 hT2 g6
      refine wpIn_block ?_
      refine wpIn_seq_k (fun K hK => ?_)
      have HK := Lib.hid hK; clear hK
      have hl1 := lt_blk g1
      have hl2 := lt_blk g2
      have hl3 := lt_blk g3
      have hl4 := lt_blk g4
      have hl5 := lt_blk g5
      obtain ⟨sv, hsv⟩ : ∃ sv, sv = safeB L T (after L T A i) := ⟨_, rfl⟩
      rw [← hsv] at hcall
      have HSV := Lib.hid hsv
      clear hsv
      gi_wp2_with (first | (refine wpListIn_load_blk rfl 49 _ rfl _ rfl g9 Try.underlying49 rfl size84 hA6 ?_) | (gi_at_call 12; refine callsTo hcall ?_; rintro e V3 ⟨rfl, hM3, hB3⟩))
      refine HK.out _ _ ?_; clear HK K
      have hkx : Kx w5.heap.size TTm V2 V3 := by
        obtain ⟨es, clock, hm1, _⟩ := g6
        exact Kx.bm hB3 hm1 rfl (by omega)
      have q1 := (hB3.block _ hl1 (by omega)).trans g1
      have q2 := (hB3.block _ hl2 (by omega)).trans g2
      have q3 := (hB3.block _ hl3 (by omega)).trans g3
      have q4 := (hB3.block _ hl4 (by omega)).trans g4
      have q5 := (hB3.block _ hl5 (by omega)).trans g5
      have q7 : Bm bm w.heap.size w V3 := g7.trans (hB3.mono g7.size)
      clear hcall hT2 g1 g2 g3 g4 g5 g6 g7 g9 hB3 hl1 hl2 hl3 hl4 hl5 c1
      have d5 := cell_blk (i := 0) q5
      have f5 := free_blk (i := 0) q5
      simp at d5
      cases sv
      · have htk : ((movL L T A).take (k + 1)).any (fun i => safeB L T (after L T A i)) = false := by rw [HT.out, g8, ← HSV.out]; rfl
        have HTK := Lib.hid htk
        clear htk g8
        gi_wp2
        exact ⟨hkx, ⟨⟨q1, q2⟩, q3, q4⟩, q5, hM3, q7, HTK.out⟩
      · have hall := HALL.out HSV.out.symm
        have HTK := Lib.hid hall
        clear hall g8
        gi_wp2
        refine ⟨hkx.trans (Kx.setCell q5 (by rintro (h | h | h) <;> cases h)), rfl, ⟨?_, ?_⟩, ?_, ?_, ?_, HTK.out⟩
        · rw [heap_set_other (by omega)]; exact q3
        · rw [heap_set_other (by omega)]; exact q4
        · rw [heap_set_blk q5]; rfl
        · obtain ⟨es, clock, hm1, hm2⟩ := hM3
          exact ⟨es, clock, by rw [heap_set_other (by omega)]; exact hm1, hm2⟩
        · exact q7.trans (Bm.of ((Below.refl _ _).setCell (by simp; omega) _))
    case' done =>
      rintro V ⟨⟨-, g3, g4⟩, g5, g6, g7, g8⟩ hD
      have hsv : acc = safeB L T A := by
        rw [safeB_step ok, ← HA.out]
        have : (movL L T A).take (movY L T A).length = movL L T A := List.take_of_length_le (by simp [movY])
        rw [this] at g8; rw [g8]; simp
      have hg8 := Lib.hid g8
      clear g8
    case' stop =>
      rintro c V ⟨rfl, ⟨g3, g4⟩, g5, g6, g7, g8⟩ hD
      have hsv : true = safeB L T A := by rw [safeB_step ok, g8]; simp
      refine wpIn_exit ?_
      simp only [Exit.inBlock, if_pos]
      have hg8 := Lib.hid g8
      clear g8
    all_goals
      have HSV := Lib.hid hsv
      refine HK.out _ _ ?_
      clear hsv HK K hit hke b7' g1' g2' hM5 hB5 b7 g1 g2 c1 hM4 hT4 hb5 hbw4 hg8
      have hTV := hT.bm hM g7
      have c1 := cell_blk (i := 0) g3
      have c5 := cell_blk (i := 0) g5
      have cm := cell_blk (i := 2) hTV.blk
      simp at c1 c5 cm
      refine wpIn_seq_k (fun K hK => ?_)
      have HK := Lib.hid hK; clear hK
      refine wpIn_of_wp ?_
      refine wp_region_still_tail 6 (by kernel_rfl) (by kernel_rfl) ?_
      simp only [List.take_succ_cons, List.take_zero, List.drop_succ_cons, List.drop_zero]
      iterate 4 still_step
      refine wpStill_load_blk rfl 49 _ rfl _ rfl g4 Try.underlying49 rfl size84 hA5 ?_
      simp only [Act.put, List.setIfInBounds_toArray, List.set_cons_succ, List.set_cons_zero]
      still_step
      refine wpStill_nil ?_
      have hMd : Memo { V with drawn := V.drawn + 1 } bm (GSafe L T) := g6
      obtain ⟨es', clock', hrun, hes'⟩ := Memo.update hMd keyed84 Try.underlying71 (fun _ _ => gkey) hkl (v := _) ⟨A, ok, rfl, congrArg Value.bool HSV.out⟩
      refine wpList_mapUpdate_run rfl 71 _ _ _ rfl rfl rfl rfl hrun ?_
      refine wpList_nil ?_
      simp only [Act.put, Exit.then]
      refine HK.out _ _ ?_; clear HK K
      have q5 : (({ V with drawn := V.drawn + 1 } : World).putObj bm (.map es' clock')).heap[c7]? = _ := (World.putObj_heap_other (by omega)).trans g5
      have qD : (({ V with drawn := V.drawn + 1 } : World).putObj bm (.map es' clock')).heap[w5.heap.size]? = _ := (World.putObj_heap_other (by omega)).trans hD
      have qM : Memo (({ V with drawn := V.drawn + 1 } : World).putObj bm (.map es' clock')) bm (GSafe L T) := ⟨es', clock', World.putObj_heap_same g6.lt, hes'⟩
      have qB : Bm bm w.heap.size w (({ V with drawn := V.drawn + 1 } : World).putObj bm (.map es' clock')) := g7.trans ⟨rfl, rfl, rfl, by simp, fun k _ hne => World.putObj_heap_other hne⟩
      clear hrun hes' hMd c1 c5 cm hTV g3 g4 g5 g6 g7 hD
      generalize World.putObj _ _ _ = w6 at *
      have c5 := cell_blk (i := 0) q5
      simp at c5
      gi_wp2
      refine leave_mark rfl qD (results_tmp rfl _ _ _) ⟨?_, ?_, ?_⟩
      · rw [← HSV.out]; rfl
      · obtain ⟨es, clock, hm1, hm2⟩ := qM
        exact ⟨es, clock, (World.putObj_heap_other (by omega)).trans hm1, hm2⟩
      · exact qB.trans (Bm.of (below_putObj (Below.refl _ _) (by omega)))
  · have hlk' : ∀ W, (∃ n, W = w1.drewN n) → (Instr.lookup 71 (.map (some bm)) (.agg (arr A)) true).run Try.prog W = .ok (.tuple #[.bool (safeB L T A), .bool true]) W := by
      rintro W ⟨n, rfl⟩
      obtain ⟨v, hv, hr⟩ := hlk (w1.drewN n) rfl
      rw [gval hv] at hr
      exact hr
    have HL := Lib.hid hlk'
    clear hlk hlk'
    refine wp_region_quiet_lit (by kernel_rfl) (by kernel_rfl) ?_
    have hq84 : ∀ W, (∃ n, W = w1.drewN n) → W.heap[w.heap.size + 1]? = some (.cells (arr A) 49 (0, 0)) := by rintro W ⟨n, rfl⟩; exact b2
    have HQ := Lib.hid hq84
    clear hq84
    iterate 4 go_big_quiet_step (fail)
    refine wpQuiet_load_blk rfl 49 _ rfl _ rfl HQ.out Try.underlying49 rfl size84 hA5 ?_
    simp only [Act.put, List.setIfInBounds_toArray, List.set_cons_succ, List.set_cons_zero]
    refine wpQuiet_lookup_run rfl 71 _ _ true rfl rfl rfl HL.out ?_
    simp only [Act.put, List.setIfInBounds_toArray, List.set_cons_succ, List.set_cons_zero]
    repeat go_big_quiet_step (fail)
    refine wpQuiet_nil ?_
    rintro W ⟨nq, rfl⟩
    refine HK2.out _ _ ?_; clear HK2 K2
    have hb2 : Below w.heap.size w (w1.drewN nq) := below_drewN hb1 _
    have hM2 : Memo (w1.drewN nq) bm (GSafe L T) := hM1
    generalize World.drewN _ _ = w2 at *
    clear HL HQ hT1 hM1 c1 cm b1 b2
    gi_wp2
    exact ⟨_, results_tmp rfl _ _ _, rfl, hM2, Bm.of hb2⟩
end Ytnihopdglkhbnaa
end Go.Proofs

