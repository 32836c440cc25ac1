/- Dispatch. -/
import Derived.Test.YtnihopdglkhbnaaSrch
open Go Go.RowKit Go.YtnihopdglkhbnaaIt
namespace Go
namespace YtnihopdglkhbnaaIt
open Go.Proofs.Ytnihopdglkhbnaa
theorem grown_same {W w1 : World} {base : Nat} {e : TypeId} {sz : Nat} {v : Value} {n : Nat} {xs : List Value} {o : Obj} (ho : W.ownsRow base e sz v n xs) (hg : (W.alloc o).grownBy w1 v.ownBlock) :
    (∀ k, k < W.heap.size → v.ownBlock ≠ some k → w1.heap[k]? = W.heap[k]?) ∧ W.heap.size + 1 ≤ w1.heap.size ∧ (base ≤ W.heap.size → Below base W w1) := by
  have hsz : (W.alloc o).heap.size = W.heap.size + 1 := by rw [World.size_alloc]
  have h1 : ∀ k, k < W.heap.size → v.ownBlock ≠ some k → w1.heap[k]? = W.heap[k]? := fun k hk hne => by
    rw [hg.block k (by omega) (fun h => hne h.symm)]
    exact heap_oldI hk
  refine ⟨h1, by have := hg.size; omega, fun hb => ⟨hg.os, hg.tape, hg.output, by have := hg.size; omega, fun k hk => h1 k (by omega) (fun h => by have := (ho.lt k h).1; omega)⟩⟩
theorem row_putObj {W : World} {base k : Nat} {e : TypeId} {sz : Nat} {v : Value} {n : Nat} {xs : List Value} {o : Obj} (h : W.ownsRow base e sz v n xs) (hk : k < base) : (W.putObj k o).ownsRow base e sz v n xs := by
  obtain ⟨h1, h2⟩ := h
  refine ⟨h1, ?_⟩
  rcases h2 with h | ⟨b, cap, cur, hv, hbb, hh, r1, r2, r3, r4⟩
  · exact .inl h
  · exact .inr ⟨b, cap, cur, hv, hbb, (World.putObj_heap_other (by omega)).trans hh, r1, r2, r3, r4⟩
end YtnihopdglkhbnaaIt
end Go
namespace Go.Proofs
namespace Ytnihopdglkhbnaa
set_option maxRecDepth 100000 in
theorem ask_test (b : Nat) (vt : Value) (ts : List Tn) (s : Int) (w : World) (hb : w.heap[b]? = some (.cells #[vt] 34 (0, 0))) (ht : SlT w vt ts) :
    Calls Try.prog 14 #[.int .i64 s, .pointer (some ⟨b, 0, none⟩)] w fun e w' => e = .returned (.bool (!btw 0 s (ts.length - 1))) ∧ Below w.heap.size w w' := by
  obtain ⟨ad, cap, rfl, hm, -⟩ := ht
  have c0 := cell_blk (i := 0) hb
  simp at c0
  have hbt := between_any 0 s ((ts.length : Int) - 1)
  obtain ⟨o1, ho1⟩ : ∃ o1, o1 = btw 0 s ((ts.length : Int) - 1) := ⟨_, rfl⟩
  rw [← ho1] at hbt ⊢
  clear ho1
  go_enter Try.func14, Try.ntmps14
  go_wp2_with (go_at_call 15; refine (hbt _).mono ?_; rintro e w' ⟨rfl, rfl⟩)
  go_ret
  exact ⟨rfl, Below.refl _ _⟩
/-- What a dispatcher lets go, and the state after all asks. -/
def dispG (L T : List Int) : List Int → List Int → List Bool × List Int
  | A, [] => ([], A)
  | A, m :: ms => if moveE L T A m = 0 ∧ safeB L T (moveS L T A m) = true then (true :: (dispG L T (moveS L T A m) ms).1, (dispG L T (moveS L T A m) ms).2) else (false :: (dispG L T A ms).1, (dispG L T A ms).2)
def dispE (L : List Int) (ts : List Tn) (asks : List Int) : Int :=
  if lineE L ts ≠ 0 then lineE L ts else if safeB L (tos ts) (pos ts) = false then 16 else if 500 < asks.length then 1 else if asks.any (fun i => !btw 0 i (ts.length - 1)) = true then 5 else 0
/-- A slice value that reads as a list of bools. -/
def SlB (w : World) (v : Value) (xs : List Bool) : Prop :=
  ∃ ad cap, v = .slice ad xs.length cap ∧ xs.length ≤ 17592186044416 ∧
    (0 < xs.length → ∃ b off, ad = some ⟨b, off, none⟩ ∧ b < w.heap.size ∧ ∀ i, i < xs.length → w.cell? ⟨b, off + i, none⟩ = some (.bool (xs.getD i false)))
theorem SlB.below {w w' : World} {v : Value} {xs : List Bool} {B : Nat} (h : SlB w v xs) (hb : Below B w w') (hB : w.heap.size ≤ B) : SlB w' v xs := by
  obtain ⟨ad, cap, hv, hm, hc⟩ := h
  refine ⟨ad, cap, hv, hm, fun h0 => ?_⟩
  obtain ⟨b, off, ha, hlt, hcell⟩ := hc h0
  exact ⟨b, off, ha, Nat.lt_of_lt_of_le hlt hb.size, fun i hi => (hb.cell (p := ⟨b, off + i, none⟩) (by simpa using by omega)).trans (hcell i hi)⟩
theorem slB_own {W : World} {base : Nat} {v : Value} {xs : List Bool} (h : W.ownsRow base 4 1 v xs.length (xs.map .bool)) (hm : xs.length ≤ 17592186044416) : SlB W v xs := by
  rcases Joins.ownsRow_forms h with ⟨rfl, h0⟩ | ⟨g, cap, rfl⟩
  · exact ⟨none, 0, by rw [h0], hm, fun h1 => by omega⟩
  · have hl := h.lt g rfl
    refine ⟨_, cap, rfl, hm, fun _ => ⟨g, 0, rfl, hl.2, fun i hi => ?_⟩⟩
    have := h.cellAt i (by omega)
    rw [Nat.zero_add, this]
    simp [hi]
theorem info4 : (Try.prog.info? 4).map (fun i => (i.zero, i.size, i.bytes)) = some (some (.bool false), 1, 1) := by kernel_rfl
/-- What holds before ask k. -/
structure DI (L T asks : List Int) (G : List Bool × List Int) (c10 base bm : Nat) (w2 : World) (k : Nat) (A : List Int) (lets : List Bool) (v : Value) (wr : World) : Prop where
  le : k ≤ asks.length
  len : lets.length = k
  ok : Okt L T A
  g1 : G.1 = lets ++ (dispG L T A (asks.drop k)).1
  g2 : G.2 = (dispG L T A (asks.drop k)).2
  at_ : wr.heap[c10]? = some (.cells (arr A) 49 (0, 0))
  row : wr.ownsRow base 4 1 v lets.length (lets.map .bool)
  memo : Memo wr bm (GSafe L T)
  bm_ : Bm bm c10 w2 wr
  size : base ≤ wr.heap.size
set_option maxRecDepth 100000 in
set_option maxHeartbeats 4000000 in
theorem disp_any (vL vt va : Value) (L : List Int) (ts : List Tn) (asks : List Int) (w : World) (hL : SlI w vL L) (ht : SlT w vt ts) (ha : SlI w va asks) :
    Calls Try.prog 7 #[vL, vt, va] w fun e w' => Below w.heap.size w w' ∧
      ((dispE L ts asks ≠ 0 ∧ e = .returned (.tuple #[.slice none 0 0, .slice none 0 0, .int .i64 (dispE L ts asks)])) ∨
       (dispE L ts asks = 0 ∧ ∃ v u, e = .returned (.tuple #[v, u, .int .i64 0]) ∧ SlB w' v (dispG L (tos ts) (pos ts) asks).1 ∧ SlT w' u (tsOf (dispG L (tos ts) (pos ts) asks).2 (tos ts)))) := by
  have hP : (arr (pos ts)).size = 5 := by rw [arr_size]; exact posK_len _ _
  have ht0 := ht
  have ha0 := ha
  obtain ⟨adt, capt, hvt, hmt, hct⟩ := ht
  subst hvt
  clear hct
  obtain ⟨ada, capa, hva, hma, hca⟩ := ha
  subst hva
  have hmf : ∀ (fn : Fn) (first cap : Array Value) (w : World), (Instr.makeFunc fn first cap).run Try.prog w = .ok (.func fn first cap) w := fun _ _ _ _ => rfl
  have HCA := Lib.hid hca
  clear hca
  go_enter Try.func7, Try.ntmps7
  refine wp_seq_k (fun K hK => ?_)
  have HK := Lib.hid hK; clear hK
  go_wp2
  refine HK.out _ _ ?_; clear HK K
  generalize hw1 : World.alloc _ _ = w1
  have b4 : w1.heap[w.heap.size]? = some (.cells #[.slice adt ts.length capt] 34 (0, 0)) := by rw [← hw1]; exact heap_newI rfl
  have hb1 : Below w.heap.size w w1 := by rw [← hw1]; go_grown
  have hs1 : w.heap.size + 1 ≤ w1.heap.size := by rw [← hw1]; simp
  clear hw1
  have c4 := cell_blk (i := 0) b4
  simp at c4
  have h48 := track_any vL _ L ts w1 (hL.below hb1 (Nat.le_refl _)) (ht0.below hb1 (Nat.le_refl _))
  have H := Lib.hid h48
  clear h48
  refine wp_scope_straight ?_
  refine wp_seq_k (fun K hK => ?_)
  have HK := Lib.hid hK; clear hK
  go_wp2_with (first | (refine wpList_store_blk rfl 49 _ _ rfl _ rfl rfl (heap_newI rfl) size84 (by first | exact (arr_size _).trans hA | exact hP) rfl (arr_one _) ?_) | (go_at_call 11; refine H.out.mono ?_; rintro e w2 ⟨hb2, hcs⟩; rcases hcs with ⟨hne, A, hA, rfl⟩ | ⟨he, bx, bm, vT, rfl, hT2, hM2, hbm⟩))
  all_goals refine HK.out _ _ ?_; clear HK K
  · have hneb : (lineE L ts != 0) = true := bne_iff_ne.2 hne
    have hE : dispE L ts asks = lineE L ts := by unfold dispE; rw [if_pos hne]
    have HE := Lib.hid hE
    clear hE
    go_wp2
    rw [Exit.noGoto_ret]
    go_ret3
    refine ⟨?_, .inl ⟨by rw [HE.out]; exact hne, by rw [HE.out]; rfl⟩⟩
    exact below_putObj ((hb1.trans (hb2.mono (by omega))).alloc (by have := hb2.size; omega) _) (by have := hb2.size; omega)
  have hE : dispE L ts asks = if safeB L (tos ts) (pos ts) = false then 16 else if 500 < asks.length then 1 else if asks.any (fun i => !btw 0 i (ts.length - 1)) = true then 5 else 0 := by unfold dispE; rw [if_neg (by rw [he]; decide)]
  have HE := Lib.hid hE
  clear hE
  generalize hw3 : World.putObj _ _ _ = w3
  have hs2 := hb2.size
  have b10 : w3.heap[w2.heap.size]? = some (.cells (arr (pos ts)) 49 (0, 0)) := by rw [← hw3]; exact World.putObj_heap_same (by rw [World.size_alloc]; omega)
  have hbf : Below w2.heap.size w2 w3 := by rw [← hw3]; exact below_putObj ((Below.refl _ _).alloc (Nat.le_refl _) _) (Nat.le_refl _)
  have hB2 : Below w.heap.size w w2 := hb1.trans (hb2.mono (by omega))
  have hB3 : Below w.heap.size w w3 := hB2.trans (hbf.mono hB2.size)
  have hT3 : Tk w3 bx bm vL vT L (tos ts) := hT2.below hbf (Nat.le_refl _)
  have hM3 : Memo w3 bm (GSafe L (tos ts)) := hM2.below hbf hM2.lt
  have hs3 : w2.heap.size + 1 ≤ w3.heap.size := by rw [← hw3]; simp
  have g4 := blk_below (blk_below b4 hb2 (by omega)) hbf (by omega)
  have hlm := hM2.lt
  have ok := okt_of he
  have he0 : (lineE L ts != 0) = false := by simp [he]
  clear hw3 c4 b4 H
  have h49 := safe_any bx bm vL vT L (tos ts) (pos ts) w3 ok hT3 hM3
  obtain ⟨sb, hsb⟩ : ∃ sb, sb = safeB L (tos ts) (pos ts) := ⟨_, rfl⟩
  rw [← hsb] at h49
  have HSB := Lib.hid hsb
  clear hsb
  have hBw : ∀ W, Bm bm w3.heap.size w3 W → Below w.heap.size w W := fun W h => hB3.trans ⟨h.os, h.tape, h.output, h.size, fun k hk => h.block k (Nat.lt_of_lt_of_le hk hB3.size) (by omega)⟩
  cases sb
  · have hE : dispE L ts asks = 16 := by rw [HE.out, if_pos HSB.out.symm]
    have HE2 := Lib.hid hE
    clear hE
    go_wp2_with (first
      | (go_at_call 12; refine h49.mono ?_; rintro e w4 ⟨rfl, -, hb4⟩)
      | (refine wpList_load_blk rfl 49 _ rfl _ rfl b10 Try.underlying49 rfl size84 hP ?_))
    rw [Exit.noGoto_ret]
    go_ret3
    exact ⟨hBw _ hb4, .inl ⟨by rw [HE2.out]; decide, by rw [HE2.out]; rfl⟩⟩
  have hE : dispE L ts asks = if 500 < asks.length then 1 else if asks.any (fun i => !btw 0 i (ts.length - 1)) = true then 5 else 0 := by rw [HE.out, if_neg (by rw [← HSB.out]; decide)]
  have HE2 := Lib.hid hE
  clear hE HE
  refine wp_seq_k (fun K hK => ?_)
  have HK := Lib.hid hK; clear hK
  by_cases hlen : 500 < asks.length
  · have hE : dispE L ts asks = 1 := by rw [HE2.out, if_pos hlen]
    have HE3 := Lib.hid hE
    clear hE HE2
    go_wp2_with (first
      | (go_at_call 12; refine h49.mono ?_; rintro e w4 ⟨rfl, -, hb4⟩)
      | (refine wpList_load_blk rfl 49 _ rfl _ rfl b10 Try.underlying49 rfl size84 hP ?_))
    rw [Exit.noGoto_ret]
    go_ret3
    exact ⟨hBw _ hb4, .inl ⟨by rw [HE3.out]; decide, by rw [HE3.out]; rfl⟩⟩
  have h57 : ∀ W, Bm bm w3.heap.size w3 W → Calls Try.prog 13 #[.slice ada asks.length capa, .func (.func 14) #[] #[.pointer (some ⟨w.heap.size, 0, none⟩)]] W fun e w' => e = .returned (.bool (asks.any (fun i => !btw 0 i (ts.length - 1)))) ∧ Below W.heap.size W w' := fun W hW => by
    have hw := hBw W hW
    have g := (hW.block _ (lt_blk g4) (by omega)).trans g4
    refine any22_any _ asks 14 _ (fun i => !btw 0 i (ts.length - 1)) W (ha0.below hw (Nat.le_refl _)) ⟨enters_of Try.func14 (by kernel_rfl) rfl, fun x W' hb => ?_⟩
    exact ask_test w.heap.size _ ts x W' (blk_below g hb (lt_blk g)) (ht0.below (hw.trans (hb.mono hw.size)) (Nat.le_refl _))
  obtain ⟨oo, hoo⟩ : ∃ oo, oo = asks.any (fun i => !btw 0 i (ts.length - 1)) := ⟨_, rfl⟩
  rw [← hoo] at h57
  have HOO := Lib.hid hoo
  have H57 := Lib.hid h57
  clear hoo h57
  cases oo
  rotate_left
  · have hE : dispE L ts asks = 5 := by rw [HE2.out, if_neg hlen, if_pos HOO.out.symm]
    have HE3 := Lib.hid hE
    clear hE HE2
    go_wp2_with (first
      | (go_at_call 12; refine h49.mono ?_; rintro e w4 ⟨rfl, -, hb4⟩)
      | (go_at_call 13; refine (H57.out _ hb4).mono ?_; rintro e w5 ⟨rfl, hb5⟩)
      | (refine wpList_load_blk rfl 49 _ rfl _ rfl b10 Try.underlying49 rfl size84 hP ?_))
    rw [Exit.noGoto_ret]
    go_ret3
    have h4 := hBw _ hb4
    exact ⟨h4.trans (hb5.mono h4.size), .inl ⟨by rw [HE3.out]; decide, by rw [HE3.out]; rfl⟩⟩
  have hE : dispE L ts asks = 0 := by rw [HE2.out, if_neg hlen, if_neg (by rw [← HOO.out]; decide)]
  have HE3 := Lib.hid hE
  clear hE HE2
  go_wp2_with (first
    | (go_at_call 12; refine h49.mono ?_; rintro e w4 ⟨rfl, hM4, hb4⟩)
    | (go_at_call 13; refine (H57.out _ hb4).mono ?_; rintro e w5 ⟨rfl, hb5⟩)
    | (refine wpList_load_blk rfl 49 _ rfl _ rfl b10 Try.underlying49 rfl size84 hP ?_))
  refine HK.out _ _ ?_; clear HK K
  have q10 := blk_below ((hb4.block _ (lt_blk b10) (by omega)).trans b10) hb5 (Nat.lt_of_lt_of_le (lt_blk b10) hb4.size)
  have q4 := blk_below ((hb4.block _ (lt_blk g4) (by omega)).trans g4) hb5 (Nat.lt_of_lt_of_le (lt_blk g4) hb4.size)
  have hM5 := hM4.below hb5 hM4.lt
  have hb35 : Bm bm w3.heap.size w3 w5 := hb4.trans (Bm.of (hb5.mono hb4.size))
  have hs35 := hb35.size
  clear hM4 hb4 hb5 h49 H57 HOO
  have hb25 : Bm bm w2.heap.size w2 w5 := (Bm.of hbf).trans (hb35.mono (by omega))
  obtain ⟨G, hG⟩ : ∃ G, G = dispG L (tos ts) (pos ts) asks := ⟨_, rfl⟩
  rw [← hG]
  have HG := Lib.hid hG
  clear hG
  have hlen5 : asks.length ≤ 500 := by omega
  refine wp_seq_k (fun K hK => ?_)
  have HK := Lib.hid hK; clear hK
  go_step3
  refine HK.out _ _ ?_; clear HK K
  refine wp_seq_k (fun K hK => ?_)
  have HK := Lib.hid hK; clear hK
  go_wp2
  go_loopw [6, 41] (fun v i wr => ∃ (k : Nat) (A : List Int) (lets : List Bool), i = .int .i64 k ∧ DI L (tos ts) asks G w2.heap.size w5.heap.size bm w2 k A lets v wr) (fun _ i _ => asks.length - (intOf i).toNat)
  case atStart => exact ⟨0, pos ts, [], rfl, Nat.zero_le _, rfl, ok, by rw [HG.out]; rfl, by rw [HG.out]; rfl, q10, World.ownsRow_nil _ _ _ _, hM5, hb25, Nat.le_refl _⟩
  case round =>
    obtain ⟨k, A, lets, rfl, hk, hll, okA, hg1, hg2, r10, rrow, rM, rB, rs⟩ := hrel
    have hl10 := lt_blk r10
    by_cases hkn : k < asks.length
    · obtain ⟨b, off, rfl, hltc, hcell⟩ := HCA.out (by omega)
      have hBW : Below w.heap.size w wr := hB2.trans ⟨rB.os, rB.tape, rB.output, rB.size, fun j hj => rB.block j (Nat.lt_of_lt_of_le hj hB2.size) (by omega)⟩
      have h1 := (hBW.cell (p := ⟨b, off + k, none⟩) hltc).trans (hcell k hkn)
      have hTr := hT2.bm hM2 rB
      have h55 := move_any bx bm vL vT L (tos ts) A (at0 asks k) wr okA hTr
      have okS : Okt L (tos ts) (moveS L (tos ts) A (at0 asks k)) := moveS_okt okA
      have hstep : dispG L (tos ts) A (asks.drop k) = if moveE L (tos ts) A (at0 asks k) = 0 ∧ safeB L (tos ts) (moveS L (tos ts) A (at0 asks k)) = true then (true :: (dispG L (tos ts) (moveS L (tos ts) A (at0 asks k)) (asks.drop (k + 1))).1, (dispG L (tos ts) (moveS L (tos ts) A (at0 asks k)) (asks.drop (k + 1))).2) else (false :: (dispG L (tos ts) A (asks.drop (k + 1))).1, (dispG L (tos ts) A (asks.drop (k + 1))).2) := by
        rw [List.drop_eq_getElem_cons hkn, ← at0_lt hkn]; rfl
      rw [hstep] at hg1 hg2
      generalize at0 asks k = m at *
      have hS5 : (arr (moveS L (tos ts) A m)).size = 5 := by rw [arr_size]; exact okS.a5
      have hA5 : (arr A).size = 5 := by rw [arr_size]; exact okA.a5
      generalize moveS L (tos ts) A m = S at *
      generalize moveE L (tos ts) A m = me at *
      obtain ⟨sf, hsf⟩ : ∃ sf, sf = safeB L (tos ts) S := ⟨_, rfl⟩
      rw [← hsf] at hg1 hg2
      have HSF := Lib.hid hsf
      have HLL := Lib.hid hll
      have HG1 := Lib.hid hg1
      have HG2 := Lib.hid hg2
      obtain ⟨i4, hi4, hz1, hz2, hz3⟩ := info_parts info4
      have hll5 : lets.length ≤ 500 := by omega
      have hne10 : w2.heap.size ≠ bm := by omega
      clear hsf hll hg1 hg2 hstep hcell hltc
      by_cases hme : me = 0
      · have hme1 : (me != 0) = false := by simp [hme]
        have HME := Lib.hid hme
        clear hme
        cases sf
        · have hg1 := HG1.out
          have hg2 := HG2.out
          rw [if_neg (fun h => by cases h.2)] at hg1 hg2
          have HG1 := Lib.hid hg1
          have HG2 := Lib.hid hg2
          clear hg1 hg2
          go_wp2_with (first
            | (go_at_call 16; refine h55.mono ?_; rintro e w6 ⟨rfl, hb6⟩; have hs6 := hb6.size)
            | (refine wpList_load_blk rfl 49 _ rfl _ rfl r10 Try.underlying49 rfl size84 hA5 ?_)
            | (refine wpList_store_blk rfl 49 _ _ rfl _ rfl rfl (heap_newI rfl) size84 hS5 rfl (arr_one _) ?_; generalize hw7 : World.putObj _ _ _ = w7; have r13 : w7.heap[w6.heap.size]? = some (.cells (arr S) 49 (0, 0)) := by { rw [← hw7]; exact World.putObj_heap_same (by rw [World.size_alloc]; omega) }; have hb7 : Below wr.heap.size wr w7 := by { rw [← hw7]; exact below_putObj (hb6.alloc hb6.size _) hb6.size }; have r10' := blk_below r10 hb7 hl10; have rM7 := rM.below hb7 rM.lt; have rrow7 := Stb.row (B := 0) _ _ (Gr.below hb7) rrow; have rB7 : Bm bm w2.heap.size w2 w7 := rB.trans (Bm.of (hb7.mono (by omega))); have rs7 := hb7.size; have hl13 := lt_blk r13; have h49 := safe_any bx bm vL vT L (tos ts) S w7 okS (hT2.bm hM2 rB7) rM7; rw [← HSF.out] at h49; clear hw7)
            | (refine wpList_load_blk rfl 49 _ rfl _ rfl r13 Try.underlying49 rfl size84 hS5 ?_)
            | (go_at_call 12; refine h49.mono ?_; rintro e w8 ⟨rfl, rM8, hb8⟩; have hs8 := hb8.size; have r10'' := (hb8.block _ (by omega) hne10).trans r10'; have r13' := (hb8.block _ hl13 (by omega)).trans r13; have rrow8 := row_bm rrow7 hb8 (by omega); have rB8 : Bm bm w2.heap.size w2 w8 := rB7.trans (hb8.mono (by omega)); clear h49)
            | (at_builtin; refine wpList_append_own _ rfl _ _ 38 rfl w5.heap.size 4 i4 (.bool false) 1 1 Try.underlying38 hi4 hz1 hz2 hz3 rfl (by decide) _ _ _ rfl (rrow8.alloc _) ⟨w8.heap.size, 0, none⟩ 1 1 [.bool false] rfl rfl (cell_new1 rfl) (by simp [Value.oneCell']) (Nat.le_trans (by omega : lets.length + 1 ≤ 2000) (by decide)) (by omega) (by rw [World.size_alloc]; omega) ?_; intro v' w9 p1 p2 _; obtain ⟨p3, p4, p5⟩ := grown_same rrow8 p2; have p6 := p5 (by omega); clear p5))
          go_roundw
          case rel =>
            refine ⟨k + 1, A, lets ++ [false], by go_num, by omega, by simp [HLL.out], okA, ?_, ?_, (p6.block _ (by omega)).trans r10'', ?_, rM8.below p6 (by omega), rB8.trans (Bm.of (p6.mono (by omega))), by omega⟩
            · rw [HG1.out]; simp
            · rw [HG2.out]
            · rw [List.length_append, List.map_append]; exact p1
          case measure => simp [intOf]; omega
        · have hg1 := HG1.out
          have hg2 := HG2.out
          have hc : me = 0 ∧ true = true := ⟨HME.out, rfl⟩
          rw [if_pos hc] at hg1 hg2
          clear hc
          have HG3 := Lib.hid hg1
          have HG4 := Lib.hid hg2
          clear hg1 hg2
          go_wp2_with (first
            | (go_at_call 16; refine h55.mono ?_; rintro e w6 ⟨rfl, hb6⟩; have hs6 := hb6.size)
            | (refine wpList_load_blk rfl 49 _ rfl _ rfl r10 Try.underlying49 rfl size84 hA5 ?_)
            | (refine wpList_store_blk rfl 49 _ _ rfl _ rfl rfl (heap_newI rfl) size84 hS5 rfl (arr_one _) ?_; generalize hw7 : World.putObj _ _ _ = w7; have r13 : w7.heap[w6.heap.size]? = some (.cells (arr S) 49 (0, 0)) := by { rw [← hw7]; exact World.putObj_heap_same (by rw [World.size_alloc]; omega) }; have hb7 : Below wr.heap.size wr w7 := by { rw [← hw7]; exact below_putObj (hb6.alloc hb6.size _) hb6.size }; have r10' := blk_below r10 hb7 hl10; have rM7 := rM.below hb7 rM.lt; have rrow7 := Stb.row (B := 0) _ _ (Gr.below hb7) rrow; have rB7 : Bm bm w2.heap.size w2 w7 := rB.trans (Bm.of (hb7.mono (by omega))); have rs7 := hb7.size; have hl13 := lt_blk r13; have h49 := safe_any bx bm vL vT L (tos ts) S w7 okS (hT2.bm hM2 rB7) rM7; rw [← HSF.out] at h49; clear hw7)
            | (refine wpList_load_blk rfl 49 _ rfl _ rfl r13 Try.underlying49 rfl size84 hS5 ?_)
            | (go_at_call 12; refine h49.mono ?_; rintro e w8 ⟨rfl, rM8, hb8⟩; have hs8 := hb8.size; have r10'' := (hb8.block _ (by omega) hne10).trans r10'; have r13' := (hb8.block _ hl13 (by omega)).trans r13; have rrow8 := row_bm rrow7 hb8 (by omega); have rB8 : Bm bm w2.heap.size w2 w8 := rB7.trans (hb8.mono (by omega)); clear h49)
            | ((at_builtin; refine wpList_append_own _ rfl _ _ 38 rfl w5.heap.size 4 i4 (.bool false) 1 1 Try.underlying38 hi4 hz1 hz2 hz3 rfl (by decide) _ _ _ rfl (rrow8.alloc _) ⟨w8.heap.size, 0, none⟩ 1 1 [.bool true] rfl rfl (cell_new1 rfl) (by simp [Value.oneCell']) (Nat.le_trans (by omega : lets.length + 1 ≤ 2000) (by decide)) (by omega) (by rw [World.size_alloc]; omega) ?_; intro v' w9 p1 p2 _; obtain ⟨p3, p4, p5⟩ := grown_same rrow8 p2; have p6 := p5 (by omega); clear p5); have r13'' := (p3 _ (by omega) (own_ne rrow8 r13' (by decide))).trans r13')
            | (refine wpList_load_blk rfl 49 _ rfl _ rfl r13'' Try.underlying49 rfl size84 hS5 ?_)
            | (refine wpList_store_blk rfl 49 _ _ rfl _ rfl rfl ((p6.block _ (by omega)).trans r10'') size84 hS5 hA5 (arr_one _) ?_))
          go_roundw
          case rel =>
            refine ⟨k + 1, S, lets ++ [true], by go_num, by omega, by simp [HLL.out], okS, ?_, ?_, World.putObj_heap_same (by omega), row_putObj ?_ (by omega), ?_, rB8.trans ((Bm.of (p6.mono (by omega))).trans (Bm.of (below_putObj (Below.refl _ _) (Nat.le_refl _)))), by simp; omega⟩
            · rw [HG3.out]; simp
            · rw [HG4.out]
            · rw [List.length_append, List.map_append]; exact p1
            · exact (rM8.below p6 (by omega)).below (below_putObj (n := w2.heap.size) (Below.refl _ _) (Nat.le_refl _)) (by omega)
          case measure => simp [intOf]; omega
      · have hme1 : (me != 0) = true := bne_iff_ne.2 hme
        have hg1 := HG1.out
        have hg2 := HG2.out
        rw [if_neg (fun h => hme h.1)] at hg1 hg2
        have HG1 := Lib.hid hg1
        have HG2 := Lib.hid hg2
        clear hg1 hg2 hme
        go_wp2_with (first
          | (go_at_call 16; refine h55.mono ?_; rintro e w6 ⟨rfl, hb6⟩; have hs6 := hb6.size)
          | (refine wpList_load_blk rfl 49 _ rfl _ rfl r10 Try.underlying49 rfl size84 hA5 ?_)
          | (refine wpList_store_blk rfl 49 _ _ rfl _ rfl rfl (heap_newI rfl) size84 hS5 rfl (arr_one _) ?_; generalize hw7 : World.putObj _ _ _ = w7; have r13 : w7.heap[w6.heap.size]? = some (.cells (arr S) 49 (0, 0)) := by { rw [← hw7]; exact World.putObj_heap_same (by rw [World.size_alloc]; omega) }; have hb7 : Below wr.heap.size wr w7 := by { rw [← hw7]; exact below_putObj (hb6.alloc hb6.size _) hb6.size }; have r10' := blk_below r10 hb7 hl10; have rM7 := rM.below hb7 rM.lt; have rrow7 := Stb.row (B := 0) _ _ (Gr.below hb7) rrow; have rB7 : Bm bm w2.heap.size w2 w7 := rB.trans (Bm.of (hb7.mono (by omega))); have rs7 := hb7.size; have hl13 := lt_blk r13; have h49 := safe_any bx bm vL vT L (tos ts) S w7 okS (hT2.bm hM2 rB7) rM7; rw [← HSF.out] at h49; clear hw7)
          | (at_builtin; refine wpList_append_own _ rfl _ _ 38 rfl w5.heap.size 4 i4 (.bool false) 1 1 Try.underlying38 hi4 hz1 hz2 hz3 rfl (by decide) _ _ _ rfl (rrow7.alloc _) ⟨w7.heap.size, 0, none⟩ 1 1 [.bool false] rfl rfl (cell_new1 rfl) (by simp [Value.oneCell']) (Nat.le_trans (by omega : lets.length + 1 ≤ 2000) (by decide)) (by omega) (by rw [World.size_alloc]; omega) ?_; intro v' w9 p1 p2 _; obtain ⟨p3, p4, p5⟩ := grown_same rrow7 p2; have p6 := p5 (by omega); clear p5))
        go_roundw
        case rel =>
          refine ⟨k + 1, A, lets ++ [false], by go_num, by omega, by simp [HLL.out], okA, ?_, ?_, (p6.block _ (by omega)).trans r10', ?_, rM7.below p6 (by omega), rB7.trans (Bm.of (p6.mono (by omega))), by omega⟩
          · rw [HG1.out]; simp
          · rw [HG2.out]
          · rw [List.length_append, List.map_append]; exact p1
        case measure => simp [intOf]; omega
    · have hkn2 : k = asks.length := by omega
      have hd : asks.drop k = [] := List.drop_eq_nil_of_le (by omega)
      rw [hd] at hg1 hg2
      have hL1 : lets = G.1 := by rw [hg1]; simp [dispG]
      have hA1 : A = G.2 := by rw [hg2]; rfl
      have HL1 := Lib.hid hL1
      have HA1 := Lib.hid hA1
      have hTr := hT2.bm hM2 rB
      have hA5 : (arr A).size = 5 := by rw [arr_size]; exact okA.a5
      have h60 := trains_any bx bm vL vT L (tos ts) A wr okA.a5 okA.t5 hTr
      have hBW : Below w.heap.size w wr := hB2.trans ⟨rB.os, rB.tape, rB.output, rB.size, fun j hj => rB.block j (Nat.lt_of_lt_of_le hj hB2.size) (by omega)⟩
      have hll5 : lets.length ≤ 500 := by omega
      clear hkn2 hd hg1 hg2 hL1 hA1 hll
      obtain ⟨adv, capv, rfl⟩ : ∃ ad cap, u6 = .slice ad lets.length cap := by
        rcases Joins.ownsRow_forms rrow with ⟨h, h0⟩ | ⟨g, cap, h⟩
        · exact ⟨none, 0, by rw [h0]; exact h⟩
        · exact ⟨_, _, h⟩
      go_wp2
      refine HK.out _ _ ?_
      go_wp2_with (first
        | (refine wpList_load_blk rfl 49 _ rfl _ rfl r10 Try.underlying49 rfl size84 hA5 ?_)
        | (go_at_call 17; refine h60.mono ?_; rintro e w6 ⟨u, rfl, hu, hb6⟩))
      rw [Exit.noGoto_ret]
      go_ret3
      refine ⟨hBW.trans (hb6.mono hBW.size), .inr ⟨HE3.out, _, _, rfl, ?_, ?_⟩⟩
      · rw [← HL1.out]
        exact (slB_own rrow (by omega)).below hb6 (Nat.le_refl _)
      · rw [← HA1.out]
        exact hu
end Ytnihopdglkhbnaa
end Go.Proofs

