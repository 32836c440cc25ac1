/- Fields: the iterator over the lines through two lows around a week. -/
import Derived.Test.YtgnjeefanbcbkaaA4
import Derived.Test.YtgnjeefanbcbkaaGenJ
open Go Go.RowKit Go.YtgnjeefanbcbkaaIt
namespace Go.Proofs
namespace Ytgnjeefanbcbkaa
/-- Lows and highs within bounds. -/
structure Bds (n : Nat) (L H : Nat → Int) : Prop where
  n1 : 1 ≤ n
  n30 : n ≤ 30
  lo : ∀ w, w < n → 0 ≤ L w ∧ L w ≤ 30000
  hi : ∀ w, w < n → 0 ≤ H w ∧ H w ≤ 30000
theorem whole_bd {x : Int} (h : 0 ≤ x ∧ x ≤ 30000) : Bd 2000000 29 (whole x) := ⟨by show _ ≤ x; omega, by show x ≤ _; omega, whole_pos _, by show (1 : Int) ≤ _; decide⟩
theorem lineH_ww {i k w : Nat} {x y : Int} (hi : i < 30) (hk : k < 30) (hw : w < 30) (hne : i ≠ k) (hx : 0 ≤ x ∧ x ≤ 30000) (hy : 0 ≤ y ∧ y ≤ 30000) : LineH i (whole x) k (whole y) w :=
  ⟨by omega, whole_bd hx, whole_bd hy, by show (1 : Int) * 1 ≤ 29; decide, by omega, by omega, by omega⟩
def rowM (n w : Nat) : Nat := n - (w + 1)
theorem linesL_len (L : Nat → Int) (n w : Nat) : (linesL L n w).length = w * rowM n w := by
  unfold linesL; rw [flat_length (sz := rowM n w) (fun i => by simp [lowRow]; rfl)]; simp
theorem linesL_get (L : Nat → Int) {n w i j : Nat} (hi : i < w) (hj : j < rowM n w) : (linesL L n w)[i * rowM n w + j]? = some (lowT L w i (w + 1 + j)) := by
  have h := flat_get (enc := lowRow L n w) (sz := rowM n w) (fun i => by simp [lowRow]; rfl) (xs := List.range w) (k := i) (by simpa using hi) hj
  unfold linesL
  rw [h]
  unfold rowM at hj
  simp [lowRow, hj]
def linesY (L : Nat → Int) (n w : Nat) : List (Array Value) := (linesL L n w).map fun x => #[enc x]
theorem linesY_len (L : Nat → Int) (n w : Nat) : (linesY L n w).length = w * rowM n w := by simp [linesY, linesL_len]
theorem linesY_get (L : Nat → Int) {n w i j : Nat} (hi : i < w) (hj : j < rowM n w) : ∃ hk : i * rowM n w + j < (linesY L n w).length, (linesY L n w)[i * rowM n w + j] = #[enc (lowT L w i (w + 1 + j))] := by
  obtain ⟨hl, he⟩ := List.getElem?_eq_some_iff.1 (linesL_get L hi hj)
  exact ⟨by simpa [linesY] using hl, by simp [linesY, he]⟩
theorem linesY_at (L : Nat → Int) {n w k q m : Nat} (hm : m = rowM n w) (hk : k < w) (h1 : w + 1 ≤ q) (h2 : q < n) : ∃ hk : k * m + (q - (w + 1)) < (linesY L n w).length, (linesY L n w)[k * m + (q - (w + 1))] = #[enc (lowT L w k q)] := by
  subst hm
  obtain ⟨hl, he⟩ := linesY_get L (n := n) hk (j := q - (w + 1)) (by unfold rowM; omega)
  refine ⟨hl, ?_⟩
  rw [he, show w + 1 + (q - (w + 1)) = q by omega]
/-- What the iterator reads. -/
structure KeL (bw bp b n : Nat) (L H : Nat → Int) (w : Nat) (W : World) : Prop where
  wk : W.heap[bw]? = some (.cells #[.int .i64 (w : Int)] 3 (0, 0))
  pt : W.heap[bp]? = some (.cells #[.pointer (some ⟨b, 0, none⟩)] 89 (0, 0))
  yr : Yr W b n L H
set_option maxRecDepth 100000 in
set_option maxHeartbeats 4000000 in
theorem lines_iter (TT : TypeId → Prop) (bw bp b n : Nat) (L H : Nat → Int) (w : Nat) (hb : Bds n L H) (hw : w < n) : Iter Try.prog TT 84 #[.pointer (some ⟨bw, 0, none⟩), .pointer (some ⟨bp, 0, none⟩)] (linesY L n w) (KeL bw bp b n L H w) := by
  intro l W J Jx Jp hK sJ sJx sJp hY h0
  have hn30 := hb.n30
  have hll := linesY_len L n w
  have HK := Lib.hid hK
  have HY := Lib.hid hY
  have HL := Lib.hid hll
  have HB := Lib.hid hb
  obtain ⟨m, hm⟩ : ∃ m, m = rowM n w := ⟨_, rfl⟩
  have hm' : w + 1 + m = n := by unfold rowM at hm; omega
  have HM := Lib.hid hm
  clear hK hY hll hb hm
  refine callsFw.1 (callsIn_of_wp (F := fw none) (n := 0) Try.func84 rfl trivial ?_)
  simp only [Try.ntmps84, List.size_toArray, List.length_cons, List.length_nil, Nat.reduceAdd, Nat.reduceSub, Array.replicate_succ, Array.replicate_zero, List.push_toArray, List.append_toArray, List.nil_append, List.cons_append]
  obtain ⟨hwk, hpt, hyr⟩ := HK.out _ _ h0
  have c0 := cell_blk (i := 0) hwk
  simp only [List.getElem?_toArray, List.getElem?_cons_zero] at c0
  gi_wp2
  clear hwk hpt hyr c0
  gi_loopw [7] (fun i wr => ∃ k : Nat, k ≤ w ∧ i = .int .i64 k ∧ J (k * m) wr ∧ W.heap.size ≤ wr.heap.size) (fun i _ => w - (intOf i).toNat)
  case atStart => exact ⟨0, Nat.zero_le _, rfl, by rw [Nat.zero_mul]; exact h0, Nat.le_refl _⟩
  case round =>
    obtain ⟨k, hk, rfl, hJ, hsz⟩ := hrel
    by_cases hkw : k < w
    · obtain ⟨hwk, hpt, hyr⟩ := HK.out _ _ hJ
      have c0 := cell_blk (i := 0) hwk
      simp only [List.getElem?_toArray, List.getElem?_cons_zero] at c0
      gi_wp2
      clear hwk hpt hyr c0
      have hJ0 : J (k * m + (w + 1 - (w + 1))) wr := by rw [Nat.sub_self]; exact hJ
      gi_loopw [5] (fun i wq => ∃ q : Nat, w + 1 ≤ q ∧ q ≤ n ∧ i = .int .i64 q ∧ J (k * m + (q - (w + 1))) wq ∧ W.heap.size ≤ wq.heap.size) (fun i _ => n - (intOf i).toNat)
      case atStart => exact ⟨w + 1, Nat.le_refl _, by omega, by go_num, hJ0, hsz⟩
      case round =>
        clear hJ hJ0 hsz
        obtain ⟨q, hq1, hq2, rfl, hJ, hsz⟩ := hrel
        by_cases hqn : q < n
        · obtain ⟨hwk, hpt, hyr⟩ := HK.out _ _ hJ
          have c0 := cell_blk (i := 0) hwk
          have c1 := cell_blk (i := 0) hpt
          have c2 := hyr.wk
          simp only [List.getElem?_toArray, List.getElem?_cons_zero] at c0 c1
          obtain ⟨hlen, hyk⟩ := linesY_at L HM.out hkw hq1 hqn
          have HYK := Lib.hid hyk
          clear hyk
          have hlw := lt_blk hwk
          have hlp := lt_blk hpt
          have hlb := hyr.lt
          gi_wp2
          rename_i K hK
          have HK2 := Lib.hid hK; clear hK
          clear c2
          refine wpIn_region_ab_tailIn 9 wr.heap.size wr (by kernel_rfl) (by kernel_rfl) (by kernel_rfl) (fun ⟨_, _, h⟩ => by rcases (show ((∃ v, Ending.outgrown = Ending.returned v) ∧ _) ∨ ∃ ch, Ending.outgrown = Ending.panicked ch ∧ _ from h) with ⟨⟨_, h⟩, _⟩ | ⟨_, h, _⟩ <;> cases h) (Below.refl _ _) ?_
          have e0 := fun (z : Ab wr.heap.size wr) => (z.ok.cell (p := ⟨bw, 0, none⟩) hlw).trans c0
          have e1 := fun (z : Ab wr.heap.size wr) => (z.ok.cell (p := ⟨bp, 0, none⟩) hlp).trans c1
          have hL1 := HB.out.lo k (by omega)
          have hL2 := HB.out.lo q hqn
          have h75 := fun (z : Ab wr.heap.size wr) (i : Nat) (hi : i < n) => Calls.ab z (Nat.le_refl _) (lowest_any (hyr.keep z.ok) (i := i) hi hn30)
          have h76 := fun (z : Ab wr.heap.size wr) => Calls.ab z (Nat.le_refl _) (line_any k (whole (L k)) q (whole (L q)) w z.val (lineH_ww (by omega) (by omega) (by omega) (by omega) hL1 hL2))
          have H75 := Lib.hid h75
          have H76 := Lib.hid h76
          clear h75 h76 hL1 hL2 c0 c1
          simp only [List.take_succ_cons, List.take_zero, List.drop_succ_cons, List.drop_zero]
          unfold AbC at *
          repeat go_big_quiet_step (first | (go_at_call 75; with_reducible exact H75.out _ _ (by omega)) | (go_at_call 76; with_reducible exact H76.out _))
          refine wpQuiet_nil ?_
          rintro W' ⟨z, rfl⟩
          have hz := z.ok
          obtain ⟨V, hV⟩ : ∃ V, V = z.val := ⟨_, rfl⟩
          rw [← hV] at hz ⊢
          clear hV z e0 e1 hyr hlw hlp hlb H75 H76
          have hJ2 := sJ _ _ _ (Gr.below hz) hJ
          have hy := HY.out _ hlen V (by have := hz.size; omega) hJ2
          rw [HYK.out] at hy
          obtain ⟨fn, tmps, assign, body, hy, hR⟩ := hy
          have hzs := hz.size
          clear hlen HYK hJ hJ2 hz hwk hpt
          have hnx : k * m + (q - (w + 1)) + 1 = k * m + (q + 1 - (w + 1)) := by omega
          have HN := Lib.hid hnx
          clear hnx
          unfold lowT at hy
          gi_wp2
          refine RoundIn.mono (F := Fence.wide) hR ?_
          clear hy hR
          rintro e W' (⟨rfl, hJ', hs'⟩ | ⟨rfl, hx', hs'⟩ | ⟨ch, rfl, hp', hs'⟩)
          · rw [HN.out] at hJ'
            have hz := hs'.size
            gi_wp2
            refine HK2.out _ _ ?_
            gi_wp2
            go_roundw
            case rel => exact ⟨q + 1, by omega, by omega, by go_num, hJ', by omega⟩
            case measure => simp [intOf]; omega
          · gi_wp2
            refine HK2.out _ _ ?_
            gi_wp2
            refine bodyPost_ret (results_none rfl _ _ _) rfl ?_
            exact .inl ⟨⟨_, rfl⟩, .inr hx'⟩
          · exact ⟨rfl, .inr ⟨ch, rfl, hp'⟩⟩
        · have hqe : q = n := by omega
          subst hqe
          obtain ⟨hwk, hpt, hyr⟩ := HK.out _ _ hJ
          have c1 := cell_blk (i := 0) hpt
          have c2 := hyr.wk
          simp only [List.getElem?_toArray, List.getElem?_cons_zero] at c1
          have hJ1 : J ((k + 1) * m) wr := by rw [Nat.add_mul, Nat.one_mul]; rw [show q - (w + 1) = m by omega] at hJ; exact hJ
          clear hJ
          gi_wp2
          go_roundw
          case rel => exact ⟨k + 1, by omega, by go_num, hJ1, hsz⟩
          case measure => simp [intOf]; omega
    · have hke : k = w := by omega
      subst hke
      have hJ2 : J (linesY L n k).length wr := by rw [HL.out, ← HM.out]; exact hJ
      clear hJ
      gi_wp2
      go_end0
      exact .inl ⟨⟨_, rfl⟩, .inl hJ2⟩
end Ytgnjeefanbcbkaa
end Go.Proofs
