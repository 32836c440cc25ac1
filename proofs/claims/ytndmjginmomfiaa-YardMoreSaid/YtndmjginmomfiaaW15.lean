/- least: the layer of all states whose numbers in a table are at least some number. -/
import Derived.Test.YtndmjginmomfiaaW14
open Go Go.RowKit Go.YtndmjginmomfiaaIt
namespace Go.Proofs
namespace Ytndmjginmomfiaa
def tabR (tab : List (List Int)) (m : Nat) : List Int := tab.getD m []
theorem tabR_lt {tab : List (List Int)} {m : Nat} (h : m < tab.length) : tabR tab m = tab[m] := by simp [tabR, h]
def lsB (tab : List (List Int)) (n : Int) (m s : Nat) : Bool := decide (n ≤ at0 (tabR tab m) s)
def lsM (tab : List (List Int)) (n : Int) (k : Nat) : List Nat := (List.range 4).map fun m => if m < k then bw (lsB tab n m) (tabR tab m).length else 0
def lsS (tab : List (List Int)) (n : Int) (k s : Nat) : List Nat := (lsM tab n k).set k (bw (lsB tab n k) s)
def leastP (tab : List (List Int)) (n : Int) : List Nat := lsM tab n tab.length
theorem lsM_len (tab : List (List Int)) (n : Int) (k : Nat) : (lsM tab n k).length = 4 := by simp [lsM]
theorem lsS_len (tab : List (List Int)) (n : Int) (k s : Nat) : (lsS tab n k s).length = 4 := by simp [lsS, lsM]
theorem lsM_zero (tab : List (List Int)) (n : Int) : lsM tab n 0 = [0, 0, 0, 0] := by simp [lsM]; decide
theorem lsM_get (tab : List (List Int)) (n : Int) (k : Nat) {m : Nat} (h : m < 4) : (lsM tab n k)[m]? = some (if m < k then bw (lsB tab n m) (tabR tab m).length else 0) := by simp [lsM, h]
theorem lsS_zero (tab : List (List Int)) (n : Int) (k : Nat) : lsS tab n k 0 = lsM tab n k := by
  apply List.ext_getElem?
  intro m
  unfold lsS
  rw [List.getElem?_set]
  by_cases h : k = m
  · subst h
    rw [if_pos rfl]
    by_cases h4 : k < 4
    · rw [if_pos (by rw [lsM_len]; exact h4), lsM_get _ _ _ h4, if_neg (by omega)]; rfl
    · rw [if_neg (by rw [lsM_len]; exact h4), List.getElem?_eq_none (by rw [lsM_len]; omega)]
  · rw [if_neg h]
theorem lsS_end (tab : List (List Int)) (n : Int) (k : Nat) : lsS tab n k (tabR tab k).length = lsM tab n (k + 1) := by
  apply List.ext_getElem?
  intro m
  unfold lsS
  rw [List.getElem?_set]
  by_cases h4 : m < 4
  · by_cases h : k = m
    · subst h
      rw [if_pos rfl, if_pos (by rw [lsM_len]; exact h4), lsM_get _ _ _ h4, if_pos (by omega)]
    · rw [if_neg h, lsM_get _ _ _ h4, lsM_get _ _ _ h4]
      congr 1
      by_cases h5 : m < k
      · rw [if_pos h5, if_pos (by omega)]
      · rw [if_neg h5, if_neg (by omega)]
  · have e1 : (lsM tab n (k + 1))[m]? = none := List.getElem?_eq_none (by rw [lsM_len]; omega)
    have e2 : (lsM tab n k)[m]? = none := List.getElem?_eq_none (by rw [lsM_len]; omega)
    rw [e1]
    by_cases h : k = m
    · rw [if_pos h, if_neg (by rw [lsM_len]; omega)]
    · rw [if_neg h, e2]
theorem lsS_get (tab : List (List Int)) (n : Int) {k : Nat} (s : Nat) (h : k < 4) : (lsS tab n k s)[k]? = some (bw (lsB tab n k) s) := by
  unfold lsS
  rw [List.getElem?_set, if_pos rfl, if_pos (by rw [lsM_len]; exact h)]
theorem lsS_yes (tab : List (List Int)) (n : Int) {k s : Nat} (h : lsB tab n k s = true) : (lsS tab n k s).set k (bw (lsB tab n k) s ||| 2 ^ s) = lsS tab n k (s + 1) := by
  unfold lsS
  rw [List.set_set]
  simp only [bw, h, if_true]
theorem lsS_no (tab : List (List Int)) (n : Int) {k s : Nat} (h : lsB tab n k s = false) : lsS tab n k s = lsS tab n k (s + 1) := by
  unfold lsS
  simp only [bw, h, Bool.false_eq_true, if_false]
/-- The rows have at most 61 numbers. -/
def Sh (tab : List (List Int)) : Prop := tab.length ≤ 4 ∧ ∀ m, m < tab.length → (tabR tab m).length ≤ 61
theorem least_lw {tab : List (List Int)} (hs : Sh tab) (n : Int) : Lw (leastP tab n) := by
  refine ⟨lsM_len _ _ _, fun m => ?_⟩
  rw [List.getD_eq_getElem?_getD]
  by_cases h : m < 4
  · unfold leastP
    rw [lsM_get _ _ _ h]
    by_cases hm : m < tab.length
    · rw [if_pos hm]
      have h1 := bw_lt (lsB tab n m) (tabR tab m).length
      have h2 : 2 ^ (tabR tab m).length ≤ 2 ^ 61 := Nat.pow_le_pow_right (by omega) (hs.2 m hm)
      have h3 : (2 : Nat) ^ 61 < 2 ^ 64 := by decide
      simp only [Option.getD_some]
      omega
    · rw [if_neg hm]; simp
  · rw [List.getElem?_eq_none (by unfold leastP; rw [lsM_len]; omega)]; simp
theorem SlII.opened {w : World} {v : Value} {tab : List (List Int)} (h : SlII w v tab) : ∃ ad cap, v = .slice ad tab.length cap ∧ tab.length ≤ 17592186044416 ∧ tab.length ≤ cap ∧
    ∀ k, k < tab.length → ∃ b off ad2 cap2, ad = some ⟨b, off, none⟩ ∧ b < w.heap.size ∧ w.cell? ⟨b, off + k, none⟩ = some (.slice ad2 (tabR tab k).length cap2) ∧ SlI w (.slice ad2 (tabR tab k).length cap2) (tabR tab k) := by
  obtain ⟨vs, ⟨ad, cap, rfl, hm, hcp, hc⟩, hvl, hrow⟩ := h
  refine ⟨ad, cap, by rw [hvl], by omega, by omega, fun k hk => ?_⟩
  have hkv : k < vs.length := by omega
  obtain ⟨b, off, hb, hlt, hcell⟩ := hc (by omega)
  have hr := hrow k hkv hk
  have h1 := hcell k hkv
  rw [tabR_lt hk]
  obtain ⟨ad2, cap2, hv⟩ := slI_form hr
  rw [hv] at hr h1
  exact ⟨b, off, ad2, cap2, hb, hlt, h1, hr⟩
set_option maxRecDepth 100000 in
set_option maxHeartbeats 2000000 in
theorem least_any (v : Value) (tab : List (List Int)) (n : Int) (w : World) (hs : Sh tab) (hw : SlII w v tab) :
    Calls Try.prog 71 #[v, .int .i64 n] w fun e w' => e = .returned (.agg (encL (leastP tab n))) ∧ Below w.heap.size w w' := by
  obtain ⟨ad, cap, rfl, hm, hcp, hc⟩ := hw.opened
  have HC := Lib.hid hc
  have hl4 := hs.1
  have H61 := Lib.hid hs.2
  clear hc hs hw
  go_enter Try.func71, Try.ntmps71
  iterate 2
    refine wp_seq_k (fun K hK => ?_)
    have HK := Lib.hid hK; clear hK
    go_wp2
    refine HK.out _ _ ?_; clear HK K
  generalize hw1 : World.alloc _ _ = w1
  obtain ⟨b1, b2, hB, hs1⟩ := blk2 hw1
  clear hw1
  have b2' : w1.heap[w.heap.size + 1]? = some (.cells (encL (lsM tab n 0)) 110 (0, 0)) := by rw [lsM_zero]; exact b2
  clear b2
  refine wp_seq_k (fun K hK => ?_)
  have HK := Lib.hid hK; clear hK
  go_wp2
  go_loopw [12] (fun i wr => ∃ k : Nat, k ≤ tab.length ∧ i = .int .i64 k ∧ Below w.heap.size w wr ∧ (∃ cs : Array Value, cs.size = 4 ∧ wr.heap[w.heap.size]? = some (.cells cs 110 (0, 0))) ∧ wr.heap[w.heap.size + 1]? = some (.cells (encL (lsM tab n k)) 110 (0, 0))) (fun i _ => tab.length - (intOf i).toNat)
  case atStart => exact ⟨0, Nat.zero_le _, rfl, hB, ⟨_, rfl, b1⟩, b2'⟩
  case round =>
    clear b1 b2' hB
    obtain ⟨k, hk, rfl, hB, hb1, hb2⟩ := hrel
    by_cases hkn : k < tab.length
    · obtain ⟨b, off, ad2, cap2, rfl, hlt, hcell, hrow⟩ := HC.out k hkn
      have hc0 := (hB.cell (p := ⟨b, off + k, none⟩) hlt).trans hcell
      have h61 := H61.out k hkn
      obtain ⟨ad2', cap2', hve, hm2, hcp2, hc2⟩ := hrow
      cases hve
      have HC2 := Lib.hid hc2
      rw [← lsS_zero] at hb2
      clear hcell hc2
      go_wp2
      go_loopw [19] (fun i wr => ∃ s : Nat, s ≤ (tabR tab k).length ∧ i = .int .i64 s ∧ Below w.heap.size w wr ∧ (∃ cs : Array Value, cs.size = 4 ∧ wr.heap[w.heap.size]? = some (.cells cs 110 (0, 0))) ∧ wr.heap[w.heap.size + 1]? = some (.cells (encL (lsS tab n k s)) 110 (0, 0))) (fun i _ => (tabR tab k).length - (intOf i).toNat)
      case atStart => exact ⟨0, Nat.zero_le _, rfl, hB, hb1, hb2⟩
      case round =>
        clear hB hb1 hb2 hc0
        obtain ⟨s, hs, rfl, hB, hb1, hb2⟩ := hrel
        by_cases hsn : s < (tabR tab k).length
        · obtain ⟨b2, off2, rfl, hlt2, hcell2⟩ := HC2.out (by omega)
          have hc0 := (hB.cell (p := ⟨b2, off2 + s, none⟩) hlt2).trans (hcell2 s hsn)
          have hx := bw_lt (lsB tab n k) s
          have hyes := lsS_yes tab n (k := k) (s := s)
          have hno := lsS_no tab n (k := k) (s := s)
          have hlb : lsB tab n k s = decide (n ≤ at0 (tabR tab k) s) := rfl
          have hk4 : k < 4 := by omega
          have d3 := (cell_blk (i := k) hb2).trans (encL_get (by rw [lsS_len]; exact hk4))
          have f3 := free_blk (i := k) hb2
          rw [show (lsS tab n k s).getD k 0 = bw (lsB tab n k) s by rw [List.getD_eq_getElem?_getD, lsS_get tab n s hk4]; rfl] at d3
          have HX := Lib.hid (And.intro hb1 hb2)
          have HYN := Lib.hid (And.intro hyes hno)
          generalize at0 (tabR tab k) s = T at *
          generalize bw (lsB tab n k) s = x at *
          have hlz := lt_blk hb2
          clear hcell2 hyes hno hb1 hb2
          by_cases hT : n ≤ T
          · have hy := HYN.out.1 (by rw [hlb]; simp [hT])
            have HY := Lib.hid hy
            clear hlb hy HYN
            have hi0 : (0 : Int) ≤ (k : Int) := by omega
            have hi4 : (k : Int) < 4 := by omega
            have hs60 : s ≤ 60 := by omega
            go_wp2
            refine wp_region_still_tail 7 (by kernel_rfl) (by kernel_rfl) ?_
            simp only [List.take_succ_cons, List.take_zero, List.drop_succ_cons, List.drop_zero]
            change wpStill _ _ (World.drew _) _ _ _
            repeat still_step
            refine wpStill_nil ?_
            rw [or_val hx hs60]
            change wpList _ _ _ _ _ (World.drew _)
            go_wp2
            obtain ⟨⟨cs, hcs, hb1⟩, hb2⟩ := HX.out
            go_roundw
            case rel =>
              refine ⟨s + 1, by omega, by go_num, (hB.setCell (by simp) _).drew, ⟨cs, hcs, (heap_set_other (by omega)).trans hb1⟩, ?_⟩
              show (World.setCell _ _ _).heap[_]? = _
              rw [heap_set_blk hb2, ← encL_set, HY.out]
            case measure => simp [intOf]; omega
          · have hy := HYN.out.2 (by rw [hlb]; simp [hT])
            have HY := Lib.hid hy
            clear hlb hy HYN d3 f3
            go_wp2
            obtain ⟨⟨cs, hcs, hb1⟩, hb2⟩ := HX.out
            rw [HY.out] at hb2
            go_roundw
            case rel => exact ⟨s + 1, by omega, by go_num, hB, ⟨cs, hcs, hb1⟩, hb2⟩
            case measure => simp [intOf]; omega
        · have hse : s = (tabR tab k).length := by omega
          rw [hse, lsS_end] at hb2
          clear hse
          go_wp2
          go_roundw
          case rel => exact ⟨k + 1, by omega, by go_num, hB, hb1, hb2⟩
          case measure => simp [intOf]; omega
    · have hke : k = tab.length := by omega
      rw [hke] at hb2
      obtain ⟨cs, hcs, hb1⟩ := hb1
      have h4 : (encL (lsM tab n tab.length)).size = 4 := by rw [encL_size, lsM_len]
      clear hke
      go_wp2
      refine HK.out _ _ ?_; clear HK
      go_wp2_with (first | (refine wpList_load_blk rfl 110 _ rfl _ rfl hb2 Try.underlying110 rfl size110 h4 ?_) | (refine wpList_store_blk rfl 110 _ _ rfl _ rfl rfl hb1 size110 h4 hcs (encL_one _) ?_))
      exact bodyPost_ret (results_blk rfl _ _ w.heap.size rfl (World.putObj_heap_same (lt_blk hb1)) Try.underlying110 rfl size110 h4) rfl ⟨rfl, below_putObj hB (Nat.le_refl _)⟩
end Ytndmjginmomfiaa
end Go.Proofs
