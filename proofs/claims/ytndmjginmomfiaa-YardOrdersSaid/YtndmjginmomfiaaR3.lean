/- The reference: Terms. -/
import Derived.Test.YtndmjginmomfiaaGenE
open Go Go.RowKit Go.YtndmjginmomfiaaIt
namespace Go.Proofs
namespace Ytndmjginmomfiaa
/-- The table after r rounds. -/
def rtP (y : Yd) : Nat → List (List Int)
  | 0 => (List.range y.ws.length).map fun _ => List.replicate (y.room.toNat + 1) 0
  | r + 1 => (List.range y.ws.length).map fun m => (List.range (y.room.toNat + 1)).map fun (s : Nat) => min ((r + 1 : Nat) : Int) (1 + bestP y (rtP y r) (s : Int) m)
def rtR (y : Yd) (r m : Nat) : List Int := (List.range (y.room.toNat + 1)).map fun (s : Nat) => min ((r + 1 : Nat) : Int) (1 + bestP y (rtP y r) (s : Int) m)
def conv (c t : Int) : Int := if t = c then never else t
def finP (y : Yd) : List (List Int) := (rtP y (cnt y)).map fun r => r.map (conv (cnt y))
theorem rtP_len (y : Yd) (r : Nat) : (rtP y r).length = y.ws.length := by cases r <;> simp [rtP]
theorem rtP_row (y : Yd) (r : Nat) {m : Nat} (h : m < y.ws.length) : (tabR (rtP y r) m).length = y.room.toNat + 1 := by
  rw [tabR_lt (by rw [rtP_len]; exact h)]
  cases r <;> simp [rtP]
theorem rtP_tb (y : Yd) (r : Nat) : Tb y (rtP y r) := ⟨rtP_len y r, fun m hm => rtP_row y r (by rwa [rtP_len] at hm)⟩
theorem rt0_take (y : Yd) {k : Nat} (h : k < y.ws.length) : (rtP y 0).take (k + 1) = (rtP y 0).take k ++ [List.replicate (y.room.toNat + 1) 0] := by
  rw [List.take_succ_eq_append_getElem (by rw [rtP_len]; exact h)]; simp [rtP]
theorem rts_take (y : Yd) (r : Nat) {k : Nat} (h : k < y.ws.length) : (rtP y (r + 1)).take (k + 1) = (rtP y (r + 1)).take k ++ [rtR y r k] := by
  rw [List.take_succ_eq_append_getElem (by rw [rtP_len]; exact h)]; simp [rtP, rtR]
theorem rtR_len (y : Yd) (r m : Nat) : (rtR y r m).length = y.room.toNat + 1 := by simp [rtR]
theorem rtR_take (y : Yd) (r m : Nat) {s : Nat} (h : s < y.room.toNat + 1) : (((rtR y r m).take s).map (Value.int .i64)) ++ [.int .i64 (min ((r + 1 : Nat) : Int) (1 + bestP y (rtP y r) (s : Int) m))] = ((rtR y r m).take (s + 1)).map (.int .i64) := by
  rw [List.take_succ_eq_append_getElem (by rw [rtR_len]; exact h), List.map_append]
  simp [rtR]
theorem take_len_of {α : Type} {l : List α} {k n : Nat} (h : l.length = n) (hk : k ≤ n) : (l.take k).length = k := by rw [List.length_take]; omega
/-- The terms are within bounds. -/
theorem best_ge (y : Yd) (tab : List (List Int)) (s : Int) (m : Nat) : -1 ≤ bestP y tab s m := by
  unfold bestP
  have : ∀ (l : List Int) (a : Int), -1 ≤ a → -1 ≤ l.foldl (fun a o => max a (worstP y tab s m o)) a := by
    intro l
    induction l with
    | nil => intro a h; exact h
    | cons x l ih => intro a h; exact ih _ (Int.le_trans h (Int.le_max_left _ _))
  exact this _ _ (by omega)
theorem minT_le (tab : List (List Int)) : ∀ (l : List (Nat × Int)) (a : Int), l.foldl (fun a x => min a (at0 (tabR tab x.1) x.2.toNat)) a ≤ a := by
  intro l
  induction l with
  | nil => intro a; exact Int.le_refl _
  | cons x l ih => intro a; exact Int.le_trans (ih _) (Int.min_le_left _ _)
theorem worst_le (y : Yd) (tab : List (List Int)) (s : Int) (m : Nat) (o : Int) : worstP y tab s m o ≤ never := by
  unfold worstP
  split
  · exact minT_le _ _ _
  · unfold never; omega
theorem best_le (y : Yd) (tab : List (List Int)) (s : Int) (m : Nat) : bestP y tab s m ≤ never := by
  unfold bestP
  have : ∀ (l : List Int) (a : Int), a ≤ never → l.foldl (fun a o => max a (worstP y tab s m o)) a ≤ never := by
    intro l
    induction l with
    | nil => intro a h; exact h
    | cons x l ih => intro a h; exact ih _ (Int.max_le.2 ⟨h, worst_le _ _ _ _ _⟩)
  exact this _ _ (by unfold never; omega)
theorem cnt_int {y : Yd} (ok : Ok y) : (y.room + 1) * (y.ws.length : Int) = (cnt y : Int) := by
  have := ok.room0
  unfold cnt
  push_cast
  rw [show ((y.room.toNat : Nat) : Int) = y.room by omega]
/-- The rows while numbers are turned in place. -/
structure FinI (R : List (List Int)) (c : Int) (n len : Nat) (rows : List (List Int)) (k s : Nat) : Prop where
  len_ : rows.length = n
  row : ∀ i, i < n → (tabR rows i).length = len
  at_ : ∀ i j, i < n → j < len → at0 (tabR rows i) j = if i < k ∨ (i = k ∧ j < s) then conv c (at0 (tabR R i) j) else at0 (tabR R i) j
theorem FinI.start {R : List (List Int)} {c : Int} {n len : Nat} (h1 : R.length = n) (h2 : ∀ i, i < n → (tabR R i).length = len) : FinI R c n len R 0 0 :=
  ⟨h1, h2, fun i j _ _ => by rw [if_neg (by omega)]⟩
theorem FinI.same {R : List (List Int)} {c : Int} {n len k s : Nat} {rows : List (List Int)} (h : FinI R c n len rows k s) (hc : at0 (tabR R k) s ≠ c) : FinI R c n len rows k (s + 1) := by
  refine ⟨h.len_, h.row, fun i j hi hj => ?_⟩
  rw [h.at_ i j hi hj]
  by_cases he : i = k ∧ j = s
  · obtain ⟨rfl, rfl⟩ := he
    rw [if_neg (by omega), if_pos (by omega)]
    unfold conv
    rw [if_neg hc]
  · by_cases h2 : i < k ∨ (i = k ∧ j < s)
    · rw [if_pos h2, if_pos (by omega)]
    · rw [if_neg h2, if_neg (by omega)]
theorem tabR_set {rows : List (List Int)} {k i : Nat} {r : List Int} (_ : k < rows.length) (hi : i < rows.length) : tabR (rows.set k r) i = if k = i then r else tabR rows i := by
  rw [tabR_lt (by rw [List.length_set]; exact hi), List.getElem_set]
  split
  · rfl
  · rw [tabR_lt hi]
theorem at0_set {xs : List Int} {s j : Nat} {x : Int} (hj : j < xs.length) : at0 (xs.set s x) j = if s = j then x else at0 xs j := by
  rw [at0_lt (by rw [List.length_set]; exact hj), List.getElem_set]
  split
  · rfl
  · rw [at0_lt hj]
theorem FinI.set {R : List (List Int)} {c : Int} {n len k s : Nat} {rows : List (List Int)} (h : FinI R c n len rows k s) (hk : k < n) (_ : s < len) (hc : at0 (tabR R k) s = c) : FinI R c n len (rows.set k ((tabR rows k).set s never)) k (s + 1) := by
  have hk' : k < rows.length := by rw [h.len_]; exact hk
  refine ⟨by rw [List.length_set]; exact h.len_, fun i hi => ?_, fun i j hi hj => ?_⟩
  · rw [tabR_set hk' (by rw [h.len_]; exact hi)]
    split
    · rw [List.length_set]; exact h.row k hk
    · exact h.row i hi
  · rw [tabR_set hk' (by rw [h.len_]; exact hi)]
    by_cases hik : k = i
    · subst hik
      rw [if_pos rfl, at0_set (by rw [h.row k hk]; exact hj)]
      by_cases hjs : s = j
      · subst hjs
        rw [if_pos rfl, if_pos (by omega)]
        unfold conv
        rw [if_pos hc]
      · rw [if_neg hjs, h.at_ k j hi hj]
        by_cases h2 : k < k ∨ (k = k ∧ j < s)
        · rw [if_pos h2, if_pos (by omega)]
        · rw [if_neg h2, if_neg (by omega)]
    · rw [if_neg hik, h.at_ i j hi hj]
      by_cases h2 : i < k ∨ (i = k ∧ j < s)
      · rw [if_pos h2, if_pos (by omega)]
      · rw [if_neg h2, if_neg (by omega)]
theorem FinI.next {R : List (List Int)} {c : Int} {n len k : Nat} {rows : List (List Int)} (h : FinI R c n len rows k len) : FinI R c n len rows (k + 1) 0 := by
  refine ⟨h.len_, h.row, fun i j hi hj => ?_⟩
  rw [h.at_ i j hi hj]
  by_cases h2 : i < k ∨ (i = k ∧ j < len)
  · rw [if_pos h2, if_pos (by omega)]
  · rw [if_neg h2, if_neg (by omega)]
theorem FinI.end_ {R : List (List Int)} {c : Int} {n len : Nat} {rows : List (List Int)} (h : FinI R c n len rows n 0) (h1 : R.length = n) (h2 : ∀ i, i < n → (tabR R i).length = len) : rows = R.map (fun r => r.map (conv c)) := by
  apply eq_of_tabR (by rw [List.length_map, h.len_, h1])
  intro i hi
  rw [h.len_] at hi
  have hiR : i < R.length := by omega
  have e : tabR (R.map (fun r => r.map (conv c))) i = (tabR R i).map (conv c) := by
    rw [tabR_lt (by rw [List.length_map]; exact hiR), tabR_lt hiR, List.getElem_map]
  rw [e]
  apply eq_of_at0 (by rw [List.length_map, h.row i hi, h2 i hi])
  intro j hj
  rw [h.row i hi] at hj
  rw [h.at_ i j hi hj, if_pos (by omega)]
  rw [at0_lt (xs := (tabR R i).map (conv c)) (by rw [List.length_map, h2 i hi]; exact hj), List.getElem_map, at0_lt (xs := tabR R i) (by rw [h2 i hi]; exact hj)]
set_option maxRecDepth 100000 in
set_option maxHeartbeats 8000000 in
theorem terms_any (y : Yd) (v : Value) (w : World) (ok : Ok y) (hw : SlW w v y.ws) :
    Calls Try.prog 42 #[.agg (encY y v)] w fun e w' => ∃ u, e = .returned u ∧ SlII w' u (finP y) ∧ Below w.heap.size w w' := by
  have hy4 : (encY y v).size = 4 := rfl
  have hr0 := ok.room0
  have hr1 := ok.room1
  have hn1 := ok.n1
  have hn0 := ok.n0
  have hci := cnt_int ok
  have hc244 := term_lt ok
  have HBEST := Lib.hid (fun (r : Nat) (u : Value) (s : Int) (m : Nat) (hm : m < y.ws.length) (hs : 0 ≤ s ∧ s ≤ 60) W (hW : Below w.heap.size w W) (hu : SlII W u (rtP y r)) => best_any y v u (rtP y r) s m W ok (rtP_tb y r) hm hs (hw.below hW (Nat.le_refl _)) hu)
  obtain ⟨i3, hi3, hz1, hz2, hz3⟩ := info_parts info3
  obtain ⟨i28, hi28, hy1, hy2, hy3⟩ := info_parts info28
  have HI := Lib.hid (And.intro hi3 (And.intro hz1 (And.intro hz2 (And.intro hz3 (And.intro hi28 (And.intro hy1 (And.intro hy2 hy3)))))))
  have h3b : i3.bytes * (y.room.toNat + 1) ≤ 281474976710656 := by rw [hz3]; omega
  have HB3 := Lib.hid h3b
  clear hi3 hz1 hz2 hz3 hi28 hy1 hy2 hy3 h3b
  have hw0 := hw
  obtain ⟨ad, cap, rfl, hmx, hcp, -⟩ := hw
  go_enter Try.func42, Try.ntmps42
  refine wp_seq_k (fun K hK => ?_)
  have HK := Lib.hid hK; clear hK
  go_wp2
  refine HK.out _ _ ?_; clear HK K
  generalize hw1 : World.alloc _ _ = w1
  obtain ⟨b1, hB, hs1⟩ := blk1 hw1
  clear hw1
  refine wp_seq_k (fun K hK => ?_)
  have HK := Lib.hid hK; clear hK
  go_wp2
  refine HK.out _ _ ?_; clear HK K
  refine wp_seq_k (fun K hK => ?_)
  have HK := Lib.hid hK; clear hK
  go_wp2
  go_loopw [3, 4] (fun q i wr => ∃ k : Nat, k ≤ y.ws.length ∧ i = .int .i64 k ∧ Below w.heap.size w wr ∧ wr.heap[w.heap.size]? = some (.cells (encY y (.slice ad y.ws.length cap)) 31 (0, 0)) ∧ TabO wr (w.heap.size + 1) q ((rtP y 0).take k)) (fun _ i _ => y.ws.length - (intOf i).toNat)
  case atStart => exact ⟨0, Nat.zero_le _, rfl, hB, b1, TabO.nil _ _⟩
  case round =>
    clear hB b1 hs1
    obtain ⟨k, hk, rfl, hB, b1, hT⟩ := hrel
    have hlt := lt_blk b1
    have c0 := cell_blk (i := 0) b1
    have c3 := cell_blk (i := 3) b1
    simp only [encY, List.getElem?_toArray, List.getElem?_cons_zero, List.getElem?_cons_succ] at c0 c3
    by_cases hkn : k < y.ws.length
    · obtain ⟨vs, h1, h2, h3⟩ := hT
      have h1l : ((rtP y 0).take k).length = k := take_len_of (rtP_len y 0) hk
      rw [h1l] at h1
      have HT := Lib.hid (And.intro h1 (And.intro h2 h3))
      obtain ⟨aq, cq, rfl⟩ := form_of h1
      have HRM := Lib.hid (show y.room + 1 = ((y.room.toNat + 1 : Nat) : Int) by omega)
      clear h1 h2 h3
      go_wp2_with (first
        | (at_make; refine wpList_make_full wr rfl (.tmp 23) (.tmp 23) 28 rfl wr.heap.size 3 i3 (.int .i64 0) 1 Try.underlying28 HI.out.1 HI.out.2.1 HI.out.2.2.1 .i64 .i64 _ _ (y.room.toNat + 1) rfl rfl HRM.out HRM.out HB3.out (Nat.le_trans (by omega : y.room.toNat + 1 ≤ 100) (by decide)) (Nat.le_refl _) ?_; intro w5 q1 q2; rw [made_rep _ rfl] at q1; have hb5 : Below wr.heap.size wr w5 := ⟨q2.os, q2.tape, q2.output, q2.size, fun k hk => q2.block k hk (by simp)⟩; have hs5 := hb5.size)
        | (at_builtin; (refine wpList_append_own _ rfl _ _ 25 rfl (w.heap.size + 1) 28 i28 (.slice none 0 0) 1 24 Try.underlying25 HI.out.2.2.2.2.1 HI.out.2.2.2.2.2.1 HI.out.2.2.2.2.2.2.1 HI.out.2.2.2.2.2.2.2 rfl (by decide) _ _ _ rfl ((row_below HT.out.1 hb5).alloc _) ⟨w5.heap.size, 0, none⟩ 1 1 [.slice (some ⟨wr.heap.size, 0, none⟩) (y.room.toNat + 1) (y.room.toNat + 1)] rfl rfl (cell_new1 rfl) (by simp [Value.oneCell']) (Nat.le_trans (by omega : k + 1 ≤ 50) (by decide)) (by omega) (by rw [World.size_alloc]; have := hB.size; omega) ?_; intro v' w6 r1 r2 _)))
      have hqr : w5.ownsRow wr.heap.size 3 1 (.slice (some ⟨wr.heap.size, 0, none⟩) (y.room.toNat + 1) (y.room.toNat + 1)) (List.replicate (y.room.toNat + 1) (0 : Int)).length ((List.replicate (y.room.toNat + 1) (0 : Int)).map (.int .i64)) := by
        rw [List.map_replicate, List.length_replicate]; exact q1
      have hbs := hB.size
      have hP := tabO_push (W0 := wr) (rows := (rtP y 0).take k) (by rw [h1l]; exact HT.out.1) HT.out.2.1 HT.out.2.2 hb5 hqr (Nat.le_refl _) (by omega) (by rw [h1l]; exact r1) r2
      rw [← rt0_take y hkn] at hP
      have hbn : Below (w.heap.size + 1) wr w6 := grown_below1 r2 (row_below HT.out.1 hb5) (Nat.le_refl _) (by omega) (hb5.mono (by omega))
      go_roundw
      case rel => exact ⟨k + 1, by omega, by go_num, hB.trans (hbn.mono (by omega)), blk_below b1 hbn (by omega), hP⟩
      case measure => simp [intOf]; omega
    · have hke : k = y.ws.length := by omega
      have hT0 : TabO wr (w.heap.size + 1) u3 (rtP y 0) := by rw [hke, ← rtP_len y 0, List.take_length] at hT; exact hT
      clear hT hke
      go_wp2
      refine HK.out _ _ ?_; clear HK
      have hc0 : 0 ≤ (cnt y : Int) := by omega
      have hc1 : (cnt y : Int) ≤ 244 := by omega
      have hc2 : 1 ≤ cnt y := Nat.mul_pos (by omega) (by omega)
      refine wp_seq_k (fun K hK => ?_)
      have HK := Lib.hid hK; clear hK
      go_wp2
      refine HK.out _ _ ?_; clear HK
      clear c0 c3 hlt
      refine wp_seq_k (fun K hK => ?_)
      have HK := Lib.hid hK; clear hK
      go_wp2
      go_loopw [3, 6] (fun q i wr => ∃ r : Nat, r ≤ cnt y ∧ i = .int .i64 ((r : Int) + 1) ∧ Below w.heap.size w wr ∧ wr.heap[w.heap.size]? = some (.cells (encY y (.slice ad y.ws.length cap)) 31 (0, 0)) ∧ TabO wr (w.heap.size + 1) q (rtP y r)) (fun _ i _ => 400 - (intOf i).toNat)
      case atStart => exact ⟨0, Nat.zero_le _, rfl, hB, b1, hT0⟩
      case round =>
        clear hB b1 hT0
        obtain ⟨r, hr, rfl, hB, b1, hT⟩ := hrel
        by_cases hrn : r < cnt y
        · have hri : (r : Int) + 1 ≤ (cnt y : Int) := by omega
          obtain ⟨w0, rfl⟩ : ∃ w0, w0 = wr := ⟨_, rfl⟩
          obtain ⟨vs0, h1, -, -⟩ := id hT
          rw [rtP_len] at h1
          obtain ⟨aq, cq, rfl⟩ := form_of h1
          have HTB := Lib.hid hT
          clear h1 hT
          have hbw := hB.size
          go_wp2
          go_loopw [7, 8] (fun q i wr => ∃ k : Nat, k ≤ y.ws.length ∧ i = .int .i64 k ∧ Below w0.heap.size w0 wr ∧ TabO wr w0.heap.size q ((rtP y (r + 1)).take k)) (fun _ i _ => y.ws.length - (intOf i).toNat)
          case atStart => exact ⟨0, Nat.zero_le _, rfl, Below.refl _ _, TabO.nil _ _⟩
          case round =>
            obtain ⟨k, hk, rfl, hBk, hTk⟩ := hrel
            by_cases hkn : k < y.ws.length
            · obtain ⟨vs, h1, h2, h3⟩ := hTk
              have h1l : ((rtP y (r + 1)).take k).length = k := take_len_of (rtP_len y (r + 1)) hk
              rw [h1l] at h1
              have HT := Lib.hid (And.intro h1 (And.intro h2 h3))
              obtain ⟨an, cn, rfl⟩ := form_of h1
              obtain ⟨wm, rfl⟩ : ∃ wm, wm = wr := ⟨_, rfl⟩
              clear h1 h2 h3
              have hbk := hBk.size
              go_wp2
              go_loopw [9, 10] (fun q i wr => ∃ s : Nat, s ≤ y.room.toNat + 1 ∧ i = .int .i64 s ∧ Below wm.heap.size wm wr ∧ wr.ownsRow wm.heap.size 3 1 q s (((rtR y r k).take s).map (.int .i64))) (fun _ i _ => 200 - (intOf i).toNat)
              case atStart => exact ⟨0, Nat.zero_le _, rfl, Below.refl _ _, World.ownsRow_nil _ _ _ _⟩
              case round =>
                obtain ⟨s, hs, rfl, hBs, hrow⟩ := hrel
                have hB0 : Below w0.heap.size w0 wr := hBk.trans (hBs.mono hbk)
                have b1r := blk_below b1 hB0 (lt_blk b1)
                have c0 := cell_blk (i := 0) b1r
                simp only [encY, List.getElem?_toArray, List.getElem?_cons_zero] at c0
                obtain ⟨ar, cr, rfl⟩ := form_of hrow
                by_cases hsn : s < y.room.toNat + 1
                · have hsi : (s : Int) ≤ y.room := by omega
                  have hsl := (HTB.out.below hB0).sl (by rw [rtP_len]; omega) (fun i hi => by rw [rtP_row y r (by rwa [rtP_len] at hi)]; omega)
                  have hbest := HBEST.out r _ (s : Int) k hkn (by omega) wr (hB.trans (hB0.mono hbw)) hsl
                  have htk := rtR_take y r k hsn
                  have hbge := best_ge y (rtP y r) s k
                  have hble := best_le y (rtP y r) s k
                  unfold never at hble
                  generalize bestP y (rtP y r) s k = bv at *
                  have HTK := Lib.hid htk
                  clear hsl htk
                  go_wp2_with (first
                    | (refine wpList_load_blk rfl 31 _ rfl _ rfl b1r Try.underlying31 rfl size31 hy4 ?_)
                    | (go_at_call 53; refine hbest.mono ?_; rintro e w5 ⟨rfl, hb5⟩; have hrow5 := row_below hrow hb5; have hs5 := hb5.size; have hss := hBs.size)
                    | (refine wpList_min rfl _ _ _ rfl rfl rfl ?_)
                    | (at_builtin; (refine wpList_append_own _ rfl _ _ 28 rfl wm.heap.size 3 i3 (.int .i64 0) 1 8 Try.underlying28 HI.out.1 HI.out.2.1 HI.out.2.2.1 HI.out.2.2.2.1 rfl (by decide) _ _ _ rfl (hrow5.alloc _) ⟨w5.heap.size, 0, none⟩ 1 1 [.int .i64 (min ((r : Int) + 1) (1 + bv))] rfl rfl (cell_new1 rfl) (by simp [Value.oneCell']) (Nat.le_trans (by omega : s + 1 ≤ 200) (by decide)) (by omega) (by rw [World.size_alloc]; omega) ?_; intro v' w6 r1 r2 _)))
                  rw [show (.int .i64 (min ((r : Int) + 1) (1 + bv))) = Value.int .i64 (min ((r + 1 : Nat) : Int) (1 + bv)) by push_cast; rfl, HTK.out] at r1
                  have hbn : Below wm.heap.size wm w6 := grown_below1 r2 hrow5 (Nat.le_refl _) (by omega) (hBs.trans (hb5.mono hss))
                  go_roundw
                  case rel => exact ⟨s + 1, by omega, by go_num, hbn, r1⟩
                  case measure => simp [intOf]; omega
                · have hse : s = y.room.toNat + 1 := by omega
                  have hsi : ¬ (s : Int) ≤ y.room := by omega
                  have hrow2 : wr.ownsRow wm.heap.size 3 1 (.slice ar s cr) (rtR y r k).length ((rtR y r k).map (.int .i64)) := by
                    rw [hse, List.take_of_length_le (by rw [rtR_len]; exact Nat.le_refl _)] at hrow
                    rw [hse, rtR_len]; exact hrow
                  have HROW := Lib.hid hrow2
                  have hss := hBs.size
                  clear hse hrow hrow2
                  go_wp2_with (at_builtin; (refine wpList_append_own _ rfl _ _ 25 rfl w0.heap.size 28 i28 (.slice none 0 0) 1 24 Try.underlying25 HI.out.2.2.2.2.1 HI.out.2.2.2.2.2.1 HI.out.2.2.2.2.2.2.1 HI.out.2.2.2.2.2.2.2 rfl (by decide) _ _ _ rfl ((row_below HT.out.1 hBs).alloc _) ⟨wr.heap.size, 0, none⟩ 1 1 [.slice ar s cr] rfl rfl (cell_new1 rfl) (by simp [Value.oneCell']) (Nat.le_trans (by omega : k + 1 ≤ 50) (by decide)) (by omega) (by rw [World.size_alloc]; omega) ?_; intro v' w6 r1 r2 _))
                  have hP := tabO_push (W0 := wm) (rows := (rtP y (r + 1)).take k) (by rw [h1l]; exact HT.out.1) HT.out.2.1 HT.out.2.2 hBs HROW.out (Nat.le_refl _) hbk (by rw [h1l]; exact r1) r2
                  rw [← rts_take y r hkn] at hP
                  have hbn : Below w0.heap.size w0 w6 := grown_below1 r2 (row_below HT.out.1 hBs) (Nat.le_refl _) (by omega) hB0
                  go_roundw
                  case rel => exact ⟨k + 1, by omega, by go_num, hbn, hP⟩
                  case measure => simp [intOf]; omega
            · have hke : k = y.ws.length := by omega
              have hT2 : TabO wr (w.heap.size + 1) u7 (rtP y (r + 1)) := by
                rw [hke, ← rtP_len y (r + 1), List.take_length] at hTk
                exact hTk.lower (by have := lt_blk b1; omega)
              have HX := Lib.hid (And.intro hBk hT2)
              clear hTk hke hBk hT2
              go_wp2
              go_roundw
              case rel => exact ⟨r + 1, by omega, by push_cast; rfl, hB.trans (HX.out.1.mono hbw), blk_below b1 HX.out.1 (lt_blk b1), HX.out.2⟩
              case measure => simp [intOf]; omega
        · have hre : r = cnt y := by omega
          have hri : ¬ (r : Int) + 1 ≤ (cnt y : Int) := by omega
          rw [hre] at hT
          have HTB := Lib.hid hT
          clear hT hre
          go_wp2
          refine HK.out _ _ ?_; clear HK
          have hRl := rtP_len y (cnt y)
          have hRr := fun i (hi : i < y.ws.length) => rtP_row y (cnt y) hi
          have hfp : finP y = (rtP y (cnt y)).map (fun r => r.map (conv (cnt y))) := rfl
          have hst := FinI.start (c := (cnt y : Int)) hRl hRr
          have hb7 : ∀ j s, at0 (tabR (rtP y (cnt y)) j) s = at0 (tabR (rtP y (cnt y)) j) s := fun _ _ => rfl
          clear hb7
          rw [hfp]
          have hT := HTB.out
          obtain ⟨g0, cap0, -, -, hv0, -⟩ := hT.at_ (i := 0) (by rw [hRl]; omega) (by rw [hRr 0 (by omega)]; omega)
          rw [hRl] at hv0
          generalize rtP y (cnt y) = R at *
          have HRR := Lib.hid (And.intro hRl hRr)
          subst hv0
          clear hfp hRl hRr HTB
          have HX := Lib.hid (And.intro hB (And.intro b1 hT))
          have HST := Lib.hid hst
          clear hB b1 hT hst
          generalize (cnt y : Int) = C at *
          refine wp_seq_k (fun K hK => ?_)
          have HK := Lib.hid hK; clear hK
          go_wp2
          go_loopw [11] (fun i wr => ∃ (k : Nat) (rows : List (List Int)), k ≤ y.ws.length ∧ i = .int .i64 k ∧ FinI R C y.ws.length (y.room.toNat + 1) rows k 0 ∧ Below w.heap.size w wr ∧ wr.heap[w.heap.size]? = some (.cells (encY y (.slice ad y.ws.length cap)) 31 (0, 0)) ∧ TabO wr (w.heap.size + 1) (.slice (some ⟨g0, 0, none⟩) y.ws.length cap0) rows) (fun i _ => y.ws.length - (intOf i).toNat)
          case atStart => exact ⟨0, R, Nat.zero_le _, rfl, HST.out, HX.out.1, HX.out.2.1, HX.out.2.2⟩
          case round =>
            clear HX HST
            obtain ⟨k, rows, hk, rfl, hF, hB, b1, hT⟩ := hrel
            by_cases hkn : k < y.ws.length
            · have HF0 := Lib.hid hF
              have HT0 := Lib.hid hT
              clear hF hT
              go_wp2
              go_loopw [12] (fun i wr => ∃ (s : Nat) (rows : List (List Int)), s ≤ y.room.toNat + 1 ∧ i = .int .i64 s ∧ FinI R C y.ws.length (y.room.toNat + 1) rows k s ∧ Below w.heap.size w wr ∧ wr.heap[w.heap.size]? = some (.cells (encY y (.slice ad y.ws.length cap)) 31 (0, 0)) ∧ TabO wr (w.heap.size + 1) (.slice (some ⟨g0, 0, none⟩) y.ws.length cap0) rows) (fun i _ => 200 - (intOf i).toNat)
              case atStart => exact ⟨0, rows, Nat.zero_le _, rfl, HF0.out, hB, b1, HT0.out⟩
              case round =>
                clear hB b1 HF0 HT0
                obtain ⟨s, rows, hs, rfl, hF, hB, b1, hT⟩ := hrel
                have c0 := cell_blk (i := 0) b1
                simp only [encY, List.getElem?_toArray, List.getElem?_cons_zero] at c0
                have HF := Lib.hid hF
                have HT := Lib.hid hT
                clear hF hT
                by_cases hsn : s < y.room.toNat + 1
                · have hsi : (s : Int) ≤ y.room := by omega
                  have hrl := HF.out.row k hkn
                  have hval := HF.out.at_ k s hkn hsn
                  rw [if_neg (by omega)] at hval
                  obtain ⟨g0', cap0', g, capg, hve, hg0l, hgB, hgl, hc1, hc2, hfr, hset⟩ := HT.out.at_ (i := k) (by rw [HF.out.len_]; exact hkn) (by rw [hrl]; omega)
                  injection hve with e1 e2 e3
                  injection e1 with e1
                  injection e1 with e1
                  subst e1
                  have hc3 := hc2 s (by rw [hrl]; exact hsn)
                  have hf3 := hfr s
                  rw [hrl] at hc1
                  rw [hval] at hc3
                  have HSET := Lib.hid hset
                  have hki : (k : Int) < (y.ws.length : Int) := by omega
                  have hsl : (s : Int) < ((y.room.toNat + 1 : Nat) : Int) := by omega
                  clear hc2 hfr hset e2 e3 hrl hval
                  by_cases he : at0 (tabR R k) s = C
                  · have hF2 := HF.out.set hkn hsn he
                    have hT2 := HSET.out s never
                    have heb : (at0 (tabR R k) s == C) = true := by simp [he]
                    have HN := Lib.hid (And.intro hF2 hT2)
                    clear hF2 hT2 he
                    generalize at0 (tabR R k) s = x at *
                    go_wp2
                    go_roundw
                    case rel => exact ⟨s + 1, _, by omega, by go_num, HN.out.1, hB.setCell (by simp; omega) _, (heap_set_other (by omega)).trans b1, HN.out.2⟩
                    case measure => simp [intOf]; omega
                  · have hF2 := HF.out.same he
                    have heb : (at0 (tabR R k) s == C) = false := by simp [he]
                    have HN := Lib.hid hF2
                    clear hF2 he
                    generalize at0 (tabR R k) s = x at *
                    go_wp2
                    go_roundw
                    case rel => exact ⟨s + 1, rows, by omega, by go_num, HN.out, hB, b1, HT.out⟩
                    case measure => simp [intOf]; omega
                · have hse : s = y.room.toNat + 1 := by omega
                  have hsi : ¬ (s : Int) ≤ y.room := by omega
                  have hF2 := HF.out
                  rw [hse] at hF2
                  have HN := Lib.hid hF2.next
                  clear hse hF2
                  go_wp2
                  go_roundw
                  case rel => exact ⟨k + 1, rows, by omega, by go_num, HN.out, hB, b1, HT.out⟩
                  case measure => simp [intOf]; omega
            · have hke : k = y.ws.length := by omega
              rw [hke] at hF
              have hfin := hF.end_ HRR.out.1 HRR.out.2
              have hsl := hT.sl (by rw [hF.len_]; omega) (fun i hi => by rw [hF.row i (by rw [← hF.len_]; exact hi)]; omega)
              rw [hfin] at hsl
              have HSL := Lib.hid hsl
              clear hke hfin hsl hF hT
              go_wp2
              refine HK.out _ _ ?_; clear HK
              go_wp2
              go_ret
              exact ⟨_, rfl, HSL.out, hB⟩
end Ytndmjginmomfiaa
end Go.Proofs
