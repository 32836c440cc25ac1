/- Fields: the reference's least sweetness if that of another week is known. -/
import Derived.Test.YtgnjeefanbcbkaaR7
import Derived.Test.YtgnjeefanbcbkaaA10
open Go Go.RowKit Go.YtgnjeefanbcbkaaIt
namespace Go.Proofs
namespace Ytgnjeefanbcbkaa
theorem lineRG_bd {i k x : Int} {a b : Fr} (h : LineH i a k b x) : Bd 100000000000 24389 (lineR i a k b x) := by
  obtain ⟨hne, ha, hb, hu, hi, hk, hx⟩ := h
  have hau := ha.pos
  have hbu := hb.pos
  have hsu0 : 0 < a.u * b.u := Int.mul_pos hau hbu
  rw [Int.mul_comm] at hu
  have m1 := mulU (x := b) (y := a) hb ha
  have m2 := mulU (x := a) (y := b) ha hb
  have n1 := mulB (a := a.o * b.u) (A := 2000000 * 29) (b := k - i) (B := 29) m2.1 m2.2 (by omega) (by omega)
  have hso : -116000000 ≤ b.o * a.u - a.o * b.u ∧ b.o * a.u - a.o * b.u ≤ 116000000 := by omega
  have n2 := mulB (a := b.o * a.u - a.o * b.u) (A := 116000000) (b := x - i) (B := 29) hso.1 hso.2 (by omega) (by omega)
  have n4 := mulB (a := k - i) (A := 29) (b := a.u * b.u) (B := 29) (by omega) (by omega) (by omega) (by omega)
  have hp0 : (k - i) * (a.u * b.u) ≠ 0 := mul_ne (by omega) (by omega)
  unfold lineR nrm
  split
  · exact ⟨by show _ ≤ -_; omega, by show -_ ≤ _; omega, by show 0 < -_; omega, by show -_ ≤ _; omega⟩
  · exact ⟨by show _ ≤ _ + _; omega, by show _ + _ ≤ _; omega, by show 0 < _ * _; omega, by show _ * _ ≤ _; omega⟩
theorem lineH_wt {i k x : Nat} {t : Fr} {l : Int} (hi : i < 30) (hk : k < 30) (hx : x < 30) (hne : i ≠ k) (ht : Bd 2000000 29 t) (hl : 0 ≤ l ∧ l ≤ 30000) : LineH i (whole l) k t x :=
  ⟨by omega, whole_bd hl, ht, by show t.u * (1 : Int) ≤ 29; have := ht.le; omega, by omega, by omega, by omega⟩
def gvC (x k i : Nat) : Bool := decide (i ≤ x) && decide (x < k) || decide (i ≥ x) && decide (x > k)
/-- Lines to those of the first c lows that count. -/
def rgPre (L : Nat → Int) (n x k : Nat) (t : Fr) (c : Nat) : Fr := big (((List.range c).filter (gvC x k)).map fun i : Nat => lineR i (whole (L i)) k t x) (lowerF L n x)
theorem rgPre_step (L : Nat → Int) (n x k : Nat) (t : Fr) (c : Nat) : rgPre L n x k t (c + 1) = if gvC x k c = true then most (rgPre L n x k t c) (lineR c (whole (L c)) k t x) else rgPre L n x k t c := by
  unfold rgPre
  rw [List.range_succ, List.filter_append, List.map_append]
  by_cases h : gvC x k c = true
  · rw [if_pos h]; simp only [h, List.filter_cons_of_pos, List.filter_nil, List.map_singleton]; exact big_app _ _ _
  · rw [if_neg h]; simp [h]
theorem rgPre_0 (L : Nat → Int) (n x k : Nat) (t : Fr) : rgPre L n x k t 0 = lowerF L n x := by simp [rgPre, big]
theorem rgPre_end (L : Nat → Int) {n x k : Nat} (t : Fr) (hk : x ≠ k) : rgPre L n x k t n = givR L n x k t := by
  unfold rgPre givR; rw [if_neg hk]; rfl
theorem rgPre_bd {n : Nat} {L H : Nat → Int} (hb : Bds n L H) {x k c : Nat} {t : Fr} (hx : x < n) (hk : k < n) (hc : c ≤ n) (_ : x ≠ k) (ht : Bd 2000000 29 t) : Bd 100000000000 24389 (rgPre L n x k t c) := by
  refine big_all ((lower_bd hb hx).mono (by decide) (by decide)) fun y hy => ?_
  obtain ⟨i, hi, rfl⟩ := List.mem_map.1 hy
  obtain ⟨h1, h2⟩ := List.mem_filter.1 hi
  have h3 := List.mem_range.1 h1
  have := hb.n30
  simp only [gvC, Bool.or_eq_true, Bool.and_eq_true, decide_eq_true_eq] at h2
  exact lineRG_bd (lineH_wt (by omega) (by omega) (by omega) (by omega) ht (hb.lo i (by omega)))
theorem rgiv_bd {n : Nat} {L H : Nat → Int} (hb : Bds n L H) {x k : Nat} {t : Fr} (hx : x < n) (hk : k < n) (ht : Bd 2000000 29 t) : Bd 100000000000 24389 (givR L n x k t) := by
  by_cases hne : x = k
  · unfold givR; rw [if_pos hne]; exact ht.mono (by decide) (by decide)
  · rw [← rgPre_end L t hne]; exact rgPre_bd hb hx hk (Nat.le_refl _) hne ht
structure RvG (w : World) (p9 : Nat) (t z : Fr) (W : World) : Prop where
  p7 : W.heap[w.heap.size]? = some (.cells #[.int .i64 t.o, .int .i64 t.u] 101 (0, 0))
  p8 : W.heap[w.heap.size + 1]? = some (.cells #[.int .i64 0, .int .i64 0] 101 (0, 0))
  p9 : W.heap[p9]? = some (.cells #[.int .i64 z.o, .int .i64 z.u] 101 (0, 0))
  bl : Below w.heap.size w W
set_option maxRecDepth 100000 in
set_option maxHeartbeats 8000000 in
theorem rgiven_any {p : Value} {n : Nat} {L H : Nat → Int} {x k : Nat} {t : Fr} {w : World} (hb : Bds n L H) (hx : x < n) (hk : k < n) (ht : Bd 2000000 29 t) (hp : SlN w p n L) :
    Calls Try.prog 83 #[p, .int .i64 (x : Int), .int .i64 (k : Int), enc t] w fun e w' => e = .returned (enc (givR L n x k t)) ∧ Below w.heap.size w w' := by
  have hn30 := hb.n30
  obtain ⟨b1, o1, cap1, rfl, hl1, hc1⟩ := slN_cells hp (by omega)
  have HBS := Lib.hid hb
  have HC := Lib.hid hc1
  have HPP := Lib.hid hp
  have HT := Lib.hid ht
  clear hb hp hc1 ht
  go_enter Try.func83, Try.ntmps83
  refine wp_seq_k (fun K hK => ?_)
  have HK := Lib.hid hK; clear hK
  go_wp2
  refine HK.out _ _ ?_; clear HK K
  generalize hw1 : World.alloc _ _ = w1
  obtain ⟨b7, b8, hB, hs1⟩ := blk2 hw1
  clear hw1
  by_cases hxk : x = k
  · subst hxk
    have hxx : ((x : Int) == (x : Int)) = true := by simp
    have hg : givR L n x x t = t := by unfold givR; rw [if_pos rfl]
    rw [hg]
    clear hg
    go_wp2_with (first | (refine wpList_load_blk rfl 101 _ rfl _ rfl b7 Try.underlying101 rfl size101 rfl ?_) | (refine wpList_store_blk rfl 101 _ _ rfl _ rfl rfl b8 size101 rfl rfl (oneFr _) ?_))
    exact bodyPost_ret (results_blk rfl _ _ _ rfl (World.putObj_heap_same (lt_blk b8)) Try.underlying101 rfl size101 rfl) rfl ⟨rfl, below_putObj hB (by omega)⟩
  · have hxki : ¬ ((x : Int) = (k : Int)) := by omega
    have hxkb : ((x : Int) == (k : Int)) = false := by simpa using hxki
    have h48 := rlower_any HBS.out hx (HPP.out.below hB (Nat.le_refl _))
    have H48 := Lib.hid h48
    clear h48
    have gz := rgPre_0 L n x k t
    generalize lowerF L n x = z0 at *
    have hz0 := (show Hid (rgPre L n x k t 0 = z0) from Lib.hid gz)
    clear gz
    refine wp_seq_k (fun K hK => ?_)
    have HK := Lib.hid hK; clear hK
    go_wp2
    refine HK.out _ _ ?_; clear HK K
    refine wp_seq_k (fun K hK => ?_)
    have HK := Lib.hid hK; clear hK
    go_wp2_with (go_at_call 48; refine H48.out.mono ?_; rintro e w2 ⟨rfl, hb2⟩)
    refine HK.out _ _ ?_; clear HK K H48
    replace b7 := blk_keep b7 hb2
    replace b8 := blk_keep b8 hb2
    have hl9 : w.heap.size + 2 ≤ w2.heap.size := Nat.le_trans hs1 hb2.size
    replace hB := btr hB hb2 (Nat.le_refl _)
    generalize hw3 : World.alloc _ _ = w3
    obtain ⟨b9, hB3, hs3⟩ := blk1 hw3
    clear hw3
    replace b7 := blk_keep b7 hB3
    replace b8 := blk_keep b8 hB3
    replace hB := btr hB hB3 (Nat.le_refl _)
    generalize hp9 : w2.heap.size = p9 at *
    clear hb2 hB3 hs1 hp9 hs3 w1 w2
    have hG : RvG w p9 t (rgPre L n x k t 0) w3 := ⟨b7, b8, by rw [hz0.out]; exact b9, hB⟩
    clear b7 b8 b9 hz0 hB
    go_wp2
    go_loopw [10] (fun i wr => ∃ c : Nat, c ≤ n ∧ i = .int .i64 c ∧ RvG w p9 t (rgPre L n x k t c) wr) (fun i _ => n - (intOf i).toNat)
    case atStart => exact ⟨0, Nat.zero_le _, rfl, hG⟩
    case round =>
      clear hG
      obtain ⟨c, hc, rfl, hG⟩ := hrel
      by_cases hcn : c < n
      · have hci : (c : Int) < (n : Int) := by omega
        have hst := rgPre_step L n x k t c
        by_cases hcnd : gvC x k c = true
        · rw [if_pos hcnd] at hst
          have hck : c ≠ k := by simp only [gvC, Bool.or_eq_true, Bool.and_eq_true, decide_eq_true_eq] at hcnd; omega
          have hbz := toBig2 (rgPre_bd HBS.out hx hk hc hxk HT.out)
          have hlh := lineH_wt (i := c) (k := k) (x := x) (by omega) (by omega) (by omega) hck HT.out (HBS.out.lo c hcn)
          have hby := toBig2 (lineRG_bd hlh)
          have c1 := (hG.bl.cell (p := ⟨b1, o1 + c, none⟩) hl1).trans (HC.out c hcn)
          have hlb : b1 < wr.heap.size := Nat.lt_of_lt_of_le hl1 hG.bl.size
          have h78 := fun (X : Ab wr.heap.size wr) => Calls.ab X (Nat.le_refl _) (rline_any (c : Int) (whole (L c)) (k : Int) t (x : Int) X.val hlh)
          generalize lineR c (whole (L c)) k t x = y at *
          have hb7 := hG.p7
          have hb9 := hG.p9
          have HG := Lib.hid hG
          generalize hzz : rgPre L n x k t c = z at *
          have h77 := fun (X : Ab wr.heap.size wr) => Calls.ab X (Nat.le_refl _) (most_any z y X.val hbz hby)
          have h65 := fun (X : Ab wr.heap.size wr) (t : Int) => Calls.ab X (Nat.le_refl _) (rwhole_any t X.val)
          have H65 := Lib.hid h65
          have H77 := Lib.hid h77
          have H78 := Lib.hid h78
          have HST := Lib.hid hst
          clear hbz hby hlh h65 h77 h78 hst hzz hG
          by_cases q1 : (c : Int) ≤ (x : Int) <;> by_cases q2 : (x : Int) < (k : Int) <;> by_cases q3 : (c : Int) ≥ (x : Int) <;> by_cases q4 : (x : Int) > (k : Int)
          all_goals try (exfalso; simp only [gvC, Bool.or_eq_true, Bool.and_eq_true, decide_eq_true_eq] at hcnd; omega)
          all_goals
            clear hcnd
            go_wp2
            rename_i K2 hK2
            have HK2 := Lib.hid hK2; clear hK2
            have e1 := fun X : Ab wr.heap.size wr => (X.ok.cell (p := ⟨b1, o1 + c, none⟩) hlb).trans c1
            have B7 : ∀ W, AbC wr.heap.size wr W → W.heap[w.heap.size]? = _ := fun W ⟨X, hX⟩ => hX ▸ blk_keep hb7 X.ok
            have B9 : ∀ W, AbC wr.heap.size wr W → W.heap[p9]? = _ := fun W ⟨X, hX⟩ => hX ▸ blk_keep hb9 X.ok
            refine wp_region_ab_tail 12 wr.heap.size wr (by kernel_rfl) (by kernel_rfl) (Below.refl _ _) ?_
            simp only [List.take_succ_cons, List.take_zero, List.drop_succ_cons, List.drop_zero]
            unfold AbC at *
            repeat (first | (refine wpQuiet_load_blk rfl 101 _ rfl _ rfl B9 Try.underlying101 rfl size101 rfl ?_; simp only [Act.put, List.setIfInBounds_toArray, List.set_cons_succ, List.set_cons_zero]) | (refine wpQuiet_load_blk rfl 101 _ rfl _ rfl B7 Try.underlying101 rfl size101 rfl ?_; simp only [Act.put, List.setIfInBounds_toArray, List.set_cons_succ, List.set_cons_zero]) | go_big_quiet_step (first | (go_at_call 65; with_reducible exact H65.out _ _) | (go_at_call 78; with_reducible exact H78.out _) | (go_at_call 77; with_reducible exact H77.out _)))
            refine wpQuiet_nil ?_
            rintro W' ⟨X, rfl⟩
            have hXok := X.ok
            generalize X.val = V at *
            have b9V := blk_keep hb9 hXok
            have hne7 : w.heap.size ≠ p9 := by omega
            have hne8 : w.heap.size + 1 ≠ p9 := by omega
            have hGn : RvG w p9 t (rgPre L n x k t (c + 1)) (V.putObj p9 (.cells #[.int .i64 (most z y).o, .int .i64 (most z y).u] 101 (0, 0))) := ⟨(World.putObj_heap_other hne7).trans (blk_keep HG.out.p7 hXok), (World.putObj_heap_other hne8).trans (blk_keep HG.out.p8 hXok), by rw [HST.out]; exact World.putObj_heap_same (lt_blk b9V), below_putObj (btr HG.out.bl hXok (Nat.le_refl _)) (by omega)⟩
            clear H65 H77 H78 HST HG e1 B7 B9 hb7 hb9 hXok X c1
            refine wpList_store_blk rfl 101 _ _ rfl _ rfl rfl b9V size101 rfl rfl (oneFr _) ?_
            refine wpList_nil ?_
            show K2 _ _
            refine HK2.out _ _ ?_; clear HK2 K2 b9V
            have hq1 : IntKind.i64.wrap ((c : Int) + 1) = ((c + 1 : Nat) : Int) := by rw [IntKind.wrap_i64]; omega
            go_wp2
            go_roundw
            case rel => exact ⟨c + 1, by omega, by go_num, hGn⟩
            case measure => simp [intOf]; omega
        · rw [if_neg hcnd] at hst
          have hG2 : RvG w p9 t (rgPre L n x k t (c + 1)) wr := by rw [hst]; exact hG
          have hq1 : IntKind.i64.wrap ((c : Int) + 1) = ((c + 1 : Nat) : Int) := by rw [IntKind.wrap_i64]; omega
          clear hst hG
          by_cases q1 : (c : Int) ≤ (x : Int) <;> by_cases q2 : (x : Int) < (k : Int) <;> by_cases q3 : (c : Int) ≥ (x : Int) <;> by_cases q4 : (x : Int) > (k : Int)
          all_goals try (exfalso; simp only [gvC, Bool.or_eq_true, Bool.and_eq_true, decide_eq_true_eq] at hcnd; omega)
          all_goals
            clear hcnd
            go_wp2
            go_roundw
            case rel => exact ⟨c + 1, by omega, by go_num, hG2⟩
            case measure => simp [intOf]; omega
      · have hce : c = n := by omega
        have hci : ¬ ((c : Int) < (n : Int)) := by omega
        subst hce
        rw [rgPre_end L t hxk] at hG
        have g8 := hG.p8
        have g9 := hG.p9
        have gb := hG.bl
        clear hG
        go_wp2_with (first | (refine wpList_load_blk rfl 101 _ rfl _ rfl g9 Try.underlying101 rfl size101 rfl ?_) | (refine wpList_store_blk rfl 101 _ _ rfl _ rfl rfl g8 size101 rfl rfl (oneFr _) ?_))
        exact bodyPost_ret (results_blk rfl _ _ _ rfl (World.putObj_heap_same (lt_blk g8)) Try.underlying101 rfl size101 rfl) rfl ⟨rfl, below_putObj gb (by omega)⟩
end Ytgnjeefanbcbkaa
end Go.Proofs
