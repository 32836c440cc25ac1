/- Fields: the least sweetness of a week if that of another one is known. -/
import Derived.Test.YtgnjeefanbcbkaaA8
open Go Go.RowKit Go.YtgnjeefanbcbkaaIt
namespace Go.Proofs
namespace Ytgnjeefanbcbkaa
theorem lineG_bd {i k x : Int} {a b : Fr} (h : LineH i a k b x) : Bd 100000000000 24389 (lineF i a k b x) := by
  obtain ⟨hne, ha, hb, hu, hi, hk, hx⟩ := h
  have hau := ha.pos
  have hbu := hb.pos
  have hsu0 : 0 < b.u * a.u := Int.mul_pos hbu hau
  have m1 := mulU (x := b) (y := a) hb ha
  have m2 := mulU (x := a) (y := b) ha hb
  have hso : -116000000 ≤ b.o * a.u - a.o * b.u ∧ b.o * a.u - a.o * b.u ≤ 116000000 := by omega
  unfold lineF
  generalize b.o * a.u - a.o * b.u = so at *
  generalize b.u * a.u = su at *
  have n1 := mulB (a := a.o) (A := 2000000) (b := su) (B := 29) ha.lo ha.hi (by omega) (by omega)
  have n2 := mulB (a := a.o * su) (A := 2000000 * 29) (b := k - i) (B := 29) n1.1 n1.2 (by omega) (by omega)
  have n3 := mulB (a := so) (A := 116000000) (b := a.u) (B := 29) hso.1 hso.2 (by omega) ha.le
  have n4 := mulB (a := so * a.u) (A := 116000000 * 29) (b := x - i) (B := 29) n3.1 n3.2 (by omega) (by omega)
  have n6 := mulB (a := a.u) (A := 29) (b := su) (B := 29) (by omega) ha.le (by omega) (by omega)
  have n7 := mulB (a := a.u * su) (A := 29 * 29) (b := k - i) (B := 29) n6.1 n6.2 (by omega) (by omega)
  have hp0 : a.u * su * (k - i) ≠ 0 := mul_ne (mul_ne (by omega) (by omega)) (by omega)
  unfold nrm
  split
  · exact ⟨by show _ ≤ -_; omega, by show -_ ≤ _; omega, by show 0 < -_; omega, by show -_ ≤ _; omega⟩
  · exact ⟨by show _ ≤ _ + _; omega, by show _ + _ ≤ _; omega, by show 0 < _ * _; omega, by show _ * _ ≤ _; omega⟩
theorem lineH_tw {i k x : Nat} {t : Fr} {l : Int} (hi : i < 30) (hk : k < 30) (hx : x < 30) (hne : k ≠ i) (ht : Bd 2000000 29 t) (hl : 0 ≤ l ∧ l ≤ 30000) : LineH k t i (whole l) x :=
  ⟨by omega, ht, whole_bd hl, by show (1 : Int) * t.u ≤ 29; have := ht.le; omega, by omega, by omega, by omega⟩
/-- Lines to the first c lows. -/
def gvPre (L : Nat → Int) (n x k : Nat) (t : Fr) (c : Nat) : Fr := big (((rngF n x k).take c).map fun i : Nat => lineF k t i (whole (L i)) x) (lowerF L n x)
theorem gvPre_0 (L : Nat → Int) (n x k : Nat) (t : Fr) : gvPre L n x k t 0 = lowerF L n x := by simp [gvPre, big]
theorem gvPre_step (L : Nat → Int) {n x k : Nat} (t : Fr) {c i : Nat} (h : (rngF n x k)[c]? = some i) : gvPre L n x k t (c + 1) = most (gvPre L n x k t c) (lineF k t i (whole (L i)) x) := by
  obtain ⟨hc, he⟩ := List.getElem?_eq_some_iff.1 h
  unfold gvPre
  rw [List.take_succ_eq_append_getElem hc, List.map_append, List.map_singleton, big_app, he]
theorem gvPre_end (L : Nat → Int) {n x k : Nat} (t : Fr) (hk : x ≠ k) {c : Nat} (hc : c = (rngF n x k).length) : gvPre L n x k t c = givF L n x k t := by
  unfold gvPre givF; rw [if_neg hk, hc, List.take_length]
theorem gvPre_bd {n : Nat} {L H : Nat → Int} (hb : Bds n L H) {x k c : Nat} {t : Fr} (hx : x < n) (hk : k < n) (hne : x ≠ k) (ht : Bd 2000000 29 t) : Bd 100000000000 24389 (gvPre L n x k t c) := by
  refine big_all ((lower_bd hb hx).mono (by decide) (by decide)) fun y hy => ?_
  obtain ⟨i, hi, rfl⟩ := List.mem_map.1 hy
  have h1 := (rngF_mem hx hne).1 (List.mem_of_mem_take hi)
  have := hb.n30
  exact lineG_bd (lineH_tw (by omega) (by omega) (by omega) (by omega) ht (hb.lo i h1.1))
theorem giv_bd {n : Nat} {L H : Nat → Int} (hb : Bds n L H) {x k : Nat} {t : Fr} (hx : x < n) (hk : k < n) (ht : Bd 2000000 29 t) : Bd 100000000000 24389 (givF L n x k t) := by
  by_cases hne : x = k
  · unfold givF; rw [if_pos hne]; exact ht.mono (by decide) (by decide)
  · rw [← gvPre_end L t hne rfl]; exact gvPre_bd hb hx hk hne ht
theorem toBig2 {x : Fr} (h : Bd 100000000000 24389 x) : Big x := h.mono (by decide) (by decide)
def rFrom (x k : Nat) : Nat := if x > k then x else 0
def rCnt (n x k : Nat) : Nat := if x > k then n - x else x + 1
theorem rng_len (n x k : Nat) : (rngF n x k).length = rCnt n x k := by unfold rngF rCnt; split <;> simp
theorem rng_get {n x k c : Nat} (h : c < rCnt n x k) : (rngF n x k)[c]? = some (rFrom x k + c) := by
  unfold rCnt at h; unfold rngF rFrom
  split <;> simp_all
/-- What the loop holds. -/
structure GvG (w : World) (k p7 : Nat) (t z : Fr) (W : World) : Prop where
  p5 : W.heap[w.heap.size]? = some (.cells #[.int .i64 (k : Int), .int .i64 t.o, .int .i64 t.u] 129 (0, 0))
  p6 : W.heap[w.heap.size + 1]? = some (.cells #[.int .i64 0, .int .i64 0] 93 (0, 0))
  p7 : W.heap[p7]? = some (.cells #[.int .i64 z.o, .int .i64 z.u] 93 (0, 0))
  bl : Below w.heap.size w W
theorem GvG.keep {w W W' : World} {k p7 : Nat} {t z : Fr} (h : GvG w k p7 t z W) (hb : Below W.heap.size W W') : GvG w k p7 t z W' :=
  ⟨blk_keep h.p5 hb, blk_keep h.p6 hb, blk_keep h.p7 hb, btr h.bl hb (Nat.le_refl _)⟩
set_option maxRecDepth 100000 in
set_option maxHeartbeats 8000000 in
theorem given_any {b n : Nat} {L H : Nat → Int} {x k : Nat} {t : Fr} {w : World} (hb : Bds n L H) (hx : x < n) (hk : k < n) (ht : Bd 2000000 29 t) (hy : Yr w b n L H) :
    Calls Try.prog 82 #[.pointer (some ⟨b, 0, none⟩), .int .i64 (x : Int), encP k t] w fun e w' => e = .returned (enc (givF L n x k t)) ∧ Below w.heap.size w w' := by
  have hn30 := hb.n30
  have HBS := Lib.hid hb
  have HY := Lib.hid hy
  have HT := Lib.hid ht
  clear hb hy ht
  go_enter Try.func82, Try.ntmps82
  refine wp_seq_k (fun K hK => ?_)
  have HK := Lib.hid hK; clear hK
  go_wp2
  refine HK.out _ _ ?_; clear HK K
  generalize hw1 : World.alloc _ _ = w1
  obtain ⟨b5, b6, hB, hs1⟩ := blk2 hw1
  clear hw1
  have d0 := cell_blk (i := 0) b5
  simp only [List.getElem?_toArray, List.getElem?_cons_zero] at d0
  by_cases hxk : x = k
  · subst hxk
    have hxx : ((x : Int) == (x : Int)) = true := by simp
    have r1 : w1.rangeAt w.heap.size 1 [.int .i64 t.o, .int .i64 t.u] := mid2 (by rw [cell_blk b5]; rfl) (by rw [cell_blk b5]; rfl)
    have hg : givF L n x x t = t := by unfold givF; rw [if_pos rfl]
    rw [hg]
    clear hg
    go_wp2_with (first | (refine wpList_load_mid rfl 93 _ rfl _ _ rfl _ _ r1 Try.underlying93 rfl size93 ?_) | (refine wpList_store_blk rfl 93 _ _ rfl _ rfl rfl b6 size93 rfl rfl (oneFr _) ?_))
    exact bodyPost_ret (results_blk rfl _ _ _ rfl (World.putObj_heap_same (lt_blk b6)) Try.underlying93 rfl size93 rfl) rfl ⟨rfl, below_putObj hB (by omega)⟩
  · have hxki : ¬ ((x : Int) = (k : Int)) := by omega
    have hxkb : ((x : Int) == (k : Int)) = false := by simpa using hxki
    have h41 := fun W (hW : Below w.heap.size w W) => lower_any HBS.out hx (HY.out.keep hW)
    have H41 := Lib.hid h41
    clear h41
    have gz := gvPre_0 L n x k t
    generalize lowerF L n x = z0 at *
    have hz0 := (show Hid (gvPre L n x k t 0 = z0) from Lib.hid gz)
    clear gz
    refine wp_seq_k (fun K hK => ?_)
    have HK := Lib.hid hK; clear hK
    go_wp2
    refine HK.out _ _ ?_; clear HK K
    refine wp_seq_k (fun K hK => ?_)
    have HK := Lib.hid hK; clear hK
    go_wp2_with (go_at_call 41; refine (H41.out _ hB).mono ?_; rintro e w2 ⟨rfl, hb2⟩)
    refine HK.out _ _ ?_; clear HK K H41
    replace b5 := blk_keep b5 hb2
    replace b6 := blk_keep b6 hb2
    have hl7 : w.heap.size + 2 ≤ w2.heap.size := Nat.le_trans hs1 hb2.size
    replace hB := btr hB hb2 (Nat.le_refl _)
    generalize hw3 : World.alloc _ _ = w3
    obtain ⟨b7, hB3, hs3⟩ := blk1 hw3
    clear hw3
    replace b5 := blk_keep b5 hB3
    replace b6 := blk_keep b6 hB3
    replace hB := btr hB hB3 (Nat.le_refl _)
    generalize hp7 : w2.heap.size = p7 at *
    clear hb2 hB3 hs1 hp7 d0 hs3 w1 w2
    have d0 := cell_blk (i := 0) b5
    simp only [List.getElem?_toArray, List.getElem?_cons_zero] at d0
    have hG : GvG w k p7 t (gvPre L n x k t 0) w3 := ⟨b5, b6, by rw [hz0.out]; exact b7, hB⟩
    clear b5 b6 b7 hz0
    refine wp_seq_k (fun K hK => ?_)
    have HK := Lib.hid hK; clear hK
    go_wp2
    refine HK.out _ _ ?_; clear HK K
    -- the bounds
    refine wp_seq_k (fun K hK => ?_)
    have hK2 : ∀ (fr to : Int) (u20 u21 u22 u23 u24 u25 u26 u27 u28 u29 u30 : Value) (W : World), fr = ((rFrom x k : Nat) : Int) → to = (rFrom x k : Int) + rCnt n x k - 1 → GvG w k p7 t (gvPre L n x k t 0) W → K { tmps := #[.pointer (some ⟨b, 0, none⟩), .int .i64 x, encP k t, undef, undef, .pointer (some ⟨w.heap.size, 0, none⟩), .pointer (some ⟨w.heap.size + 1, 0, none⟩), .pointer (some ⟨p7, 0, none⟩), .int .i64 fr, .int .i64 to, undef, .int .i64 x, .pointer (some ⟨w.heap.size, 0, none⟩), .int .i64 k, .bool false, undef, undef, .pointer (some ⟨b, 0, none⟩), .int .i64 x, enc z0, u20, u21, u22, u23, u24, u25, u26, u27, u28, u29, u30, undef, undef, undef, undef, undef, undef, undef, undef, undef, undef, undef, undef, undef, undef, undef, undef], defers := [] } W := by
      intro fr to u20 u21 u22 u23 u24 u25 u26 u27 u28 u29 u30 W hfr hto hG
      have HK := Lib.hid hK
      have HTO := Lib.hid hto
      have hcn1 : rFrom x k + rCnt n x k ≤ 30 := by unfold rFrom rCnt; split <;> omega
      refine HK.out _ _ ?_
      clear hK HK hto d0 hB
      go_wp2
      go_loopw [10] (fun i wr => ∃ c q : Nat, c ≤ rCnt n x k ∧ Hid (q = rFrom x k + c) ∧ i = .int .i64 q ∧ GvG w k p7 t (gvPre L n x k t c) wr) (fun i _ => 60 - (intOf i).toNat)
      case atStart => exact ⟨0, rFrom x k, Nat.zero_le _, Lib.hid rfl, by first | rfl | rw [hfr], hG⟩
      case round =>
        clear hG hfr fr
        obtain ⟨c, q, hc, HQ, rfl, hG⟩ := hrel
        have hqb : q ≤ 30 := by have := HQ.out; omega
        by_cases hcn : c < rCnt n x k
        · have hle : (q : Int) ≤ to := by rw [HTO.out, HQ.out]; omega
          have hmem := (rngF_mem hx hxk (i := q)).1 (List.mem_of_getElem? (by rw [HQ.out]; exact rng_get hcn))
          have hqn : q < n := hmem.1
          have hkq : k ≠ q := by omega
          have hbz := toBig2 (gvPre_bd HBS.out hx hk hxk HT.out (c := c))
          have hlh := lineH_tw (i := q) (k := k) (x := x) (by omega) (by omega) (by omega) hkq HT.out (HBS.out.lo q hqn)
          have hby := toBig2 (lineG_bd hlh)
          have hst := gvPre_step L t (c := c) (i := q) (by rw [HQ.out]; exact rng_get hcn)
          have h75 := fun W' (hW : Below wr.heap.size wr W') => lowest_any ((HY.out.keep hG.bl).keep hW) hqn hn30
          have h76 := fun W' => line_any (k : Int) t (q : Int) (whole (L q)) (x : Int) W' hlh
          have hq1 : IntKind.i64.wrap ((q : Int) + 1) = ((q + 1 : Nat) : Int) := by rw [IntKind.wrap_i64]; omega
          have HST := Lib.hid hst
          have H75 := Lib.hid h75
          have H76 := Lib.hid h76
          clear hst h75 h76 hlh hmem
          generalize lineF k t q (whole (L q)) x = y at *
          have HBY := Lib.hid hby
          have HBZ := Lib.hid hbz
          clear hby hbz
          have b5 := hG.p5
          have b7 := hG.p7
          have HG := Lib.hid hG
          clear hG
          generalize hzz : gvPre L n x k t c = z at *
          clear hzz
          go_wp2
          rename_i K2 hK2
          have HK2 := Lib.hid hK2; clear hK2
          have hS0 : Below wr.heap.size wr wr.drew := (Below.refl _ _).drew
          refine wp_region_z (S := fun U => Below wr.heap.size wr U) (z := 9) (by kernel_rfl) ?_
          change wpAnyZ _ _ _ _ _ _ _ _ _ (World.drew wr)
          have hBwq := hS0
          generalize World.drew wr = wq at *
          refine wpAnyZ_take (i := 0) (oi := { dst := some 37, op := _, type := _, pos := _, after := _, guard := none }) (v := ?_) rfl (by kernel_rfl) (by kernel_rfl) (by kernel_rfl) (fun _ _ _ h => h) (Or.inl ⟨by rfl, ?_⟩) (by first | exact hS0 | assumption) ?_
          rotate_left
          · refine yields_load_blk 93 (.tmp 7) ?_ _ ?_ (fun U hU => blk_keep b7 hU) Try.underlying93 rfl size93 rfl
            all_goals rfl
          simp only [Act.put, List.setIfInBounds_toArray, List.set_cons_zero, List.set_cons_succ]
          refine wpAnyZ_take (i := 1) (oi := { dst := some 38, op := _, type := _, pos := _, after := _, guard := none }) (v := ?_) rfl (by kernel_rfl) (by kernel_rfl) (by kernel_rfl) (fun _ _ _ h => h) (Or.inl ⟨by rfl, ?_⟩) (by first | exact hS0 | assumption) ?_
          rotate_left
          · refine yields_load_blk 129 (.tmp 5) ?_ _ ?_ (fun U hU => blk_keep b5 hU) Try.underlying129 rfl size129 rfl
            all_goals rfl
          simp only [Act.put, List.setIfInBounds_toArray, List.set_cons_zero, List.set_cons_succ]
          refine wpAnyZ_take (i := 2) (oi := { dst := some 39, op := _, type := _, pos := _, after := _, guard := none }) (v := ?_) rfl (by kernel_rfl) (by kernel_rfl) (by kernel_rfl) (fun _ _ _ h => h) (Or.inl ⟨by rfl, ?_⟩) (by first | exact hS0 | assumption) ?_
          rotate_left
          · intro U hU
            go_simp
            all_goals with_reducible rfl
          simp only [Act.put, List.setIfInBounds_toArray, List.set_cons_zero, List.set_cons_succ]
          refine wpAnyZ_take (i := 3) (oi := { dst := some 40, op := _, type := _, pos := _, after := _, guard := none }) (v := ?_) rfl (by kernel_rfl) (by kernel_rfl) (by kernel_rfl) (fun _ _ _ h => h) (Or.inl ⟨by rfl, ?_⟩) (by first | exact hS0 | assumption) ?_
          rotate_left
          · intro U hU
            go_simp
            all_goals with_reducible rfl
          simp only [Act.put, List.setIfInBounds_toArray, List.set_cons_zero, List.set_cons_succ]
          refine wpAnyZ_take (i := 5) (oi := { dst := some 42, op := _, type := _, pos := _, after := _, guard := none }) (v := ?_) rfl (by kernel_rfl) (by kernel_rfl) (by kernel_rfl) (fun _ _ _ h => h) (Or.inl ⟨by rfl, ?_⟩) (by first | exact hS0 | assumption) ?_
          rotate_left
          · intro U hU
            go_simp
            all_goals with_reducible rfl
          simp only [Act.put, List.setIfInBounds_toArray, List.set_cons_zero, List.set_cons_succ]
          refine wpAnyZ_one (i := 4) (o := { dst := some 41, op := _, type := _, pos := _, after := _, guard := none }) (by kernel_rfl) rfl (by rfl) (fun K1 hK1 => ?_)
          have HK1 := Lib.hid hK1; clear hK1
          refine oper_call (f := 75) (xs := #[.tmp 39, .tmp 40]) (ts := _) rfl (enters_of Try.func75 (by kernel_rfl) rfl) rfl (H75.out _ hBwq) ?_
          intro v1 hbv1
          have hBv1 := btr hBwq hbv1 (Nat.le_refl _)
          refine HK1.out _ _ (fun _ => hBv1) ?_
          clear HK1 K1
          try simp only [Act.put, List.setIfInBounds_toArray, List.set_cons_zero, List.set_cons_succ]
          refine wpAnyZ_one (i := 6) (o := { dst := some 43, op := _, type := _, pos := _, after := _, guard := none }) (by kernel_rfl) rfl (by rfl) (fun K1 hK1 => ?_)
          have HK1 := Lib.hid hK1; clear hK1
          refine oper_call (f := 76) (xs := #[.tmp 38, .tmp 41, .tmp 42]) (ts := _) rfl (enters_of Try.func76 (by kernel_rfl) rfl) rfl (H76.out _) ?_
          intro v2 hbv2
          have hBv2 := btr hBv1 hbv2 (Nat.le_refl _)
          refine HK1.out _ _ (fun _ => hBv2) ?_
          clear HK1 K1
          try simp only [Act.put, List.setIfInBounds_toArray, List.set_cons_zero, List.set_cons_succ]
          have hBa := hBv2.alloc hBv2.size (.cells #[.int .i64 y.o, .int .i64 y.u] 93)
          refine wpAnyZ_one (i := 7) (o := { dst := some 44, op := _, type := _, pos := _, after := _, guard := none }) (by kernel_rfl) rfl (by rfl) (fun K1 hK1 => ?_)
          have HK1 := Lib.hid hK1; clear hK1
          go_simp
          refine HK1.out _ _ (fun _ => hBa) ?_
          clear HK1 K1
          try simp only [Act.put, List.setIfInBounds_toArray, List.set_cons_zero, List.set_cons_succ]
          refine wpAnyZ_one (i := 8) (o := { dst := some 45, op := _, type := _, pos := _, after := _, guard := none }) (by kernel_rfl) rfl (by rfl) (fun K1 hK1 => ?_)
          have HK1 := Lib.hid hK1; clear hK1
          refine oper_call (f := 73) (xs := #[.func 63, .tmp 37, .tmp 44]) (ts := _) rfl (enters_of Try.func73 (by kernel_rfl) rfl) rfl (best_any z y v2.heap.size 1 (v2.alloc (.cells #[.int .i64 y.o, .int .i64 y.u] 93)) HBZ.out HBY.out (mid_blk (heap_newI rfl) (fun j v h => by simpa using h)) (by simp)) ?_
          intro v3 hbv3
          have hBv3 := btr hBa hbv3 (Nat.le_refl _)
          refine HK1.out _ _ (fun _ => hBv3) ?_
          clear HK1 K1
          try simp only [Act.put, List.setIfInBounds_toArray, List.set_cons_zero, List.set_cons_succ]
          refine wpAnyZ_last (o := { dst := none, op := _, type := _, pos := _, after := _, guard := none }) (by kernel_rfl) (by kernel_rfl) rfl (by rfl) (fun K1 hK1 => ?_)
          have HK1 := Lib.hid hK1; clear hK1
          have b73 := blk_keep b7 hBv3
          refine oper_store_blk 93 (.tmp 7) (.tmp 45) rfl _ rfl rfl b73 size93 rfl rfl (oneFr _) ?_
          refine HK1.out _ _ ?_
          clear HK1 K1
          try simp only [Act.put]
          have b53 := blk_keep b5 hBv3
          have b63 := blk_keep HG.out.p6 hBv3
          have hne5 : w.heap.size ≠ p7 := by omega
          have hne6 : w.heap.size + 1 ≠ p7 := by omega
          have hGn : GvG w k p7 t (gvPre L n x k t (c + 1)) (v3.putObj p7 (.cells #[.int .i64 (most z y).o, .int .i64 (most z y).u] 93 (0, 0))) := ⟨(World.putObj_heap_other hne5).trans b53, (World.putObj_heap_other hne6).trans b63, by rw [HST.out]; exact World.putObj_heap_same (lt_blk b73), below_putObj (btr HG.out.bl hBv3 (Nat.le_refl _)) (by omega)⟩
          clear b5 b7 b53 b63 b73 hBv1 hBv2 hBv3 hBa hbv1 hbv2 hbv3 HG H75 H76 HST hS0 hBwq HBY HBZ
          show K2 _ _
          refine HK2.out _ _ ?_
          clear HK2 K2
          go_wp2
          go_roundw
          case rel => exact ⟨c + 1, q + 1, by omega, Lib.hid (by have := HQ.out; omega), by go_num, hGn⟩
          case measure => simp [intOf]; omega
        · have hce : c = rCnt n x k := by omega
          have hle : ¬ (q : Int) ≤ to := by rw [HTO.out, HQ.out]; omega
          have hend := gvPre_end L (n := n) t hxk (c := c) (by rw [hce, rng_len])
          rw [hend] at hG
          have b6 := hG.p6
          have b7 := hG.p7
          have bb := hG.bl
          clear hG hend hce
          go_wp2_with (first | (refine wpList_load_blk rfl 93 _ rfl _ rfl b7 Try.underlying93 rfl size93 rfl ?_) | (refine wpList_store_blk rfl 93 _ _ rfl _ rfl rfl b6 size93 rfl rfl (oneFr _) ?_))
          exact bodyPost_ret (results_blk rfl _ _ _ rfl (World.putObj_heap_same (lt_blk b6)) Try.underlying93 rfl size93 rfl) rfl ⟨rfl, below_putObj bb (by omega)⟩
    have HK2 := Lib.hid hK2
    clear hK hK2
    by_cases hgt : x > k
    · have hgti : (x : Int) > (k : Int) := by omega
      have hgtb : (decide ((x : Int) > (k : Int))) = true := by simpa using hgti
      have e1 := (HY.out.keep hB).wk
      have hw1 : IntKind.i64.wrap ((n : Int) - 1) = (n : Int) - 1 := by rw [IntKind.wrap_i64]; omega
      have hto : (n : Int) - 1 = ((rFrom x k : Int) + rCnt n x k - 1) := by unfold rFrom rCnt; rw [if_pos hgt, if_pos hgt]; omega
      have hf : (x : Int) = ((rFrom x k : Nat) : Int) := by unfold rFrom; rw [if_pos hgt]
      have HF := Lib.hid hf
      have HTO := Lib.hid hto
      have HG := Lib.hid hG
      clear hf hG hgt hB hto
      go_wp2
      go_quiet (fail)
      exact HK2.out _ _ _ _ _ _ _ _ _ _ _ _ _ _ HF.out HTO.out (HG.out.keep (below_drewN (Below.refl _ _) _))
    · have hgti : ¬ (x : Int) > (k : Int) := by omega
      have hgtb : (decide ((x : Int) > (k : Int))) = false := by simpa using hgti
      have hf : (0 : Int) = ((rFrom x k : Nat) : Int) := by unfold rFrom; rw [if_neg hgt]; rfl
      have ht : (x : Int) = ((rFrom x k : Int) + rCnt n x k - 1) := by unfold rFrom rCnt; rw [if_neg hgt, if_neg hgt]; omega
      have HF := Lib.hid hf
      have HTO := Lib.hid ht
      have HG := Lib.hid hG
      clear hf ht hG hgt hB
      go_wp2
      exact HK2.out _ _ _ _ _ _ _ _ _ _ _ _ _ _ HF.out HTO.out HG.out
end Ytgnjeefanbcbkaa
end Go.Proofs
