/- Fields: the weeks of peaks. -/
import Derived.Test.YtgnjeefanbcbkaaB6
import Derived.Lib.SliceRun
open Go Go.RowKit Go.YtgnjeefanbcbkaaIt
namespace Go.Proofs
namespace Ytgnjeefanbcbkaa
theorem len113 : Try.prog.arrayLen 113 = 30 := by kernel_rfl
theorem elem113 : Try.prog.elem 113 = 3 := by kernel_rfl
theorem und113 : Try.prog.underlying 113 = some (.array (Try.prog.arrayLen 113) (Try.prog.elem 113)) := by kernel_rfl
theorem slice113 (w : World) (b o m : Nat) (hm : m ≤ 30) : (Instr.sliceAt 113 (.pointer (some ⟨b, o, none⟩)) none (some (.int .i64 (m : Int))) none).run Try.prog w = .ok (.slice (some ⟨b, o, none⟩) m 30) w := by
  have := run_sliceAt_array_h w 113 ⟨b, o, none⟩ (P := Try.prog) und113 .i64 (m : Int) (by omega) (by rw [len113]; omega)
  obtain ⟨i3, hi3, hz1, hz2, hz3⟩ := info_parts info3
  have hs : (sizeOf 3).run Try.prog w = .ok 1 w := by simp [sizeOf, typeInfo, hi3, hz2, Sem.run_bind]
  rw [this, len113, elem113, hs, Result.andThen_ok]
  simp [slicedAt, Addr.add]
/-- The greatest one of the first k + 1 lows. -/
def topF (L : Nat → Int) : Nat → Int
  | 0 => L 0
  | k + 1 => max (topF L k) (L (k + 1))
set_option maxRecDepth 100000 in
set_option maxHeartbeats 4000000 in
theorem max_any (v : Value) (L : Nat → Int) (n : Nat) (w : World) (hn : 1 ≤ n ∧ n ≤ 30) (hv : SlI w v ((List.range n).map L)) :
    Calls Try.prog 60 #[v] w fun e w' => e = .returned (.int .i64 (topF L (n - 1))) ∧ Below w.heap.size w w' := by
  obtain ⟨ad, cap, rfl, hm, hcp, hc⟩ := hv
  simp only [List.length_map, List.length_range] at *
  obtain ⟨b, off, rfl, hlt, hcell⟩ := hc (by omega)
  have hcl : ∀ i, i < n → w.cell? ⟨b, off + i, none⟩ = some (.int .i64 (L i)) := fun i hi => by rw [hcell i hi]; simp [at0, hi]
  have HC := Lib.hid hcl
  have c0 := hcl 0 (by omega)
  rw [Nat.add_zero] at c0
  have hn1 : ¬ ((n : Int) < 1) := by omega
  have hn0 : 0 < n := by omega
  clear hc hcell hcl
  go_enter Try.func60, Try.ntmps60
  go_wp2
  clear c0
  go_loopw [3, 4] (fun m i wr => ∃ k : Nat, k < n ∧ m = .int .i64 (topF L k) ∧ i = .int .i64 ((k + 1 : Nat) : Int) ∧ Below w.heap.size w wr) (fun _ i _ => n - (intOf i).toNat)
  case atStart => exact ⟨0, hn0, rfl, rfl, Below.refl _ _⟩
  case round =>
    obtain ⟨k, hk, rfl, rfl, hB⟩ := hrel
    by_cases hkn : k + 1 < n
    · have c1 := (hB.cell (p := ⟨b, off + (k + 1), none⟩) hlt).trans (HC.out (k + 1) hkn)
      have hst : topF L (k + 1) = max (topF L k) (L (k + 1)) := rfl
      have HST := Lib.hid hst
      clear hst
      generalize L (k + 1) = x at *
      generalize topF L k = m0 at *
      generalize hk1 : k + 1 = k1 at *
      have HK1 := Lib.hid hk1
      have hw1 : IntKind.i64.wrap ((k1 : Int) + 1) = ((k1 + 1 : Nat) : Int) := by rw [IntKind.wrap_i64]; omega
      have hki : (k1 : Int) < (n : Int) := by omega
      clear hk1 hn1
      go_wp2_with (refine wpList_max rfl _ _ _ rfl rfl rfl ?_)
      go_roundw
      case rel => exact ⟨k1, by omega, by rw [HST.out], by go_num, hB⟩
      case measure => simp [intOf]; omega
    · have hke : k = n - 1 := by omega
      have hki : ¬ (((k + 1 : Nat) : Int) < (n : Int)) := by omega
      subst hke
      go_wp2
      go_ret
      exact ⟨rfl, hB⟩
theorem yr_slice {W : World} {b n : Nat} {L H : Nat → Int} (h : Yr W b n L H) (hn : n ≤ 30) : SlI W (.slice (some ⟨b, 1, none⟩) n 30) ((List.range n).map L) := by
  refine ⟨_, 30, by simp, by simp; omega, by simpa using hn, fun _ => ⟨b, 1, rfl, h.lt, fun i hi => ?_⟩⟩
  simp only [List.length_map, List.length_range] at hi
  rw [h.lo i hi]
  simp [at0, hi]
def peakP (L H : Nat → Int) (n x : Nat) : Bool := !(upperF L H n x).lt (whole (topF L (n - 1)))
theorem geB (x y : Fr) : decide (cmpI x y ≥ 0) = !x.lt y := by
  have := cmp_neg x y
  unfold Fr.lt
  by_cases h : x.o * y.u < y.o * x.u
  · simp [h]; exact this.2 h
  · simp [h]; have h2 := fun q => h (this.1 q); omega
theorem top_bd {n : Nat} {L H : Nat → Int} (hb : Bds n L H) : ∀ {k : Nat}, k < n → 0 ≤ topF L k ∧ topF L k ≤ 30000
  | 0, h => hb.lo 0 h
  | k + 1, h => by
    have h1 := top_bd hb (k := k) (by omega)
    have h2 := hb.lo (k + 1) h
    unfold topF; omega
set_option maxRecDepth 100000 in
set_option maxHeartbeats 4000000 in
theorem peak_any {p4 p6 b n : Nat} {L H : Nat → Int} {x : Nat} {z : Fr} {w : World} (hb : Bds n L H) (hx : x < n) (hz : Big z) (hy : Yr w b n L H)
    (h4 : w.heap[p4]? = some (.cells #[.pointer (some ⟨b, 0, none⟩)] 89 (0, 0))) (h6 : w.heap[p6]? = some (.cells #[.int .i64 z.o, .int .i64 z.u] 93 (0, 0))) :
    Calls Try.prog 62 #[.int .i64 (x : Int), .pointer (some ⟨p4, 0, none⟩), .pointer (some ⟨p6, 0, none⟩)] w fun e w' => e = .returned (.bool (!(upperF L H n x).lt z)) ∧ Below w.heap.size w w' := by
  have c4 := cell_blk (i := 0) h4
  simp only [List.getElem?_toArray, List.getElem?_cons_zero] at c4
  have l4 := lt_blk h4
  have hbd := toBig (upper_bd hb hx)
  have h43 := fun (X : Ab w.heap.size w) => Calls.ab X (Nat.le_refl _) (upper_any hb hx (hy.keep X.ok))
  have hge := geB (upperF L H n x) z
  generalize upperF L H n x = u at *
  have h63 := fun (X : Ab w.heap.size w) => Calls.ab X (Nat.le_refl _) (compare_any u z X.val hbd hz)
  rw [← hge]
  have H43 := Lib.hid h43
  have H63 := Lib.hid h63
  have e4 := fun X : Ab w.heap.size w => (X.ok.cell (p := ⟨p4, 0, none⟩) l4).trans c4
  have B6 : ∀ W, AbC w.heap.size w W → W.heap[p6]? = _ := fun W ⟨X, hX⟩ => hX ▸ blk_keep h6 X.ok
  generalize cmpI u z = cc at *
  clear h43 h63 hge hbd hz hb hy c4 h4
  go_enter Try.func62, Try.ntmps62
  refine wp_seq_k (fun K hK => ?_)
  have HK := Lib.hid hK; clear hK
  go_wp2
  refine HK.out _ _ ?_; clear HK K
  refine wp_seq_k (fun K hK => ?_)
  have HK := Lib.hid hK; clear hK
  refine wp_region_ab w.heap.size w (by kernel_rfl) (by kernel_rfl) (Below.refl _ _) ?_
  unfold AbC at *
  repeat (first | (refine wpQuiet_load_blk rfl 93 _ rfl _ rfl B6 Try.underlying93 rfl size93 rfl ?_; simp only [Act.put, List.setIfInBounds_toArray, List.set_cons_succ, List.set_cons_zero]) | go_big_quiet_step (first | (go_at_call 43; with_reducible exact H43.out _) | (go_at_call 63; with_reducible exact H63.out _)))
  refine wpQuiet_nil ?_
  rintro W' ⟨X, rfl⟩
  refine HK.out _ _ ?_
  go_wp2
  go_ret
  exact ⟨rfl, X.ok⟩
/-- The weeks of peaks. -/
def peaksL (n lo hi : Int) (ss : List Smp) : List Int := if posE n lo hi ss = 0 then chosenL (peakP (lowAt lo ss) (highAt hi ss) n.toNat) n.toNat else []
theorem possible_ok {n lo hi : Int} {v : Value} {ss : List Smp} {w : World} (hv : SlS w v ss) (h0 : posE n lo hi ss = 0) :
    Calls Try.prog 40 #[.agg #[.int .i64 n, .int .i64 lo, .int .i64 hi, v]] w fun e w' => ∃ m b : Nat, e = .returned (.tuple #[.pointer (some ⟨b, 0, none⟩), .int .i64 0]) ∧ n = m ∧ Val m lo hi ss ∧ noB (lowAt lo ss) (highAt hi ss) m = true ∧ Yr w' b m (lowAt lo ss) (highAt hi ss) ∧ Below w.heap.size w w' := by
  refine (possible_any n lo hi v ss w hv).mono ?_
  rintro e w' ⟨p, rfl, hpr, hb⟩
  rcases hpr with ⟨-, m, b, h1, h2, h3, rfl, h4⟩ | ⟨h, -⟩
  · exact ⟨m, b, by rw [h0], h1, h2, h3, h4, hb⟩
  · exact absurd h0 h
theorem possible_err {n lo hi : Int} {v : Value} {ss : List Smp} {w : World} (hv : SlS w v ss) (h0 : posE n lo hi ss ≠ 0) :
    Calls Try.prog 40 #[.agg #[.int .i64 n, .int .i64 lo, .int .i64 hi, v]] w fun e w' => e = .returned (.tuple #[.pointer none, .int .i64 (posE n lo hi ss)]) ∧ Below w.heap.size w w' := by
  refine (possible_any n lo hi v ss w hv).mono ?_
  rintro e w' ⟨p, rfl, hpr, hb⟩
  rcases hpr with ⟨h, -⟩ | ⟨-, rfl⟩
  · exact absurd h h0
  · exact ⟨rfl, hb⟩
def fr24 (n lo hi : Int) (v : Value) (s p4 p6 b m : Nat) (t : Int) : Act :=
  { tmps := #[.agg #[.int .i64 n, .int .i64 lo, .int .i64 hi, v], .pointer (some ⟨s, 0, none⟩), .slice none 0 0, .int .i64 0, .pointer (some ⟨p4, 0, none⟩), .int .i64 0, .pointer (some ⟨p6, 0, none⟩), .tuple #[.pointer (some ⟨b, 0, none⟩), .int .i64 0], .agg #[.int .i64 n, .int .i64 lo, .int .i64 hi, v], .tuple #[.pointer (some ⟨b, 0, none⟩), .int .i64 0], .pointer (some ⟨b, 0, none⟩), .int .i64 0, .int .i64 0, .bool false, undef,
      .pointer (some ⟨b, 0, none⟩), .pointer (some ⟨b, 0, none⟩), .pointer (some ⟨b, 1, none⟩), .pointer (some ⟨b, 0, none⟩), .pointer (some ⟨b, 0, none⟩), .pointer (some ⟨b, 0, none⟩), .int .i64 m, .slice (some ⟨b, 1, none⟩) m 30, .int .i64 t, enc (whole t), undef, undef, undef], defers := [] }
set_option maxRecDepth 100000 in
set_option maxHeartbeats 8000000 in
theorem peaks_any (n lo hi : Int) (v : Value) (ss : List Smp) (w : World) (hv : SlS w v ss) :
    Calls Try.prog 24 #[.agg #[.int .i64 n, .int .i64 lo, .int .i64 hi, v]] w fun e w' => ∃ p, e = .returned (.tuple #[p, .int .i64 (posE n lo hi ss)]) ∧ SlI w' p (peaksL n lo hi ss) ∧ Below w.heap.size w w' := by
  have HV := Lib.hid hv
  obtain ⟨ad, cap, rfl, -, -, -⟩ := hv
  go_enter Try.func24, Try.ntmps24
  refine wp_seq_k (fun K hK => ?_)
  have HK := Lib.hid hK; clear hK
  go_wp2
  refine HK.out _ _ ?_; clear HK K
  generalize hw1 : World.alloc _ _ = w1
  obtain ⟨b1, hB, hs1⟩ := blk1 hw1
  clear hw1
  obtain ⟨E, hE⟩ : ∃ E, E = posE n lo hi ss := ⟨_, rfl⟩
  have HE := Lib.hid hE
  by_cases h0 : E = 0
  · have h40 := possible_ok (HV.out.below hB (Nat.le_refl _)) (hE.symm.trans h0)
    have H40 := Lib.hid h40
    subst h0
    clear h40 hE
    refine wp_seq_k (fun K hK => ?_)
    have HK := Lib.hid hK; clear hK
    go_wp2_with (first | (refine wpList_load_blk rfl 26 _ rfl _ rfl b1 Try.underlying26 rfl size26 rfl ?_) | (go_at_call 40; refine H40.out.mono ?_; rintro e w2 ⟨m, b, rfl, hnm, hV, -, hyr, hb2⟩))
    refine HK.out _ _ ?_; clear HK K H40
    replace hB := btr hB hb2 (Nat.le_refl _)
    subst hnm
    clear b1 hs1
    · generalize hw3 : World.alloc _ _ = w3
      obtain ⟨b4, hB3, hs3⟩ := blk1 hw3
      clear hw3
      replace hyr := hyr.keep hB3
      have hBB := btr hB hB3 (Nat.le_refl _)
      generalize w2.heap.size = p4 at *
      have hn1 := hV.n1
      have hn30 := hV.n30
      have HB := Lib.hid hV.bds
      have hkl : peaksL m lo hi ss = chosenL (peakP (lowAt lo ss) (highAt hi ss) m) m := by unfold peaksL; rw [if_pos HE.out.symm]; rfl
      have HKL := Lib.hid hkl
      have hmf : ∀ (fn : Fn) (first cap : Array Value) (w : World), (Instr.makeFunc fn first cap).run Try.prog w = .ok (.func fn first cap) w := fun _ _ _ _ => rfl
      have htb := top_bd HB.out (show m - 1 < m by omega)
      have h60 := fun W (hW : Below w3.heap.size w3 W) => max_any (.slice (some ⟨b, 1, none⟩) m 30) (lowAt lo ss) m W ⟨hn1, hn30⟩ (yr_slice (hyr.keep hW) hn30)
      have H60 := Lib.hid h60
      clear hkl hV hb2 hB hB3 hs3 h60 w2
      obtain ⟨T, hT⟩ : ∃ T, T = topF (lowAt lo ss) (m - 1) := ⟨_, rfl⟩
      rw [← hT] at H60 htb
      have HT := Lib.hid hT
      clear hT
      have HTB := Lib.hid htb
      clear htb
      refine wp_seq_k (fun K hK => ?_)
      have HK := Lib.hid hK; clear hK
      go_wp2
      refine HK.out _ _ ?_; clear HK K
      refine wp_seq_k (fun K hK => ?_)
      have HK := Lib.hid hK; clear hK
      have tail : ∀ (p6 : Nat) (W : World), W.heap[p6]? = some (.cells #[.int .i64 (whole T).o, .int .i64 (whole T).u] 93 (0, 0)) → Below w3.heap.size w3 W → K (fr24 m lo hi (.slice ad ss.length cap) w.heap.size p4 p6 b m T) W := by
        intro p6 W h6 hBW
        refine HK.out _ _ ?_
        clear HK H60
        have c4 := cell_blk (i := 0) (blk_keep b4 hBW)
        simp only [List.getElem?_toArray, List.getElem?_cons_zero] at c4
        have h61 := chosen_any 62 #[.pointer (some ⟨p4, 0, none⟩), .pointer (some ⟨p6, 0, none⟩)] (peakP (lowAt lo ss) (highAt hi ss) m) hn30 (hyr.keep hBW) (enters_of Try.func62 (by kernel_rfl) rfl) (fun x hx W2 hW2 => by
          have := peak_any (p4 := p4) (p6 := p6) HB.out hx (toBig (whole_bd HTB.out)) ((hyr.keep hBW).keep hW2) (blk_keep (blk_keep b4 hBW) hW2) (blk_keep h6 hW2)
          unfold peakP
          rw [← HT.out]
          exact this)
        have H61 := Lib.hid h61
        clear h61 b4 h6 hyr
        unfold fr24
        go_wp2_with (go_at_call 61; refine H61.out.mono ?_; rintro e w5 ⟨v5, rfl, hsl, hb5⟩)
        go_ret2
        exact ⟨_, by rw [← HE.out]; rfl, by rw [HKL.out]; exact hsl, btr (btr hBB hBW (Nat.le_refl _)) hb5 (Nat.le_refl _)⟩
      have TAIL := Lib.hid tail
      clear tail HK
      have hS0 : Below w3.heap.size w3 w3.drew := (Below.refl _ _).drew
      refine wp_region_z (S := fun U => Below w3.heap.size w3 U) (z := 11) (by kernel_rfl) ?_
      change wpAnyZ _ _ _ _ _ _ _ _ _ (World.drew w3)
      have hBwq := hS0
      have hs0 : w3.heap.size = w3.drew.heap.size := rfl
      generalize World.drew w3 = wq at *
      have q4 := cell_blk (i := 0) b4
      have ql := lt_blk b4
      have qw := hyr.wk
      have qy := hyr.lt
      simp only [List.getElem?_toArray, List.getElem?_cons_zero] at q4
      have hmn : m ≤ 30 := hn30
      refine wpAnyZ_take (i := 0) (oi := { dst := some 15, op := _, type := _, pos := _, after := _, guard := none }) (v := ?_) rfl (by kernel_rfl) (by kernel_rfl) (by kernel_rfl) (fun _ _ _ h => h) (Or.inl ⟨by rfl, ?_⟩) (by first | exact hS0 | assumption) ?_
      rotate_left
      · intro U hU
        have u4 := (hU.cell (p := ⟨p4, 0, none⟩) ql).trans q4
        go_simp
        all_goals with_reducible rfl
      simp only [Act.put, List.setIfInBounds_toArray, List.set_cons_zero, List.set_cons_succ]
      refine wpAnyZ_take (i := 1) (oi := { dst := some 16, op := _, type := _, pos := _, after := _, guard := none }) (v := ?_) rfl (by kernel_rfl) (by kernel_rfl) (by kernel_rfl) (fun _ _ _ h => h) (Or.inl ⟨by rfl, ?_⟩) (by first | exact hS0 | assumption) ?_
      rotate_left
      · intro U hU
        go_simp
        all_goals with_reducible rfl
      simp only [Act.put, List.setIfInBounds_toArray, List.set_cons_zero, List.set_cons_succ]
      refine wpAnyZ_take (i := 2) (oi := { dst := some 17, op := _, type := _, pos := _, after := _, guard := none }) (v := ?_) rfl (by kernel_rfl) (by kernel_rfl) (by kernel_rfl) (fun _ _ _ h => h) (Or.inl ⟨by rfl, ?_⟩) (by first | exact hS0 | assumption) ?_
      rotate_left
      · intro U hU
        go_simp
        all_goals with_reducible rfl
      simp only [Act.put, List.setIfInBounds_toArray, List.set_cons_zero, List.set_cons_succ]
      refine wpAnyZ_take (i := 3) (oi := { dst := some 18, op := _, type := _, pos := _, after := _, guard := none }) (v := ?_) rfl (by kernel_rfl) (by kernel_rfl) (by kernel_rfl) (fun _ _ _ h => h) (Or.inl ⟨by rfl, ?_⟩) (by first | exact hS0 | assumption) ?_
      rotate_left
      · intro U hU
        have u4 := (hU.cell (p := ⟨p4, 0, none⟩) ql).trans q4
        go_simp
        all_goals with_reducible rfl
      simp only [Act.put, List.setIfInBounds_toArray, List.set_cons_zero, List.set_cons_succ]
      refine wpAnyZ_take (i := 4) (oi := { dst := some 19, op := _, type := _, pos := _, after := _, guard := none }) (v := ?_) rfl (by kernel_rfl) (by kernel_rfl) (by kernel_rfl) (fun _ _ _ h => h) (Or.inl ⟨by rfl, ?_⟩) (by first | exact hS0 | assumption) ?_
      rotate_left
      · intro U hU
        go_simp
        all_goals with_reducible rfl
      simp only [Act.put, List.setIfInBounds_toArray, List.set_cons_zero, List.set_cons_succ]
      refine wpAnyZ_take (i := 5) (oi := { dst := some 20, op := _, type := _, pos := _, after := _, guard := none }) (v := ?_) rfl (by kernel_rfl) (by kernel_rfl) (by kernel_rfl) (fun _ _ _ h => h) (Or.inl ⟨by rfl, ?_⟩) (by first | exact hS0 | assumption) ?_
      rotate_left
      · intro U hU
        go_simp
        all_goals with_reducible rfl
      simp only [Act.put, List.setIfInBounds_toArray, List.set_cons_zero, List.set_cons_succ]
      refine wpAnyZ_take (i := 6) (oi := { dst := some 21, op := _, type := _, pos := _, after := _, guard := none }) (v := ?_) rfl (by kernel_rfl) (by kernel_rfl) (by kernel_rfl) (fun _ _ _ h => h) (Or.inl ⟨by rfl, ?_⟩) (by first | exact hS0 | assumption) ?_
      rotate_left
      · intro U hU
        have u5 := (hU.cell (p := ⟨b, 0, none⟩) qy).trans qw
        go_simp
        all_goals with_reducible rfl
      simp only [Act.put, List.setIfInBounds_toArray, List.set_cons_zero, List.set_cons_succ]
      refine wpAnyZ_take (i := 7) (oi := { dst := some 22, op := _, type := _, pos := _, after := _, guard := none }) (v := ?_) rfl (by kernel_rfl) (by kernel_rfl) (by kernel_rfl) (fun _ _ _ h => h) (Or.inl ⟨by rfl, ?_⟩) (by first | exact hS0 | assumption) ?_
      rotate_left
      · intro U hU
        have u6 := slice113 U b 1 m hn30
        go_simp
        all_goals with_reducible rfl
      simp only [Act.put, List.setIfInBounds_toArray, List.set_cons_zero, List.set_cons_succ]
      refine wpAnyZ_ready (rs := [8, 10]) (by kernel_rfl) (by simp) ?_
      refine AllReadyZ.cons (o := { dst := some 23, op := _, type := _, pos := _, after := _, guard := none }) rfl (by rfl) (fun K1 hK1 => ?_) ?_
      · have HK1 := Lib.hid hK1; clear hK1
        refine oper_call (f := 60) (xs := #[.tmp 22]) (ts := _) rfl (enters_of Try.func60 (by kernel_rfl) rfl) rfl (H60.out _ hBwq) ?_
        intro wv1 hbwv1
        have hBwv1 := btr hBwq hbwv1 (Nat.le_refl _)
        refine HK1.out _ _ (fun _ => hBwv1) ?_
        clear HK1 K1
        try simp only [Act.put, List.setIfInBounds_toArray, List.set_cons_zero, List.set_cons_succ]
        refine wpAnyZ_ready (rs := [9, 10]) (by kernel_rfl) (by simp) ?_
        refine AllReadyZ.cons (o := { dst := some 24, op := _, type := _, pos := _, after := _, guard := none }) rfl (by rfl) (fun K1 hK1 => ?_) ?_
        · have HK1 := Lib.hid hK1; clear hK1
          refine oper_call (f := 59) (xs := #[.tmp 23]) (ts := _) rfl (enters_of Try.func59 (by kernel_rfl) rfl) rfl (whole_any T _) ?_
          intro wv2 hbwv2
          have hBwv2 := btr hBwv1 hbwv2 (Nat.le_refl _)
          refine HK1.out _ _ (fun _ => hBwv2) ?_
          clear HK1 K1
          try simp only [Act.put, List.setIfInBounds_toArray, List.set_cons_zero, List.set_cons_succ]
          refine wpAnyZ_one (i := 10) (o := { dst := some 6, op := _, type := _, pos := _, after := _, guard := none }) (by kernel_rfl) rfl (by rfl) (fun K1 hK1 => ?_)
          have HK1 := Lib.hid hK1; clear hK1
          go_simp
          refine HK1.out _ _ (fun _ => hBwv2.alloc hBwv2.size _) ?_
          clear HK1 K1
          try simp only [Act.put, List.setIfInBounds_toArray, List.set_cons_zero, List.set_cons_succ]
          obtain ⟨wv3, ewv3⟩ : ∃ v, v = wv2.alloc (.cells #[.int .i64 0, .int .i64 0] 93) := ⟨_, rfl⟩
          rw [← ewv3]
          obtain ⟨hpwv3, hcwv3, -⟩ := blk1 ewv3.symm
          have hBwv3 := btr hBwv2 hcwv3 (Nat.le_refl _)
          have hqwv3 : w3.heap.size ≤ wv2.heap.size := hBwv2.size
          clear ewv3 hcwv3
          refine wpAnyZ_last (o := { dst := none, op := _, type := _, pos := _, after := _, guard := none }) (by kernel_rfl) (by kernel_rfl) rfl (by rfl) (fun K1 hK1 => ?_)
          have HK1 := Lib.hid hK1; clear hK1
          refine oper_store_blk 93 (.tmp 6) (.tmp 24) rfl _ rfl rfl hpwv3 size93 rfl rfl (oneFr _) ?_
          refine HK1.out _ _ ?_
          clear HK1 K1
          try simp only [Act.put]
          exact TAIL.out (wv2.heap.size) _ (World.putObj_heap_same (lt_blk hpwv3)) (below_putObj hBwv3 (by first | exact Nat.le_refl _ | omega | (simp only [← hs0] at *; omega)))
        refine AllReadyZ.cons (o := { dst := some 6, op := _, type := _, pos := _, after := _, guard := none }) rfl (by rfl) (fun K1 hK1 => ?_) ?_
        · have HK1 := Lib.hid hK1; clear hK1
          go_simp
          refine HK1.out _ _ (fun _ => hBwv1.alloc hBwv1.size _) ?_
          clear HK1 K1
          try simp only [Act.put, List.setIfInBounds_toArray, List.set_cons_zero, List.set_cons_succ]
          obtain ⟨wv4, ewv4⟩ : ∃ v, v = wv1.alloc (.cells #[.int .i64 0, .int .i64 0] 93) := ⟨_, rfl⟩
          rw [← ewv4]
          obtain ⟨hpwv4, hcwv4, -⟩ := blk1 ewv4.symm
          have hBwv4 := btr hBwv1 hcwv4 (Nat.le_refl _)
          have hqwv4 : w3.heap.size ≤ wv1.heap.size := hBwv1.size
          clear ewv4 hcwv4
          refine wpAnyZ_one (i := 9) (o := { dst := some 24, op := _, type := _, pos := _, after := _, guard := none }) (by kernel_rfl) rfl (by rfl) (fun K1 hK1 => ?_)
          have HK1 := Lib.hid hK1; clear hK1
          refine oper_call (f := 59) (xs := #[.tmp 23]) (ts := _) rfl (enters_of Try.func59 (by kernel_rfl) rfl) rfl (whole_any T _) ?_
          intro wv5 hbwv5
          have hBwv5 := btr hBwv4 hbwv5 (Nat.le_refl _)
          refine HK1.out _ _ (fun _ => hBwv5) ?_
          clear HK1 K1
          try simp only [Act.put, List.setIfInBounds_toArray, List.set_cons_zero, List.set_cons_succ]
          have hpwv5 := blk_keep hpwv4 hbwv5
          refine wpAnyZ_last (o := { dst := none, op := _, type := _, pos := _, after := _, guard := none }) (by kernel_rfl) (by kernel_rfl) rfl (by rfl) (fun K1 hK1 => ?_)
          have HK1 := Lib.hid hK1; clear hK1
          refine oper_store_blk 93 (.tmp 6) (.tmp 24) rfl _ rfl rfl hpwv5 size93 rfl rfl (oneFr _) ?_
          refine HK1.out _ _ ?_
          clear HK1 K1
          try simp only [Act.put]
          exact TAIL.out (wv1.heap.size) _ (World.putObj_heap_same (lt_blk hpwv5)) (below_putObj hBwv5 (by first | exact Nat.le_refl _ | omega | (simp only [← hs0] at *; omega)))
        exact AllReadyZ.nil
      refine AllReadyZ.cons (o := { dst := some 6, op := _, type := _, pos := _, after := _, guard := none }) rfl (by rfl) (fun K1 hK1 => ?_) ?_
      · have HK1 := Lib.hid hK1; clear hK1
        go_simp
        refine HK1.out _ _ (fun _ => hBwq.alloc hBwq.size _) ?_
        clear HK1 K1
        try simp only [Act.put, List.setIfInBounds_toArray, List.set_cons_zero, List.set_cons_succ]
        obtain ⟨wv6, ewv6⟩ : ∃ v, v = wq.alloc (.cells #[.int .i64 0, .int .i64 0] 93) := ⟨_, rfl⟩
        rw [← ewv6]
        obtain ⟨hpwv6, hcwv6, -⟩ := blk1 ewv6.symm
        have hBwv6 := btr hBwq hcwv6 (Nat.le_refl _)
        have hqwv6 : w3.heap.size ≤ wq.heap.size := hBwq.size
        clear ewv6 hcwv6
        refine wpAnyZ_one (i := 8) (o := { dst := some 23, op := _, type := _, pos := _, after := _, guard := none }) (by kernel_rfl) rfl (by rfl) (fun K1 hK1 => ?_)
        have HK1 := Lib.hid hK1; clear hK1
        refine oper_call (f := 60) (xs := #[.tmp 22]) (ts := _) rfl (enters_of Try.func60 (by kernel_rfl) rfl) rfl (H60.out _ hBwv6) ?_
        intro wv7 hbwv7
        have hBwv7 := btr hBwv6 hbwv7 (Nat.le_refl _)
        refine HK1.out _ _ (fun _ => hBwv7) ?_
        clear HK1 K1
        try simp only [Act.put, List.setIfInBounds_toArray, List.set_cons_zero, List.set_cons_succ]
        have hpwv7 := blk_keep hpwv6 hbwv7
        refine wpAnyZ_one (i := 9) (o := { dst := some 24, op := _, type := _, pos := _, after := _, guard := none }) (by kernel_rfl) rfl (by rfl) (fun K1 hK1 => ?_)
        have HK1 := Lib.hid hK1; clear hK1
        refine oper_call (f := 59) (xs := #[.tmp 23]) (ts := _) rfl (enters_of Try.func59 (by kernel_rfl) rfl) rfl (whole_any T _) ?_
        intro wv8 hbwv8
        have hBwv8 := btr hBwv7 hbwv8 (Nat.le_refl _)
        refine HK1.out _ _ (fun _ => hBwv8) ?_
        clear HK1 K1
        try simp only [Act.put, List.setIfInBounds_toArray, List.set_cons_zero, List.set_cons_succ]
        have hpwv8 := blk_keep hpwv7 hbwv8
        refine wpAnyZ_last (o := { dst := none, op := _, type := _, pos := _, after := _, guard := none }) (by kernel_rfl) (by kernel_rfl) rfl (by rfl) (fun K1 hK1 => ?_)
        have HK1 := Lib.hid hK1; clear hK1
        refine oper_store_blk 93 (.tmp 6) (.tmp 24) rfl _ rfl rfl hpwv8 size93 rfl rfl (oneFr _) ?_
        refine HK1.out _ _ ?_
        clear HK1 K1
        try simp only [Act.put]
        exact TAIL.out (wq.heap.size) _ (World.putObj_heap_same (lt_blk hpwv8)) (below_putObj hBwv8 (by first | exact Nat.le_refl _ | omega | (simp only [← hs0] at *; omega)))
      exact AllReadyZ.nil
  · have hne : (E != 0) = true := by simpa using h0
    have h40 := possible_err (HV.out.below hB (Nat.le_refl _)) (by rw [← hE]; exact h0)
    rw [← hE] at h40
    have H40 := Lib.hid h40
    clear h40 hE
    have hkl : peaksL n lo hi ss = [] := by unfold peaksL; rw [if_neg (by rw [← HE.out]; exact h0)]
    have HKL := Lib.hid hkl
    clear hkl h0
    go_wp2_with (first | (refine wpList_load_blk rfl 26 _ rfl _ rfl b1 Try.underlying26 rfl size26 rfl ?_) | (go_at_call 40; refine H40.out.mono ?_; rintro e w2 ⟨rfl, hb2⟩; have hal := fun o => (Below.refl w2.heap.size w2).alloc (Nat.le_refl _) o))
    go_ret2
    exact ⟨_, by rw [HE.out]; rfl, by rw [HKL.out]; exact slI_nil _, btr (btr hB hb2 (Nat.le_refl _)) (hal _) (Nat.le_refl _)⟩
end Ytgnjeefanbcbkaa
end Go.Proofs
