/- The laws without a reference: how many trains are in a section, how many moves are left. -/
import Derived.Test.YteijenefhoconaaRefD
import Derived.Test.YteijenefhoconaaRefS
open Go Go.RowKit Go.YteijenefhoconaaIt
namespace Go.Proofs
namespace Yteijenefhoconaa
set_option maxRecDepth 100000 in
set_option maxHeartbeats 1000000 in
theorem count34_any (vt : Value) (ts : List Tn) (s : Int) (w : World) (ht : SlT w vt ts) :
    Calls Try.prog 34 #[vt, .int .i64 s] w fun e w' => e = .returned (.int .i64 (inT ts s)) ∧ Below w.heap.size w w' := by
  obtain ⟨ad, cap, rfl, hm, hc⟩ := ht
  obtain ⟨n, hn⟩ : ∃ n, n = ts.length := ⟨_, rfl⟩
  rw [← hn] at hm hc ⊢
  have HN := Lib.hid hn
  clear hn
  go_enter Try.func34, Try.ntmps34
  go_wp2
  go_loopw [5, 10] (fun c i wr => ∃ k : Nat, k ≤ n ∧ i = .int .i64 k ∧ c = .int .i64 (inN ts s k) ∧ Below w.heap.size w wr) (fun _ i _ => n - (intOf i).toNat)
  case atStart => exact ⟨0, Nat.zero_le _, rfl, rfl, Below.refl _ _⟩
  case round =>
    obtain ⟨k, hk, rfl, rfl, hb⟩ := hrel
    have hle := inN_le ts s k
    have hsu := inN_succ ts s k
    by_cases hkn : k < n
    · obtain ⟨b, off, rfl, hlt, hcell⟩ := hc (by omega)
      have h1 := (hb.cell (p := ⟨b, off + k * 2, none⟩) hlt).trans (hcell k hkn).1
      have h2 := (hb.cell (p := ⟨b, off + k * 2 + 1, none⟩) hlt).trans (hcell k hkn).2
      unfold isIn at hsu
      generalize tAt ts k = a at *
      generalize tTo ts k = t at *
      have HS := Lib.hid hsu
      clear hsu hcell hc
      by_cases hs : a = s
      · by_cases hq : t = s
        · have e1 : (a == s) = true := by simp [hs]
          have e2 : (t != s) = false := by simp [hq]
          have e3 : (a != t) = false := by simp [hs, hq]
          have HE := Lib.hid (And.intro e1 e3)
          clear hs hq e3
          go_wp2
          go_roundw
          case rel => exact ⟨k + 1, by omega, by go_num, by rw [HS.out, HE.out.1, HE.out.2]; go_num, hb.alloc hb.size _⟩
          case measure => simp [intOf]; omega
        · have e1 : (a == s) = true := by simp [hs]
          have e2 : (t != s) = true := bne_iff_ne.2 hq
          have e3 : (a != t) = true := bne_iff_ne.2 (by rw [hs]; exact Ne.symm hq)
          have HE := Lib.hid (And.intro e1 e3)
          clear hs hq e3
          go_wp2
          go_roundw
          case rel => exact ⟨k + 1, by omega, by go_num, by rw [HS.out, HE.out.1, HE.out.2]; go_num, hb.alloc hb.size _⟩
          case measure => simp [intOf]; omega
      · have e1 : (a == s) = false := by simpa using hs
        have HE := Lib.hid e1
        clear hs
        go_wp2
        go_roundw
        case rel => exact ⟨k + 1, by omega, by go_num, by rw [HS.out, HE.out]; go_num, hb.alloc hb.size _⟩
        case measure => simp [intOf]; omega
    · have hkn2 : k = n := by omega
      clear hkn hk
      subst hkn2
      have hi : inN ts s k = inT ts s := by unfold inT; rw [← HN.out]; rfl
      have HI := Lib.hid hi
      clear hi hsu
      go_wp2
      go_ret
      exact ⟨by rw [HI.out]; rfl, hb⟩
/-- Moves that are left to the first k trains. -/
def leftN (ts : List Tn) (k : Nat) : Int := ((List.range k).map (fun i => max (tAt ts i - tTo ts i) (tTo ts i - tAt ts i))).sum
theorem leftN_succ (ts : List Tn) (k : Nat) : leftN ts (k + 1) = leftN ts k + max (tAt ts k - tTo ts k) (tTo ts k - tAt ts k) := by
  unfold leftN; rw [List.range_succ, List.map_append, List.sum_append]; simp
theorem leftN_le {ts : List Tn} {n : Nat} (hb : ∀ i, i < n → (0 ≤ tAt ts i ∧ tAt ts i ≤ 1000) ∧ (0 ≤ tTo ts i ∧ tTo ts i ≤ 1000)) : ∀ k, k ≤ n → 0 ≤ leftN ts k ∧ leftN ts k ≤ 1000 * k
  | 0, _ => by simp [leftN]
  | k + 1, h => by
    have ih := leftN_le hb k (by omega)
    have h1 := hb k (by omega)
    rw [leftN_succ]
    push_cast
    omega
theorem left32_any (vt : Value) (ts : List Tn) (w : World) (ht : SlT w vt ts) (h20 : ts.length ≤ 20) (hbd : ∀ i, i < ts.length → (0 ≤ tAt ts i ∧ tAt ts i ≤ 1000) ∧ (0 ≤ tTo ts i ∧ tTo ts i ≤ 1000)) :
    Calls Try.prog 32 #[vt] w fun e w' => e = .returned (.int .i64 (leftN ts ts.length)) ∧ Below w.heap.size w w' := by
  obtain ⟨ad, cap, rfl, hm, hc⟩ := ht
  have hln := leftN_le (n := ts.length) hbd
  obtain ⟨n, hn⟩ : ∃ n, n = ts.length := ⟨_, rfl⟩
  rw [← hn] at hm hc hln hbd h20 ⊢
  clear hn
  go_enter Try.func32, Try.ntmps32
  go_wp2
  go_loopw [3, 8] (fun c i wr => ∃ k : Nat, k ≤ n ∧ i = .int .i64 k ∧ c = .int .i64 (leftN ts k) ∧ Below w.heap.size w wr) (fun _ i _ => n - (intOf i).toNat)
  case atStart => exact ⟨0, Nat.zero_le _, rfl, rfl, Below.refl _ _⟩
  case round =>
    obtain ⟨k, hk, rfl, rfl, hb⟩ := hrel
    have hle := hln k hk
    have hsu := leftN_succ ts k
    by_cases hkn : k < n
    · obtain ⟨b, off, rfl, hlt, hcell⟩ := hc (by omega)
      have h1 := (hb.cell (p := ⟨b, off + k * 2, none⟩) hlt).trans (hcell k hkn).1
      have h2 := (hb.cell (p := ⟨b, off + k * 2 + 1, none⟩) hlt).trans (hcell k hkn).2
      have hq := hbd k hkn
      generalize tAt ts k = a at *
      generalize tTo ts k = t at *
      generalize leftN ts k = c at *
      have HS := Lib.hid hsu
      clear hsu hcell hc hbd hln
      go_wp2
      go_roundw
      case rel => exact ⟨k + 1, by omega, by go_num, by rw [HS.out]; congr 1; split <;> omega, hb.alloc hb.size _⟩
      case measure => simp [intOf]; omega
    · have hkn2 : k = n := by omega
      clear hkn hk
      subst hkn2
      clear hsu hln hbd hle hc
      obtain ⟨c, hc⟩ : ∃ c, c = leftN ts k := ⟨_, rfl⟩
      have HC := Lib.hid hc
      rw [← hc]
      clear hc
      go_wp2
      go_ret
      exact ⟨by rw [HC.out]; rfl, hb⟩
end Yteijenefhoconaa
end Go.Proofs
/- The laws without a reference: the state after a move. -/
open Go Go.RowKit Go.YteijenefhoconaaIt
namespace Go.Proofs
namespace Yteijenefhoconaa
set_option maxRecDepth 100000 in
set_option maxHeartbeats 2000000 in
theorem step33_any (vL vt : Value) (L : List Int) (ts : List Tn) (i : Nat) (w : World) (hL : SlI w vL L) (ht : SlT w vt ts) (hv : Vt L ts) (hi : i < ts.length) :
    Calls Try.prog 33 #[vL, vt, .int .i64 i] w fun e w' => Below w.heap.size w w' ∧ ((possT L ts i = false ∧ e = .returned (.tuple #[.slice none 0 0, .bool false])) ∨
      (possT L ts i = true ∧ ∃ v, e = .returned (.tuple #[v, .bool true]) ∧ SlT w' v (movT ts i))) := by
  have hL0 := hL
  have ht0 := ht
  obtain ⟨adL, capL, rfl, hmL, hcL⟩ := hL
  obtain ⟨ad, cap, rfl, hm, hc⟩ := ht
  obtain ⟨b, off, rfl, hlt, hcell⟩ := hc (by omega)
  have h1 := (hcell i hi).1
  have h2 := (hcell i hi).2
  have ha := hv.at_ i hi
  have hto := hv.to_ i hi
  have hl8 := hv.l8
  have ht5 := hv.t5
  have hin := fun (s : Int) (W : World) (hb : Below w.heap.size w W) => count34_any _ ts s W (ht0.below hb (Nat.le_refl _))
  have HIN := Lib.hid hin
  clear hin
  by_cases hq : tAt ts i = tTo ts i
  · have hp : possT L ts i = false := by unfold possT; simp [hq]
    have HP := Lib.hid hp
    have e1 : (tAt ts i == tTo ts i) = true := by simp [hq]
    clear hcL hc hcell hp HIN hL0 ht0
    generalize tAt ts i = a at *
    generalize tTo ts i = t at *
    clear hq
    go_enter Try.func33, Try.ntmps33
    go_wp2
    go_ret2
    exact ⟨(Below.refl _ _).alloc (Nat.le_refl _) _, .inl ⟨HP.out, rfl⟩⟩
  have hnx := hv.nxt hi hq
  have e1 : (tAt ts i == tTo ts i) = false := by simpa using hq
  obtain ⟨s, hs⟩ : ∃ s, s = nxtT ts i := ⟨_, rfl⟩
  have hsb : (0 : Int) ≤ s ∧ s < L.length := by rw [hs]; exact hnx
  have hd2 : (tTo ts i > tAt ts i → tAt ts i + 1 = s) ∧ (¬ tTo ts i > tAt ts i → tAt ts i - 1 = s) := by
    rw [hs]; unfold nxtT nextT; simp only; constructor <;> intro h
    · rw [if_pos h]
    · rw [if_neg h]
  obtain ⟨bl, ofl, rfl, hltL, hcellL⟩ := hcL (by omega)
  obtain ⟨k, rfl⟩ := Int.eq_ofNat_of_zero_le hsb.1
  have hkl : k < L.length := by omega
  have h5 := hcellL k hkl
  have hpe : possT L ts i = ((k : Int) == tTo ts i || decide ((inT ts k : Int) < at0 L k)) := by unfold possT; rw [← hs, Int.toNat_natCast, bne_iff_ne.2 hq, Bool.true_and]
  have HPE := Lib.hid hpe
  have hnews := flat_news ts hcell
  have HCN := Lib.hid hnews
  have hml : ts.length ≤ 5 := ht5
  have hmv : ∀ j, tAt (movT ts i) j = (if j = i then (k : Int) else tAt ts j) ∧ tTo (movT ts i) j = tTo ts j := fun j => by rw [hs]; exact movT_at hi
  have HMV := Lib.hid hmv
  have hcnt := fun (W : World) (hb : Below w.heap.size w W) => HIN.out (k : Int) W hb
  have HCNT := Lib.hid hcnt
  clear hcnt hpe hnews hmv hcL hcellL hL0 hs hnx HIN hc
  have HC := Lib.hid hcell
  clear hcell
  obtain ⟨i69, hi69, hz1, hz2, hz3⟩ := info_parts info69
  obtain ⟨t, hte⟩ : ∃ t, t = tTo ts i := ⟨_, rfl⟩
  obtain ⟨a, hae⟩ : ∃ a, a = tAt ts i := ⟨_, rfl⟩
  rw [← hte] at hq h2 hto e1 hd2
  rw [← hae] at hq h1 ha e1 hd2
  have HTE := Lib.hid (And.intro hte hae)
  clear hte hae
  by_cases hd : a < t
  all_goals
    first
    | have hk := hd2.1 hd
    | have hk := hd2.2 hd
    clear hd2
    go_enter Try.func33, Try.ntmps33
    refine wp_seq_k (fun K hK => ?_)
    have HK := Lib.hid hK; clear hK
    go_wp2
    refine HK.out _ _ ?_; clear HK K
    refine wp_seq_k (fun K hK => ?_)
    have HK := Lib.hid hK; clear hK
    go_wp2
    refine HK.out _ _ ?_; clear HK K
    refine wp_seq_k (fun K hK => ?_)
    have HK := Lib.hid hK; clear hK
    go_wp2
    refine HK.out _ _ ?_; clear HK K
    generalize hw1 : World.alloc _ _ = w1
    have b1 : w1.heap[w.heap.size]? = some (.cells #[.int .i64 k, .int .i64 t] 69 (0, 0)) := by rw [← hw1]; exact heap_newI rfl
    have hb1 : Below w.heap.size w w1 := by rw [← hw1]; exact (Below.refl _ _).alloc (Nat.le_refl _) _
    have hs1 : w.heap.size + 1 ≤ w1.heap.size := by rw [← hw1]; simp
    clear hw1 h1 h2 hd hk e1
    have c1 : w1.cell? ⟨w.heap.size, 0, none⟩ = some (.int .i64 k) := by rw [cell_blk b1]; rfl
    have c2 : w1.cell? ⟨w.heap.size, 1, none⟩ = some (.int .i64 t) := by rw [cell_blk b1]; rfl
    by_cases hkt : (k : Int) = t
    · have e2 : ((k : Int) != t) = false := by simp [hkt]
      have hp : possT L ts i = true := by rw [HPE.out, ← HTE.out.1, hkt]; simp
      have HP := Lib.hid hp
      clear hp
      refine wp_seq_k (fun K hK => ?_)
      have HK := Lib.hid hK; clear hK
      go_wp2
      go_quiet (fail)
      go_wp2
      refine HK.out _ _ ?_; clear HK K
      generalize hw6 : World.drewN _ _ = w6
      have hb6 : Below w1.heap.size w1 w6 := by rw [← hw6]; exact below_drewN (Below.refl _ _) _
      have hB6 : Below w.heap.size w w6 := hb1.trans (hb6.mono (by omega))
      clear hw6
      have hcn : ∀ j u, (flat ts)[j]? = some u → (w6.alloc (.cells #[] 69)).cell? ((⟨b, off, none⟩ : Addr).add j) = some u := fun j u hj => (World.cell?_of_block (w := w) (by rw [addr_block]; exact (((hB6.alloc hB6.size _).block b hlt)))).trans (HCN.out j u hj)
      have HCN3 := Lib.hid hcn
      clear hcn HCN
      have d1 := (hb6.cell (p := ⟨w.heap.size, 0, none⟩) (by simp; omega)).trans c1
      have d2 := (hb6.cell (p := ⟨w.heap.size, 1, none⟩) (by simp; omega)).trans c2
      clear c1 c2
      have hs6 := hb6.size
      refine wp_seq_k (fun K hK => ?_)
      have HK := Lib.hid hK; clear hK
      go_wp2_with (at_builtin; refine wpList_append_own _ rfl (.tmp 51) (.tmp 52) 24 rfl w6.heap.size 69 i69 (.agg #[.int .i64 0, .int .i64 0]) 2 16 Try.underlying24 hi69 hz1 hz2 hz3 rfl (by decide) _ _ _ rfl (World.ownsRow_made w6 #[] 0 (Nat.le_refl _) (by decide) rfl) ⟨b, off, none⟩ ts.length cap (flat ts) rfl (flat_len ts) HCN3.out (flat_one ts) (Nat.le_trans (by omega : 0 + ts.length ≤ 2000) (by decide)) (by omega) (by rw [World.size_alloc]; omega) ?_; intro v' w7 r1 r2 _)
      refine HK.out _ _ ?_; clear HK K
      have hown : w7.ownsRow w6.heap.size 69 2 v' ts.length (flat ts) := by simpa using r1
      have hb7 : Below w6.heap.size w6 w7 := by
        have hs : w6.heap.size + 1 ≤ w7.heap.size := by have := r2.size; simpa using this
        refine ⟨r2.os, r2.tape, r2.output, by omega, fun k hk => ?_⟩
        rw [r2.block k (by simp; omega) (fun h2 => by have h3 : some k = some w6.heap.size := h2; injection h3; omega)]
        exact heap_oldI hk
      obtain ⟨g, capg, rfl⟩ := Joins.ownsRow_form hown (by omega)
      have hgl := hown.lt g rfl
      obtain ⟨cur, hgc⟩ : ∃ cur, w7.heap[g]? = some (.cells cur 69 (0, 0)) := by
        rcases hown.2 with ⟨h, _⟩ | ⟨g2, cap2, cur, hv, _, hh, _⟩
        · cases h
        · injection hv with e1 _ _
          injection e1 with e1
          injection e1 with e1
          subst e1
          exact ⟨cur, hh⟩
      have hcells : ∀ j, j < ts.length → w7.cell? ⟨g, j * 2, none⟩ = some (.int .i64 (tAt ts j)) ∧ w7.cell? ⟨g, j * 2 + 1, none⟩ = some (.int .i64 (tTo ts j)) := fun j hj => by
        have f := flat_at ts j hj
        exact ⟨(hown.cellAt (j * 2) (by omega)).trans f.1, (hown.cellAt (j * 2 + 1) (by omega)).trans f.2⟩
      have HC7 := Lib.hid hcells
      have k1 := (hb7.cell (p := ⟨w.heap.size, 0, none⟩) (by simp; omega)).trans d1
      have k2 := (hb7.cell (p := ⟨w.heap.size, 1, none⟩) (by simp; omega)).trans d2
      have k3 := (HC7.out i hi).1
      have k4 := (HC7.out i hi).2
      have z3 := free_blk (i := i * 2) hgc
      have z4 := free_blk (i := i * 2 + 1) hgc
      have hB7 : Below w.heap.size w w7 := hB6.trans (hb7.mono hB6.size)
      have hs7 := hb7.size
      clear r1 r2 hown HCN3 hcells d1 d2 hb7
      go_wp2
      go_ret2
      refine ⟨(hB7.setCell (by simp; have := hB6.size; omega) _).setCell (by simp; have := hB6.size; omega) _, .inr ⟨HP.out, _, rfl, _, capg, by rw [movT_len]; rfl, by rw [movT_len]; exact hm, fun _ => ⟨g, 0, rfl, by simp; omega, fun j hj => ?_⟩⟩⟩
      rw [movT_len] at hj
      rw [Nat.zero_add, (HMV.out j).1, (HMV.out j).2]
      have d1 := (HC7.out j hj).1
      have d2 := (HC7.out j hj).2
      by_cases hji : j = i
      · subst hji
        have hto' := HTE.out.1
        refine ⟨?_, ?_⟩
        · rw [if_pos rfl, World.cell?_setCell_other _ _ _ _ (by intro h; injection h; omega)]
          first | exact World.cell?_setCell_same _ _ _ d1 | (rw [hkt]; exact World.cell?_setCell_same _ _ _ d1)
        · rw [← hto']
          exact World.cell?_setCell_same _ _ _ ((World.cell?_setCell_other _ _ _ _ (by intro h; injection h; omega)).trans d2)
      · rw [if_neg hji]
        refine ⟨?_, ?_⟩
        · rw [World.cell?_setCell_other _ _ _ _ (by intro h; injection h; omega), World.cell?_setCell_other _ _ _ _ (by intro h; injection h; omega)]; exact d1
        · rw [World.cell?_setCell_other _ _ _ _ (by intro h; injection h; omega), World.cell?_setCell_other _ _ _ _ (by intro h; injection h; omega)]; exact d2
    · have e2 : ((k : Int) != t) = true := bne_iff_ne.2 hkt
      have e3 : possT L ts i = decide ((inT ts k : Int) < at0 L k) := by rw [HPE.out, ← HTE.out.1, beq_eq_false_iff_ne.2 hkt, Bool.false_or]
      obtain ⟨m, hmm⟩ : ∃ m, m = inT ts k := ⟨_, rfl⟩
      generalize hrm : at0 L k = rm at *
      clear hrm
      have hcnt := fun (W : World) (hb : Below w.heap.size w W) => HCNT.out W hb
      rw [← hmm] at hcnt e3
      have HCN2 := Lib.hid hcnt
      have HE3 := Lib.hid e3
      clear hcnt HCNT hmm HPE e3
      refine wp_seq_k (fun K hK => ?_)
      have HK := Lib.hid hK; clear hK
      refine wp_seq_k (fun K2 hK2 => ?_)
      have HK2 := Lib.hid hK2; clear hK2
      refine wp_region_ab w1.heap.size w1 (by kernel_rfl) (by kernel_rfl) (Below.refl _ _) ?_
      unfold AbC
      have g1 := fun (x : Ab w1.heap.size w1) => (x.ok.cell (p := ⟨w.heap.size, 0, none⟩) (by simp; omega)).trans c1
      have g2 := fun (x : Ab w1.heap.size w1) => (x.ok.cell (p := ⟨w.heap.size, 1, none⟩) (by simp; omega)).trans c2
      have g5 := fun (x : Ab w1.heap.size w1) => ((hb1.trans (x.ok.mono (by omega))).cell (p := ⟨bl, ofl + k, none⟩) hltL).trans h5
      have hcnt := fun (x : Ab w1.heap.size w1) => HCN2.out x.val (hb1.trans (x.ok.mono (by omega)))
      repeat go_big_quiet_step (first | (go_at_call 34; exact Calls.ab _ (Nat.le_refl _) (hcnt _)))
      refine wpQuiet_nil ?_
      rintro W' ⟨x, rfl⟩
      have hB := x.ok
      generalize x.val = w6 at *
      clear hcnt g1 g2 g5
      have hb6 : Below w1.heap.size w1 w6 := hB
      have hB6 : Below w.heap.size w w6 := hb1.trans (hb6.mono (by omega))
      refine HK2.out _ _ ?_; clear HK2 K2
      by_cases hr : rm ≤ m
      · have hp : possT L ts i = false := by rw [HE3.out]; exact decide_eq_false (by omega)
        have HP := Lib.hid hp
        clear hp HK
        go_wp2
        go_ret2
        exact ⟨hB6, .inl ⟨HP.out, rfl⟩⟩
      · have hp : possT L ts i = true := by rw [HE3.out]; exact decide_eq_true (by omega)
        have HP := Lib.hid hp
        clear hp
        go_wp2
        refine HK.out _ _ ?_; clear HK K
        have hcn : ∀ j u, (flat ts)[j]? = some u → (w6.alloc (.cells #[] 69)).cell? ((⟨b, off, none⟩ : Addr).add j) = some u := fun j u hj => (World.cell?_of_block (w := w) (by rw [addr_block]; exact (((hB6.alloc hB6.size _).block b hlt)))).trans (HCN.out j u hj)
        have HCN3 := Lib.hid hcn
        clear hcn HCN
        have d1 := (hb6.cell (p := ⟨w.heap.size, 0, none⟩) (by simp; omega)).trans c1
        have d2 := (hb6.cell (p := ⟨w.heap.size, 1, none⟩) (by simp; omega)).trans c2
        clear c1 c2
        have hs6 := hb6.size
        refine wp_seq_k (fun K hK => ?_)
        have HK := Lib.hid hK; clear hK
        go_wp2_with (at_builtin; refine wpList_append_own _ rfl (.tmp 51) (.tmp 52) 24 rfl w6.heap.size 69 i69 (.agg #[.int .i64 0, .int .i64 0]) 2 16 Try.underlying24 hi69 hz1 hz2 hz3 rfl (by decide) _ _ _ rfl (World.ownsRow_made w6 #[] 0 (Nat.le_refl _) (by decide) rfl) ⟨b, off, none⟩ ts.length cap (flat ts) rfl (flat_len ts) HCN3.out (flat_one ts) (Nat.le_trans (by omega : 0 + ts.length ≤ 2000) (by decide)) (by omega) (by rw [World.size_alloc]; omega) ?_; intro v' w7 r1 r2 _)
        refine HK.out _ _ ?_; clear HK K
        have hown : w7.ownsRow w6.heap.size 69 2 v' ts.length (flat ts) := by simpa using r1
        have hb7 : Below w6.heap.size w6 w7 := by
          have hs : w6.heap.size + 1 ≤ w7.heap.size := by have := r2.size; simpa using this
          refine ⟨r2.os, r2.tape, r2.output, by omega, fun k hk => ?_⟩
          rw [r2.block k (by simp; omega) (fun h2 => by have h3 : some k = some w6.heap.size := h2; injection h3; omega)]
          exact heap_oldI hk
        obtain ⟨g, capg, rfl⟩ := Joins.ownsRow_form hown (by omega)
        have hgl := hown.lt g rfl
        obtain ⟨cur, hgc⟩ : ∃ cur, w7.heap[g]? = some (.cells cur 69 (0, 0)) := by
          rcases hown.2 with ⟨h, _⟩ | ⟨g2, cap2, cur, hv, _, hh, _⟩
          · cases h
          · injection hv with e1 _ _
            injection e1 with e1
            injection e1 with e1
            subst e1
            exact ⟨cur, hh⟩
        have hcells : ∀ j, j < ts.length → w7.cell? ⟨g, j * 2, none⟩ = some (.int .i64 (tAt ts j)) ∧ w7.cell? ⟨g, j * 2 + 1, none⟩ = some (.int .i64 (tTo ts j)) := fun j hj => by
          have f := flat_at ts j hj
          exact ⟨(hown.cellAt (j * 2) (by omega)).trans f.1, (hown.cellAt (j * 2 + 1) (by omega)).trans f.2⟩
        have HC7 := Lib.hid hcells
        have k1 := (hb7.cell (p := ⟨w.heap.size, 0, none⟩) (by simp; omega)).trans d1
        have k2 := (hb7.cell (p := ⟨w.heap.size, 1, none⟩) (by simp; omega)).trans d2
        have k3 := (HC7.out i hi).1
        have k4 := (HC7.out i hi).2
        have z3 := free_blk (i := i * 2) hgc
        have z4 := free_blk (i := i * 2 + 1) hgc
        have hB7 : Below w.heap.size w w7 := hB6.trans (hb7.mono hB6.size)
        have hs7 := hb7.size
        clear r1 r2 hown HCN3 hcells d1 d2 hb7
        go_wp2
        go_ret2
        refine ⟨(hB7.setCell (by simp; have := hB6.size; omega) _).setCell (by simp; have := hB6.size; omega) _, .inr ⟨HP.out, _, rfl, _, capg, by rw [movT_len]; rfl, by rw [movT_len]; exact hm, fun _ => ⟨g, 0, rfl, by simp; omega, fun j hj => ?_⟩⟩⟩
        rw [movT_len] at hj
        rw [Nat.zero_add, (HMV.out j).1, (HMV.out j).2]
        have d1 := (HC7.out j hj).1
        have d2 := (HC7.out j hj).2
        by_cases hji : j = i
        · subst hji
          have hto' := HTE.out.1
          refine ⟨?_, ?_⟩
          · rw [if_pos rfl, World.cell?_setCell_other _ _ _ _ (by intro h; injection h; omega)]
            first | exact World.cell?_setCell_same _ _ _ d1 | (rw [hkt]; exact World.cell?_setCell_same _ _ _ d1)
          · rw [← hto']
            exact World.cell?_setCell_same _ _ _ ((World.cell?_setCell_other _ _ _ _ (by intro h; injection h; omega)).trans d2)
        · rw [if_neg hji]
          refine ⟨?_, ?_⟩
          · rw [World.cell?_setCell_other _ _ _ _ (by intro h; injection h; omega), World.cell?_setCell_other _ _ _ _ (by intro h; injection h; omega)]; exact d1
          · rw [World.cell?_setCell_other _ _ _ _ (by intro h; injection h; omega), World.cell?_setCell_other _ _ _ _ (by intro h; injection h; omega)]; exact d2
end Yteijenefhoconaa
end Go.Proofs
