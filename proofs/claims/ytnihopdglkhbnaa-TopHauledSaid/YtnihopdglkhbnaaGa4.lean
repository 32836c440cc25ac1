/- Gangs: the steps of all fields. -/
import Derived.Test.YtnihopdglkhbnaaGa3
open Go Go.RowKit Go.YtnihopdglkhbnaaIt Go.Shelf Go.Lib Go.Sort
namespace Go.Proofs
namespace Ytnihopdglkhbnaa
def mkG (g f : Int) : Gs := if h : (0 ≤ g ∧ g ≤ 1000000) ∧ (0 ≤ f ∧ f ≤ 12) then ⟨g, f, h.1, h.2⟩ else default
theorem mkG_enc {g f : Int} (hg : 0 ≤ g ∧ g ≤ 1000000) (hf : 0 ≤ f ∧ f ≤ 12) : encG (mkG g f) = [.int .i64 g, .int .i64 f] := by
  unfold mkG; rw [dif_pos ⟨hg, hf⟩]; rfl
theorem mkG_g {g f : Int} (hg : 0 ≤ g ∧ g ≤ 1000000) (hf : 0 ≤ f ∧ f ≤ 12) : (mkG g f).g = g ∧ (mkG g f).f = f := by
  unfold mkG; rw [dif_pos ⟨hg, hf⟩]; exact ⟨rfl, rfl⟩
/-- The steps of field i, and of the first k fields. -/
def rowG (fs : List (List Int)) (i : Nat) : List Gs := (tabR fs i).map fun x => mkG x i
def allN (fs : List (List Int)) (k : Nat) : List Gs := (List.range k).flatMap (rowG fs)
theorem allN_succ (fs : List (List Int)) (k : Nat) : allN fs (k + 1) = allN fs k ++ rowG fs k := by unfold allN; rw [List.range_succ, List.flatMap_append]; simp
theorem rowG_take {fs : List (List Int)} {i j : Nat} (h : j < (tabR fs i).length) : (rowG fs i).take (j + 1) = (rowG fs i).take j ++ [mkG (at0 (tabR fs i) j) i] := by
  have hl : j < (rowG fs i).length := by unfold rowG; rw [List.length_map]; exact h
  rw [List.take_succ_eq_append_getElem hl]
  congr 1
  simp [rowG, at0_lt h]
theorem info67 : (Try.prog.info? 67).map (fun i => (i.zero, i.size, i.bytes)) = some (some (.agg #[.int .i64 0, .int .i64 0]), 2, 16) := by kernel_rfl
theorem none37 (p : Option Addr) (cap : Nat) (fv : Value) (w : World) : Calls Try.prog 37 #[.slice p 0 cap, fv] w fun e w' => e = .returned (.tuple #[]) ∧ w' = w := by
  have h48 : Calls Try.prog 48 #[.slice p 0 cap, .int .i64 0, .int .i64 0, fv] w fun e w' => e = .returned (.tuple #[]) ∧ w' = w := by
    go_enter Try.func48, Try.ntmps48
    go_wp2
    refine wp_loop_rounds 1 ?_
    rw [rounds_succ]
    go_wp2
    go_end0
    exact ⟨rfl, rfl⟩
  have h45 : Calls Try.prog 45 #[.slice p 0 cap, .int .i64 0, fv] w fun e w' => e = .returned (.tuple #[]) ∧ w' = w := by
    go_enter Try.func45, Try.ntmps45
    go_wp2
    refine wp_loop_rounds 1 ?_
    rw [rounds_succ]
    go_wp2_with (go_at_call 48; refine h48.mono ?_; rintro e w2 ⟨rfl, rfl⟩)
    refine wp_loop_rounds 1 ?_
    rw [rounds_succ]
    go_wp2
    go_end0
    exact ⟨rfl, rfl⟩
  clear h48
  go_enter Try.func37, Try.ntmps37
  go_wp2_with (go_at_call 45; refine h45.mono ?_; rintro e w2 ⟨rfl, rfl⟩)
  go_end0
  exact ⟨rfl, rfl⟩
theorem values_any (v : Value) (w : World) (hv : ∃ a n c, v = .slice a n c) : Calls Try.prog 40 #[v] w fun e w' => e = .returned (.func (.func 46) #[] #[.pointer (some ⟨w.heap.size, 0, none⟩)]) ∧ w' = w.alloc (.cells #[v] 84) := by
  obtain ⟨a, n, c, rfl⟩ := hv
  go_enter Try.func40, Try.ntmps40
  go_wp2
  go_ret
  exact ⟨rfl, rfl⟩
set_option maxRecDepth 100000 in
set_option maxHeartbeats 8000000 in
theorem steps_any (v : Value) (fs : List (List Int)) (w : World) (ok : FOk fs) (h12 : (allN fs fs.length).length ≤ 12) (hv : SlII w v fs) :
    Calls Try.prog 21 #[v, .func (.func 22) #[] #[]] w fun e w' => ∃ (ys : List Gs) (bs : Nat) (vs : Value), e = .returned (.func (.func 46) #[] #[.pointer (some ⟨bs, 0, none⟩)]) ∧ ys.Perm (allN fs fs.length) ∧ (ys.Pairwise fun x y => ltOf cfG y x = false) ∧
      w'.heap[bs]? = some (.cells #[vs] 84 (0, 0)) ∧ SlG encG 2 w' vs ys ∧ (∀ a m c, vs = .slice (some a) m c → w.heap.size ≤ a.block ∨ m = 0) ∧ w.heap.size ≤ bs ∧ RowKit.Below w.heap.size w w' := by
  obtain ⟨ad, cap, rfl, hm, hcp, hc⟩ := hv.opened
  have HC := Lib.hid hc
  have hn := ok.n
  have HOK := Lib.hid ok
  clear hc hv ok
  obtain ⟨n, hn0⟩ : ∃ n, n = fs.length := ⟨_, rfl⟩
  rw [← hn0] at hm hcp hn h12 ⊢
  have HN := Lib.hid hn0
  have H12 := Lib.hid h12
  clear hn0 h12
  obtain ⟨i67, hi67, hz1, hz2, hz3⟩ := info_parts info67
  have HI := Lib.hid (And.intro hi67 (And.intro hz1 (And.intro hz2 hz3)))
  clear hi67 hz1 hz2 hz3
  have hlen : ∀ k, k ≤ n → (allN fs k).length ≤ 12 := fun k hk => by
    have : (allN fs k).length ≤ (allN fs n).length := by
      have e : n = k + (n - k) := by omega
      rw [e]; unfold allN; rw [List.range_add, List.flatMap_append, List.length_append]; omega
    exact Nat.le_trans this H12.out
  have HLEN := Lib.hid hlen
  clear hlen
  go_enter Try.func21, Try.ntmps21
  refine wp_seq_k (fun K hK => ?_)
  have HK := Lib.hid hK; clear hK
  go_wp2
  refine HK.out _ _ ?_; clear HK K
  generalize hw1 : World.alloc _ _ = w1
  obtain ⟨b1, hB, hs1⟩ := blk1 hw1
  clear hw1
  go_wp2
  go_loopw [5, 12] (fun q i wr => ∃ k : Nat, k ≤ n ∧ i = .int .i64 k ∧ wr.ownsRow w1.heap.size 67 2 q (allN fs k).length ((allN fs k).flatMap encG) ∧ RowKit.Below w1.heap.size w1 wr) (fun _ i _ => n - (intOf i).toNat)
  case atStart => exact ⟨0, Nat.zero_le _, rfl, World.ownsRow_nil _ _ _ _, Below.refl _ _⟩
  case round =>
    obtain ⟨k, hk, rfl, hrow, hb⟩ := hrel
    by_cases hkn : k < n
    · have hkl : k < fs.length := by rw [← HN.out]; exact hkn
      obtain ⟨b, off, ad2, cap2, rfl, hlt, hcell, hrw⟩ := HC.out k hkl
      have hlt1 : b < w1.heap.size := by omega
      have c1 := ((hB.trans (hb.mono hB.size)).cell (p := ⟨b, off + k, none⟩) hlt).trans hcell
      have HG := Lib.hid (HOK.out.good k hkl)
      obtain ⟨L, hL⟩ : ∃ L, L = (tabR fs k).length := ⟨_, rfl⟩
      have hL10 := HOK.out.row k hkl
      rw [← hL] at hcell c1 hL10
      have HL := Lib.hid (And.intro hL hrw)
      have hsum : (allN fs k).length + L ≤ 12 := by
        have := HLEN.out (k + 1) hkn
        rw [allN_succ, List.length_append] at this
        unfold rowG at this
        rw [List.length_map, ← hL] at this; exact this
      clear hL hrw hcell
      obtain ⟨aq, cq, rfl⟩ := form_of hrow
      go_wp2
      go_loopw [5, 19] (fun q i wr => ∃ j : Nat, j ≤ L ∧ i = .int .i64 j ∧ wr.ownsRow w1.heap.size 67 2 q ((allN fs k).length + j) ((allN fs k ++ (rowG fs k).take j).flatMap encG) ∧ RowKit.Below w1.heap.size w1 wr) (fun _ i _ => L - (intOf i).toNat)
      case atStart => exact ⟨0, Nat.zero_le _, rfl, by simpa using hrow, hb⟩
      case round =>
        clear hb c1 hrow
        obtain ⟨j, hj, rfl, hrow, hb⟩ := hrel
        by_cases hjL : j < L
        · have hjl : j < (tabR fs k).length := by rw [← HL.out.1]; exact hjL
          have hrw := HL.out.2
          rw [← HL.out.1] at hrw
          obtain ⟨b2, off2, rfl, hlt2, hcells⟩ := slI_at hrw hjl
          have hg := HG.out j hjl
          have c2 := ((hB.trans (hb.mono hB.size)).cell (p := ⟨b2, off2 + j, none⟩) hlt2).trans (hcells j hjl)
          have htk : (allN fs k ++ (rowG fs k).take (j + 1)).flatMap encG = (allN fs k ++ (rowG fs k).take j).flatMap encG ++ [.int .i64 (at0 (tabR fs k) j), .int .i64 k] := by
            rw [rowG_take hjl, ← List.append_assoc, List.flatMap_append (xs := allN fs k ++ _), List.flatMap_singleton, mkG_enc hg (by omega)]
          have HTK := Lib.hid htk
          clear htk hcells hrw
          generalize at0 (tabR fs k) j = x at *
          obtain ⟨aq2, cq2, rfl⟩ := form_of hrow
          have hsz := hb.size
          go_wp2_with (at_builtin; (refine wpList_append_own _ rfl _ _ 84 rfl w1.heap.size 67 i67 (.agg #[.int .i64 0, .int .i64 0]) 2 16 Try.underlying84 HI.out.1 HI.out.2.1 HI.out.2.2.1 HI.out.2.2.2 rfl (by decide) _ _ _ rfl (hrow.alloc _) ⟨wr.heap.size, 0, none⟩ 1 1 [.int .i64 x, .int .i64 k] rfl rfl (cell_newL (xs := [.int .i64 x, .int .i64 k]) rfl) (by simp [Value.oneCell']) (Nat.le_trans (by omega : (allN fs k).length + j + 1 ≤ 400) (by decide)) (by omega) (by rw [World.size_alloc]; omega) ?_; intro v' w6 g1 g2 _; obtain ⟨a6, c6, rfl⟩ := form_of g1))
          have hbn : RowKit.Below w1.heap.size w1 w6 := grown_below1 g2 hrow (Nat.le_refl _) hsz hb
          go_roundw
          case rel => exact ⟨j + 1, by omega, by go_num, by rw [HTK.out, ← Nat.add_assoc]; exact g1, hbn⟩
          case measure => simp [intOf]; omega
        · have hjL2 : j = L := by omega
          subst hjL2
          have hrow2 : wr.ownsRow w1.heap.size 67 2 u5 (allN fs (k + 1)).length ((allN fs (k + 1)).flatMap encG) := by
            have hl : (rowG fs k).length = j := by unfold rowG; rw [List.length_map]; exact HL.out.1.symm
            rw [allN_succ, List.length_append, hl]
            rw [List.take_of_length_le (by omega)] at hrow
            exact hrow
          go_wp2
          go_roundw
          case rel => exact ⟨k + 1, by omega, by go_num, hrow2, hb⟩
          case measure => simp [intOf]; omega
    · have hkn2 : k = n := by omega
      subst hkn2
      have hsz := hb.size
      have b1r := blk_keep b1 hb
      have hB1 := hB.trans (hb.mono hB.size)
      rcases Joins.ownsRow_forms hrow with ⟨rfl, h0⟩ | ⟨g, cp, rfl⟩
      · have hnil : allN fs k = [] := List.length_eq_zero_iff.1 h0
        have HNIL := Lib.hid hnil
        clear hrow HLEN H12 HC HOK hnil
        go_wp2_with (first | (go_at_call 37; refine (none37 _ _ _ _).mono ?_; rintro e w2 ⟨rfl, rfl⟩) | (go_at_call 40; refine (values_any _ _ ⟨_, _, _, rfl⟩).mono ?_; rintro e w3 ⟨rfl, rfl⟩))
        go_ret
        exact ⟨[], _, _, rfl, by rw [HNIL.out], List.Pairwise.nil, heap_newI rfl, slG_nil _ _ _, (fun a m c h => by cases h), by omega, hB1.alloc (by omega) _⟩
      · have hg := hrow.lt g rfl
        by_cases h0 : (allN fs k).length = 0
        · have hnil : allN fs k = [] := List.length_eq_zero_iff.1 h0
          rw [h0]
          have HNIL := Lib.hid hnil
          clear hrow HLEN H12 HC HOK hnil
          go_wp2_with (first | (go_at_call 37; refine (none37 _ _ _ _).mono ?_; rintro e w2 ⟨rfl, rfl⟩) | (go_at_call 40; refine (values_any _ _ ⟨_, _, _, rfl⟩).mono ?_; rintro e w3 ⟨rfl, rfl⟩))
          go_ret
          exact ⟨[], _, _, rfl, by rw [HNIL.out], List.Pairwise.nil, heap_newI rfl, ⟨_, _, rfl, by simp, by simp, fun h => by simp at h⟩, (fun a m c h => by injection h with _ h2 _; exact .inr h2.symm), by omega, hB1.alloc (by omega) _⟩
        · have hst := stable_any (allN fs k) g (allN fs k).length cp w.heap.size w1.heap.size wr rfl (by omega) (HLEN.out k (Nat.le_refl _)) hrow b1r (by omega)
          obtain ⟨N, hN⟩ : ∃ N, N = (allN fs k).length := ⟨_, rfl⟩
          rw [← hN] at hst ⊢
          clear hrow HLEN H12 HC HOK hN
          go_wp2_with (first | (go_at_call 37; refine hst.mono ?_; rintro e w2 ⟨rfl, ys, hs⟩) | (go_at_call 40; refine (values_any _ _ ⟨_, _, _, rfl⟩).mono ?_; rintro e w3 ⟨rfl, rfl⟩))
          go_ret
          have hB2 : RowKit.Below w.heap.size w w2 := ⟨hs.os.trans hB1.os, hs.tape.trans hB1.tape, hs.output.trans hB1.output, Nat.le_trans hB1.size hs.size, fun b hb2 => (hs.other b (by have := hB1.size; omega) (by omega)).trans (hB1.block b hb2)⟩
          exact ⟨ys, w2.heap.size, _, rfl, hs.perm, hs.srt, heap_newI rfl, hs.sl.below (RowKit.Below.alloc (Below.refl _ _) (Nat.le_refl _) _) (Nat.le_refl _), (fun a m c h => by injection h with h1 _ _; injection h1 with h3; rw [← h3]; exact .inl (by show w.heap.size ≤ g; omega)), hB2.size, hB2.alloc hB2.size _⟩
end Ytnihopdglkhbnaa
end Go.Proofs
