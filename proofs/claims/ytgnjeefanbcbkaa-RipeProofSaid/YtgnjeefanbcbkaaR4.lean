/- Fields: the reference's clashes. -/
import Derived.Test.YtgnjeefanbcbkaaB4
open Go Go.RowKit Go.YtgnjeefanbcbkaaIt
namespace Go.Proofs
namespace Ytgnjeefanbcbkaa
/-- A slice that reads as the first n numbers of L. -/
abbrev SlN (W : World) (v : Value) (n : Nat) (L : Nat → Int) : Prop := SlI W v ((List.range n).map L)
theorem slN_cells {W : World} {v : Value} {n : Nat} {L : Nat → Int} (h : SlN W v n L) (h0 : 0 < n) : ∃ b off cap, v = .slice (some ⟨b, off, none⟩) n cap ∧ b < W.heap.size ∧ ∀ i, i < n → W.cell? ⟨b, off + i, none⟩ = some (.int .i64 (L i)) := by
  obtain ⟨ad, cap, rfl, hm, hcp, hc⟩ := h
  simp only [List.length_map, List.length_range] at *
  obtain ⟨b, off, rfl, hlt, hcell⟩ := hc h0
  exact ⟨b, off, cap, rfl, hlt, fun i hi => by rw [hcell i hi]; simp [at0, hi]⟩
set_option maxRecDepth 100000 in
set_option maxHeartbeats 8000000 in
theorem rholds_any {p q : Value} {n : Nat} {L H : Nat → Int} {i j k : Nat} {w : World} (hb : Bds n L H) (hi : i < n) (hj : j < n) (hk : k < n) (hp : SlN w p n L) (hq : SlN w q n H) :
    Calls Try.prog 58 #[p, q, .int .i64 (i : Int), .int .i64 (j : Int), .int .i64 (k : Int)] w fun e w' => e = .returned (.bool (hol L H i j k)) ∧ Below w.heap.size w w' := by
  have h30 := hb.n30
  obtain ⟨b1, o1, cap1, rfl, hl1, hc1⟩ := slN_cells hp (by omega)
  obtain ⟨b2, o2, cap2, rfl, hl2, hc2⟩ := slN_cells hq (by omega)
  have hi0 : (0 : Int) ≤ (i : Int) := by omega
  have hj0 : (0 : Int) ≤ (j : Int) := by omega
  have hk0 : (0 : Int) ≤ (k : Int) := by omega
  have cli := hc1 i hi
  have clk := hc1 k hk
  have chj := hc2 j hj
  have chi := hc2 i hi
  clear hp hq hc1 hc2
  by_cases h1 : i = j ∧ j = k
  · obtain ⟨rfl, rfl⟩ := h1
    have e : hol L H i i i = decide (L i > H i) := by unfold hol; rw [if_pos ⟨rfl, rfl⟩]
    rw [e]
    have hii : ((i : Int) == (i : Int)) = true := by simp
    clear e hb clk chj
    go_enter Try.func58, Try.ntmps58
    go_wp2
    go_quiet (fail)
    go_wp2
    go_ret
    exact ⟨rfl, below_drewN (Below.refl _ _) _⟩
  · by_cases h2 : i < j ∧ j < k
    · have e : hol L H i j k = decide (L i * ((k : Int) - j) + L k * ((j : Int) - i) > H j * ((k : Int) - i)) := by unfold hol; rw [if_neg h1, if_pos h2]
      rw [e]
      obtain ⟨w1, w2, w3, w4, w5, w6, w7⟩ := hol_bd hb h2.1 h2.2 hk
      have hne : ((i : Int) == (j : Int)) = false := by simp; omega
      have hlt1 : ((i : Int) < (j : Int)) = True := by simp; omega
      have hlt2 : ((j : Int) < (k : Int)) = True := by simp; omega
      generalize L i = li at *
      generalize L k = lk at *
      generalize H j = hj' at *
      generalize hd1 : (k : Int) - j = d1 at *
      generalize hd2 : (j : Int) - i = d2 at *
      generalize hd3 : (k : Int) - i = d3 at *
      have w1' : IntKind.i64.wrap ((k : Int) - j) = d1 := by rw [hd1]; exact w1
      have w2' : IntKind.i64.wrap ((j : Int) - i) = d2 := by rw [hd2]; exact w2
      have w3' : IntKind.i64.wrap ((k : Int) - i) = d3 := by rw [hd3]; exact w3
      generalize hm1 : li * d1 = m1 at *
      generalize hm2 : lk * d2 = m2 at *
      generalize hm3 : hj' * d3 = m3 at *
      have w4' : IntKind.i64.wrap (li * d1) = m1 := by rw [hm1]; exact w4
      have w5' : IntKind.i64.wrap (lk * d2) = m2 := by rw [hm2]; exact w5
      have w7' : IntKind.i64.wrap (hj' * d3) = m3 := by rw [hm3]; exact w7
      clear e hb chi w1 w2 w3 w4 w5 w7 hd1 hd2 hd3 hm1 hm2 hm3
      go_enter Try.func58, Try.ntmps58
      go_wp2
      go_quiet (fail)
      go_wp2
      go_ret
      exact ⟨rfl, below_drewN (Below.refl _ _) _⟩
    · have e : hol L H i j k = false := by unfold hol; rw [if_neg h1, if_neg h2]
      rw [e]
      clear e hb cli clk chi chj
      go_enter Try.func58, Try.ntmps58
      by_cases c1 : i = j <;> by_cases c2 : j = k <;> by_cases c3 : i < j <;> by_cases c4 : j < k
      all_goals try (exfalso; omega)
      all_goals
        first | (have d1 : ((i : Int) == (j : Int)) = true := by simp; omega) | (have d1 : ((i : Int) == (j : Int)) = false := by simp; omega)
        first | (have d2 : ((j : Int) == (k : Int)) = true := by simp; omega) | (have d2 : ((j : Int) == (k : Int)) = false := by simp; omega)
        first | (have d3 : ((i : Int) < (j : Int)) = True := by simp; omega) | (have d3 : ((i : Int) < (j : Int)) = False := by simp; omega)
        first | (have d4 : ((j : Int) < (k : Int)) = True := by simp; omega) | (have d4 : ((j : Int) < (k : Int)) = False := by simp; omega)
        clear c1 c2 c3 c4 h1 h2
        go_wp2
        go_quiet (fail)
        go_wp2
        go_ret
        exact ⟨rfl, below_drewN (Below.refl _ _) _⟩
end Ytgnjeefanbcbkaa
end Go.Proofs
