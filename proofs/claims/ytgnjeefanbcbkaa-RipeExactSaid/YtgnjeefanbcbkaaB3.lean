/- Fields: three weeks that clash. -/
import Derived.Test.YtgnjeefanbcbkaaB1
open Go Go.RowKit Go.YtgnjeefanbcbkaaIt
namespace Go.Proofs
namespace Ytgnjeefanbcbkaa
/-- Three weeks clash. -/
def hol (L H : Nat → Int) (i j k : Nat) : Bool := if i = j ∧ j = k then decide (L i > H i) else if i < j ∧ j < k then decide (L i * ((k : Int) - j) + L k * ((j : Int) - i) > H j * ((k : Int) - i)) else false
theorem hol_bd {n : Nat} {L H : Nat → Int} (hb : Bds n L H) {i j k : Nat} (hij : i < j) (hjk : j < k) (hk : k < n) :
    IntKind.i64.wrap ((k : Int) - j) = (k : Int) - j ∧ IntKind.i64.wrap ((j : Int) - i) = (j : Int) - i ∧ IntKind.i64.wrap ((k : Int) - i) = (k : Int) - i ∧ IntKind.i64.wrap (L i * ((k : Int) - j)) = L i * ((k : Int) - j) ∧ IntKind.i64.wrap (L k * ((j : Int) - i)) = L k * ((j : Int) - i) ∧
    IntKind.i64.wrap (L i * ((k : Int) - j) + L k * ((j : Int) - i)) = L i * ((k : Int) - j) + L k * ((j : Int) - i) ∧ IntKind.i64.wrap (H j * ((k : Int) - i)) = H j * ((k : Int) - i) := by
  have h30 := hb.n30
  have h1 := hb.lo i (by omega)
  have h2 := hb.lo k hk
  have h3 := hb.hi j (by omega)
  have m1 := mulB (a := L i) (A := 30000) (b := (k : Int) - j) (B := 30) (by omega) (by omega) (by omega) (by omega)
  have m2 := mulB (a := L k) (A := 30000) (b := (j : Int) - i) (B := 30) (by omega) (by omega) (by omega) (by omega)
  have m3 := mulB (a := H j) (A := 30000) (b := (k : Int) - i) (B := 30) (by omega) (by omega) (by omega) (by omega)
  exact ⟨wrapB (B := 30) (by omega) (by decide), wrapB (B := 30) (by omega) (by decide), wrapB (B := 30) (by omega) (by decide), wrapB m1 (by decide), wrapB m2 (by decide), wrapB (B := 30000 * 30 * 2) (by omega) (by decide), wrapB m3 (by decide)⟩
set_option maxRecDepth 100000 in
set_option maxHeartbeats 4000000 in
theorem holds_any {b n : Nat} {L H : Nat → Int} {i j k : Nat} {w : World} (hb : Bds n L H) (hi : i < n) (hj : j < n) (hk : k < n) (hy : Yr w b n L H) :
    Calls Try.prog 57 #[.pointer (some ⟨b, 0, none⟩), .int .i64 (i : Int), .int .i64 (j : Int), .int .i64 (k : Int)] w fun e w' => e = .returned (.bool (hol L H i j k)) ∧ Below w.heap.size w w' := by
  have h30 := hb.n30
  have hi30 : (i : Int) < 30 := by omega
  have hj30 : (j : Int) < 30 := by omega
  have hk30 : (k : Int) < 30 := by omega
  have hi0 : (0 : Int) ≤ (i : Int) := by omega
  have hj0 : (0 : Int) ≤ (j : Int) := by omega
  have hk0 : (0 : Int) ≤ (k : Int) := by omega
  have cli := hy.lo i hi
  have clk := hy.lo k hk
  have chj := hy.hi j hj
  have chi := hy.hi i hi
  by_cases h1 : i = j ∧ j = k
  · obtain ⟨rfl, rfl⟩ := h1
    have e : hol L H i i i = decide (L i > H i) := by unfold hol; rw [if_pos ⟨rfl, rfl⟩]
    rw [e]
    have hii : ((i : Int) == (i : Int)) = true := by simp
    clear e hb hy clk chj
    go_enter Try.func57, Try.ntmps57
    refine wp_seq_k (fun K hK => ?_)
    have HK := Lib.hid hK; clear hK
    go_wp2
    refine HK.out _ _ ?_; clear HK K
    go_wp2
    go_quiet (fail)
    go_wp2
    go_ret
    exact ⟨rfl, below_drewN (Below.refl _ _) _⟩
  · by_cases h2 : i < j ∧ j < k
    · have e : hol L H i j k = decide (L i * ((k : Int) - j) + L k * ((j : Int) - i) > H j * ((k : Int) - i)) := by unfold hol; rw [if_neg h1, if_pos h2]
      rw [e]
      obtain ⟨w1, w2, w3, w4, w5, w6, w7⟩ := hol_bd hb h2.1 h2.2 hk
      have hne : ((i : Int) == (j : Int)) = false := by simp; omega
      have hlt1 : ((i : Int) < (j : Int)) = True := by simp; omega
      have hlt2 : ((j : Int) < (k : Int)) = True := by simp; omega
      generalize L i = li at *
      generalize L k = lk at *
      generalize H j = hj' at *
      generalize hd1 : (k : Int) - j = d1 at *
      generalize hd2 : (j : Int) - i = d2 at *
      generalize hd3 : (k : Int) - i = d3 at *
      have w1' : IntKind.i64.wrap ((k : Int) - j) = d1 := by rw [hd1]; exact w1
      have w2' : IntKind.i64.wrap ((j : Int) - i) = d2 := by rw [hd2]; exact w2
      have w3' : IntKind.i64.wrap ((k : Int) - i) = d3 := by rw [hd3]; exact w3
      generalize hm1 : li * d1 = m1 at *
      generalize hm2 : lk * d2 = m2 at *
      generalize hm3 : hj' * d3 = m3 at *
      have w4' : IntKind.i64.wrap (li * d1) = m1 := by rw [hm1]; exact w4
      have w5' : IntKind.i64.wrap (lk * d2) = m2 := by rw [hm2]; exact w5
      have w7' : IntKind.i64.wrap (hj' * d3) = m3 := by rw [hm3]; exact w7
      clear e hb hy chi w1 w2 w3 w4 w5 w7 hd1 hd2 hd3 hm1 hm2 hm3
      go_enter Try.func57, Try.ntmps57
      go_wp2
      go_quiet (fail)
      go_wp2
      go_ret
      exact ⟨rfl, below_drewN (Below.refl _ _) _⟩
    · have e : hol L H i j k = false := by unfold hol; rw [if_neg h1, if_neg h2]
      rw [e]
      clear e hb hy cli clk chi chj
      go_enter Try.func57, Try.ntmps57
      by_cases c1 : i = j <;> by_cases c2 : j = k <;> by_cases c3 : i < j <;> by_cases c4 : j < k
      all_goals try (exfalso; omega)
      all_goals
        first | (have d1 : ((i : Int) == (j : Int)) = true := by simp; omega) | (have d1 : ((i : Int) == (j : Int)) = false := by simp; omega)
        first | (have d2 : ((j : Int) == (k : Int)) = true := by simp; omega) | (have d2 : ((j : Int) == (k : Int)) = false := by simp; omega)
        first | (have d3 : ((i : Int) < (j : Int)) = True := by simp; omega) | (have d3 : ((i : Int) < (j : Int)) = False := by simp; omega)
        first | (have d4 : ((j : Int) < (k : Int)) = True := by simp; omega) | (have d4 : ((j : Int) < (k : Int)) = False := by simp; omega)
        clear c1 c2 c3 c4 h1 h2
        go_wp2
        go_ret
        exact ⟨rfl, Below.refl _ _⟩
end Ytgnjeefanbcbkaa
end Go.Proofs
