/- Pans: plain. What is accepted as a cycle is one. -/
import Derived.Test.YteileadcmekkoaaPa
import Derived.Test.YteileadcmekkoaaHoldP
open Go Go.RowKit Go.YteileadcmekkoaaIt
namespace Go.Proofs
namespace Yteileadcmekkoaa
open PanPlain (Ed Path Cyc frm rounds)
theorem holdsE_iff {m : Nat} {ws : List Wa} (hv : Val m ws) (hs : NS ws) (l : List Nat) : holdsE (m : Int) ws (l.map fun (i : Nat) => (i : Int)) = 0 ↔ ∃ u, Cyc (eds ws 0 1) u l := by
  constructor
  · intro h
    obtain ⟨_, l', _, _, _, _, e2, hlt, hS, _⟩ := holds_ok h
    rw [toNat_map2] at e2
    subst e2
    exact hS.cyc hlt 0 1
  · rintro ⟨u, hu⟩
    have hlt := path_lt hu.path
    have hS := ShC.of hu
    have hnd : l.Nodup := nodup_of_map2 hS.nd
    unfold holdsE
    rw [if_neg (by rw [chk_of hv, if_pos hs]; simp), if_neg (fun e => hu.ne (List.map_eq_nil_iff.1 e)), if_neg (by rw [idxE_of2 hlt hnd _ (by rw [List.length_map]; exact Nat.le_refl _)]; simp), if_pos (by rw [toNat_map2]; exact hS)]
/-- The period of a cycle: its time and its strikes, in lowest terms; at most the pace. -/
theorem per_cyc {m : Nat} {ws : List Wa} (hv : Val m ws) (hs : NS ws) {u : Nat} {l : List Nat} (h : Cyc (eds ws 0 1) u l) :
    ∃ a b : Nat, perV (m : Int) ws (l.map fun (i : Nat) => (i : Int)) = (a, b) ∧ 1 ≤ b ∧ b ≤ 40 ∧ a ≤ 100000 ∧ a * bkN ws l = hiN ws l * b ∧ a * pden m ws ≤ pnum m ws * b := by
  have hlt := path_lt h.path
  have hz := (holdsE_iff hv hs l).2 ⟨u, h⟩
  obtain ⟨s1, s2⟩ := sums_nat hv hlt
  have hq := cyc_bk hv hs h
  have hsm := sums_bnd hv.bnd l hlt
  have hl := nodup_len (cyc_nd h) (n := m) (fun v hv2 => by
    obtain ⟨i, hi, rfl⟩ := List.mem_map.1 hv2
    exact hv.fN (hlt i hi))
  rw [List.length_map] at hl
  have hn := hv.n1
  have hq1 : 1 ≤ bkN ws l := by omega
  obtain ⟨g1, g2, g3, g4⟩ := low_mul (p := hiN ws l) (q := bkN ws l) hq1
  have hC : CycP m ws (hiN ws l / Nat.gcd (hiN ws l) (bkN ws l)) (bkN ws l / Nat.gcd (hiN ws l) (bkN ws l)) l := ⟨⟨u, h⟩, hl, _, _, s1, s2, hq1, rfl, rfl⟩
  obtain ⟨l0, hS0⟩ := paceP hv hs
  refine ⟨_, _, ?_, g4, ?_, ?_, ?_, hC.le hS0.keep⟩
  · unfold perV
    rw [if_neg (by rw [hz]; simp), toNat_map2, s1, s2, Int.toNat_natCast, Int.toNat_natCast]
  · have := Nat.div_le_self (bkN ws l) (Nat.gcd (hiN ws l) (bkN ws l)); omega
  · have := Nat.div_le_self (hiN ws l) (Nat.gcd (hiN ws l) (bkN ws l)); omega
  · generalize hP : hiN ws l / Nat.gcd (hiN ws l) (bkN ws l) = P at *
    generalize hQ : bkN ws l / Nat.gcd (hiN ws l) (bkN ws l) = Q at *
    generalize Nat.gcd (hiN ws l) (bkN ws l) = g at *
    rw [g2, g3]
    rw [Nat.mul_assoc, Nat.mul_comm g, Nat.mul_comm Q g]
theorem perV_bad {n : Int} {ws : List Wa} {c : List Int} (h : holdsE n ws c ≠ 0) : perV n ws c = (0, 0) := by unfold perV; rw [if_pos h]
/-- What the law asks: the bytes as numbers of waits. -/
def pickL (N : Nat) (os : List Int) : List Nat := (os.take 5).map fun o => o.toNat % N
theorem pickL_step {N : Nat} {os : List Int} {k : Nat} (hk : k < os.length) (h5 : k < 5) : ((pickL N os).take (k + 1)) = (pickL N os).take k ++ [(at0 os k).toNat % N] := by
  have hl : k < (pickL N os).length := by unfold pickL; rw [List.length_map, List.length_take]; omega
  rw [List.take_succ_eq_append_getElem hl]
  congr 1
  unfold pickL
  simp [at0_lt hk]
theorem pickL_len {N : Nat} {os : List Int} : (pickL N os).length = min 5 os.length := by unfold pickL; rw [List.length_map, List.length_take]
theorem pickL_lt {N : Nat} {os : List Int} (hN : 1 ≤ N) : ∀ i ∈ pickL N os, i < N := by
  intro i hi
  obtain ⟨o, _, rfl⟩ := List.mem_map.1 hi
  exact Nat.mod_lt _ (by omega)
end Yteileadcmekkoaa
end Go.Proofs
