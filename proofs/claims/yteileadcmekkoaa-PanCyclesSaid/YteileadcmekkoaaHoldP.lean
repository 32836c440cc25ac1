/- Pans: plain. The cycle that Hold returns is accepted, with the pace. -/
import Derived.Test.YteileadcmekkoaaQ17
open Go Go.RowKit Go.YteileadcmekkoaaIt
namespace Go.Proofs
namespace Yteileadcmekkoaa
open PanPlain (Ed Path Cyc frm)
theorem idxE_of2 {n : Nat} {l : List Nat} (hl : ∀ i ∈ l, i < n) (hn : l.Nodup) : ∀ k, k ≤ l.length → idxE n (l.map fun (i : Nat) => (i : Int)) k = 0
  | 0, _ => rfl
  | k + 1, hk => by
    have ih := idxE_of2 hl hn k (by omega)
    have hk2 : k < l.length := by omega
    have hat : at0 (l.map fun (i : Nat) => (i : Int)) k = (l[k] : Nat) := by rw [at0_lt (by rw [List.length_map]; exact hk2)]; simp
    have h1 : btw 0 (at0 (l.map fun (i : Nat) => (i : Int)) k) ((n : Int) - 1) = true := by
      rw [hat, btw_true]
      have := hl _ (List.getElem_mem hk2)
      omega
    have h2 : (((l.map fun (i : Nat) => (i : Int)).take k).any fun y => at0 (l.map fun (i : Nat) => (i : Int)) k == y) = false := by
      rw [List.any_eq_false]
      intro y hy
      rw [← List.map_take] at hy
      obtain ⟨z, hz, rfl⟩ := List.mem_map.1 hy
      obtain ⟨j, hj, rfl⟩ := List.mem_take_iff_getElem.1 hz
      have hjk : j < k := by omega
      have := List.pairwise_iff_getElem.1 hn j k (by omega) hk2 hjk
      rw [hat, beq_iff_eq]
      omega
    unfold idxE
    rw [if_neg (by rw [ih]; simp), if_neg (by rw [h1]; simp), if_neg (by rw [h2]; simp)]
theorem toNat_map2 (l : List Nat) : (l.map fun (i : Nat) => (i : Int)).map Int.toNat = l := by
  rw [List.map_map]
  conv => rhs; rw [← List.map_id l]
  rfl
theorem nodup_of_map2 {f : Nat → Nat} {l : List Nat} (h : (l.map f).Nodup) : l.Nodup := (List.pairwise_map.1 h).imp fun hne e => hne (by rw [e])
/-- The cycle that the program returns is one, with the pace. -/
theorem hold_per2 {n : Int} {ws : List Wa} {l : List Nat} (h : HoldL n ws l) (h0 : holdE n ws = 0) : holdsE n ws (l.map fun (i : Nat) => (i : Int)) = 0 ∧ perV n ws (l.map fun (i : Nat) => (i : Int)) = (pnum n ws, pden n ws) := by
  rcases h with ⟨_, h⟩ | ⟨m, rfl, hV, hns, hC, h1, h2⟩
  · exact absurd h0 h
  · obtain ⟨u, hu⟩ := hC.cyc
    have hlt := path_lt hu.path
    have hS := ShC.of hu
    have hnd : l.Nodup := nodup_of_map2 hS.nd
    have hz : holdsE (m : Int) ws (l.map fun (i : Nat) => (i : Int)) = 0 := by
      unfold holdsE
      rw [if_neg (by rw [h2]; simp), if_neg (fun e => hu.ne (List.map_eq_nil_iff.1 e)), if_neg (by rw [idxE_of2 hlt hnd _ (by rw [List.length_map]; exact Nat.le_refl _)]; simp), if_pos (by rw [toNat_map2]; exact hS)]
    refine ⟨hz, ?_⟩
    obtain ⟨p, q, e1, e2, _, e4, e5⟩ := hC.per
    unfold perV
    rw [if_neg (by rw [hz]; simp), toNat_map2, e1, e2, Int.toNat_natCast, Int.toNat_natCast, ← e4, ← e5]
theorem holdL_nil2 {n : Int} {ws : List Wa} {l : List Nat} (h : HoldL n ws l) (h0 : holdE n ws ≠ 0) : l = [] := by
  rcases h with ⟨h, _⟩ | ⟨m, rfl, _, _, _, h1, h2⟩
  · exact h
  · exact absurd (holdE_ok h2 h1) h0
end Yteileadcmekkoaa
end Go.Proofs
