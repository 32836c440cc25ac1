/- The examples' line and trains. -/
import Derived.Test.YteijenefhoconaaSmall
open Go Go.RowKit Go.YteijenefhoconaaIt
namespace Go.Proofs
namespace Yteijenefhoconaa
def exL : List Int := [1, 1, 1, 2, 1, 1, 1]
def exS : List Tn := [(0, 6), (6, 0)]
def exW : List Tn := [(3, 6), (5, 0)]
def exT : List Tn := [(2, 5), (4, 1), (3, 0)]
def exV : List Tn := [(2, 6), (4, 0), (3, 0), (3, 6)]
theorem slI_new {w : World} {xs : List Int} {t : TypeId} {cap : Nat} (hm : xs.length ≤ 17592186044416) : SlI (w.alloc (.cells (arr xs) t)) (.slice (some ⟨w.heap.size, 0, none⟩) xs.length cap) xs := by
  refine ⟨_, cap, rfl, hm, fun _ => ⟨w.heap.size, 0, rfl, by simp, fun i hi => ?_⟩⟩
  rw [Nat.zero_add]
  exact cell_arr (heap_newI rfl) hi
theorem slT_new {w : World} {ts : List Tn} {t : TypeId} {cap : Nat} (hm : ts.length ≤ 8796093022208) : SlT (w.alloc (.cells (flat ts).toArray t)) (.slice (some ⟨w.heap.size, 0, none⟩) ts.length cap) ts := by
  refine ⟨_, cap, rfl, hm, fun _ => ⟨w.heap.size, 0, rfl, by simp, fun i hi => ?_⟩⟩
  obtain ⟨h1, h2⟩ := flat_at ts i hi
  rw [Nat.zero_add, cell_blk (heap_newI rfl), cell_blk (heap_newI rfl)]
  exact ⟨by simpa using h1, by simpa using h2⟩
theorem slB_new {w : World} {xs : List Bool} {t : TypeId} {cap : Nat} (hm : xs.length ≤ 17592186044416) : SlB (w.alloc (.cells (xs.map Value.bool).toArray t)) (.slice (some ⟨w.heap.size, 0, none⟩) xs.length cap) xs := by
  refine ⟨_, cap, rfl, hm, fun _ => ⟨w.heap.size, 0, rfl, by simp, fun i hi => ?_⟩⟩
  rw [Nat.zero_add, cell_blk (heap_newI rfl)]
  simp [hi]
theorem L_any (w : World) : Calls Try.prog 39 #[] w fun e w' => ∃ v, e = .returned v ∧ SlI w' v exL ∧ Below w.heap.size w w' := by
  go_enter Try.func39, Try.ntmps39
  go_wp2
  go_ret
  exact ⟨_, rfl, slI_new (xs := exL) (by decide), by go_grown⟩
theorem W_any (w : World) : Calls Try.prog 40 #[] w fun e w' => ∃ v, e = .returned v ∧ SlT w' v exW ∧ Below w.heap.size w w' := by
  go_enter Try.func40, Try.ntmps40
  go_wp2
  go_ret
  exact ⟨_, rfl, slT_new (ts := exW) (by decide), by go_grown⟩
theorem T_any (w : World) : Calls Try.prog 41 #[] w fun e w' => ∃ v, e = .returned v ∧ SlT w' v exT ∧ Below w.heap.size w w' := by
  go_enter Try.func41, Try.ntmps41
  go_wp2
  go_ret
  exact ⟨_, rfl, slT_new (ts := exT) (by decide), by go_grown⟩
theorem V_any (w : World) : Calls Try.prog 42 #[] w fun e w' => ∃ v, e = .returned v ∧ SlT w' v exV ∧ Below w.heap.size w w' := by
  go_enter Try.func42, Try.ntmps42
  go_wp2
  go_ret
  exact ⟨_, rfl, slT_new (ts := exV) (by decide), by go_grown⟩
theorem S_any (w : World) : Calls Try.prog 47 #[] w fun e w' => ∃ v, e = .returned v ∧ SlT w' v exS ∧ Below w.heap.size w w' := by
  go_enter Try.func47, Try.ntmps47
  go_wp2
  go_ret
  exact ⟨_, rfl, slT_new (ts := exS) (by decide), by go_grown⟩
/-! What is computed. -/
theorem e1 : lineE exL exS = 0 := by decide +kernel
theorem e2 : lineE exL exV = 0 := by decide +kernel
theorem e3 : lineE exL exW = 0 := by decide +kernel
theorem e4 : lineE exL exT = 0 := by decide +kernel
theorem s1 : safeB exL (tos exS) (pos exS) = true := by decide +kernel
theorem s2 : safeB exL (tos exV) (pos exV) = false := by decide +kernel
theorem s3 : safeB exL (tos exT) (pos exT) = true := by decide +kernel
theorem s4 : safeB exL (tos exW) (pos exW) = true := by decide +kernel
theorem g1 : goodL exL (tos exW) (pos exW) = [1] := by decide +kernel
theorem g2 : goodL exL (tos exT) (pos exT) = [0] := by decide +kernel
theorem v1 : verE exL exT (planL exL (tos exT) (pos exT)) = (9, 0) := by decide +kernel
theorem v2 : verE exL exS [0, 0, 0, 1, 0, 0] = (5, 15) := by decide +kernel
theorem c1 : canL exL (tos exW) (pos exW) = [0, 1] := by decide +kernel
theorem c2 : canL exL (tos exV) (pos exV) = [] := by decide +kernel
theorem k1 : stuckB exL exV = true := by decide +kernel
theorem m1 : mvE exL exW 0 = 0 := by decide +kernel
theorem m2 : mvT exL exW 0 = [(4, 6), (5, 0)] := by decide +kernel
theorem m3 : mvE exL [(4, 6), (5, 0)] 0 = 15 := by decide +kernel
theorem d1 : dispE exL exS [0, 0, 0, 1, 0, 1, 0] = 0 := by decide +kernel
theorem d2 : (dispG exL (tos exS) (pos exS) [0, 0, 0, 1, 0, 1, 0]).1 = [true, true, true, true, false, true, false] := by decide +kernel
theorem d3 : tsOf (dispG exL (tos exS) (pos exS) [0, 0, 0, 1, 0, 1, 0]).2 (tos exS) = [(3, 6), (4, 0)] := by decide +kernel
end Yteijenefhoconaa
end Go.Proofs
