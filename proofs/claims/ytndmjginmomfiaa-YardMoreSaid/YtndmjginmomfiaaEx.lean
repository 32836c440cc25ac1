/- The chapter's examples, in plain Lean. -/
import Derived.Test.YtndmjginmomfiaaW19
import Derived.Test.YtndmjginmomfiaaW11
import Derived.Test.YtndmjginmomfiaaW13
open Go Go.RowKit Go.YtndmjginmomfiaaIt
namespace Go.Proofs
namespace Ytndmjginmomfiaa
def eY (r : Nat) : Yd := ⟨r, 6, 3, [⟨1000, 3, 4, 3⟩, ⟨500, 2, 3, 3⟩]⟩
theorem e3_chk : chkE (eY 3) = 0 := by decide +kernel
theorem e4_chk : chkE (eY 4) = 0 := by decide +kernel
theorem e3_tab : tabP (eY 3) = [[1, 0, 1, 1], [1, 0, 1, 1]] := by decide +kernel
theorem e4_tab : tabP (eY 4) = [[never, never, never, never, never], [never, never, never, never, never]] := by decide +kernel
theorem e3_o1 : ordE (eY 3) 2 1 1 = 0 ∧ ordK (eY 3) (1 - 1 : Int).toNat (2 : Int).toNat (1 : Int).toNat = [3] := by decide +kernel
theorem e3_o2 : ordE (eY 3) 2 1 2 = 0 ∧ ordK (eY 3) (2 - 1 : Int).toNat (2 : Int).toNat (1 : Int).toNat = [] := by decide +kernel
theorem e3_t : stE (eY 3) 2 0 = 0 ∧ termP (eY 3) (2 : Int).toNat (0 : Int).toNat = 1 := by decide +kernel
theorem e3_b1 : brE (eY 3) 1 0 3 1 = 0 ∧ brM (eY 3) 1 0 3 1 = 1 ∧ brC (eY 3) 1 0 3 1 = 3 := by decide +kernel
theorem e3_b2 : brE (eY 3) 2 0 3 2 = 0 ∧ brM (eY 3) 2 0 3 2 = 0 ∧ brC (eY 3) 2 0 3 2 = 4 := by decide +kernel
theorem e3_b3 : brE (eY 3) 2 0 3 1 = 5 := by decide +kernel
theorem e3_n1 : needE (eY 3) 0 0 = 0 ∧ needR (eY 3) 0 0 = 4 := by decide +kernel
theorem e3_n2 : needE (eY 3) 7 0 = 0 ∧ needR (eY 3) 7 0 = 7 := by decide +kernel
theorem e3_v1 : verE (eY 3) [[1, 0, 1, 1], [1, 0, 1, 1]] = 0 := by decide +kernel
theorem e3_v2 : verE (eY 3) [[1, 0, 1, 1], [1, 0, 1, 0]] = 11 := by decide +kernel
end Ytndmjginmomfiaa
end Go.Proofs
