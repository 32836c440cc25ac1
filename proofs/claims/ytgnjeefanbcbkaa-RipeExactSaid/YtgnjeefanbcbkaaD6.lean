/- Fields, outright, plainly: between what a crop's truth lies. -/
import Derived.Test.YtgnjeefanbcbkaaD5
open Go Go.RowKit Go.YtgnjeefanbcbkaaIt
namespace Go.Proofs
namespace Ytgnjeefanbcbkaa
def triN : Nat → Nat
  | 0 => 0
  | w + 1 => triN w + w
theorem triN_le : ∀ w, w ≤ 11 → triN w ≤ 55 := by decide
theorem sweetC_low {fs st : Int} {falls : List Int} (hfs : 0 ≤ fs ∧ fs < 256) (hst : 0 ≤ st ∧ st < 256) (hf : ∀ i, i < falls.length → 0 ≤ at0 falls i ∧ at0 falls i < 256) : ∀ w : Nat, 8000 - 127 * (triN w : Int) ≤ sweetC fs st falls w ∧ sweetC fs st falls w ≤ 13100 + 510 * (w : Int)
  | 0 => by unfold sweetC triN; omega
  | w + 1 => by
    have h := sweetC_low hfs hst hf w
    have h2 := stepC_bd hst hf w
    unfold sweetC triN
    omega
theorem sweetC_bd {fs st : Int} {falls : List Int} (hfs : 0 ≤ fs ∧ fs < 256) (hst : 0 ≤ st ∧ st < 256) (hf : ∀ i, i < falls.length → 0 ≤ at0 falls i ∧ at0 falls i < 256) {w : Nat} (hw : w ≤ 11) : 1015 ≤ sweetC fs st falls w ∧ sweetC fs st falls w ≤ 18710 := by
  have h := sweetC_low hfs hst hf w
  have h2 := triN_le w hw
  omega
end Ytgnjeefanbcbkaa
end Go.Proofs
