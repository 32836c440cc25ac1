/- Fields: the examples, evaluated. -/
import Derived.Test.YtgnjeefanbcbkaaB7
import Derived.Test.YtgnjeefanbcbkaaB8
import Derived.Test.YtgnjeefanbcbkaaB10
open Go Go.RowKit Go.YtgnjeefanbcbkaaIt
namespace Go.Proofs
namespace Ytgnjeefanbcbkaa
def exF : List Smp := [⟨0, 1000, 20⟩, ⟨2, 1400, 20⟩, ⟨4, 1200, 30⟩]
def exZ : List Smp := [⟨0, 1000, 20⟩, ⟨2, 900, 10⟩, ⟨4, 1200, 30⟩]
theorem pos_F : posE 5 0 2000 exF = 0 := by decide +kernel
theorem pos_Z : posE 5 0 2000 exZ = 12 := by decide +kernel
theorem chk_Z : chkE 5 0 2000 exZ = 0 := by decide +kernel
theorem known_F : knownL 5 0 2000 exF = [(980, 1020), (1180, 1545), (1380, 1420), (1275, 1640), (1170, 1230)] := by decide +kernel
theorem cl_Z : clE 5 0 2000 exZ = 0 := by decide +kernel
theorem peaks_F : peaksL 5 0 2000 exF = [1, 2, 3] := by decide +kernel
theorem surely_F : surelyL 5 0 2000 exF 1300 = [2] := by decide +kernel
theorem perhaps_F : perhapsL 5 0 2000 exF 1300 = [1, 2, 3] := by decide +kernel
theorem ver_Z : verE 5 0 2000 exZ [0, 2, 4] = 0 := by decide +kernel
theorem ver_F : verE 5 0 2000 exF [0, 2, 4] = 11 := by decide +kernel
theorem reg_F : regretV 5 0 2000 exF 3 = 250 := by decide +kernel
theorem regE_F : regretE 5 0 2000 exF 3 = 0 := by decide +kernel
theorem cutW_F : cutW 5 0 2000 exF = 2 := by decide +kernel
theorem cutV_F : cutV 5 0 2000 exF = 220 := by decide +kernel
theorem ver_any {i j k : Nat} (hi : i < 5) (hj : j < 5) (hk : k < 5) (h : hol (lowAt 0 exZ) (highAt 2000 exZ) i j k = true) : verE 5 0 2000 exZ [(i : Int), (j : Int), (k : Int)] = 0 := by
  unfold verE
  rw [if_neg (by rw [chk_Z]; decide), if_neg (by simp), if_neg (by simp [btw]; omega)]
  simp only [at0, List.getD_cons_zero, List.getD_cons_succ, Int.toNat_natCast]
  rw [if_pos h]
end Ytgnjeefanbcbkaa
end Go.Proofs
