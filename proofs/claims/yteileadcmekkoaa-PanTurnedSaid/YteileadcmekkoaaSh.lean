/- For any steps and turn, the closure of PanTurned returns the other number of a step. Conditions: numbers below 1000. -/
import Derived.Test.YteileadcmekkoaaMd
import Derived.Test.YteileadcmekkoaaTp
open Go Go.RowKit Go.YteileadcmekkoaaIt
namespace Go.Proofs
namespace Yteileadcmekkoaa
set_option maxRecDepth 100000 in
theorem shift_any (s T n : Int) (v : Value) (bt bw : Nat) (w : World) (hs : 0 ≤ s ∧ s < 1000) (hT : 0 ≤ T ∧ T < 256) (hn : 1 ≤ n ∧ n ≤ 5) (h1 : w.heap[bt]? = some (.cells #[.int .u8 T] 5 (0, 0))) (h2 : w.heap[bw]? = some (.cells #[.int .i64 n, v] 24 (0, 0))) :
    Calls Try.prog 48 #[.int .i64 s, .pointer (some ⟨bt, 0, none⟩), .pointer (some ⟨bw, 0, none⟩)] w fun e w' => e = .returned (.int .i64 ((s + T) % n)) ∧ w' = w := by
  have c1 := cell_blk (i := 0) h1
  have c2 := cell_blk (i := 0) h2
  have hn0 : ¬ n = 0 := by omega
  simp only [List.getElem?_toArray, List.getElem?_cons_zero] at c1 c2
  go_enter Try.func48, Try.ntmps48
  refine wp_seq_k (fun K hK => ?_)
  have HK := Lib.hid hK; clear hK
  go_wp2
  refine HK.out _ _ ?_; clear HK K
  go_wp2
  go_ret
  exact ⟨rfl, rfl⟩
end Yteileadcmekkoaa
end Go.Proofs
