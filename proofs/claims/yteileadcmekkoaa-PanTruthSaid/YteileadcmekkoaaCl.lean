/- What the three closures of PanTruth return: what a wait takes at least, at most, and in some truth. -/
import Derived.Test.YteileadcmekkoaaTi
import Derived.Test.YteileadcmekkoaaOp
open Go Go.RowKit Go.YteileadcmekkoaaIt
namespace Go.Proofs
namespace Yteileadcmekkoaa
set_option maxRecDepth 100000 in
theorem lo_any (k i n : Nat) (v : Value) (ws : List Wa) (g : Nat) (w : World) (hv : SlA w v ws) (hg : w.heap[g]? = some (.cells #[.int .i64 n, v] 24 (0, 0))) (hi : i < ws.length) :
    Calls Try.prog 42 #[.int .i64 k, .int .i64 i, .pointer (some ⟨g, 0, none⟩)] w fun e w' => e = .returned (.int .i64 (at_ ws i).lo) ∧ Below w.heap.size w w' := by
  obtain ⟨ad, cap, rfl, -, -, hcc⟩ := hv
  obtain ⟨b, off, rfl, hlt, hcell⟩ := hcc (by omega)
  obtain ⟨-, -, q2, -, -⟩ := a_cells hcell (i := i) (n := i) hi rfl
  have c1 := cell_blk (i := 1) hg
  simp only [List.getElem?_toArray, List.getElem?_cons_zero, List.getElem?_cons_succ] at c1
  have hii : (i : Int) < (ws.length : Int) := by omega
  go_enter Try.func42, Try.ntmps42
  refine wp_seq_k (fun K hK => ?_)
  have HK := Lib.hid hK; clear hK
  go_wp2
  refine HK.out _ _ ?_; clear HK K
  go_wp2
  go_ret
  exact ⟨rfl, Below.refl _ _⟩
set_option maxRecDepth 100000 in
theorem hi_any (k i n : Nat) (v : Value) (ws : List Wa) (g : Nat) (w : World) (hv : SlA w v ws) (hg : w.heap[g]? = some (.cells #[.int .i64 n, v] 24 (0, 0))) (hi : i < ws.length) :
    Calls Try.prog 43 #[.int .i64 k, .int .i64 i, .pointer (some ⟨g, 0, none⟩)] w fun e w' => e = .returned (.int .i64 (at_ ws i).hi) ∧ Below w.heap.size w w' := by
  obtain ⟨ad, cap, rfl, -, -, hcc⟩ := hv
  obtain ⟨b, off, rfl, hlt, hcell⟩ := hcc (by omega)
  obtain ⟨-, -, -, q3, -⟩ := a_cells hcell (i := i) (n := i) hi rfl
  have c1 := cell_blk (i := 1) hg
  simp only [List.getElem?_toArray, List.getElem?_cons_zero, List.getElem?_cons_succ] at c1
  have hii : (i : Int) < (ws.length : Int) := by omega
  go_enter Try.func43, Try.ntmps43
  refine wp_seq_k (fun K hK => ?_)
  have HK := Lib.hid hK; clear hK
  go_wp2
  refine HK.out _ _ ?_; clear HK K
  go_wp2
  go_ret
  exact ⟨rfl, Below.refl _ _⟩
/-- What a wait takes in the truth that bytes tell. -/
def trE (ws : List Wa) (bs : List Int) (k i : Nat) : Int := if bs.length = 0 then (at_ ws i).lo else (at_ ws i).lo + at0 bs ((9 * k + i) % bs.length) % ((at_ ws i).hi - (at_ ws i).lo + 1)
set_option maxRecDepth 100000 in
set_option maxHeartbeats 1000000 in
theorem tr_any (k i n : Nat) (v vb : Value) (ws : List Wa) (bs : List Int) (g gb : Nat) (w : World) (hv : SlA w v ws) (hb : SlB w vb bs) (hg : w.heap[g]? = some (.cells #[.int .i64 n, v] 24 (0, 0))) (hgb : w.heap[gb]? = some (.cells #[vb] 74 (0, 0)))
    (hi : i < ws.length) (hk : k < 1000) (hl : ws.length ≤ 40) (hx : 0 ≤ (at_ ws i).lo ∧ (at_ ws i).lo ≤ (at_ ws i).hi ∧ (at_ ws i).hi ≤ 10000) :
    Calls Try.prog 44 #[.int .i64 k, .int .i64 i, .pointer (some ⟨g, 0, none⟩), .pointer (some ⟨gb, 0, none⟩)] w fun e w' => e = .returned (.int .i64 (trE ws bs k i)) ∧ Below w.heap.size w w' := by
  obtain ⟨ad, cap, rfl, -, -, hcc⟩ := hv
  obtain ⟨b, off, rfl, hlt, hcell⟩ := hcc (by omega)
  obtain ⟨-, -, q2, q3, -⟩ := a_cells hcell (i := i) (n := i) hi rfl
  obtain ⟨⟨ab, cb, rfl, hbl, hbc⟩, hbx⟩ := hb
  have c1 := cell_blk (i := 1) hg
  have c0 := cell_blk (i := 0) hgb
  simp only [List.getElem?_toArray, List.getElem?_cons_zero, List.getElem?_cons_succ] at c1 c0
  have hii : (i : Int) < (ws.length : Int) := by omega
  have htr : trE ws bs k i = if bs.length = 0 then (at_ ws i).lo else (at_ ws i).lo + at0 bs ((9 * k + i) % bs.length) % ((at_ ws i).hi - (at_ ws i).lo + 1) := rfl
  have HTR := Lib.hid htr
  clear htr
  generalize (at_ ws i).lo = xl at *
  generalize (at_ ws i).hi = xh at *
  have hB1 : Below w.heap.size w (w.alloc (.cells #[.int .i64 xl, .int .i64 xh] 80)) := (Below.refl _ w).alloc (Nat.le_refl _) _
  have b1 : (w.alloc (.cells #[.int .i64 xl, .int .i64 xh] 80)).heap[w.heap.size]? = _ := heap_newI rfl
  have d0 := cell_blk (i := 0) b1
  have d1 := cell_blk (i := 1) b1
  have e0 := (hB1.cell (p := ⟨gb, 0, none⟩) (lt_blk hgb)).trans c0
  simp only [List.getElem?_toArray, List.getElem?_cons_zero, List.getElem?_cons_succ] at d0 d1
  go_enter Try.func44, Try.ntmps44
  refine wp_seq_k (fun K hK => ?_)
  have HK := Lib.hid hK; clear hK
  go_wp2
  refine HK.out _ _ ?_; clear HK K
  refine wp_seq_k (fun K hK => ?_)
  have HK := Lib.hid hK; clear hK
  go_wp2
  refine HK.out _ _ ?_; clear HK K
  clear c0 c1 q2 q3
  generalize w.alloc _ = w1 at *
  by_cases h0 : (bs.length : Int) = 0
  · have h0n : bs.length = 0 := by omega
    go_wp2
    go_ret
    exact ⟨by rw [HTR.out, if_pos h0n]; rfl, hB1⟩
  · have h0n : ¬ bs.length = 0 := by omega
    obtain ⟨bb, ob, rfl, hlb, hcb⟩ := hbc (by omega)
    obtain ⟨J, hJ⟩ : ∃ J : Nat, J = (9 * k + i) % bs.length := ⟨_, rfl⟩
    have hJl : J < bs.length := by rw [hJ]; exact Nat.mod_lt _ (by omega)
    have hJi : (J : Int) < (bs.length : Int) := by omega
    have hJe : (9 * (k : Int) + (i : Int)) % (bs.length : Int) = (J : Int) := by rw [hJ]; push_cast; rfl
    have c2 := (hB1.cell (p := ⟨bb, ob + J, none⟩) hlb).trans (hcb J hJl)
    have hxb := hbx J hJl
    have htv := HTR.out
    rw [if_neg h0n, ← hJ] at htv
    have HTV := Lib.hid htv
    clear htv hcb hbx hJ
    generalize at0 bs J = xb at *
    have hd0 : ¬ (xh - xl + 1 = 0) := by omega
    go_wp2
    go_quiet (fail)
    have hm1 := Int.emod_nonneg xb (show xh - xl + 1 ≠ 0 by omega)
    have hm2 := Int.emod_lt_of_pos xb (show 0 < xh - xl + 1 by omega)
    rw [IntWalk.wrap64_in (xl + xb % (xh - xl + 1)) (by omega)]
    go_wp2
    go_ret
    exact ⟨by rw [HTV.out]; rfl, below_drewN hB1 _⟩
end Yteileadcmekkoaa
end Go.Proofs
