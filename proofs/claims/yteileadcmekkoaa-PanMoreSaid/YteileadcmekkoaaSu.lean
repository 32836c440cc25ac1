/- For any work and list of its waits, the call of sums returns the time and the strikes of the list. Conditions: the numbers of waits are as stated. -/
import Derived.Test.YteileadcmekkoaaTp
import Derived.Test.YteileadcmekkoaaQ5
open Go Go.RowKit Go.YteileadcmekkoaaIt
namespace Go.Proofs
namespace Yteileadcmekkoaa
set_option maxRecDepth 100000 in
set_option maxHeartbeats 4000000 in
theorem sums_any (n : Int) (v vc : Value) (ws : List Wa) (c : List Nat) (w : World) (hv : SlA w v ws) (hc : SlI w vc (c.map fun (i : Nat) => (i : Int))) (hb : Bnd ws) (hi : ∀ i ∈ c, i < ws.length) (hl : c.length ≤ 100) :
    Calls Try.prog 38 #[.agg #[.int .i64 n, v], vc] w fun e w' => e = .returned (.tuple #[.int .i64 (hiS ws c), .int .i64 (bkS ws c)]) ∧ Below w.heap.size w w' := by
  have HV := Lib.hid (And.intro hv hc)
  obtain ⟨ad, cap, rfl, hm, -, -⟩ := hv
  obtain ⟨ac, cc, rfl, hmc, -, -⟩ := hc
  have HB := Lib.hid (And.intro hb hi)
  clear hb hi
  rw [List.length_map] at hmc ⊢
  obtain ⟨N, hN⟩ : ∃ N, N = c.length := ⟨_, rfl⟩
  rw [← hN] at hmc hl ⊢
  have HN := Lib.hid hN
  clear hN
  go_enter Try.func38, Try.ntmps38
  refine wp_seq_k (fun K hK => ?_)
  have HK := Lib.hid hK; clear hK
  go_wp2
  refine HK.out _ _ ?_; clear HK K
  generalize hw1 : World.alloc _ _ = w1
  obtain ⟨b1, hB, hs1⟩ := blk1 hw1
  clear hw1
  go_wp2
  go_loopw [6, 7, 12] (fun a b i wr => ∃ k : Nat, a = .int .i64 (hiS ws (c.take k)) ∧ b = .int .i64 (bkS ws (c.take k)) ∧ i = .int .i64 k ∧ k ≤ N ∧ wr.heap[w.heap.size]? = some (.cells #[.int .i64 n, .slice ad ws.length cap] 24 (0, 0)) ∧ Below w.heap.size w wr) (fun _ _ i _ => N - (intOf i).toNat)
  case atStart => exact ⟨0, by simp [hiS], by simp [bkS], rfl, Nat.zero_le _, b1, hB⟩
  case round =>
    clear b1 hB
    obtain ⟨k, rfl, rfl, rfl, hk, b1, hB⟩ := hrel
    by_cases hkN : k < N
    · have hkc : k < c.length := by rw [← HN.out]; exact hkN
      have hbk := sums_bnd HB.out.1 (c.take k) (fun i hi => HB.out.2 i (List.mem_of_mem_take hi))
      have hlk : (c.take k).length ≤ 100 := by rw [List.length_take]; omega
      have hxi := HB.out.2 _ (List.getElem_mem hkc)
      have hxb := HB.out.1 _ hxi
      have hh := hiS_succ (ws := ws) hkc
      have hq := bkS_succ (ws := ws) hkc
      have HH := Lib.hid (And.intro hh hq)
      clear hh hq
      obtain ⟨ac', cc', he, -, -, hcc⟩ := HV.out.2
      obtain ⟨bc, oc, rfl, hlc, hcell⟩ := hcc (by rw [List.length_map]; omega)
      injection he with he1 he2 he3
      subst he1
      have e0 := (hB.cell (p := ⟨bc, oc + k, none⟩) hlc).trans (hcell k (by rw [List.length_map]; exact hkc))
      have hat : at0 (c.map fun (i : Nat) => (i : Int)) k = (c[k] : Nat) := by rw [at0_lt (by rw [List.length_map]; exact hkc)]; simp
      rw [hat] at e0
      obtain ⟨aw, cw, hw, -, -, hww⟩ := HV.out.1
      obtain ⟨bw, ow, rfl, hlw, hcw⟩ := hww (by omega)
      injection hw with hw1 hw2 hw3
      subst hw1
      obtain ⟨-, -, -, q3, q4⟩ := a_cells hcw (n := c[k]) hxi rfl
      generalize c[k] = i at *
      have r3 := (hB.cell (p := ⟨bw, ow + i * 5 + 3, none⟩) hlw).trans q3
      have r4 := (hB.cell (p := ⟨bw, ow + i * 5 + 4, none⟩) hlw).trans q4
      generalize (at_ ws i).hi = xh at *
      generalize (at_ ws i).b = xb at *
      generalize hiS ws (c.take k) = T at *
      generalize bkS ws (c.take k) = S at *
      have e1 := cell_blk (i := 1) b1
      simp only [List.getElem?_toArray, List.getElem?_cons_zero, List.getElem?_cons_succ] at e1
      clear hcell hcw q3 q4 hcc hww he2 he3 hw2 hw3
      have t1 : IntKind.i64.wrap (T + xh) = T + xh := by rw [IntKind.wrap_i64]; omega
      have t2 : IntKind.i64.wrap (S + xb) = S + xb := by rw [IntKind.wrap_i64]; omega
      go_wp2
      go_roundw
      case rel => exact ⟨k + 1, by rw [HH.out.1], by rw [HH.out.2], by go_num, by omega, b1, hB⟩
      case measure => simp [intOf]; omega
    · have hkN2 : k = N := by omega
      subst hkN2
      have htk : c.take k = c := by rw [HN.out]; exact List.take_length
      rw [htk]
      go_wp2
      go_ret2
      exact ⟨rfl, hB⟩
end Yteileadcmekkoaa
end Go.Proofs
