/- Pans: an order of the steps; works are checked. -/
import Derived.Test.YteileadcmekkoaaQ11
import Derived.Laws.EntriesVeiled
open Go Go.RowKit Go.YteileadcmekkoaaIt
namespace Go.Proofs
namespace Yteileadcmekkoaa
open PanPlain (upd upd_same upd_ne)
/-- What order answers. -/
def OrdR (n : Nat) (ws : List Wa) (e : Ending) (w' : World) : Prop := ∃ v l, ∃ b : Bool, e = .returned (.tuple #[v, .bool b]) ∧ SlI w' v (l.map fun (i : Nat) => (i : Int)) ∧ (b = true → Topo n ws l) ∧ (b = true ↔ NS ws)
theorem ord_bool {T N : Prop} (sk : Bool) (h : (sk = false → T) ∧ (sk = true ↔ ¬ N)) : ((!sk) = true → T) ∧ ((!sk) = true ↔ N) := by
  cases sk
  · exact ⟨fun _ => h.1 rfl, fun _ => Classical.byContradiction fun hn => Bool.noConfusion (h.2.2 hn), fun _ => rfl⟩
  · exact ⟨fun e => Bool.noConfusion e, fun e => Bool.noConfusion e, fun hn => absurd hn (h.2.1 rfl)⟩
set_option maxRecDepth 100000 in
set_option maxHeartbeats 4000000 in
theorem order_any (n : Nat) (vw : Value) (ws : List Wa) (w : World) (hV : Val n ws) (hvw : SlA w vw ws) :
    Calls Try.prog 60 #[.agg #[.int .i64 n, vw]] w fun e w' => OrdR n ws e w' ∧ Below w.heap.size w w' := by
  have HV := Lib.hid (And.intro hV hvw)
  obtain ⟨ad, cap, rfl, -, -, -⟩ := hvw
  have hn10 := hV.n1
  clear hV
  have hmf : ∀ (fn : Fn) (first cap : Array Value) (w : World), (Instr.makeFunc fn first cap).run Try.prog w = .ok (.func fn first cap) w := fun _ _ _ _ => rfl
  go_enter Try.func60, Try.ntmps60
  refine wp_seq_k (fun K hK => ?_)
  have HK := Lib.hid hK; clear hK
  go_wp2
  refine HK.out _ _ ?_; clear HK K
  refine wp_seq_k (fun K hK => ?_)
  have HK := Lib.hid hK; clear hK
  go_wp2
  refine HK.out _ _ ?_; clear HK K
  refine wp_seq_k (fun K hK => ?_)
  have HK := Lib.hid hK; clear hK
  go_wp2
  refine HK.out _ _ ?_; clear HK K
  refine wp_seq_k (fun K hK => ?_)
  have HK := Lib.hid hK; clear hK
  go_wp2
  refine HK.out _ _ ?_; clear HK K
  refine wp_seq_k (fun K hK => ?_)
  have HK := Lib.hid hK; clear hK
  go_wp2
  refine HK.out _ _ ?_; clear HK K
  generalize hw1 : World.alloc _ _ = w1
  obtain ⟨b1, b2, b3, b4, b5, hB, hs1⟩ := blk5 hw1
  clear hw1
  have f5 := free_blk (i := 0) b5
  have c5 := cell_blk (i := 0) b5
  simp only [List.getElem?_toArray, List.getElem?_cons_zero] at c5
  have l5 := lt_blk b5
  refine wp_seq_k (fun K hK => ?_)
  have HK := Lib.hid hK; clear hK
  go_wp2
  refine HK.out _ _ ?_; clear HK K
  have hVS : VS w n (.slice ad ws.length cap) ws ⟨fun _ => 0, [], false⟩ (.slice none 0 0) (w1.setCell ⟨w.heap.size + 1 + 1 + 1 + 1, 0, none⟩ (.func (.func 75) #[] #[.pointer (some ⟨w.heap.size + 1 + 1, 0, none⟩), .pointer (some ⟨w.heap.size, 0, none⟩), .pointer (some ⟨w.heap.size + 1 + 1 + 1, 0, none⟩), .pointer (some ⟨w.heap.size + 1 + 1 + 1 + 1, 0, none⟩), .pointer (some ⟨w.heap.size + 1, 0, none⟩)])) :=
    ⟨(heap_set_other (by omega)).trans b1, (heap_set_other (by omega)).trans b2, (heap_set_other (by omega)).trans b3, (heap_set_other (by omega)).trans b4, heap_set_blk b5, World.ownsRow_nil _ _ _ _, hB.setCell (show w.heap.size ≤ w.heap.size + 1 + 1 + 1 + 1 by omega) _, by rw [World.size_setCell]; exact hs1⟩
  generalize World.setCell _ _ _ = w2 at *
  clear f5 c5 l5 b1 b2 b3 b4 b5 hB hs1 w1
  have e0 := cell_blk (i := 0) hVS.wk
  simp only [List.getElem?_toArray, List.getElem?_cons_zero] at e0
  go_wp2
  go_loopw [12] (fun i wr => ∃ (k : Nat) (d : Ds) (ov : Value), i = .int .i64 k ∧ k ≤ n ∧ VS w n (.slice ad ws.length cap) ws d ov wr ∧ OI n ws k d) (fun i _ => n - (intOf i).toNat)
  case atStart => exact ⟨0, _, _, rfl, Nat.zero_le _, hVS, OI.start n ws⟩
  case round =>
    clear hVS e0
    obtain ⟨k, d, ov, rfl, hk, hVS, hOI⟩ := hrel
    by_cases hkn : k < n
    · have c3 := cell_blk (i := k) hVS.s
      rw [List.getElem?_toArray, rowX_get _ (by omega)] at c3
      have cv := cell_blk (i := 0) hVS.v
      simp only [List.getElem?_toArray, List.getElem?_cons_zero] at cv
      have hl2 := lt_blk hVS.s
      obtain ⟨st, hst⟩ : ∃ st, st = d.sta k := ⟨_, rfl⟩
      rw [← hst] at c3
      have HST := Lib.hid hst
      clear hst
      by_cases h0 : st = 0
      · subst h0
        have hcall := visit_any w n _ ws HV.out.1 HV.out.2 _ k d ov wr rfl hkn HST.out.symm hOI.di (hOI.above k) hVS
        have HC := Lib.hid hcall
        clear hcall
        go_wp2_with (first | (go_at_call 75; refine HC.out.mono ?_; rintro e w3 ⟨⟨v, rfl⟩, d3, ov3, hV3, hD3, hP3, -⟩))
        go_roundw
        case rel => exact ⟨k + 1, d3, ov3, by go_num, by omega, hV3, hOI.visit hD3 hP3⟩
        case measure => simp [intOf]; omega
      · have hb0 : (st == 0) = false := by simpa using h0
        go_wp2
        go_roundw
        case rel => exact ⟨k + 1, d, ov, by go_num, by omega, hVS, hOI.skip (by rw [← HST.out]; exact h0)⟩
        case measure => simp [intOf]; omega
    · have hkn2 : k = n := by omega
      subst hkn2
      have hend := hOI.end_ HV.out.1
      have c2 := cell_blk (i := 0) hVS.o
      have c4 := cell_blk (i := 0) hVS.k
      simp only [List.getElem?_toArray, List.getElem?_cons_zero] at c2 c4
      have hl2 := lt_blk hVS.o
      have hl4 := lt_blk hVS.k
      have hln := hOI.di.len
      obtain ⟨sk, hsk⟩ : ∃ sk, sk = d.stk := ⟨_, rfl⟩
      rw [← hsk] at c4 hend
      have HE := Lib.hid hend
      clear hend hsk
      go_wp2
      go_quiet (fail)
      go_wp2
      go_ret2
      refine ⟨⟨_, d.out, _, rfl, ?_, ?_⟩, below_drewN hVS.b _⟩
      · have := slI_own (xs := d.out.map fun (i : Nat) => (i : Int)) (by rw [List.map_map]; exact hVS.row) (by simp) (by simp; omega)
        exact this
      · exact ord_bool _ HE.out
end Yteileadcmekkoaa
end Go.Proofs
