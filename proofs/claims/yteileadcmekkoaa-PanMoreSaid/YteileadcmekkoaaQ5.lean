/- Pans: the period of a cycle. -/
import Derived.Test.YteileadcmekkoaaQ4
open Go Go.RowKit Go.YteileadcmekkoaaIt
namespace Go.Proofs
namespace Yteileadcmekkoaa
def hiS (ws : List Wa) (c : List Nat) : Int := (c.map fun i => (at_ ws i).hi).sum
def bkS (ws : List Wa) (c : List Nat) : Int := (c.map fun i => (at_ ws i).b).sum
theorem hiS_succ {ws : List Wa} {c : List Nat} {k : Nat} (h : k < c.length) : hiS ws (c.take (k + 1)) = hiS ws (c.take k) + (at_ ws c[k]).hi := by
  unfold hiS; rw [List.take_succ_eq_append_getElem h, List.map_append, List.sum_append]; simp
theorem bkS_succ {ws : List Wa} {c : List Nat} {k : Nat} (h : k < c.length) : bkS ws (c.take (k + 1)) = bkS ws (c.take k) + (at_ ws c[k]).b := by
  unfold bkS; rw [List.take_succ_eq_append_getElem h, List.map_append, List.sum_append]; simp
/-- The numbers of waits are as stated. -/
def Bnd (ws : List Wa) : Prop := ∀ i, i < ws.length → (0 ≤ (at_ ws i).hi ∧ (at_ ws i).hi ≤ 10000) ∧ (0 ≤ (at_ ws i).b ∧ (at_ ws i).b ≤ 4)
theorem sums_bnd {ws : List Wa} (hb : Bnd ws) : ∀ c : List Nat, (∀ i ∈ c, i < ws.length) → (0 ≤ hiS ws c ∧ hiS ws c ≤ 10000 * c.length) ∧ (0 ≤ bkS ws c ∧ bkS ws c ≤ 4 * c.length)
  | [], _ => by simp [hiS, bkS]
  | i :: c, h => by
    have h1 := sums_bnd hb c (fun j hj => h j (by simp [hj]))
    have h2 := hb i (h i (by simp))
    unfold hiS bkS at *
    simp only [List.map_cons, List.sum_cons, List.length_cons]
    push_cast
    omega
set_option maxRecDepth 100000 in
set_option maxHeartbeats 4000000 in
theorem period_any (n : Int) (v vc : Value) (ws : List Wa) (c : List Nat) (w : World) (hv : SlA w v ws) (hc : SlI w vc (c.map fun (i : Nat) => (i : Int))) (hb : Bnd ws) (hi : ∀ i ∈ c, i < ws.length) (hl : c.length ≤ 100) (hs : 1 ≤ bkS ws c) :
    Calls Try.prog 65 #[.agg #[.int .i64 n, v], vc] w fun e w' => ∃ p q : Nat, hiS ws c = p ∧ bkS ws c = q ∧ e = .returned (.agg #[.int .i64 ((p / Nat.gcd p q : Nat) : Int), .int .i64 ((q / Nat.gcd p q : Nat) : Int)]) ∧ Below w.heap.size w w' := by
  have HV := Lib.hid (And.intro hv hc)
  obtain ⟨ad, cap, rfl, hm, -, -⟩ := hv
  obtain ⟨ac, cc, rfl, hmc, -, -⟩ := hc
  have hall := sums_bnd hb c hi
  have HB := Lib.hid (And.intro hb (And.intro hi (And.intro hall hs)))
  clear hb hi hall hs
  rw [List.length_map] at hmc ⊢
  obtain ⟨N, hN⟩ : ∃ N, N = c.length := ⟨_, rfl⟩
  rw [← hN] at hmc hl ⊢
  have HN := Lib.hid hN
  clear hN
  go_enter Try.func65, Try.ntmps65
  refine wp_seq_k (fun K hK => ?_)
  have HK := Lib.hid hK; clear hK
  go_wp2
  refine HK.out _ _ ?_; clear HK K
  refine wp_seq_k (fun K hK => ?_)
  have HK := Lib.hid hK; clear hK
  go_wp2
  refine HK.out _ _ ?_; clear HK K
  generalize hw1 : World.alloc _ _ = w1
  obtain ⟨b1, b2, b3, hB, hs1⟩ := blk3 hw1
  clear hw1
  go_wp2
  go_loopw [10] (fun i wr => ∃ k : Nat, i = .int .i64 k ∧ k ≤ N ∧ wr.heap[w.heap.size]? = some (.cells #[.int .i64 n, .slice ad ws.length cap] 24 (0, 0)) ∧ wr.heap[w.heap.size + 1]? = some (.cells #[.int .i64 0, .int .i64 0] 26 (0, 0)) ∧ wr.heap[w.heap.size + 1 + 1]? = some (.cells #[.int .i64 (hiS ws (c.take k)), .int .i64 (bkS ws (c.take k))] 26 (0, 0)) ∧ Below w.heap.size w wr) (fun i _ => N - (intOf i).toNat)
  case atStart => exact ⟨0, rfl, Nat.zero_le _, b1, b2, by simpa [hiS, bkS] using b3, hB⟩
  case round =>
    clear b1 b2 b3 hB
    obtain ⟨k, rfl, hk, b1, b2, b3, hB⟩ := hrel
    by_cases hkN : k < N
    · have hkc : k < c.length := by rw [← HN.out]; exact hkN
      have hbk := sums_bnd HB.out.1 (c.take k) (fun i hi => HB.out.2.1 i (List.mem_of_mem_take hi))
      have hlk : (c.take k).length ≤ 100 := by rw [List.length_take]; omega
      have hxi := HB.out.2.1 _ (List.getElem_mem hkc)
      have hxb := HB.out.1 _ hxi
      have hh := hiS_succ (ws := ws) hkc
      have hq := bkS_succ (ws := ws) hkc
      have HH := Lib.hid (And.intro hh hq)
      clear hh hq
      obtain ⟨ac', cc', he, -, -, hcc⟩ := HV.out.2
      obtain ⟨bc, oc, rfl, hlc, hcell⟩ := hcc (by rw [List.length_map]; omega)
      injection he with he1 he2 he3
      subst he1
      have e0 := (hB.cell (p := ⟨bc, oc + k, none⟩) hlc).trans (hcell k (by rw [List.length_map]; exact hkc))
      have hat : at0 (c.map fun (i : Nat) => (i : Int)) k = (c[k] : Nat) := by rw [at0_lt (by rw [List.length_map]; exact hkc)]; simp
      rw [hat] at e0
      obtain ⟨aw, cw, hw, -, -, hww⟩ := HV.out.1
      obtain ⟨bw, ow, rfl, hlw, hcw⟩ := hww (by omega)
      injection hw with hw1 hw2 hw3
      subst hw1
      obtain ⟨-, -, -, q3, q4⟩ := a_cells hcw (n := c[k]) hxi rfl
      generalize c[k] = i at *
      have r3 := (hB.cell (p := ⟨bw, ow + i * 5 + 3, none⟩) hlw).trans q3
      have r4 := (hB.cell (p := ⟨bw, ow + i * 5 + 4, none⟩) hlw).trans q4
      generalize (at_ ws i).hi = xh at *
      generalize (at_ ws i).b = xb at *
      generalize hiS ws (c.take k) = T at *
      generalize bkS ws (c.take k) = S at *
      have d0 := cell_blk (i := 0) b3
      have d1 := cell_blk (i := 1) b3
      have f0 := free_blk (i := 0) b3
      have e1 := cell_blk (i := 1) b1
      simp only [List.getElem?_toArray, List.getElem?_cons_zero, List.getElem?_cons_succ] at d0 d1 e1
      clear hcell hcw q3 q4 hcc hww he2 he3 hw2 hw3
      go_wp2
      rename_i K hK
      have HK := Lib.hid hK; clear hK
      refine wp_region_still_tail 11 (by kernel_rfl) (by kernel_rfl) ?_
      simp only [List.take_succ_cons, List.take_zero, List.drop_succ_cons, List.drop_zero]
      change wpStill _ _ (World.drew wr) _ _ _
      have t1 : IntKind.i64.wrap (T + xh) = T + xh := by rw [IntKind.wrap_i64]; omega
      repeat still_step
      refine wpStill_nil ?_
      change wpList _ _ _ _ _ (World.drew wr)
      go_wp2
      refine HK.out _ _ ?_; clear HK
      generalize hw5 : World.drew _ = w5
      have b35 : w5.heap[w.heap.size + 1 + 1]? = some (.cells #[.int .i64 (T + xh), .int .i64 S] 26 (0, 0)) := by rw [← hw5]; exact (heap_set_blk b3).trans rfl
      have b15 : w5.heap[w.heap.size]? = some (.cells #[.int .i64 n, .slice (some ⟨bw, ow, none⟩) ws.length cap] 24 (0, 0)) := by rw [← hw5]; exact (heap_set_other (by omega)).trans b1
      have b25 : w5.heap[w.heap.size + 1]? = some (.cells #[.int .i64 0, .int .i64 0] 26 (0, 0)) := by rw [← hw5]; exact (heap_set_other (by omega)).trans b2
      have hB5 : Below w.heap.size w w5 := by rw [← hw5]; exact (hB.setCell (p := ⟨w.heap.size + 1 + 1, 0, none⟩) (show w.heap.size ≤ w.heap.size + 1 + 1 by omega) _).drew
      have r45 : w5.cell? ⟨bw, ow + i * 5 + 4, none⟩ = some (.int .i64 xb) := by rw [← hw5]; exact (World.cell?_of_block (w := wr) (heap_set_other (show bw ≠ w.heap.size + 1 + 1 by omega))).trans r4
      clear hw5 b1 b2 b3 hB r3 r4 d0 d1 f0 e1 e0 t1
      have d0 := cell_blk (i := 1) b35
      have f0 := free_blk (i := 1) b35
      have e1 := cell_blk (i := 1) b15
      simp only [List.getElem?_toArray, List.getElem?_cons_zero, List.getElem?_cons_succ] at d0 e1
      refine wp_region_still_tail 10 (by kernel_rfl) (by kernel_rfl) ?_
      simp only [List.take_succ_cons, List.take_zero, List.drop_succ_cons, List.drop_zero]
      change wpStill _ _ (World.drew w5) _ _ _
      repeat still_step
      refine wpStill_nil ?_
      change wpList _ _ _ _ _ (World.drew w5)
      go_wp2
      have b36 : ((World.drew w5).setCell ⟨w.heap.size + 1 + 1, 1, none⟩ (.int .i64 (S + xb))).heap[w.heap.size + 1 + 1]? = some (.cells #[.int .i64 (T + xh), .int .i64 (S + xb)] 26 (0, 0)) := (heap_set_blk (W := World.drew w5) b35).trans rfl
      go_roundw
      case rel => exact ⟨k + 1, by go_num, by omega, (heap_set_other (by omega)).trans b15, (heap_set_other (by omega)).trans b25, by rw [HH.out.1, HH.out.2]; exact b36, (hB5.setCell (p := ⟨w.heap.size + 1 + 1, 1, none⟩) (show w.heap.size ≤ w.heap.size + 1 + 1 by omega) _).drew⟩
      case measure => simp [intOf]; omega
    · have hkN2 : k = N := by omega
      subst hkN2
      have htk : c.take k = c := by rw [HN.out]; exact List.take_length
      rw [htk] at b3
      obtain ⟨p, hp⟩ : ∃ p : Nat, hiS ws c = p := ⟨(hiS ws c).toNat, by have := HB.out.2.2.1.1; omega⟩
      obtain ⟨q, hq⟩ : ∃ q : Nat, bkS ws c = q := ⟨(bkS ws c).toNat, by have := HB.out.2.2.1.2; omega⟩
      have hall := HB.out.2.2
      rw [hp, hq, ← HN.out] at hall
      rw [hp, hq] at b3
      have HPQ := Lib.hid (And.intro hp hq)
      clear hp hq htk
      go_wp2_with (first | (refine wpList_load_blk rfl 26 _ rfl _ rfl b3 Try.underlying26 rfl size26 rfl ?_) | (go_at_call 77; refine (low_any p q wr (by omega) (by omega)).mono ?_; rintro e w6 ⟨rfl, hb6⟩; have b26 := blk_keep b2 hb6) | (refine wpList_store_blk rfl 26 _ _ rfl _ rfl rfl b26 size26 rfl rfl (by simp [Value.oneCell']) ?_))
      exact bodyPost_ret (results_blk rfl _ _ (w.heap.size + 1) rfl (World.putObj_heap_same (lt_blk b26)) Try.underlying26 rfl size26 rfl) rfl ⟨p, q, HPQ.out.1, HPQ.out.2, rfl, below_putObj (hB.trans (hb6.mono hB.size)) (by omega)⟩
end Yteileadcmekkoaa
end Go.Proofs
