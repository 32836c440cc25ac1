/- For each house and turn, the law PanTurned returns true. Conditions: four bytes a wait. -/
import Derived.Test.YteileadcmekkoaaSh
import Derived.Test.YteileadcmekkoaaQ25
import Derived.Test.YteileadcmekkoaaGenH
open Go Go.RowKit Go.YteileadcmekkoaaIt
namespace Go.Proofs
namespace Yteileadcmekkoaa
theorem shift_nat {a T n : Int} (ha : 0 ≤ a) (hT : 0 ≤ T ∧ T < 256) (hn : 1 ≤ n) : (((a.toNat + T.toNat) % n.toNat : Nat) : Int) = (a + T) % n := by
  rw [Int.natCast_emod, Int.natCast_add, Int.toNat_of_nonneg ha, Int.toNat_of_nonneg hT.1, Int.toNat_of_nonneg (by omega)]
theorem size65 : (Try.prog.info? 65).map (·.size) = some 2 := by kernel_rfl
def frU (s T n : Int) (vh vw : Value) (B2 B3 B5 g7 g8 : Nat) : Act := ⟨#[.agg #[.int .u8 s, vh], .int .u8 T, .pointer (some ⟨B2, 0, none⟩), .pointer (some ⟨B3, 0, none⟩), .bool false, .pointer (some ⟨B5, 0, none⟩), .func (.func 48) #[] #[.pointer (some ⟨B3, 0, none⟩), .pointer (some ⟨B5, 0, none⟩)], .pointer (some ⟨g7, 0, none⟩), .pointer (some ⟨g8, 0, none⟩), undef, undef, undef, undef, undef, undef, undef, undef, undef, undef, undef, undef, undef, .agg #[.int .u8 s, vh], .agg #[.int .i64 n, vw], .func (.func 48) #[] #[.pointer (some ⟨B3, 0, none⟩), .pointer (some ⟨B5, 0, none⟩)], .pointer (some ⟨B5, 0, none⟩), .int .i64 n, .agg #[.int .i64 n, .slice none 0 0], .pointer (some ⟨B5, 0, none⟩), .int .i64 n, .agg #[.int .i64 n, .slice none 0 0], undef, undef, undef, undef, undef, undef, undef, undef, undef, undef, undef, undef, undef, undef, undef, undef, undef, undef, undef, undef, undef, undef, undef, undef, undef, undef, undef, undef, undef, undef, undef, undef, undef, undef, undef, undef, undef, undef, undef, undef, undef, undef, undef, undef, undef, undef, undef, undef, undef, undef, undef, undef, undef, undef, undef, undef, undef, undef, undef, undef, undef, undef, undef, undef, undef, undef, undef, undef, undef, undef, undef, undef, undef, undef, undef, undef, undef, undef, undef, undef, undef, undef, undef, undef, undef, undef, undef, undef, undef, undef, undef, undef, undef, undef, undef, undef, undef, undef, undef, undef, undef, undef, undef, undef, undef, undef, undef, undef, undef, undef, undef, undef, undef, undef, undef, undef, undef, undef, undef, undef, undef, undef, undef, undef, undef, undef, undef, undef, undef, undef, undef, undef], []⟩
set_option maxRecDepth 100000 in
set_option maxHeartbeats 40000000 in
theorem turned_any (s T : Int) (u : Value) (qs : List Q4) (w : World) (hs : 0 ≤ s ∧ s < 256) (hT : 0 ≤ T ∧ T < 256) (hq : ∀ q ∈ qs, q.ok) (hu : SlQ w u qs) :
    Calls Try.prog 13 #[.agg #[.int .u8 s, u], .int .u8 T] w fun e w' => e = .returned (.bool true) ∧ Below w.heap.size w w' := by
  have HU := Lib.hid hu
  have HQ := Lib.hid hq
  obtain ⟨ad, cap, rfl, -, -, -⟩ := hu
  clear hq
  go_enter Try.func13, Try.ntmps13
  refine wp_seq_k (fun K hK => ?_)
  have HK := Lib.hid hK; clear hK
  go_wp2
  refine HK.out _ _ ?_; clear HK K
  generalize hw1 : World.alloc _ _ = w1
  obtain ⟨b1, b2, hB0, hs1⟩ := blk2 hw1
  clear hw1
  have h36 := made_any s _ qs w1 hs HQ.out (HU.out.below hB0 (Nat.le_refl _))
  have H36 := Lib.hid h36
  clear h36 HU HQ
  refine wp_seq_k (fun K hK => ?_)
  have HK := Lib.hid hK; clear hK
  go_wp2_with (first | (refine wpList_load_blk rfl 65 _ rfl _ rfl b1 Try.underlying65 rfl size65 rfl ?_) | (go_at_call 36; refine H36.out.mono ?_; rintro e w2 ⟨n, v, ws, rfl, hv, hM, hb2⟩; have hv0 := hv; obtain ⟨av, cv, rfl, -, -, -⟩ := hv))
  refine HK.out _ _ ?_; clear HK K H36
  have hnb := And.intro hM.n1 hM.n5
  have hB2 := btr hB0 hb2 (Nat.le_refl _)
  have b22 := blk_keep b2 hb2
  generalize hw3 : World.alloc _ _ = w3
  obtain ⟨b3, hB3, hs3⟩ := blk1 hw3
  clear hw3
  have hV3 := hv0.below hB3 (Nat.le_refl _)
  replace b22 := blk_keep b22 hB3
  have hB := btr hB2 hB3 (Nat.le_refl _)
  clear hv0 hb2 hB3 hB2 hB0 b1 b2
  refine wp_seq_k (fun K hK => ?_)
  have HK := Lib.hid hK; clear hK
  go_wp2
  refine HK.out _ _ ?_; clear HK K
  refine wp_seq_k (fun K hK => ?_)
  have HK := Lib.hid hK; clear hK
  have tail : ∀ (g7 g8 : Nat) (W : World), g7 ≠ g8 → w3.heap.size ≤ g7 → w3.heap.size ≤ g8 → W.heap[g7]? = some (.cells #[.int .i64 n, .slice none 0 0] 24 (0, 0)) → W.heap[g8]? = some (.cells #[.int .i64 n, .slice none 0 0] 24 (0, 0)) →
      Below w3.heap.size w3 W → K (frU s T n (.slice ad qs.length cap) (.slice av ws.length cv) w.heap.size (w.heap.size + 1) w2.heap.size g7 g8) W := by
    intro g7 g8 W hne hl7 hl8 b7 b8 hW
    refine HK.out _ _ ?_; clear HK
    unfold frU
    obtain ⟨i82, hi82, hz1, hz2, hz3⟩ := info_parts info82
    have HI := Lib.hid (And.intro hi82 (And.intro hz1 (And.intro hz2 hz3)))
    clear hi82 hz1 hz2 hz3
    have b5 := blk_keep b3 hW
    have c51 := cell_blk (i := 1) b5
    simp only [List.getElem?_toArray, List.getElem?_cons_zero, List.getElem?_cons_succ] at c51
    have hw3 := hW.size
    have l23 := lt_blk b3
    have l22 := lt_blk b22
    have hll : ws.length ≤ 9 := hM.len
    have HM := Lib.hid hM
    clear hM
    refine wp_seq_k (fun K hK => ?_)
    have HK := Lib.hid hK; clear hK
    go_wp2
    go_loopw [34] (fun i wr => ∃ (k : Nat) (vb vo : Value), k ≤ ws.length ∧ i = .int .i64 k ∧
      wr.heap[g7]? = some (.cells #[.int .i64 n, vb] 24 (0, 0)) ∧ wr.heap[g8]? = some (.cells #[.int .i64 n, vo] 24 (0, 0)) ∧
      wr.ownsRow W.heap.size 82 5 vb k (((ws.take k).map turnB).flatMap encA) ∧ wr.ownsRow W.heap.size 82 5 vo k ((((ws.take k).map (turnO (fun v => (v + T.toNat) % n.toNat))).reverse).flatMap encA) ∧
      (∀ b, vb.ownBlock = some b → vo.ownBlock ≠ some b) ∧ Below w3.heap.size w3 wr ∧ W.heap.size ≤ wr.heap.size) (fun i _ => ws.length - (intOf i).toNat)
    case atStart => exact ⟨0, _, _, Nat.zero_le _, rfl, b7, b8, World.ownsRow_nil _ _ _ _, World.ownsRow_nil _ _ _ _, fun b h => by simp [Value.ownBlock] at h, hW, Nat.le_refl _⟩
    case round =>
      clear b7 b8 b5 c51
      obtain ⟨k, vb, vo, hk, rfl, b7, b8, rb, ro, hD, hB3, hWr⟩ := hrel
      by_cases hkn : k < ws.length
      · have hV30 := hV3
        obtain ⟨ad0, cap0, e0, -, -, hcc⟩ := hV30
        injection e0 with e1 _ e3
        subst e1 e3
        obtain ⟨b, off, rfl, hlt, hcell⟩ := hcc (by omega)
        obtain ⟨q0, q1, q2, q3, q4⟩ := a_cells hcell (i := k) (n := k) hkn rfl
        replace q0 := (hB3.cell (p := ⟨b, off + k * 5, none⟩) hlt).trans q0
        replace q1 := (hB3.cell (p := ⟨b, off + k * 5 + 1, none⟩) hlt).trans q1
        replace q2 := (hB3.cell (p := ⟨b, off + k * 5 + 2, none⟩) hlt).trans q2
        replace q3 := (hB3.cell (p := ⟨b, off + k * 5 + 3, none⟩) hlt).trans q3
        replace q4 := (hB3.cell (p := ⟨b, off + k * 5 + 4, none⟩) hlt).trans q4
        have hx := HM.out.ok _ (List.getElem_mem hkn)
        rw [← at_lt hkn] at hx
        obtain ⟨x, hxe⟩ : ∃ x, x = at_ ws k := ⟨_, rfl⟩
        rw [← hxe] at q0 q1 q2 q3 q4 hx
        have HX := Lib.hid hxe
        clear hcell hxe hcc
        obtain ⟨ab, cb, rfl⟩ := form_of rb
        obtain ⟨ao, co, rfl⟩ := form_of ro
        have hkl : (k : Int) < (ws.length : Int) := by omega
        have c71 := cell_blk (i := 1) b7
        have c70 := cell_blk (i := 0) b7
        have l7 := lt_blk b7
        have l8 := lt_blk b8
        simp only [List.getElem?_toArray, List.getElem?_cons_zero, List.getElem?_cons_succ] at c71 c70
        have bXI : ∀ o o' : Obj, ((wr.alloc o).alloc o').heap.size = wr.heap.size + 2 := fun o o' => by simp
        have HBX := Lib.hid bXI
        clear bXI
        go_wp2_with (at_builtin; refine wpList_append_any _ rfl _ _ 22 rfl W.heap.size 82 i82 (.agg #[.int .i64 0, .int .i64 0, .int .i64 0, .int .i64 0, .int .i64 0]) 5 40 Try.underlying22 HI.out.1 HI.out.2.1 HI.out.2.2.1 HI.out.2.2.2 rfl (by decide) _ _ _ rfl ((rb.alloc _).alloc _) (wr.heap.size + 2) (some ⟨wr.heap.size + 1, 0, none⟩) 1 1 [.int .i64 x.t, .int .i64 x.f, .int .i64 x.lo, .int .i64 x.hi, .int .i64 x.b] rfl ⟨rfl, fun _ => ⟨⟨wr.heap.size + 1, 0, none⟩, rfl, Nat.lt_succ_self _, cell_newL (W := wr.alloc (.cells #[.int .i64 x.f, .int .i64 x.t, .int .i64 x.lo, .int .i64 x.hi, .int .i64 x.b] 82)) (xs := [.int .i64 x.t, .int .i64 x.f, .int .i64 x.lo, .int .i64 x.hi, .int .i64 x.b]) (World.size_alloc _ _).symm⟩⟩ (by simp [Value.oneCell']) (Nat.le_trans (by omega : k + 1 ≤ 50) (by decide)) (by omega) (by rw [HBX.out]; omega) ?_; intro v6 w6 r1 r2 r3; obtain ⟨a6, c6, hv6⟩ := form_of r1; change v6 = .slice a6 (k + 1) c6 at hv6; subst hv6; obtain ⟨hk6, hs6, ee1, ee2, ee3⟩ := append_same1 (rb.alloc (.cells #[.int .i64 x.f, .int .i64 x.t, .int .i64 x.lo, .int .i64 x.hi, .int .i64 x.b] 82)) r2; have d7 := (hk6 g7 (by simp; omega) (own_ne (rb.alloc (.cells #[.int .i64 x.f, .int .i64 x.t, .int .i64 x.lo, .int .i64 x.hi, .int .i64 x.b] 82)) ((heap_oldI l7).trans b7) (by decide))).trans ((heap_oldI l7).trans b7); have d71 := cell_blk (i := 1) d7; have d7f := free_blk (i := 1) d7; simp only [List.getElem?_toArray, List.getElem?_cons_zero, List.getElem?_cons_succ] at d71)
        focus
          rename_i K0 hK0 _
          have HK0 := Lib.hid hK0
          clear hK0
          clear HBX
          have hOsz : (wr.alloc (.cells #[.int .i64 x.f, .int .i64 x.t, .int .i64 x.lo, .int .i64 x.hi, .int .i64 x.b] 82)).heap.size = wr.heap.size + 1 := World.size_alloc _ _
          have dX := (hk6 wr.heap.size (by rw [hOsz]; omega) (fun e => by have := (rb.lt _ e).2; omega)).trans (heap_newI rfl : (wr.alloc (.cells #[.int .i64 x.f, .int .i64 x.t, .int .i64 x.lo, .int .i64 x.hi, .int .i64 x.b] 82)).heap[wr.heap.size]? = some (.cells #[.int .i64 x.f, .int .i64 x.t, .int .i64 x.lo, .int .i64 x.hi, .int .i64 x.b] 82 (0, 0)))
          have d8 := (hk6 g8 (by rw [hOsz]; omega) (own_ne (rb.alloc (.cells #[.int .i64 x.f, .int .i64 x.t, .int .i64 x.lo, .int .i64 x.hi, .int .i64 x.b] 82)) ((heap_oldI l8).trans b8) (by decide))).trans ((heap_oldI l8).trans b8)
          have do_ : w6.ownsRow W.heap.size 82 5 (.slice ao k co) k _ := row_same ro (fun g hg => (hk6 g (by rw [hOsz]; have := (ro.lt g hg).2; omega) (fun e => hD g e hg)).trans (heap_oldI (ro.lt g hg).2))
          have hB6 : Below w3.heap.size w3 w6 := ⟨ee1.trans hB3.os, ee2.trans hB3.tape, ee3.trans hB3.output, by have := hB3.size; omega, fun b hb => ((hk6 b (by rw [hOsz]; have := hB3.size; omega) (fun e => by have := (rb.lt _ e).1; omega)).trans (heap_oldI (by have := hB3.size; omega))).trans (hB3.block b hb)⟩
          have f7 : (w6.setCell ⟨g7, 1, none⟩ (.slice a6 (k + 1) c6)).heap[g7]? = some (.cells #[.int .i64 n, .slice a6 (k + 1) c6] 24 (0, 0)) := (heap_set_blk d7).trans rfl
          have f8 := (heap_set_other (v := (.slice a6 (k + 1) c6)) (b' := g7) (i := 1) (Ne.symm hne)).trans d8
          have fX := (heap_set_other (v := (.slice a6 (k + 1) c6)) (b' := g7) (i := 1) (show wr.heap.size ≠ g7 by omega)).trans dX
          have fo := row_set_other (b := g7) (i := 1) (x := (.slice a6 (k + 1) c6)) do_ (own_ne do_ d7 (by decide))
          have fb := row_set_other (b := g7) (i := 1) (x := (.slice a6 (k + 1) c6)) r1 (own_ne r1 d7 (by decide))
          have fB := hB6.setCell (p := ⟨g7, 1, none⟩) (show w3.heap.size ≤ g7 by omega) (.slice a6 (k + 1) c6)
          have fW : W.heap.size ≤ (w6.setCell ⟨g7, 1, none⟩ (.slice a6 (k + 1) c6)).heap.size := by rw [World.size_setCell]; omega
          have fr : wr.heap.size + 1 ≤ (w6.setCell ⟨g7, 1, none⟩ (.slice a6 (k + 1) c6)).heap.size := by rw [World.size_setCell]; omega
          have hD6 : ∀ b, (Value.slice a6 (k + 1) c6).ownBlock = some b → (Value.slice ao k co).ownBlock ≠ some b := fun b h1 h2 => by
            rcases r3 with h | h
            · exact hD b (h ▸ h1) h2
            · rw [h] at h1; injection h1 with h1; have := (ro.lt b h2).2; rw [World.size_alloc, World.size_alloc] at h1; omega
          clear r3 hD d71 d7f d7 d8 dX do_ hB6 r1 r2 hk6 ee1 ee2 ee3 hs6 hOsz b7 b8 c70 c71 ro rb q0 q1 q2 q3 q4
          have hlr := hWr
          generalize World.setCell _ _ _ = wz at *
          generalize wr.heap.size = nx at *
          have hxb : 0 ≤ x.f ∧ x.f < n ∧ 0 ≤ x.t ∧ x.t < n := ⟨hx.1, hx.2.1, hx.2.2.1, hx.2.2.2.1⟩
          have hxf := hxb.1
          have hxt := hxb.2.2.1
          have HXB := Lib.hid hxb
          clear hxb
          have hlb : ∀ b, (Value.slice a6 (k + 1) c6).ownBlock = some b → b < wz.heap.size := fun b h => (fb.lt b h).2
          replace hlb : ∀ b, (Value.slice a6 (k + 1) c6).ownBlock = some b → b < wz.drew.heap.size := hlb
          have bt := blk_keep b22 fB
          have bw := blk_keep b3 fB
          have e81 := cell_blk (i := 1) f8
          simp only [List.getElem?_toArray, List.getElem?_cons_zero, List.getElem?_cons_succ] at e81
          have hS0 : wz.drew.heap[nx]? = some (.cells #[.int .i64 x.f, .int .i64 x.t, .int .i64 x.lo, .int .i64 x.hi, .int .i64 x.b] 82 (0, 0)) ∧ wz.drew.cell? ⟨g8, 1, none⟩ = some (.slice ao k co) := ⟨fX, e81⟩
          clear e81
          replace f7 : wz.drew.heap[g7]? = _ := f7
          replace f8 : wz.drew.heap[g8]? = _ := f8
          replace bt : wz.drew.heap[w.heap.size + 1]? = _ := bt
          replace bw : wz.drew.heap[w2.heap.size]? = _ := bw
          replace fo : wz.drew.ownsRow W.heap.size 82 5 (.slice ao k co) k _ := fo
          replace fb : wz.drew.ownsRow W.heap.size 82 5 (.slice a6 (k + 1) c6) (k + 1) _ := fb
          replace fB := fB.drew
          replace fW : W.heap.size ≤ wz.drew.heap.size := fW
          replace fr : nx + 1 ≤ wz.drew.heap.size := fr
          clear fX hlr
          refine wp_region_z (z := 18) (S := fun U => U.heap[nx]? = some (.cells #[.int .i64 x.f, .int .i64 x.t, .int .i64 x.lo, .int .i64 x.hi, .int .i64 x.b] 82 (0, 0)) ∧ U.cell? ⟨g8, 1, none⟩ = some (.slice ao k co)) (by kernel_rfl) ?_
          change wpAnyZ _ _ _ _ _ _ _ _ _ (World.drew wz)
          generalize World.drew wz = wq at *
          clear wz
          refine wpAnyZ_take (i := 0) (oi := { dst := some 52, op := _, type := _, pos := _, after := _, guard := _ }) (v := ?_) rfl (by kernel_rfl) (by kernel_rfl) (by kernel_rfl) (fun _ _ _ h => h) (Or.inl ⟨by rfl, ?_⟩) hS0 ?_
          rotate_left
          · intro U hU
            go_simp
            all_goals with_reducible rfl
          simp only [Act.put, List.setIfInBounds_toArray, List.set_cons_zero, List.set_cons_succ]
          refine wpAnyZ_take (i := 1) (oi := { dst := some 53, op := _, type := _, pos := _, after := _, guard := _ }) (v := ?_) rfl (by kernel_rfl) (by kernel_rfl) (by kernel_rfl) (fun _ _ _ h => h) (Or.inl ⟨by rfl, ?_⟩) hS0 ?_
          rotate_left
          · intro U hU
            go_simp
            all_goals with_reducible rfl
          simp only [Act.put, List.setIfInBounds_toArray, List.set_cons_zero, List.set_cons_succ]
          refine wpAnyZ_take (i := 2) (oi := { dst := some 54, op := _, type := _, pos := _, after := _, guard := _ }) (v := ?_) rfl (by kernel_rfl) (by kernel_rfl) (by kernel_rfl) (fun _ _ _ h => h) (Or.inl ⟨by rfl, ?_⟩) hS0 ?_
          rotate_left
          · intro U hU
            have hU0 := cell_blk (i := 0) hU.1
            simp only [List.getElem?_toArray, List.getElem?_cons_zero] at hU0
            go_simp
            all_goals with_reducible rfl
          simp only [Act.put, List.setIfInBounds_toArray, List.set_cons_zero, List.set_cons_succ]
          refine wpAnyZ_take (i := 4) (oi := { dst := some 56, op := _, type := _, pos := _, after := _, guard := _ }) (v := ?_) rfl (by kernel_rfl) (by kernel_rfl) (by kernel_rfl) (fun _ _ _ h => h) (Or.inl ⟨by rfl, ?_⟩) hS0 ?_
          rotate_left
          · intro U hU
            go_simp
            all_goals with_reducible rfl
          simp only [Act.put, List.setIfInBounds_toArray, List.set_cons_zero, List.set_cons_succ]
          refine wpAnyZ_take (i := 5) (oi := { dst := some 57, op := _, type := _, pos := _, after := _, guard := _ }) (v := ?_) rfl (by kernel_rfl) (by kernel_rfl) (by kernel_rfl) (fun _ _ _ h => h) (Or.inl ⟨by rfl, ?_⟩) hS0 ?_
          rotate_left
          · intro U hU
            go_simp
            all_goals with_reducible rfl
          simp only [Act.put, List.setIfInBounds_toArray, List.set_cons_zero, List.set_cons_succ]
          refine wpAnyZ_take (i := 6) (oi := { dst := some 58, op := _, type := _, pos := _, after := _, guard := _ }) (v := ?_) rfl (by kernel_rfl) (by kernel_rfl) (by kernel_rfl) (fun _ _ _ h => h) (Or.inl ⟨by rfl, ?_⟩) hS0 ?_
          rotate_left
          · intro U hU
            have hU0 := cell_blk (i := 1) hU.1
            simp only [List.getElem?_toArray, List.getElem?_cons_zero, List.getElem?_cons_succ] at hU0
            go_simp
            all_goals with_reducible rfl
          simp only [Act.put, List.setIfInBounds_toArray, List.set_cons_zero, List.set_cons_succ]
          refine wpAnyZ_take (i := 8) (oi := { dst := some 60, op := _, type := _, pos := _, after := _, guard := _ }) (v := ?_) rfl (by kernel_rfl) (by kernel_rfl) (by kernel_rfl) (fun _ _ _ h => h) (Or.inl ⟨by rfl, ?_⟩) hS0 ?_
          rotate_left
          · intro U hU
            go_simp
            all_goals with_reducible rfl
          simp only [Act.put, List.setIfInBounds_toArray, List.set_cons_zero, List.set_cons_succ]
          refine wpAnyZ_take (i := 9) (oi := { dst := some 61, op := _, type := _, pos := _, after := _, guard := _ }) (v := ?_) rfl (by kernel_rfl) (by kernel_rfl) (by kernel_rfl) (fun _ _ _ h => h) (Or.inl ⟨by rfl, ?_⟩) hS0 ?_
          rotate_left
          · intro U hU
            have hU0 := cell_blk (i := 2) hU.1
            have hU1 := cell_blk (i := 3) hU.1
            simp only [List.getElem?_toArray, List.getElem?_cons_zero, List.getElem?_cons_succ] at hU0 hU1
            go_simp
            all_goals with_reducible rfl
          simp only [Act.put, List.setIfInBounds_toArray, List.set_cons_zero, List.set_cons_succ]
          refine wpAnyZ_take (i := 10) (oi := { dst := some 62, op := _, type := _, pos := _, after := _, guard := _ }) (v := ?_) rfl (by kernel_rfl) (by kernel_rfl) (by kernel_rfl) (fun _ _ _ h => h) (Or.inl ⟨by rfl, ?_⟩) hS0 ?_
          rotate_left
          · intro U hU
            go_simp
            all_goals with_reducible rfl
          simp only [Act.put, List.setIfInBounds_toArray, List.set_cons_zero, List.set_cons_succ]
          refine wpAnyZ_take (i := 11) (oi := { dst := some 63, op := _, type := _, pos := _, after := _, guard := _ }) (v := ?_) rfl (by kernel_rfl) (by kernel_rfl) (by kernel_rfl) (fun _ _ _ h => h) (Or.inl ⟨by rfl, ?_⟩) hS0 ?_
          rotate_left
          · intro U hU
            have hU0 := cell_blk (i := 4) hU.1
            simp only [List.getElem?_toArray, List.getElem?_cons_zero, List.getElem?_cons_succ] at hU0
            go_simp
            all_goals with_reducible rfl
          simp only [Act.put, List.setIfInBounds_toArray, List.set_cons_zero, List.set_cons_succ]
          refine wpAnyZ_take (i := 14) (oi := { dst := some 66, op := _, type := _, pos := _, after := _, guard := _ }) (v := ?_) rfl (by kernel_rfl) (by kernel_rfl) (by kernel_rfl) (fun _ _ _ h => h) (Or.inl ⟨by rfl, ?_⟩) hS0 ?_
          rotate_left
          · intro U hU
            go_simp
            all_goals with_reducible rfl
          simp only [Act.put, List.setIfInBounds_toArray, List.set_cons_zero, List.set_cons_succ]
          refine wpAnyZ_take (i := 15) (oi := { dst := some 67, op := _, type := _, pos := _, after := _, guard := _ }) (v := ?_) rfl (by kernel_rfl) (by kernel_rfl) (by kernel_rfl) (fun _ _ _ h => h) (Or.inl ⟨by rfl, ?_⟩) hS0 ?_
          rotate_left
          · intro U hU
            have hU0 := hU.2
            go_simp
            all_goals with_reducible rfl
          simp only [Act.put, List.setIfInBounds_toArray, List.set_cons_zero, List.set_cons_succ]
          obtain ⟨y0, hy0⟩ : ∃ y0, y0 = (x.f + T) % n := ⟨_, rfl⟩
          obtain ⟨y1, hy1⟩ : ∃ y1, y1 = (x.t + T) % n := ⟨_, rfl⟩
          have HY0 := Lib.hid hy0.symm
          have HY1 := Lib.hid hy1.symm
          clear hy0 hy1
          refine wpAnyZ_one (i := 3) (o := { dst := some 55, op := _, type := _, pos := _, after := _, guard := _ }) (by kernel_rfl) rfl (by rfl) (fun K1 hK1 => ?_)
          have HK1 := Lib.hid hK1; clear hK1
          go_simp
          refine (shift_any x.f T n _ (w.heap.size + 1) w2.heap.size wq ⟨HXB.out.1, by have := HXB.out; omega⟩ hT hnb bt bw).mono ?_
          rintro e w' ⟨rfl, hw'⟩
          rw [hw', HY0.out]
          clear hw' w'
          refine HK1.out _ _ (fun _ => hS0) ?_
          clear HK1 K1
          try simp only [Act.put, List.setIfInBounds_toArray, List.set_cons_zero, List.set_cons_succ]
          refine wpAnyZ_one (i := 7) (o := { dst := some 59, op := _, type := _, pos := _, after := _, guard := _ }) (by kernel_rfl) rfl (by rfl) (fun K1 hK1 => ?_)
          have HK1 := Lib.hid hK1; clear hK1
          go_simp
          refine (shift_any x.t T n _ (w.heap.size + 1) w2.heap.size wq ⟨HXB.out.2.2.1, by have := HXB.out; omega⟩ hT hnb bt bw).mono ?_
          rintro e w' ⟨rfl, hw'⟩
          rw [hw', HY1.out]
          clear hw' w'
          refine HK1.out _ _ (fun _ => hS0) ?_
          clear HK1 K1
          try simp only [Act.put, List.setIfInBounds_toArray, List.set_cons_zero, List.set_cons_succ]
          refine wpAnyZ_take (i := 12) (oi := { dst := some 64, op := _, type := _, pos := _, after := _, guard := _ }) (v := ?_) rfl (by kernel_rfl) (by kernel_rfl) (by kernel_rfl) (fun _ _ _ h => h) (Or.inl ⟨by rfl, ?_⟩) hS0 ?_
          rotate_left
          · intro U hU
            go_simp
            all_goals with_reducible rfl
          simp only [Act.put, List.setIfInBounds_toArray, List.set_cons_zero, List.set_cons_succ]
          refine wpAnyZ_one (i := 13) (o := { dst := some 65, op := _, type := _, pos := _, after := _, guard := _ }) (by kernel_rfl) rfl (by rfl) (fun K1 hK1 => ?_)
          have HK1 := Lib.hid hK1; clear hK1
          go_simp
          have l8q := lt_blk f8
          obtain ⟨bN, hBN, hsN⟩ := blk1 (rfl : wq.alloc (.cells #[.int .i64 y0, .int .i64 y1, .int .i64 x.lo, .int .i64 x.hi, .int .i64 x.b] 82) = _)
          replace f7 := blk_keep f7 hBN
          replace f8 := blk_keep f8 hBN
          replace bt := blk_keep bt hBN
          replace bw := blk_keep bw hBN
          have fo0 := fo
          have fW0 := fW
          replace fW := Nat.le_trans fW hBN.size
          replace fo := row_below fo hBN
          replace fb := row_below fb hBN
          have hl0 := fB.size
          have hl0 : w3.heap.size ≤ wq.heap.size := hl0
          replace fB := btr fB hBN (Nat.le_refl _)
          have fa : ∀ b, (Value.slice a6 (k + 1) c6).ownBlock = some b → b < wq.heap.size := fun b h => hlb b h
          have hS1 := And.intro (blk_keep hS0.1 hBN) ((hBN.cell (p := ⟨g8, 1, none⟩) l8q).trans hS0.2)
          clear hS0
          have hS0 := hS1
          clear hS1
          generalize wq.alloc (.cells #[.int .i64 y0, .int .i64 y1, .int .i64 x.lo, .int .i64 x.hi, .int .i64 x.b] 82) = wp at *
          refine HK1.out _ _ (fun _ => hS0) ?_
          clear HK1 K1
          try simp only [Act.put, List.setIfInBounds_toArray, List.set_cons_zero, List.set_cons_succ]
          have hown : wp.ownsRow W.heap.size 82 5 (.slice (some ⟨wq.heap.size, 0, none⟩) 1 1) 1 [.int .i64 y0, .int .i64 y1, .int .i64 x.lo, .int .i64 x.hi, .int .i64 x.b] := ⟨rfl, .inr ⟨wq.heap.size, 1, _, rfl, fW0, bN, by decide, by decide, rfl, rfl⟩⟩
          have hrl : ((List.map (turnO fun v => (v + T.toNat) % n.toNat) (List.take k ws)).reverse).length = k := by simp; omega
          have hR := reads_of_slG encA_len (by decide) (slG_own encA_len fo hrl.symm (by rw [hrl]; omega))
          have hone : ∀ u ∈ (((List.map (turnO fun v => (v + T.toNat) % n.toNat) (List.take k ws)).reverse).flatMap encA), u.oneCell' = true := by
            intro u hu
            obtain ⟨z, _, hz⟩ := List.mem_flatMap.1 hu
            simp only [encA, List.mem_cons, List.not_mem_nil, or_false] at hz
            rcases hz with rfl | rfl | rfl | rfl | rfl <;> rfl
          refine wpAnyZ_one (i := 16) (o := { dst := some 68, op := _, type := _, pos := _, after := _, guard := _ }) (by kernel_rfl) rfl (by rfl) (fun K1 hK1 => ?_)
          have HK1 := Lib.hid hK1; clear hK1
          refine wp_append_any _ _ _ 22 rfl W.heap.size 82 i82 (.agg #[.int .i64 0, .int .i64 0, .int .i64 0, .int .i64 0, .int .i64 0]) 5 40 Try.underlying22 HI.out.1 HI.out.2.1 HI.out.2.2.1 HI.out.2.2.2 rfl (by decide) _ 1 _ rfl hown wp.heap.size ao k co _ rfl hR hone (Nat.le_trans (by omega : 1 + k ≤ 50) (by decide)) (by omega) (by omega) ?_
          intro v8 w8 g1 g2 g3
          have hkk : ∀ j, j < wp.heap.size → j ≠ wq.heap.size → w8.heap[j]? = wp.heap[j]? := fun j h1 h2 => g2.block j h1 (fun e => h2 (Option.some.inj e))
          obtain ⟨a8, c8, rfl⟩ := form_of g1
          have d7 := (hkk g7 (lt_blk f7) (by omega)).trans f7
          have d8 := (hkk g8 (lt_blk f8) (by omega)).trans f8
          have db := row_same fb (fun g hg => hkk g (fb.lt g hg).2 (by have := fa g hg; omega))
          have hfs := fB.size
          have hg2 := g2.size
          have hB8 : Below w3.heap.size w3 w8 := ⟨g2.os.trans fB.os, g2.tape.trans fB.tape, g2.output.trans fB.output, by omega, fun b hb => (hkk b (by omega) (by omega)).trans (fB.block b hb)⟩
          have hD8 : ∀ b, (Value.slice a6 (k + 1) c6).ownBlock = some b → (Value.slice a8 (1 + k) c8).ownBlock ≠ some b := fun b h1 h2 => by
            have h4 := fa b h1
            rcases g3 with h | h
            · have h5 := h.symm.trans h2; have h6 : wq.heap.size = b := Option.some.inj h5; omega
            · have h5 := h.symm.trans h2; have h6 : wp.heap.size = b := Option.some.inj h5; omega
          have hS8 := And.intro ((hkk nx (lt_blk hS0.1) (by omega)).trans hS0.1) ((World.cell?_of_block (w := wp) (a := ⟨g8, 1, none⟩) (hkk g8 (lt_blk f8) (by omega))).trans hS0.2)
          refine HK1.out _ _ (fun _ => hS8) ?_
          clear HK1 K1 hS0
          have hS0 := hS8
          clear g3 hown hR hone f7 f8 fb fo fo0 fB
          try simp only [Act.put, List.setIfInBounds_toArray, List.set_cons_zero, List.set_cons_succ]
          refine wpAnyZ_take (i := 17) (oi := { dst := some 69, op := _, type := _, pos := _, after := _, guard := _ }) (v := ?_) rfl (by kernel_rfl) (by kernel_rfl) (by kernel_rfl) (fun _ _ _ h => h) (Or.inl ⟨by rfl, ?_⟩) hS0 ?_
          rotate_left
          · intro U hU
            go_simp
            all_goals with_reducible rfl
          simp only [Act.put, List.setIfInBounds_toArray, List.set_cons_zero, List.set_cons_succ]
          refine wpAnyZ_last (o := { dst := none, op := _, type := _, pos := _, after := _, guard := _ }) (by kernel_rfl) (by kernel_rfl) rfl (by rfl) (fun K1 hK1 => ?_)
          have HK1 := Lib.hid hK1; clear hK1
          have e8f := free_blk (i := 1) d8
          have e81 := cell_blk (i := 1) d8
          simp only [List.getElem?_toArray, List.getElem?_cons_zero, List.getElem?_cons_succ] at e81
          go_simp
          have n8 : (w8.setCell ⟨g8, 1, none⟩ (.slice a8 (1 + k) c8)).heap[g8]? = some (.cells #[.int .i64 n, .slice a8 (1 + k) c8] 24 (0, 0)) := (heap_set_blk d8).trans rfl
          have n7 := (heap_set_other (v := (.slice a8 (1 + k) c8)) (b' := g8) (i := 1) hne).trans d7
          refine HK1.out _ _ ?_
          clear HK1 K1
          have nb := row_set_other (b := g8) (i := 1) (x := (.slice a8 (1 + k) c8)) db (own_ne db d8 (by decide))
          have no := row_set_other (b := g8) (i := 1) (x := (.slice a8 (1 + k) c8)) g1 (own_ne g1 d8 (by decide))
          have nB := hB8.setCell (p := ⟨g8, 1, none⟩) (show w3.heap.size ≤ g8 by omega) (.slice a8 (1 + k) c8)
          have nW : W.heap.size ≤ (w8.setCell ⟨g8, 1, none⟩ (.slice a8 (1 + k) c8)).heap.size := by rw [World.size_setCell]; omega
          have hxk : x = ws[k] := HX.out.trans (at_lt hkn)
          have q1 : (List.map turnB (List.take (k + 1) ws)).flatMap encA = List.flatMap encA (List.map turnB (List.take k ws)) ++ [.int .i64 x.t, .int .i64 x.f, .int .i64 x.lo, .int .i64 x.hi, .int .i64 x.b] := by
            rw [List.take_succ_eq_append_getElem hkn, List.map_append, List.flatMap_append, ← hxk]; rfl
          have q2 : ((List.map (turnO fun v => (v + T.toNat) % n.toNat) (List.take (k + 1) ws)).reverse).flatMap encA = [.int .i64 y0, .int .i64 y1, .int .i64 x.lo, .int .i64 x.hi, .int .i64 x.b] ++ ((List.map (turnO fun v => (v + T.toNat) % n.toNat) (List.take k ws)).reverse).flatMap encA := by
            rw [List.take_succ_eq_append_getElem hkn, List.map_append, List.reverse_append, List.flatMap_append, ← hxk, ← HY0.out, ← HY1.out]
            simp only [List.map_cons, List.map_nil, List.reverse_cons, List.reverse_nil, List.nil_append, List.flatMap_cons, List.flatMap_nil, List.append_nil, turnO, encA]
            rw [shift_nat hxf hT hnb.1, shift_nat hxt hT hnb.1]
          rw [← q1] at nb
          rw [← q2] at no
          simp only [Exit.then, Exit.inBlock]
          refine HK0.out _ _ ?_
          clear HK0 d7 d8 db g1 g2 hkk e8f e81 q1 q2 hS0 hS8 hB8
          generalize World.setCell _ _ _ = w9 at *
          go_wp2
          go_roundw
          case rel =>
            rw [Nat.add_comm 1 k] at no n8 hD8
            exact ⟨k + 1, _, _, by omega, by go_num, n7, n8, nb, no, hD8, nB, nW⟩
          case measure => simp [intOf]; omega
      · focus
          have hke : k = ws.length := by omega
          subst hke
          obtain ⟨m, rfl⟩ : ∃ m : Nat, n = m := ⟨n.toNat, by omega⟩
          rw [List.take_length] at rb ro
          obtain ⟨ab, cb, rfl⟩ := form_of rb
          obtain ⟨ao, co, rfl⟩ := form_of ro
          have HV := Lib.hid (hV3.below hB3 (Nat.le_refl _))
          have HVB := Lib.hid (slG_own encA_len rb (by simp) (by simp; omega))
          have HVO := Lib.hid (slG_own encA_len ro (by simp) (by simp; omega))
          have b5 := blk_keep b3 hB3
          have bt := blk_keep b22 hB3
          have B := btr hB hB3 (Nat.le_refl _)
          have hval : Val m ws := val_mem.2 ⟨⟨by omega, by omega⟩, by omega, fun x hx => by have := HM.out.ok x hx; unfold okM at this; unfold okV; omega⟩
          rw [Int.toNat_natCast] at HVO
          have hrn := ren_turn (n := m) (T := T.toNat) (by omega)
          have hrw := renW_rev (fun v => (v + T.toNat) % m) ws
          obtain ⟨eb1, eb2⟩ := pace_turnB hval
          have eb3 := chk_turnB hval
          obtain ⟨eo1, eo2, eo4⟩ := pace_ren hval hrn hrw
          have eo3 := chk_ren hval hrn hrw
          have hch := chk_of hval
          have HE := Lib.hid (And.intro (And.intro eb1 (And.intro eb2 eb3)) (And.intro eo1 (And.intro eo2 eo3)))
          have HO4 := Lib.hid eo4
          have HCH := Lib.hid hch
          have HVL := Lib.hid hval
          obtain ⟨wO, hwO⟩ : ∃ wO, wO = (List.map (turnO fun v => (v + T.toNat) % m) ws).reverse := ⟨_, rfl⟩
          rw [← hwO] at HVO HE HO4
          clear rb ro hD hV3 hB eb1 eb2 eb3 eo1 eo2 eo3 eo4 hrn hrw hch hval hwO b3 b22 HM hkn hk HI
          have hkl : ¬ ((ws.length : Int) < (ws.length : Int)) := by omega
          go_wp2
          refine HK.out _ _ ?_
          clear HK
          refine wp_seq_k (fun K hK => ?_)
          have HK := Lib.hid hK; clear hK
          go_wp2_with (first | (refine wpList_load_blk rfl 24 _ rfl _ rfl b5 Try.underlying24 rfl size24 rfl ?_) | (go_at_call 18; refine (pace_any _ _ ws _ HV.out).mono ?_; rintro e w4 ⟨rfl, hb⟩))
          refine HK.out _ _ ?_; clear HK K
          replace b5 := blk_keep b5 hb
          replace b7 := blk_keep b7 hb
          replace b8 := blk_keep b8 hb
          replace bt := blk_keep bt hb
          have HV := Lib.hid (HV.out.below hb (Nat.le_refl _))
          have HVB := Lib.hid (HVB.out.below hb (Nat.le_refl _))
          have HVO := Lib.hid (HVO.out.below hb (Nat.le_refl _))
          replace B := btr B hb (Nat.le_refl _)
          clear hb
          generalize hwx : World.alloc _ _ = w4a
          obtain ⟨bp, hb, -⟩ := blk1 hwx
          clear hwx
          replace b5 := blk_keep b5 hb
          replace b7 := blk_keep b7 hb
          replace b8 := blk_keep b8 hb
          replace bt := blk_keep bt hb
          have HV := Lib.hid (HV.out.below hb (Nat.le_refl _))
          have HVB := Lib.hid (HVB.out.below hb (Nat.le_refl _))
          have HVO := Lib.hid (HVO.out.below hb (Nat.le_refl _))
          replace B := btr B hb (Nat.le_refl _)
          clear hb
          refine wp_seq_k (fun K hK => ?_)
          have HK := Lib.hid hK; clear hK
          go_wp2_with (first | (refine wpList_load_blk rfl 24 _ rfl _ rfl b7 Try.underlying24 rfl size24 rfl ?_) | (go_at_call 18; refine (pace_any _ _ (ws.map turnB) _ HVB.out).mono ?_; rintro e w5 ⟨rfl, hb⟩; rw [HE.out.1.1, HE.out.1.2.1, HE.out.1.2.2]))
          refine HK.out _ _ ?_; clear HK K
          replace b5 := blk_keep b5 hb
          replace b7 := blk_keep b7 hb
          replace b8 := blk_keep b8 hb
          replace bt := blk_keep bt hb
          replace bp := blk_keep bp hb
          have HV := Lib.hid (HV.out.below hb (Nat.le_refl _))
          have HVB := Lib.hid (HVB.out.below hb (Nat.le_refl _))
          have HVO := Lib.hid (HVO.out.below hb (Nat.le_refl _))
          replace B := btr B hb (Nat.le_refl _)
          clear hb
          generalize hwx : World.alloc _ _ = w5a
          obtain ⟨bq, hb, -⟩ := blk1 hwx
          clear hwx
          replace b5 := blk_keep b5 hb
          replace b7 := blk_keep b7 hb
          replace b8 := blk_keep b8 hb
          replace bt := blk_keep bt hb
          replace bp := blk_keep bp hb
          have HV := Lib.hid (HV.out.below hb (Nat.le_refl _))
          have HVB := Lib.hid (HVB.out.below hb (Nat.le_refl _))
          have HVO := Lib.hid (HVO.out.below hb (Nat.le_refl _))
          replace B := btr B hb (Nat.le_refl _)
          clear hb
          refine wp_seq_k (fun K hK => ?_)
          have HK := Lib.hid hK; clear hK
          go_wp2_with (first | (refine wpList_load_blk rfl 24 _ rfl _ rfl b8 Try.underlying24 rfl size24 rfl ?_) | (go_at_call 18; refine (pace_any _ _ wO _ HVO.out).mono ?_; rintro e w6 ⟨rfl, hb⟩; rw [HE.out.2.1, HE.out.2.2.1, HE.out.2.2.2]))
          refine HK.out _ _ ?_; clear HK K
          replace b5 := blk_keep b5 hb
          replace b7 := blk_keep b7 hb
          replace b8 := blk_keep b8 hb
          replace bt := blk_keep bt hb
          replace bp := blk_keep bp hb
          replace bq := blk_keep bq hb
          have HV := Lib.hid (HV.out.below hb (Nat.le_refl _))
          have HVB := Lib.hid (HVB.out.below hb (Nat.le_refl _))
          have HVO := Lib.hid (HVO.out.below hb (Nat.le_refl _))
          replace B := btr B hb (Nat.le_refl _)
          clear hb
          generalize hwx : World.alloc _ _ = w6a
          obtain ⟨br, hb, -⟩ := blk1 hwx
          clear hwx
          replace b5 := blk_keep b5 hb
          replace b7 := blk_keep b7 hb
          replace b8 := blk_keep b8 hb
          replace bt := blk_keep bt hb
          replace bp := blk_keep bp hb
          replace bq := blk_keep bq hb
          have HV := Lib.hid (HV.out.below hb (Nat.le_refl _))
          have HVB := Lib.hid (HVB.out.below hb (Nat.le_refl _))
          have HVO := Lib.hid (HVO.out.below hb (Nat.le_refl _))
          replace B := btr B hb (Nat.le_refl _)
          clear hb
          refine wp_seq_k (fun K hK => ?_)
          have HK := Lib.hid hK; clear hK
          go_wp2_with (first | (refine wpList_load_blk rfl 24 _ rfl _ rfl b5 Try.underlying24 rfl size24 rfl ?_) | (go_at_call 28; refine (table_any _ _ ws _ HV.out).mono ?_; rintro e w7 ⟨⟨ta, rfl, hta⟩, hb⟩; have hta0 := hta; obtain ⟨aa, ca, rfl⟩ := slI_form hta))
          refine HK.out _ _ ?_; clear HK K
          replace b5 := blk_keep b5 hb
          replace b7 := blk_keep b7 hb
          replace b8 := blk_keep b8 hb
          replace bt := blk_keep bt hb
          replace bp := blk_keep bp hb
          replace bq := blk_keep bq hb
          replace br := blk_keep br hb
          have HV := Lib.hid (HV.out.below hb (Nat.le_refl _))
          have HVB := Lib.hid (HVB.out.below hb (Nat.le_refl _))
          have HVO := Lib.hid (HVO.out.below hb (Nat.le_refl _))
          replace B := btr B hb (Nat.le_refl _)
          have HTA := Lib.hid hta0
          clear hb hta hta0
          refine wp_seq_k (fun K hK => ?_)
          have HK := Lib.hid hK; clear hK
          go_wp2_with (first | (refine wpList_load_blk rfl 24 _ rfl _ rfl b8 Try.underlying24 rfl size24 rfl ?_) | (go_at_call 28; refine (table_any _ _ wO _ HVO.out).mono ?_; rintro e w8 ⟨⟨tb, rfl, htb⟩, hb⟩; have htb0 := htb; obtain ⟨ao2, co2, rfl⟩ := slI_form htb))
          refine HK.out _ _ ?_; clear HK K
          replace b5 := blk_keep b5 hb
          replace b7 := blk_keep b7 hb
          replace b8 := blk_keep b8 hb
          replace bt := blk_keep bt hb
          replace bp := blk_keep bp hb
          replace bq := blk_keep bq hb
          replace br := blk_keep br hb
          have HV := Lib.hid (HV.out.below hb (Nat.le_refl _))
          have HVB := Lib.hid (HVB.out.below hb (Nat.le_refl _))
          have HVO := Lib.hid (HVO.out.below hb (Nat.le_refl _))
          have HTA := Lib.hid (HTA.out.below hb (Nat.le_refl _))
          replace B := btr B hb (Nat.le_refl _)
          have HTB := Lib.hid htb0
          clear hb htb htb0
          have hO3 := HE.out.2.2.2
          have hEE : chkE m ws = 0 ∨ chkE m ws = 16 := by rw [HCH.out]; by_cases h : NS ws <;> simp [h]
          generalize pnum (m : Int) ws = P at *
          generalize pden (m : Int) ws = D at *
          clear HV HVB HVO
          rcases hEE with hE0 | hE0
          · rw [hE0]
            rw [hE0] at hO3
            have hla : (tabL m ws).length = m := by rw [tabL_ok hE0]; simp
            have hlb : (tabL m wO).length = m := by rw [tabL_ok hO3]; simp
            rw [hla, hlb]
            have heq : ∀ k, k < m → ∀ jj, jj = (k + T.toNat) % m → at0 (tabL m ws) k = at0 (tabL m wO) jj := fun k hk jj hj => by
              have h1 := HO4.out hE0 k hk
              have hjl : jj < m := by rw [hj]; exact Nat.mod_lt _ (by omega)
              rw [tabL_ok hE0, tabL_ok hO3]
              simp only [at0, List.getD_eq_getElem?_getD, List.getElem?_map, List.getElem?_range hk, List.getElem?_range hjl, Option.map_some, Option.getD_some]
              rw [hj, ← h1]
            have HEQ := Lib.hid heq
            clear heq
            have HLA := Lib.hid (And.intro hla hlb)
            have hta := HTA.out
            have htb := HTB.out
            obtain ⟨aa0, ca0, e0, -, -, hca⟩ := hta
            obtain ⟨ab0, cb0, e1, -, -, hcb⟩ := htb
            injection e0 with e00 _ e01
            injection e1 with e10 _ e11
            subst e00 e01 e10 e11
            obtain ⟨ba, oa, rfl, hlta, hcella⟩ := hca (by rw [hla]; omega)
            obtain ⟨bb, ob, rfl, hltb, hcellb⟩ := hcb (by rw [hlb]; omega)
            have HCA := Lib.hid hcella
            have HCB := Lib.hid hcellb
            have c50 := cell_blk (i := 0) b5
            simp only [List.getElem?_toArray, List.getElem?_cons_zero] at c50
            clear hcella hcellb hca hcb hla hlb hO3 hE0
            go_wp2_with (first | (refine wpList_load_blk rfl 26 _ rfl _ rfl bp Try.underlying26 rfl size26 rfl ?_) | (refine wpList_load_blk rfl 26 _ rfl _ rfl bq Try.underlying26 rfl size26 rfl ?_) | (refine wpList_load_blk rfl 26 _ rfl _ rfl br Try.underlying26 rfl size26 rfl ?_))
            go_loopw [147] (fun i wr => ∃ k : Nat, k ≤ m ∧ i = .int .i64 k ∧ Below w8.heap.size w8 wr) (fun i _ => m - (intOf i).toNat)
            case atStart => exact ⟨0, Nat.zero_le _, rfl, Below.refl _ _⟩
            case round =>
              obtain ⟨k, hk, rfl, hB9⟩ := hrel
              by_cases hkm : k < m
              · have hki : (k : Int) < (m : Int) := by omega
                obtain ⟨jj, hjj⟩ : ∃ jj, jj = (k + T.toNat) % m := ⟨_, rfl⟩
                have hjm : jj < m := by rw [hjj]; exact Nat.mod_lt _ (by omega)
                have hji : (jj : Int) < (m : Int) := by omega
                have hjE : ((k : Int) + T) % (m : Int) = (jj : Int) := by
                  have := shift_nat (a := (k : Int)) (n := (m : Int)) (by omega) hT (by omega)
                  rw [← this, hjj]; rfl
                have HJE := Lib.hid hjE
                have HJJ := Lib.hid hjj
                clear hjE hjj
                have cA := (hB9.cell (p := ⟨ba, oa + k, none⟩) hlta).trans (HCA.out k (by rw [HLA.out.1]; exact hkm))
                have cB := (hB9.cell (p := ⟨bb, ob + jj, none⟩) hltb).trans (HCB.out jj (by rw [HLA.out.2]; exact hjm))
                have e5 := blk_keep b5 hB9
                have et := blk_keep bt hB9
                have heq : at0 (tabL m ws) k = at0 (tabL m wO) jj := HEQ.out k hkm jj HJJ.out
                go_wp2
                have hwk0 : 0 ≤ (k : Int) ∧ (k : Int) < 1000 := by omega
                have hS0 : wr.drew.cell? ⟨ba, oa + k, none⟩ = some (.int .i64 (at0 (tabL m ws) k)) ∧ wr.drew.cell? ⟨bb, ob + jj, none⟩ = some (.int .i64 (at0 (tabL m wO) jj)) := ⟨cA, cB⟩
                replace e5 : wr.drew.heap[w2.heap.size]? = _ := e5
                replace et : wr.drew.heap[w.heap.size + 1]? = _ := et
                replace hB9 := hB9.drew
                clear cA cB
                rename_i K0 hK0
                have HK0 := Lib.hid hK0
                clear hK0
                refine wp_region_held (S := fun U => U.cell? ⟨ba, oa + k, none⟩ = some (.int .i64 (at0 (tabL m ws) k)) ∧ U.cell? ⟨bb, ob + jj, none⟩ = some (.int .i64 (at0 (tabL m wO) jj))) (by kernel_rfl) ?_
                change wpAnyH _ _ _ _ _ _ _ _ (World.drew wr)
                generalize World.drew wr = wq at *
                refine wpAnyH_take (i := 0) (oi := { dst := some 150, op := _, type := _, pos := _, after := _, guard := _ }) (v := ?_) rfl (by kernel_rfl) (by kernel_rfl) (by kernel_rfl) (fun _ _ _ h => h) (Or.inl ⟨by rfl, ?_⟩) hS0 ?_
                rotate_left
                · intro U hU
                  go_simp
                  all_goals with_reducible rfl
                simp only [Act.put, List.setIfInBounds_toArray, List.set_cons_zero, List.set_cons_succ]
                refine wpAnyH_take (i := 1) (oi := { dst := some 151, op := _, type := _, pos := _, after := _, guard := _ }) (v := ?_) rfl (by kernel_rfl) (by kernel_rfl) (by kernel_rfl) (fun _ _ _ h => h) (Or.inl ⟨by rfl, ?_⟩) hS0 ?_
                rotate_left
                · intro U hU
                  go_simp
                  all_goals with_reducible rfl
                simp only [Act.put, List.setIfInBounds_toArray, List.set_cons_zero, List.set_cons_succ]
                refine wpAnyH_take (i := 2) (oi := { dst := some 152, op := _, type := _, pos := _, after := _, guard := _ }) (v := ?_) rfl (by kernel_rfl) (by kernel_rfl) (by kernel_rfl) (fun _ _ _ h => h) (Or.inl ⟨by rfl, ?_⟩) hS0 ?_
                rotate_left
                · intro U hU
                  go_simp
                  all_goals with_reducible rfl
                simp only [Act.put, List.setIfInBounds_toArray, List.set_cons_zero, List.set_cons_succ]
                refine wpAnyH_take (i := 3) (oi := { dst := some 153, op := _, type := _, pos := _, after := _, guard := _ }) (v := ?_) rfl (by kernel_rfl) (by kernel_rfl) (by kernel_rfl) (fun _ _ _ h => h) (Or.inl ⟨by rfl, ?_⟩) hS0 ?_
                rotate_left
                · intro U hU
                  have hU0 := hU.1
                  go_simp
                  all_goals with_reducible rfl
                simp only [Act.put, List.setIfInBounds_toArray, List.set_cons_zero, List.set_cons_succ]
                refine wpAnyH_take (i := 4) (oi := { dst := some 154, op := _, type := _, pos := _, after := _, guard := _ }) (v := ?_) rfl (by kernel_rfl) (by kernel_rfl) (by kernel_rfl) (fun _ _ _ h => h) (Or.inl ⟨by rfl, ?_⟩) hS0 ?_
                rotate_left
                · intro U hU
                  go_simp
                  all_goals with_reducible rfl
                simp only [Act.put, List.setIfInBounds_toArray, List.set_cons_zero, List.set_cons_succ]
                refine wpAnyH_take (i := 5) (oi := { dst := some 155, op := _, type := _, pos := _, after := _, guard := _ }) (v := ?_) rfl (by kernel_rfl) (by kernel_rfl) (by kernel_rfl) (fun _ _ _ h => h) (Or.inl ⟨by rfl, ?_⟩) hS0 ?_
                rotate_left
                · intro U hU
                  go_simp
                  all_goals with_reducible rfl
                simp only [Act.put, List.setIfInBounds_toArray, List.set_cons_zero, List.set_cons_succ]
                refine wpAnyH_take (i := 6) (oi := { dst := some 156, op := _, type := _, pos := _, after := _, guard := _ }) (v := ?_) rfl (by kernel_rfl) (by kernel_rfl) (by kernel_rfl) (fun _ _ _ h => h) (Or.inl ⟨by rfl, ?_⟩) hS0 ?_
                rotate_left
                · intro U hU
                  go_simp
                  all_goals with_reducible rfl
                simp only [Act.put, List.setIfInBounds_toArray, List.set_cons_zero, List.set_cons_succ]
                refine wpAnyH_one (i := 7) (o := { dst := some 157, op := _, type := _, pos := _, after := _, guard := _ }) (by kernel_rfl) rfl (by rfl) (fun K1 hK1 => ?_)
                have HK1 := Lib.hid hK1; clear hK1
                go_simp
                refine (shift_any k T m _ (w.heap.size + 1) w2.heap.size wq hwk0 hT hnb et e5).mono ?_
                rintro e w' ⟨rfl, hw'⟩
                rw [hw', HJE.out]
                clear hw' w'
                refine HK1.out _ _ hS0 ?_
                clear HK1 K1
                try simp only [Act.put, List.setIfInBounds_toArray, List.set_cons_zero, List.set_cons_succ]
                refine wpAnyH_take (i := 8) (oi := { dst := some 158, op := _, type := _, pos := _, after := _, guard := _ }) (v := ?_) rfl (by kernel_rfl) (by kernel_rfl) (by kernel_rfl) (fun _ _ _ h => h) (Or.inl ⟨by rfl, ?_⟩) hS0 ?_
                rotate_left
                · intro U hU
                  go_simp
                  all_goals with_reducible rfl
                simp only [Act.put, List.setIfInBounds_toArray, List.set_cons_zero, List.set_cons_succ]
                refine wpAnyH_take (i := 9) (oi := { dst := some 159, op := _, type := _, pos := _, after := _, guard := _ }) (v := ?_) rfl (by kernel_rfl) (by kernel_rfl) (by kernel_rfl) (fun _ _ _ h => h) (Or.inl ⟨by rfl, ?_⟩) hS0 ?_
                rotate_left
                · intro U hU
                  have hU0 := hU.2
                  go_simp
                  all_goals with_reducible rfl
                simp only [Act.put, List.setIfInBounds_toArray, List.set_cons_zero, List.set_cons_succ]
                refine wpAnyH_take (i := 10) (oi := { dst := some 160, op := _, type := _, pos := _, after := _, guard := _ }) (v := ?_) rfl (by kernel_rfl) (by kernel_rfl) (by kernel_rfl) (fun _ _ _ h => h) (Or.inl ⟨by rfl, ?_⟩) hS0 ?_
                rotate_left
                · intro U hU
                  go_simp
                  all_goals with_reducible rfl
                simp only [Act.put, List.setIfInBounds_toArray, List.set_cons_zero, List.set_cons_succ]
                refine wpAnyH_done (by kernel_rfl) ?_ _
                simp only [Exit.then]
                refine HK0.out _ _ ?_
                clear HK0
                go_wp2
                go_roundw
                case rel => exact ⟨k + 1, by omega, by go_num, hB9⟩
                case measure => simp [intOf]; omega
              · have hke : k = m := by omega
                subst hke
                have hkl : ¬ ((k : Int) < (k : Int)) := by omega
                go_wp2_with (go_at_call 16; refine (works_any _).mono ?_; rintro e w9 ⟨rfl, hb⟩)
                go_ret
                exact ⟨rfl, btr (btr B hB9 (Nat.le_refl _)) hb (Nat.le_refl _)⟩
          · rw [hE0]
            rw [hE0] at hO3
            go_wp2_with (first | (refine wpList_load_blk rfl 26 _ rfl _ rfl bp Try.underlying26 rfl size26 rfl ?_) | (refine wpList_load_blk rfl 26 _ rfl _ rfl bq Try.underlying26 rfl size26 rfl ?_) | (refine wpList_load_blk rfl 26 _ rfl _ rfl br Try.underlying26 rfl size26 rfl ?_))
            refine (works_any _).mono ?_
            rintro e w9 ⟨rfl, hb⟩
            go_wp2
            go_ret
            exact ⟨rfl, btr B hb (Nat.le_refl _)⟩
  clear HK
  have hQ : Below w3.heap.size w3 w3.drew := (Below.refl _ _).drew
  have hQs : w3.drew.heap.size ≤ w3.heap.size ∧ w3.heap.size ≤ w3.drew.heap.size := ⟨Nat.le_refl _, Nat.le_refl _⟩
  have hS0 : w3.drew.cell? ⟨w2.heap.size, 0, none⟩ = some (.int .i64 n) := by
    have := cell_blk (i := 0) b3
    simp only [List.getElem?_toArray, List.getElem?_cons_zero] at this
    exact this
  replace b3 : w3.drew.heap[w2.heap.size]? = _ := b3
  replace b22 : w3.drew.heap[w.heap.size + 1]? = _ := b22
  replace hV3 : SlA w3.drew (.slice av ws.length cv) ws := hV3
  replace hB := hB.drew
  refine wp_region_held (S := fun U => U.cell? ⟨w2.heap.size, 0, none⟩ = some (.int .i64 n)) (by kernel_rfl) ?_
  change wpAnyH _ _ _ _ _ _ _ _ (World.drew w3)
  generalize World.drew w3 = wq at *
  have hA1 : (wq.alloc (.cells #[.int .i64 0, .slice none 0 0] 24)).cell? ⟨w2.heap.size, 0, none⟩ = some (.int .i64 n) := (((Below.refl _ wq).alloc (Nat.le_refl _) (.cells #[.int .i64 0, .slice none 0 0] 24)).cell (p := ⟨w2.heap.size, 0, none⟩) (lt_blk b3)).trans hS0
  have hA2 : ((wq.alloc (.cells #[.int .i64 0, .slice none 0 0] 24)).alloc (.cells #[.int .i64 0, .slice none 0 0] 24)).cell? ⟨w2.heap.size, 0, none⟩ = some (.int .i64 n) := ((((Below.refl _ wq).alloc (Nat.le_refl _) (.cells #[.int .i64 0, .slice none 0 0] 24)).alloc (by simp) (.cells #[.int .i64 0, .slice none 0 0] 24)).cell (p := ⟨w2.heap.size, 0, none⟩) (lt_blk b3)).trans hS0
  refine wpAnyH_take (i := 0) (oi := { dst := some 25, op := _, type := _, pos := _, after := _, guard := _ }) (v := ?_) rfl (by kernel_rfl) (by kernel_rfl) (by kernel_rfl) (fun _ _ _ h => h) (Or.inl ⟨by rfl, ?_⟩) hS0 ?_
  rotate_left
  · intro U hU
    go_simp
    all_goals with_reducible rfl
  simp only [Act.put, List.setIfInBounds_toArray, List.set_cons_zero, List.set_cons_succ]
  refine wpAnyH_take (i := 1) (oi := { dst := some 26, op := _, type := _, pos := _, after := _, guard := _ }) (v := ?_) rfl (by kernel_rfl) (by kernel_rfl) (by kernel_rfl) (fun _ _ _ h => h) (Or.inl ⟨by rfl, ?_⟩) hS0 ?_
  rotate_left
  · intro U hU
    go_simp
    all_goals with_reducible rfl
  simp only [Act.put, List.setIfInBounds_toArray, List.set_cons_zero, List.set_cons_succ]
  refine wpAnyH_take (i := 2) (oi := { dst := some 27, op := _, type := _, pos := _, after := _, guard := _ }) (v := ?_) rfl (by kernel_rfl) (by kernel_rfl) (by kernel_rfl) (fun _ _ _ h => h) (Or.inl ⟨by rfl, ?_⟩) hS0 ?_
  rotate_left
  · intro U hU
    go_simp
    all_goals with_reducible rfl
  simp only [Act.put, List.setIfInBounds_toArray, List.set_cons_zero, List.set_cons_succ]
  refine wpAnyH_take (i := 3) (oi := { dst := some 28, op := _, type := _, pos := _, after := _, guard := _ }) (v := ?_) rfl (by kernel_rfl) (by kernel_rfl) (by kernel_rfl) (fun _ _ _ h => h) (Or.inl ⟨by rfl, ?_⟩) hS0 ?_
  rotate_left
  · intro U hU
    go_simp
    all_goals with_reducible rfl
  simp only [Act.put, List.setIfInBounds_toArray, List.set_cons_zero, List.set_cons_succ]
  refine wpAnyH_take (i := 4) (oi := { dst := some 29, op := _, type := _, pos := _, after := _, guard := _ }) (v := ?_) rfl (by kernel_rfl) (by kernel_rfl) (by kernel_rfl) (fun _ _ _ h => h) (Or.inl ⟨by rfl, ?_⟩) hS0 ?_
  rotate_left
  · intro U hU
    go_simp
    all_goals with_reducible rfl
  simp only [Act.put, List.setIfInBounds_toArray, List.set_cons_zero, List.set_cons_succ]
  refine wpAnyH_take (i := 5) (oi := { dst := some 30, op := _, type := _, pos := _, after := _, guard := _ }) (v := ?_) rfl (by kernel_rfl) (by kernel_rfl) (by kernel_rfl) (fun _ _ _ h => h) (Or.inl ⟨by rfl, ?_⟩) hS0 ?_
  rotate_left
  · intro U hU
    go_simp
    all_goals with_reducible rfl
  simp only [Act.put, List.setIfInBounds_toArray, List.set_cons_zero, List.set_cons_succ]
  refine wpAnyH_ready (rs := [6, 7]) (by kernel_rfl) (by simp) ?_
  refine AllReadyH.cons (o := { dst := some 7, op := _, type := _, pos := _, after := _, guard := _ }) rfl (fun K1 hK1 => ?_) ?_
  · have HK1 := Lib.hid hK1; clear hK1
    rw [if_pos (by rfl)]
    go_simp
    refine HK1.out _ _ (hA1) ?_
    clear HK1 K1
    intro _
    try simp only [Act.put, List.setIfInBounds_toArray, List.set_cons_zero, List.set_cons_succ]
    refine wpAnyH_one (i := 7) (o := { dst := some 8, op := _, type := _, pos := _, after := _, guard := _ }) (by kernel_rfl) rfl (by rfl) (fun K1 hK1 => ?_)
    have HK1 := Lib.hid hK1; clear hK1
    go_simp
    refine HK1.out _ _ (hA2) ?_
    clear HK1 K1
    try simp only [Act.put, List.setIfInBounds_toArray, List.set_cons_zero, List.set_cons_succ]
    obtain ⟨h0, h1, hBB, hss⟩ := blk2 (rfl : (wq.alloc (.cells #[.int .i64 0, .slice none 0 0] 24)).alloc (.cells #[.int .i64 0, .slice none 0 0] 24) = _)
    have k3 := blk_keep b3 hBB
    have k22 := blk_keep b22 hBB
    have kB := btr hB hBB (Nat.le_refl _)
    have l3 := lt_blk b3
    have l22 := lt_blk b22
    have hsw := hB.size
    clear hA1 hA2 hS0 hB b3 b22
    generalize World.alloc (World.alloc wq (.cells #[.int .i64 0, .slice none 0 0] 24)) (.cells #[.int .i64 0, .slice none 0 0] 24) = W0 at *
    have p3 := (World.putObj_heap_other (w := W0) (o := (.cells #[.int .i64 n, .slice none 0 0] 24 (0, 0))) (show w2.heap.size ≠ wq.heap.size by omega)).trans k3
    have p22 := (World.putObj_heap_other (w := W0) (o := (.cells #[.int .i64 n, .slice none 0 0] 24 (0, 0))) (show w.heap.size + 1 ≠ wq.heap.size by omega)).trans k22
    have p8 := (World.putObj_heap_other (w := W0) (o := (.cells #[.int .i64 n, .slice none 0 0] 24 (0, 0))) (show (wq.heap.size + 1) ≠ wq.heap.size by omega)).trans h1
    have p7 := World.putObj_heap_same (w := W0) (o := (.cells #[.int .i64 n, .slice none 0 0] 24 (0, 0))) (show wq.heap.size < W0.heap.size by omega)
    have s3 := cell_blk (i := 0) p3
    simp only [List.getElem?_toArray, List.getElem?_cons_zero] at s3
    refine wpAnyH_one (i := 8) (o := { dst := none, op := _, type := _, pos := _, after := _, guard := _ }) (by kernel_rfl) rfl (by rfl) (fun K1 hK1 => ?_)
    have HK1 := Lib.hid hK1; clear hK1
    refine oper_store_blk 24 (.tmp 7) (.tmp 27) rfl wq.heap.size rfl (cells := #[.int .i64 n, .slice none 0 0]) rfl h0 size24 rfl rfl (by simp [Value.oneCell']) ?_
    refine HK1.out _ _ s3 ?_
    clear HK1 K1
    have hsP : (W0.putObj wq.heap.size (.cells #[.int .i64 n, .slice none 0 0] 24 (0, 0))).heap.size = W0.heap.size := by simp
    have q3 := (World.putObj_heap_other (w := W0.putObj wq.heap.size (.cells #[.int .i64 n, .slice none 0 0] 24 (0, 0))) (o := (.cells #[.int .i64 n, .slice none 0 0] 24 (0, 0))) (show w2.heap.size ≠ (wq.heap.size + 1) by omega)).trans p3
    have q22 := (World.putObj_heap_other (w := W0.putObj wq.heap.size (.cells #[.int .i64 n, .slice none 0 0] 24 (0, 0))) (o := (.cells #[.int .i64 n, .slice none 0 0] 24 (0, 0))) (show w.heap.size + 1 ≠ (wq.heap.size + 1) by omega)).trans p22
    have q7 := (World.putObj_heap_other (w := W0.putObj wq.heap.size (.cells #[.int .i64 n, .slice none 0 0] 24 (0, 0))) (o := (.cells #[.int .i64 n, .slice none 0 0] 24 (0, 0))) (show wq.heap.size ≠ (wq.heap.size + 1) by omega)).trans p7
    have q8 := World.putObj_heap_same (w := W0.putObj wq.heap.size (.cells #[.int .i64 n, .slice none 0 0] 24 (0, 0))) (o := (.cells #[.int .i64 n, .slice none 0 0] 24 (0, 0))) (show (wq.heap.size + 1) < (W0.putObj wq.heap.size (.cells #[.int .i64 n, .slice none 0 0] 24 (0, 0))).heap.size by omega)
    have s4 := cell_blk (i := 0) q3
    simp only [List.getElem?_toArray, List.getElem?_cons_zero] at s4
    refine wpAnyH_one (i := 9) (o := { dst := none, op := _, type := _, pos := _, after := _, guard := _ }) (by kernel_rfl) rfl (by rfl) (fun K1 hK1 => ?_)
    have HK1 := Lib.hid hK1; clear hK1
    refine oper_store_blk 24 (.tmp 8) (.tmp 30) rfl (wq.heap.size + 1) rfl (cells := #[.int .i64 n, .slice none 0 0]) rfl p8 size24 rfl rfl (by simp [Value.oneCell']) ?_
    refine HK1.out _ _ s4 ?_
    clear HK1 K1
    refine wpAnyH_done (by kernel_rfl) ?_ _
    simp only [Exit.then]
    exact tail wq.heap.size (wq.heap.size + 1) _ (by omega) (by omega) (by omega) q7 q8 (below_putObj (below_putObj (hQ.trans (hBB.mono (by omega))) (by omega)) (by omega))
  refine AllReadyH.cons (o := { dst := some 8, op := _, type := _, pos := _, after := _, guard := _ }) rfl (fun K1 hK1 => ?_) ?_
  · have HK1 := Lib.hid hK1; clear hK1
    rw [if_pos (by rfl)]
    go_simp
    refine HK1.out _ _ (hA1) ?_
    clear HK1 K1
    intro _
    try simp only [Act.put, List.setIfInBounds_toArray, List.set_cons_zero, List.set_cons_succ]
    refine wpAnyH_one (i := 6) (o := { dst := some 7, op := _, type := _, pos := _, after := _, guard := _ }) (by kernel_rfl) rfl (by rfl) (fun K1 hK1 => ?_)
    have HK1 := Lib.hid hK1; clear hK1
    go_simp
    refine HK1.out _ _ (hA2) ?_
    clear HK1 K1
    try simp only [Act.put, List.setIfInBounds_toArray, List.set_cons_zero, List.set_cons_succ]
    obtain ⟨h0, h1, hBB, hss⟩ := blk2 (rfl : (wq.alloc (.cells #[.int .i64 0, .slice none 0 0] 24)).alloc (.cells #[.int .i64 0, .slice none 0 0] 24) = _)
    have k3 := blk_keep b3 hBB
    have k22 := blk_keep b22 hBB
    have kB := btr hB hBB (Nat.le_refl _)
    have l3 := lt_blk b3
    have l22 := lt_blk b22
    have hsw := hB.size
    clear hA1 hA2 hS0 hB b3 b22
    generalize World.alloc (World.alloc wq (.cells #[.int .i64 0, .slice none 0 0] 24)) (.cells #[.int .i64 0, .slice none 0 0] 24) = W0 at *
    have p3 := (World.putObj_heap_other (w := W0) (o := (.cells #[.int .i64 n, .slice none 0 0] 24 (0, 0))) (show w2.heap.size ≠ (wq.heap.size + 1) by omega)).trans k3
    have p22 := (World.putObj_heap_other (w := W0) (o := (.cells #[.int .i64 n, .slice none 0 0] 24 (0, 0))) (show w.heap.size + 1 ≠ (wq.heap.size + 1) by omega)).trans k22
    have p8 := (World.putObj_heap_other (w := W0) (o := (.cells #[.int .i64 n, .slice none 0 0] 24 (0, 0))) (show wq.heap.size ≠ (wq.heap.size + 1) by omega)).trans h0
    have p7 := World.putObj_heap_same (w := W0) (o := (.cells #[.int .i64 n, .slice none 0 0] 24 (0, 0))) (show (wq.heap.size + 1) < W0.heap.size by omega)
    have s3 := cell_blk (i := 0) p3
    simp only [List.getElem?_toArray, List.getElem?_cons_zero] at s3
    refine wpAnyH_one (i := 8) (o := { dst := none, op := _, type := _, pos := _, after := _, guard := _ }) (by kernel_rfl) rfl (by rfl) (fun K1 hK1 => ?_)
    have HK1 := Lib.hid hK1; clear hK1
    refine oper_store_blk 24 (.tmp 7) (.tmp 27) rfl (wq.heap.size + 1) rfl (cells := #[.int .i64 n, .slice none 0 0]) rfl h1 size24 rfl rfl (by simp [Value.oneCell']) ?_
    refine HK1.out _ _ s3 ?_
    clear HK1 K1
    have hsP : (W0.putObj (wq.heap.size + 1) (.cells #[.int .i64 n, .slice none 0 0] 24 (0, 0))).heap.size = W0.heap.size := by simp
    have q3 := (World.putObj_heap_other (w := W0.putObj (wq.heap.size + 1) (.cells #[.int .i64 n, .slice none 0 0] 24 (0, 0))) (o := (.cells #[.int .i64 n, .slice none 0 0] 24 (0, 0))) (show w2.heap.size ≠ wq.heap.size by omega)).trans p3
    have q22 := (World.putObj_heap_other (w := W0.putObj (wq.heap.size + 1) (.cells #[.int .i64 n, .slice none 0 0] 24 (0, 0))) (o := (.cells #[.int .i64 n, .slice none 0 0] 24 (0, 0))) (show w.heap.size + 1 ≠ wq.heap.size by omega)).trans p22
    have q7 := (World.putObj_heap_other (w := W0.putObj (wq.heap.size + 1) (.cells #[.int .i64 n, .slice none 0 0] 24 (0, 0))) (o := (.cells #[.int .i64 n, .slice none 0 0] 24 (0, 0))) (show (wq.heap.size + 1) ≠ wq.heap.size by omega)).trans p7
    have q8 := World.putObj_heap_same (w := W0.putObj (wq.heap.size + 1) (.cells #[.int .i64 n, .slice none 0 0] 24 (0, 0))) (o := (.cells #[.int .i64 n, .slice none 0 0] 24 (0, 0))) (show wq.heap.size < (W0.putObj (wq.heap.size + 1) (.cells #[.int .i64 n, .slice none 0 0] 24 (0, 0))).heap.size by omega)
    have s4 := cell_blk (i := 0) q3
    simp only [List.getElem?_toArray, List.getElem?_cons_zero] at s4
    refine wpAnyH_one (i := 9) (o := { dst := none, op := _, type := _, pos := _, after := _, guard := _ }) (by kernel_rfl) rfl (by rfl) (fun K1 hK1 => ?_)
    have HK1 := Lib.hid hK1; clear hK1
    refine oper_store_blk 24 (.tmp 8) (.tmp 30) rfl wq.heap.size rfl (cells := #[.int .i64 n, .slice none 0 0]) rfl p8 size24 rfl rfl (by simp [Value.oneCell']) ?_
    refine HK1.out _ _ s4 ?_
    clear HK1 K1
    refine wpAnyH_done (by kernel_rfl) ?_ _
    simp only [Exit.then]
    exact tail (wq.heap.size + 1) wq.heap.size _ (by omega) (by omega) (by omega) q7 q8 (below_putObj (below_putObj (hQ.trans (hBB.mono (by omega))) (by omega)) (by omega))
  exact AllReadyH.nil
end Yteileadcmekkoaa
end Go.Proofs
