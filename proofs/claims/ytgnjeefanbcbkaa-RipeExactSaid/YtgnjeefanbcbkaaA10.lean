/- Fields: the regret of a week. -/
import Derived.Test.YtgnjeefanbcbkaaA9
open Go Go.RowKit Go.YtgnjeefanbcbkaaIt
namespace Go
namespace YtgnjeefanbcbkaaIt
theorem yields_load_mid {P : Program} {S : World → Prop} {o : Oper} {a : Act} (ty : TypeId) (x : Operand) (ho : o.op = .load ty x)
    (b off : Nat) (hx : a.eval x = .pointer (some ⟨b, off, none⟩)) (cs : List Value) (d : TypeDesc) (hS : ∀ w, S w → w.rangeAt b off cs)
    (hu : P.underlying ty = some d) (hd : d.isRow = true) (hi : (P.info? ty).map (·.size) = some cs.length) :
    ∀ w, S w → (execOp a.eval o).run P w = .ok (.value (.agg cs.toArray)) w := by
  intro W hW
  unfold execOp
  simp only [ho, hx, Instr.loadAt, Instr.sureAddr, Sem.run_bind, Sem.run_pure, Result.andThen_ok, run_loadVar_mid W b off ty cs d (hS W hW) hu hd hi]
end YtgnjeefanbcbkaaIt
end Go
namespace Go.Proofs
namespace Ytgnjeefanbcbkaa
theorem minus_bd {t g : Fr} (ht : Bd 2000000 29 t) (hg : Bd 100000000000 24389 g) : Big (t.minus g) ∧ IntKind.i64.wrap (t.o * g.u) = t.o * g.u ∧ IntKind.i64.wrap (g.o * t.u) = g.o * t.u ∧ IntKind.i64.wrap (t.o * g.u - g.o * t.u) = t.o * g.u - g.o * t.u ∧ IntKind.i64.wrap (t.u * g.u) = t.u * g.u := by
  have m1 := mulU (x := t) (y := g) ht hg
  have m2 := mulU (x := g) (y := t) hg ht
  have hp := Int.mul_pos ht.pos hg.pos
  have htp := ht.pos
  have hgp := hg.pos
  have m3 := mulB (a := t.u) (A := 29) (b := g.u) (B := 24389) (by omega) ht.le (by omega) hg.le
  refine ⟨⟨?_, ?_, hp, ?_⟩, wrapB m1 (by decide), wrapB m2 (by decide), wrapB (B := 4000000000000) (by omega) (by decide), wrapB m3 (by decide)⟩
  · show _ ≤ t.o * g.u - g.o * t.u; omega
  · show t.o * g.u - g.o * t.u ≤ _; omega
  · show t.u * g.u ≤ _; omega
/-- What can be lost to the first c weeks. -/
def regL (L H : Nat → Int) (n x k : Nat) : Fr := (upperF L H n k).minus (givF L n x k (upperF L H n k))
def regPre (L H : Nat → Int) (n x c : Nat) : Fr := big ((List.range c).map (regL L H n x)) (whole 0)
theorem regPre_step (L H : Nat → Int) (n x c : Nat) : regPre L H n x (c + 1) = most (regPre L H n x c) (regL L H n x c) := by
  unfold regPre; rw [List.range_succ, List.map_append, List.map_singleton, big_app]
theorem regPre_end (L H : Nat → Int) (n x : Nat) : regPre L H n x n = regF L H n x := rfl
theorem regL_bd {n : Nat} {L H : Nat → Int} (hb : Bds n L H) {x k : Nat} (hx : x < n) (hk : k < n) : Big (regL L H n x k) := (minus_bd (upper_bd hb hk) (giv_bd hb hx hk (upper_bd hb hk))).1
theorem regPre_bd {n : Nat} {L H : Nat → Int} (hb : Bds n L H) {x c : Nat} (hx : x < n) (hc : c ≤ n) : Big (regPre L H n x c) := by
  refine big_all (toBig (whole_bd (by decide))) fun y hy => ?_
  obtain ⟨k, hk, rfl⟩ := List.mem_map.1 hy
  have := List.mem_range.1 hk
  exact regL_bd hb hx (by omega)
/-- What the loop holds. -/
structure RgG (w : World) (p5 : Nat) (z : Fr) (W : World) : Prop where
  p4 : W.heap[w.heap.size]? = some (.cells #[.int .i64 0, .int .i64 0] 93 (0, 0))
  p5 : W.heap[p5]? = some (.cells #[.int .i64 z.o, .int .i64 z.u] 93 (0, 0))
  bl : Below w.heap.size w W
set_option maxRecDepth 100000 in
set_option maxHeartbeats 8000000 in
theorem regret_any {b n : Nat} {L H : Nat → Int} {x : Nat} {w : World} (hb : Bds n L H) (hx : x < n) (hy : Yr w b n L H) :
    Calls Try.prog 69 #[.pointer (some ⟨b, 0, none⟩), .int .i64 (x : Int)] w fun e w' => e = .returned (enc (regF L H n x)) ∧ Below w.heap.size w w' := by
  have hn30 := hb.n30
  have HBS := Lib.hid hb
  have HY := Lib.hid hy
  clear hb hy
  go_enter Try.func69, Try.ntmps69
  refine wp_seq_k (fun K hK => ?_)
  have HK := Lib.hid hK; clear hK
  go_wp2
  refine HK.out _ _ ?_; clear HK K
  generalize hw1 : World.alloc _ _ = w1
  obtain ⟨b4, hB, hs1⟩ := blk1 hw1
  clear hw1
  have h59 := whole_any 0 w1
  refine wp_seq_k (fun K hK => ?_)
  have HK := Lib.hid hK; clear hK
  go_wp2_with (go_at_call 59; refine h59.mono ?_; rintro e w2 ⟨rfl, hb2⟩)
  refine HK.out _ _ ?_; clear HK K h59
  replace b4 := blk_keep b4 hb2
  have hl5 : w.heap.size + 1 ≤ w2.heap.size := Nat.le_trans hs1 hb2.size
  replace hB := btr hB hb2 (Nat.le_refl _)
  generalize hw3 : World.alloc _ _ = w3
  obtain ⟨b5, hB3, hs3⟩ := blk1 hw3
  clear hw3
  replace b4 := blk_keep b4 hB3
  replace hB := btr hB hB3 (Nat.le_refl _)
  generalize hp5 : w2.heap.size = p5 at *
  clear hb2 hB3 hs1 hp5 hs3 w1 w2
  have hG : RgG w p5 (regPre L H n x 0) w3 := ⟨b4, b5, hB⟩
  have e1 := (HY.out.keep hB).wk
  clear b4 b5 hB
  go_wp2
  clear e1
  go_loopw [13] (fun i wr => ∃ k : Nat, k ≤ n ∧ i = .int .i64 k ∧ RgG w p5 (regPre L H n x k) wr) (fun i _ => n - (intOf i).toNat)
  case atStart => exact ⟨0, Nat.zero_le _, rfl, hG⟩
  case round =>
    clear hG
    obtain ⟨k, hk, rfl, hG⟩ := hrel
    by_cases hkn : k < n
    · have hY := HY.out.keep hG.bl
      have h43 := upper_any HBS.out hkn hY
      have hub := upper_bd HBS.out hkn
      have hgb := giv_bd HBS.out hx hkn hub
      have hmb := minus_bd hub hgb
      have hst := regPre_step L H n x k
      have hbz := regPre_bd HBS.out hx hk
      unfold regL at hst
      generalize upperF L H n k = t at *
      have h82 := fun W' (hW : Below wr.heap.size wr W') => given_any HBS.out hx hkn hub (hY.keep hW)
      generalize givF L n x k t = gv at *
      have h81 := fun W' => minus_any t gv W' hmb.2.1 hmb.2.2.1 hmb.2.2.2.1 hmb.2.2.2.2
      generalize hyv : t.minus gv = y at *
      generalize regPre L H n x k = z at *
      have HST := Lib.hid hst
      have HBY := Lib.hid hmb.1
      have HBZ := Lib.hid hbz
      have H43 := Lib.hid h43
      have H82 := Lib.hid h82
      have H81 := Lib.hid h81
      clear hyv hub hgb hmb hst hbz h43 h82 h81 hY
      go_wp2_with (go_at_call 43; refine H43.out.mono ?_; rintro e w4 ⟨rfl, hb4⟩)
      rename_i K2 hK2
      have HK2 := Lib.hid hK2; clear hK2
      generalize hw5 : World.alloc _ _ = w5
      obtain ⟨b7, hB5, hs5⟩ := blk1 hw5
      clear hw5
      replace hB5 := btr hb4 hB5 (Nat.le_refl _)
      have hp75 : p5 ≠ w4.heap.size := by have := lt_blk hG.p5; have := hb4.size; omega
      have b5 := blk_keep hG.p5 hB5
      have b4 := blk_keep hG.p4 hB5
      have bl := btr hG.bl hB5 (Nat.le_refl _)
      generalize hp7 : w4.heap.size = p7 at *
      clear hG hb4 hs5 hp7 w4
      have r7 : w5.rangeAt p7 1 [.int .i64 t.o, .int .i64 t.u] := mid2 (by rw [cell_blk b7]; rfl) (by rw [cell_blk b7]; rfl)
      have l7 := lt_blk b7
      have r7' : ∀ U, Below w5.heap.size w5 U → U.rangeAt p7 1 [.int .i64 t.o, .int .i64 t.u] := fun U hU j v hv => (hU.cell (p := ⟨p7, 1 + j, none⟩) l7).trans (r7 j v hv)
      have hS0 : Below w5.heap.size w5 w5.drew := (Below.refl _ _).drew
      refine wp_region_z (S := fun U => Below w5.heap.size w5 U) (z := 10) (by kernel_rfl) ?_
      change wpAnyZ _ _ _ _ _ _ _ _ _ (World.drew w5)
      have hBwq := hS0
      generalize World.drew w5 = wq at *
      refine wpAnyZ_take (i := 0) (oi := { dst := some 21, op := _, type := _, pos := _, after := _, guard := none }) (v := ?_) rfl (by kernel_rfl) (by kernel_rfl) (by kernel_rfl) (fun _ _ _ h => h) (Or.inl ⟨by rfl, ?_⟩) (by first | exact hS0 | assumption) ?_
      rotate_left
      · refine yields_load_blk 93 (.tmp 5) ?_ _ ?_ (fun U hU => blk_keep b5 hU) Try.underlying93 rfl size93 rfl
        all_goals rfl
      simp only [Act.put, List.setIfInBounds_toArray, List.set_cons_zero, List.set_cons_succ]
      refine wpAnyZ_take (i := 1) (oi := { dst := some 22, op := _, type := _, pos := _, after := _, guard := none }) (v := ?_) rfl (by kernel_rfl) (by kernel_rfl) (by kernel_rfl) (fun _ _ _ h => h) (Or.inl ⟨by rfl, ?_⟩) (by first | exact hS0 | assumption) ?_
      rotate_left
      · intro U hU
        go_simp
        all_goals with_reducible rfl
      simp only [Act.put, List.setIfInBounds_toArray, List.set_cons_zero, List.set_cons_succ]
      refine wpAnyZ_take (i := 2) (oi := { dst := some 23, op := _, type := _, pos := _, after := _, guard := none }) (v := ?_) rfl (by kernel_rfl) (by kernel_rfl) (by kernel_rfl) (fun _ _ _ h => h) (Or.inl ⟨by rfl, ?_⟩) (by first | exact hS0 | assumption) ?_
      rotate_left
      · refine yields_load_mid 93 (.tmp 22) ?_ _ _ ?_ _ _ r7' Try.underlying93 rfl size93
        all_goals rfl
      simp only [Act.put, List.setIfInBounds_toArray, List.set_cons_zero, List.set_cons_succ]
      refine wpAnyZ_take (i := 3) (oi := { dst := some 24, op := _, type := _, pos := _, after := _, guard := none }) (v := ?_) rfl (by kernel_rfl) (by kernel_rfl) (by kernel_rfl) (fun _ _ _ h => h) (Or.inl ⟨by rfl, ?_⟩) (by first | exact hS0 | assumption) ?_
      rotate_left
      · intro U hU
        go_simp
        all_goals with_reducible rfl
      simp only [Act.put, List.setIfInBounds_toArray, List.set_cons_zero, List.set_cons_succ]
      refine wpAnyZ_take (i := 4) (oi := { dst := some 25, op := _, type := _, pos := _, after := _, guard := none }) (v := ?_) rfl (by kernel_rfl) (by kernel_rfl) (by kernel_rfl) (fun _ _ _ h => h) (Or.inl ⟨by rfl, ?_⟩) (by first | exact hS0 | assumption) ?_
      rotate_left
      · intro U hU
        go_simp
        all_goals with_reducible rfl
      simp only [Act.put, List.setIfInBounds_toArray, List.set_cons_zero, List.set_cons_succ]
      refine wpAnyZ_take (i := 5) (oi := { dst := some 26, op := _, type := _, pos := _, after := _, guard := none }) (v := ?_) rfl (by kernel_rfl) (by kernel_rfl) (by kernel_rfl) (fun _ _ _ h => h) (Or.inl ⟨by rfl, ?_⟩) (by first | exact hS0 | assumption) ?_
      rotate_left
      · refine yields_load_blk 129 (.tmp 7) ?_ _ ?_ (fun U hU => blk_keep b7 hU) Try.underlying129 rfl size129 rfl
        all_goals rfl
      simp only [Act.put, List.setIfInBounds_toArray, List.set_cons_zero, List.set_cons_succ]
      refine wpAnyZ_one (i := 6) (o := { dst := some 27, op := _, type := _, pos := _, after := _, guard := none }) (by kernel_rfl) rfl (by rfl) (fun K1 hK1 => ?_)
      have HK1 := Lib.hid hK1; clear hK1
      refine oper_call (f := 82) (xs := #[.tmp 24, .tmp 25, .tmp 26]) (ts := _) rfl (enters_of Try.func82 (by kernel_rfl) rfl) rfl (H82.out _ (hB5.trans (hBwq.mono hB5.size))) ?_
      intro v1 hbv1
      have hBv1 := btr hBwq hbv1 (Nat.le_refl _)
      refine HK1.out _ _ (fun _ => hBv1) ?_
      clear HK1 K1
      try simp only [Act.put, List.setIfInBounds_toArray, List.set_cons_zero, List.set_cons_succ]
      refine wpAnyZ_one (i := 7) (o := { dst := some 28, op := _, type := _, pos := _, after := _, guard := none }) (by kernel_rfl) rfl (by rfl) (fun K1 hK1 => ?_)
      have HK1 := Lib.hid hK1; clear hK1
      refine oper_call (f := 81) (xs := #[.tmp 23, .tmp 27]) (ts := _) rfl (enters_of Try.func81 (by kernel_rfl) rfl) rfl (H81.out _) ?_
      intro v2 hbv2
      have hBv2 := btr hBv1 hbv2 (Nat.le_refl _)
      refine HK1.out _ _ (fun _ => hBv2) ?_
      clear HK1 K1
      try simp only [Act.put, List.setIfInBounds_toArray, List.set_cons_zero, List.set_cons_succ]
      have hBa := hBv2.alloc hBv2.size (.cells #[.int .i64 y.o, .int .i64 y.u] 93)
      refine wpAnyZ_one (i := 8) (o := { dst := some 29, op := _, type := _, pos := _, after := _, guard := none }) (by kernel_rfl) rfl (by rfl) (fun K1 hK1 => ?_)
      have HK1 := Lib.hid hK1; clear hK1
      go_simp
      refine HK1.out _ _ (fun _ => hBa) ?_
      clear HK1 K1
      try simp only [Act.put, List.setIfInBounds_toArray, List.set_cons_zero, List.set_cons_succ]
      refine wpAnyZ_one (i := 9) (o := { dst := some 30, op := _, type := _, pos := _, after := _, guard := none }) (by kernel_rfl) rfl (by rfl) (fun K1 hK1 => ?_)
      have HK1 := Lib.hid hK1; clear hK1
      refine oper_call (f := 73) (xs := #[.func 63, .tmp 21, .tmp 29]) (ts := _) rfl (enters_of Try.func73 (by kernel_rfl) rfl) rfl (best_any z y v2.heap.size 1 (v2.alloc (.cells #[.int .i64 y.o, .int .i64 y.u] 93)) HBZ.out HBY.out (mid_blk (heap_newI rfl) (fun j v h => by simpa using h)) (by simp)) ?_
      intro v3 hbv3
      have hBv3 := btr hBa hbv3 (Nat.le_refl _)
      refine HK1.out _ _ (fun _ => hBv3) ?_
      clear HK1 K1
      try simp only [Act.put, List.setIfInBounds_toArray, List.set_cons_zero, List.set_cons_succ]
      refine wpAnyZ_last (o := { dst := none, op := _, type := _, pos := _, after := _, guard := none }) (by kernel_rfl) (by kernel_rfl) rfl (by rfl) (fun K1 hK1 => ?_)
      have HK1 := Lib.hid hK1; clear hK1
      have b53 := blk_keep b5 hBv3
      refine oper_store_blk 93 (.tmp 5) (.tmp 30) rfl _ rfl rfl b53 size93 rfl rfl (oneFr _) ?_
      refine HK1.out _ _ ?_
      clear HK1 K1
      have hne : w.heap.size ≠ p5 := by omega
      have hGn : RgG w p5 (regPre L H n x (k + 1)) (v3.putObj p5 (.cells #[.int .i64 (most z y).o, .int .i64 (most z y).u] 93 (0, 0))) := ⟨(World.putObj_heap_other hne).trans (blk_keep b4 hBv3), by rw [HST.out]; exact World.putObj_heap_same (lt_blk b53), below_putObj (btr bl hBv3 (Nat.le_refl _)) (by omega)⟩
      clear b4 b5 b53 b7 bl hB5 hBv1 hBv2 hBv3 hBa hbv1 hbv2 hbv3 H43 H81 H82 HST hS0 hBwq HBY HBZ r7 r7'
      show K2 _ _
      refine HK2.out _ _ ?_
      clear HK2 K2
      go_wp2
      go_roundw
      case rel => exact ⟨k + 1, by omega, by go_num, hGn⟩
      case measure => simp [intOf]; omega
    · have hke : k = n := by omega
      subst hke
      rw [regPre_end] at hG
      have b4 := hG.p4
      have b5 := hG.p5
      have bb := hG.bl
      clear hG
      go_wp2_with (first | (refine wpList_load_blk rfl 93 _ rfl _ rfl b5 Try.underlying93 rfl size93 rfl ?_) | (refine wpList_store_blk rfl 93 _ _ rfl _ rfl rfl b4 size93 rfl rfl (oneFr _) ?_))
      exact bodyPost_ret (results_blk rfl _ _ _ rfl (World.putObj_heap_same (lt_blk b4)) Try.underlying93 rfl size93 rfl) rfl ⟨rfl, below_putObj bb (by omega)⟩
end Ytgnjeefanbcbkaa
end Go.Proofs
