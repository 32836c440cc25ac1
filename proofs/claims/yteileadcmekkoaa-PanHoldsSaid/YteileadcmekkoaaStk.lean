/- The reference's stuck: a work whose numbers are as stated gets stuck just if no ranks fit its waits without strikes. -/
import Derived.Test.YteileadcmekkoaaSk
open Go Go.RowKit Go.YteileadcmekkoaaIt
namespace Go.Proofs
namespace Yteileadcmekkoaa
def rowBl (n : Nat) (d : Nat → Bool) : List Value := (List.range n).map fun v => .bool (d v)
theorem rowBl_get {n i : Nat} (d : Nat → Bool) (h : i < n) : (rowBl n d)[i]? = some (.bool (d i)) := by simp [rowBl, h]
theorem rowBl_set {n t : Nat} (d : Nat → Bool) : (rowBl n d).toArray.setIfInBounds t (.bool true) = (rowBl n fun v => if v = t then true else d v).toArray := by
  apply Array.toList_inj.1
  apply List.ext_getElem?
  intro i
  rw [Array.toList_setIfInBounds, List.getElem?_set]
  unfold rowBl
  simp only [List.length_map, List.length_range, List.getElem?_map]
  by_cases hi : i < n
  · by_cases ht : t = i
    · subst ht; simp [hi]
    · have : ¬ i = t := fun e => ht e.symm
      simp [ht, this, hi]
  · by_cases ht : t = i
    · subst ht; simp [hi]
    · simp [ht, hi]
theorem rowBl_zero (n : Nat) : (rowBl n fun _ => false) = List.replicate n (.bool false) := by
  unfold rowBl; rw [List.map_const', List.length_range]
theorem info4 : (Try.prog.info? 4).map (fun i => (i.zero, i.size, i.bytes)) = some (some (.bool false), 1, 1) := by kernel_rfl
theorem all_succ {ws : List Wa} {p : Wa → Bool} {j : Nat} (h : j < ws.length) : (ws.take (j + 1)).all p = ((ws.take j).all p && p (at_ ws j)) := by
  rw [List.take_succ_eq_append_getElem h, List.all_append, at_lt h]; simp
set_option maxRecDepth 100000 in
set_option maxHeartbeats 4000000 in
theorem stuck_any (m : Nat) (v : Value) (ws : List Wa) (w : World) (hv : SlA w v ws) (hval : Val m ws) :
    Calls Try.prog 63 #[.agg #[.int .i64 m, v]] w fun e w' => (∃ b, e = .returned (.bool b) ∧ (b = true ↔ ¬ NS ws)) ∧ Below w.heap.size w w' := by
  have HV := Lib.hid hv
  obtain ⟨ad, cap, rfl, -, -, -⟩ := hv
  have hm10 := (val_mem.1 hval).1
  have hl40 := (val_mem.1 hval).2.1
  have HVL := Lib.hid hval
  clear hval
  obtain ⟨i4, hi4, hz1, hz2, hz3⟩ := info_parts info4
  have HI := Lib.hid (And.intro hi4 (And.intro hz1 (And.intro hz2 hz3)))
  clear hi4 hz1 hz2 hz3
  go_enter Try.func63, Try.ntmps63
  refine wp_seq_k (fun K hK => ?_)
  have HK := Lib.hid hK; clear hK
  go_wp2
  refine HK.out _ _ ?_; clear HK K
  generalize hw1 : World.alloc _ _ = w1
  obtain ⟨b1, hB1, hs1⟩ := blk1 hw1
  clear hw1
  have c10 := cell_blk (i := 0) b1
  simp only [List.getElem?_toArray, List.getElem?_cons_zero] at c10
  refine wp_seq_k (fun K hK => ?_)
  have HK := Lib.hid hK; clear hK
  go_wp2_with (at_make; refine wpList_make_full w1 rfl (.tmp 10) (.tmp 10) 127 rfl w1.heap.size 4 i4 (.bool false) 1 Try.underlying127 HI.out.1 HI.out.2.1 HI.out.2.2.1 .i64 .i64 _ _ m rfl rfl rfl rfl (by rw [HI.out.2.2.2]; omega) (Nat.le_trans (by omega : m ≤ 100) (by decide)) (Nat.le_refl _) ?_; intro w5 q1 q2)
  refine HK.out _ _ ?_; clear HK K
  rw [made_rep _ rfl, ← rowBl_zero] at q1
  have hb5 : Below w1.heap.size w1 w5 := ⟨q2.os, q2.tape, q2.output, q2.size, fun k hk => q2.block k hk (by simp)⟩
  have bd := row_full q1
  have b15 := blk_keep b1 hb5
  have B := btr hB1 hb5 (Nat.le_refl _)
  have hgl := lt_blk b1
  have hs5 : w.heap.size ≤ w1.heap.size := hB1.size
  clear q1 q2 hb5 hB1 b1 c10
  generalize w1.heap.size = g at *
  refine wp_seq_k (fun K hK => ?_)
  have HK := Lib.hid hK; clear hK
  go_wp2
  go_loopw [4] (fun i wr => ∃ r : Nat, r ≤ m ∧ i = .int .i64 r ∧ wr.heap[w.heap.size]? = some (.cells #[.int .i64 m, .slice ad ws.length cap] 31 (0, 0)) ∧ wr.heap[g]? = some (.cells (rowBl m (skN ws m r)).toArray 4 (0, 0)) ∧ Below w.heap.size w wr) (fun i _ => m - (intOf i).toNat)
  case atStart => exact ⟨0, Nat.zero_le _, rfl, b15, bd, B⟩
  case round =>
    clear b15 bd B
    obtain ⟨r, hr, rfl, b1, bd, B⟩ := hrel
    have c10 := cell_blk (i := 0) b1
    simp only [List.getElem?_toArray, List.getElem?_cons_zero] at c10
    by_cases hrm : r < m
    · have hri : (r : Int) < (m : Int) := by omega
      go_wp2
      go_loopw [5] (fun i wr => ∃ s : Nat, s ≤ m ∧ i = .int .i64 s ∧ wr.heap[w.heap.size]? = some (.cells #[.int .i64 m, .slice ad ws.length cap] 31 (0, 0)) ∧ wr.heap[g]? = some (.cells (rowBl m (skR ws (skN ws m r) s)).toArray 4 (0, 0)) ∧ Below w.heap.size w wr) (fun i _ => m - (intOf i).toNat)
      case atStart => exact ⟨0, Nat.zero_le _, rfl, b1, bd, B⟩
      case round =>
        clear b1 bd B c10
        obtain ⟨s, hs, rfl, b1, bd, B⟩ := hrel
        have c10 := cell_blk (i := 0) b1
        have c11 := cell_blk (i := 1) b1
        simp only [List.getElem?_toArray, List.getElem?_cons_zero, List.getElem?_cons_succ] at c10 c11
        by_cases hsm : s < m
        · have hsi : (s : Int) < (m : Int) := by omega
          obtain ⟨d, hd⟩ : ∃ d, d = skR ws (skN ws m r) s := ⟨_, rfl⟩
          rw [← hd] at bd
          have HD := Lib.hid hd
          clear hd
          go_wp2
          go_loopw [6, 7] (fun f i wx => ∃ j : Nat, j ≤ ws.length ∧ f = .bool ((ws.take j).all (freeX d s)) ∧ i = .int .i64 j ∧ wx = wr) (fun _ i _ => ws.length - (intOf i).toNat)
          case atStart => exact ⟨0, Nat.zero_le _, by simp, rfl, by first | trivial | rfl⟩
          case round =>
            obtain ⟨j, hj, rfl, rfl, rfl⟩ := hrel
            by_cases hjl : j < ws.length
            · have hji : (j : Int) < (ws.length : Int) := by omega
              obtain ⟨ad0, cap0, e0, -, -, hcc⟩ := HV.out
              injection e0 with e1 _ e3
              subst e1 e3
              obtain ⟨bv, ov, rfl, hlt, hcell⟩ := hcc (by omega)
              obtain ⟨q0, q1, -, -, q4⟩ := a_cells hcell (i := j) (n := j) hjl rfl
              replace q0 := (B.cell (p := ⟨bv, ov + j * 5, none⟩) hlt).trans q0
              replace q1 := (B.cell (p := ⟨bv, ov + j * 5 + 1, none⟩) hlt).trans q1
              replace q4 := (B.cell (p := ⟨bv, ov + j * 5 + 4, none⟩) hlt).trans q4
              obtain ⟨⟨hf0, hf1⟩, ⟨ht0, ht1⟩, -, -, hb0, hb4⟩ := (val_mem.1 HVL.out).2.2 (at_ ws j) (by rw [at_lt hjl]; exact List.getElem_mem hjl)
              have hal := all_succ (p := freeX d s) hjl
              have hfx : freeX d s (at_ ws j) = (((at_ ws j).t != (s : Int)) || decide (0 < (at_ ws j).b) || d (at_ ws j).f.toNat) := rfl
              rw [hfx] at hal
              clear hfx
              obtain ⟨F, hF⟩ : ∃ F : Nat, (at_ ws j).f = (F : Int) := ⟨(at_ ws j).f.toNat, by omega⟩
              rw [hF] at q0 hf1 hal
              rw [Int.toNat_natCast] at hal
              have hFm : F < m := by omega
              have hFi : (F : Int) < (m : Int) := by omega
              have cd := (cell_blk (i := F) bd).trans ((List.getElem?_toArray ..).trans (rowBl_get d hFm))
              generalize (at_ ws j).t = xt at *
              generalize (at_ ws j).b = xb at *
              clear hf0 hf1 hF hcell hcc
              have HAL := Lib.hid hal
              clear hal
              cases hp : (ws.take j).all (freeX d s) with
              | false =>
                go_wp2
                go_roundw
                case rel => exact ⟨j + 1, by omega, by rw [HAL.out, hp]; rfl, by go_num, by first | trivial | rfl⟩
                case measure => simp [intOf]; omega
              | true =>
                by_cases ht : xt = (s : Int)
                · by_cases hb : 0 < xb
                  · go_wp2
                    go_roundw
                    case rel => exact ⟨j + 1, by omega, by rw [HAL.out, hp]; simp [ht, hb], by go_num, by first | trivial | rfl⟩
                    case measure => simp [intOf]; omega
                  · go_wp2
                    go_roundw
                    case rel => exact ⟨j + 1, by omega, by rw [HAL.out, hp]; simp [ht, hb], by go_num, by first | trivial | rfl⟩
                    case measure => simp [intOf]; omega
                · have htb : (xt != (s : Int)) = true := by rw [bne_iff_ne]; exact ht
                  go_wp2
                  go_roundw
                  case rel => exact ⟨j + 1, by omega, by rw [HAL.out, hp, htb]; simp, by go_num, by first | trivial | rfl⟩
                  case measure => simp [intOf]; omega
            · have hjl2 : j = ws.length := by omega
              have hji : ¬ ((j : Int) < (ws.length : Int)) := by omega
              have hpa : (ws.take j).all (freeX d s) = freeB ws d s := by rw [hjl2, List.take_length]; rfl
              have hskr := skR_succ ws (skN ws m r) s
              rw [← HD.out] at hskr
              unfold skS at hskr
              rw [← hpa] at hskr
              have HS := Lib.hid hskr
              clear hskr
              cases hp : (ws.take j).all (freeX d s) with
              | false =>
                go_wp2
                go_roundw
                case rel => exact ⟨s + 1, by omega, by go_num, b1, by rw [HS.out, hp]; exact bd, B⟩
                case measure => simp [intOf]; omega
              | true =>
                have cf := free_blk (i := s) bd
                have cd := (cell_blk (i := s) bd).trans ((List.getElem?_toArray ..).trans (rowBl_get d hsm))
                have n1 := (heap_set_other (W := wr) (v := (.bool true)) (b' := g) (i := s) (show w.heap.size ≠ g by omega)).trans b1
                have n2 := heap_set_blk (i := s) (v := (.bool true)) bd
                rw [rowBl_set] at n2
                have nB := B.setCell (p := ⟨g, s, none⟩) (show w.heap.size ≤ g by omega) (.bool true)
                go_wp2
                generalize World.setCell _ _ _ = w9 at *
                go_roundw
                case rel => exact ⟨s + 1, by omega, by go_num, n1, by rw [HS.out, hp]; exact n2, nB⟩
                case measure => simp [intOf]; omega
        · have hsm2 : s = m := by omega
          have hsi : ¬ ((s : Int) < (m : Int)) := by omega
          go_wp2
          go_roundw
          case rel => exact ⟨r + 1, by omega, by go_num, b1, by rw [hsm2] at bd; exact bd, B⟩
          case measure => simp [intOf]; omega
    · have hrm2 : r = m := by omega
      have hri : ¬ ((r : Int) < (m : Int)) := by omega
      rw [hrm2] at bd
      have hsk := sk_ns HVL.out
      have HSK := Lib.hid hsk
      clear hsk
      obtain ⟨d, hd⟩ : ∃ d, d = skN ws m m := ⟨_, rfl⟩
      rw [← hd] at bd
      have HD := Lib.hid hd
      clear hd
      go_wp2
      refine HK.out _ _ ?_; clear HK
      go_wp2
      go_loopw [8] (fun i wx => ∃ s : Nat, s ≤ m ∧ i = .int .i64 s ∧ (∀ v, v < s → d v = true) ∧ Below wr.heap.size wr wx) (fun i _ => m - (intOf i).toNat)
      case atStart => exact ⟨0, Nat.zero_le _, rfl, fun v h => by omega, Below.refl _ _⟩
      case round =>
        obtain ⟨s, hs, rfl, hall, hBs⟩ := hrel
        have d1 := blk_keep b1 hBs
        have dd := blk_keep bd hBs
        have c10 := cell_blk (i := 0) d1
        simp only [List.getElem?_toArray, List.getElem?_cons_zero] at c10
        by_cases hsm : s < m
        · have hsi : (s : Int) < (m : Int) := by omega
          have cd := (cell_blk (i := s) dd).trans ((List.getElem?_toArray ..).trans (rowBl_get d hsm))
          have HALL := Lib.hid hall
          clear hall
          cases hds : d s with
          | false =>
            rw [hds] at cd
            go_wp2
            go_ret
            refine ⟨⟨true, rfl, fun _ h => ?_, fun _ => rfl⟩, btr B hBs (Nat.le_refl _)⟩
            have h1 := HSK.out.2 h s hsm
            rw [← HD.out, hds] at h1
            cases h1
          | true =>
            rw [hds] at cd
            go_wp2
            go_roundw
            case rel =>
              refine ⟨s + 1, by omega, by go_num, fun v hv => ?_, hBs⟩
              by_cases hvs : v = s
              · rw [hvs]; exact hds
              · exact HALL.out v (by omega)
            case measure => simp [intOf]; omega
        · have hsm2 : s = m := by omega
          have hsi : ¬ ((s : Int) < (m : Int)) := by omega
          have HALL := Lib.hid hall
          clear hall
          go_wp2
          go_ret
          refine ⟨.inl ⟨rfl, HSK.out.1 fun v hv => ?_⟩, btr B hBs (Nat.le_refl _)⟩
          rw [← HD.out]
          exact HALL.out v (by omega)
end Yteileadcmekkoaa
end Go.Proofs
