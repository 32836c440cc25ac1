/- Fields: the reference's lows and highs. -/
import Derived.Test.YtgnjeefanbcbkaaR2
import Derived.Test.YtgnjeefanbcbkaaB2
open Go Go.RowKit Go.YtgnjeefanbcbkaaIt
namespace Go.Proofs
namespace Ytgnjeefanbcbkaa
/-- Two rows of the call's own: one grows, the other one is as it was. -/
theorem push_two {W w1 : World} {o : Obj} {base : Nat} {e : TypeId} {v1 v2 v1' : Value} {n1 n2 : Nat} {xs ys : List Value} (r1 : W.ownsRow base e 1 v1 n1 xs) (r2 : W.ownsRow base e 1 v2 n2 ys)
    (hD : ∀ g, v1.ownBlock = some g → v2.ownBlock ≠ some g) (hg : (W.alloc o).grownBy w1 v1.ownBlock) (hb : v1'.ownBlock = v1.ownBlock ∨ v1'.ownBlock = some (W.alloc o).heap.size) :
    w1.ownsRow base e 1 v2 n2 ys ∧ (∀ g, v1'.ownBlock = some g → v2.ownBlock ≠ some g) := by
  have hs := append_same1 r1 hg
  refine ⟨row_same r2 fun g hg2 => hs.1 g (r2.lt g hg2).2 (fun h => hD g h hg2), fun g h1 h2 => ?_⟩
  rcases hb with h | h
  · rw [h] at h1; exact hD g h1 h2
  · rw [h] at h1
    have := (r2.lt g h2).2
    have hz : (W.alloc o).heap.size = W.heap.size + 1 := sz_al W o
    injection h1 with h1
    omega
theorem reads_one {W : World} {x : Value} {t : TypeId} : Reads (W.alloc (.cells #[x] t)) (W.heap.size + 1) 1 (some ⟨W.heap.size, 0, none⟩) 1 [x] :=
  ⟨rfl, fun _ => ⟨_, rfl, by simp, fun j u hu => by have := cell_new1 (W := W) (x := x) (t := t) rfl j u hu; exact this⟩⟩
set_option maxRecDepth 100000 in
set_option maxHeartbeats 8000000 in
theorem ends_any (n : Nat) (lo hi : Int) (v : Value) (ss : List Smp) (w : World) (hV : Val n lo hi ss) (hv : SlS w v ss) :
    Calls Try.prog 45 #[.agg #[.int .i64 (n : Int), .int .i64 lo, .int .i64 hi, v]] w fun e w' => ∃ p q, e = .returned (.tuple #[p, q]) ∧ SlI w' p ((List.range n).map (lowAt lo ss)) ∧ SlI w' q ((List.range n).map (highAt hi ss)) ∧ Below w.heap.size w w' := by
  have hn30 := hV.n30
  have HOK := Lib.hid hV.ok
  obtain ⟨ad, cap, rfl, hm, hcp, hc⟩ := hv
  have HC := Lib.hid hc
  obtain ⟨i3, hi3, hz1, hz2, hz3⟩ := info_parts info3
  have HI := Lib.hid (And.intro hi3 (And.intro hz1 (And.intro hz2 hz3)))
  clear hi3 hz1 hz2 hz3 hc hV
  go_enter Try.func45, Try.ntmps45
  refine wp_seq_k (fun K hK => ?_)
  have HK := Lib.hid hK; clear hK
  go_wp2
  refine HK.out _ _ ?_; clear HK K
  generalize hw1 : World.alloc _ _ = w1
  obtain ⟨b1, hB, hs1⟩ := blk1 hw1
  clear hw1
  go_wp2
  have B1 : Below w1.heap.size w1 w1 := Below.refl _ _
  go_loopw [4, 5, 6] (fun p q i wr => ∃ k : Nat, k ≤ n ∧ i = .int .i64 k ∧ wr.ownsRow w1.heap.size 3 1 p k (((List.range k).map (lowAt lo ss)).map (.int .i64)) ∧ wr.ownsRow w1.heap.size 3 1 q k (((List.range k).map (highAt hi ss)).map (.int .i64)) ∧ Hid (∀ g, p.ownBlock = some g → q.ownBlock ≠ some g) ∧ Below w1.heap.size w1 wr) (fun _ _ i _ => n - (intOf i).toNat)
  case atStart => exact ⟨0, Nat.zero_le _, rfl, World.ownsRow_nil _ _ _ _, World.ownsRow_nil _ _ _ _, Lib.hid (fun g h => by simp [Value.ownBlock] at h), B1⟩
  case round =>
    clear B1
    obtain ⟨k, hk, rfl, ro, rq, HD, hBk⟩ := hrel
    have b1r := blk_keep b1 hBk
    have c0 := cell_blk (i := 0) b1r
    have c1 := cell_blk (i := 1) b1r
    have c2 := cell_blk (i := 2) b1r
    have c3 := cell_blk (i := 3) b1r
    simp only [List.getElem?_toArray, List.getElem?_cons_zero, List.getElem?_cons_succ] at c0 c1 c2 c3
    obtain ⟨ap, cq1, rfl⟩ := form_of ro
    obtain ⟨aq, cq2, rfl⟩ := form_of rq
    by_cases hkn : k < n
    · have hki : (k : Int) < (n : Int) := by omega
      clear b1r
      go_wp2
      rename_i K hK
      have HK := Lib.hid hK; clear hK
      go_quiet (fail)
      refine HK.out _ _ ?_
      have hBd : Below wr.heap.size wr (wr.drewN nq) := below_drewN (Below.refl _ _) _
      clear c0 c1 c2
      clear HK K
      refine wp_seq_k (fun K hK => ?_)
      have HK := Lib.hid hK; clear hK
      go_wp2
      have hla : lowAt lo (ss.take 0) k = lo := rfl
      have hha : highAt hi (ss.take 0) k = hi := rfl
      go_loopw [7, 8, 9] (fun a b i wq => ∃ j : Nat, j ≤ ss.length ∧ i = .int .i64 j ∧ a = .int .i64 (lowAt lo (ss.take j) k) ∧ b = .int .i64 (highAt hi (ss.take j) k) ∧ Below wr.heap.size wr wq) (fun _ _ i _ => ss.length - (intOf i).toNat)
      case atStart => exact ⟨0, Nat.zero_le _, rfl, by rw [hla], by rw [hha], hBd⟩
      case round =>
        clear hBd hla hha
        obtain ⟨j, hj, rfl, rfl, rfl, hBq⟩ := hrel
        have d3 := (hBq.cell (p := ⟨w.heap.size, 3, none⟩) (lt_blk (blk_keep b1 hBk))).trans c3
        by_cases hjl : j < ss.length
        · obtain ⟨bs, off, rfl, hlt, hcell⟩ := HC.out (by omega)
          obtain ⟨p0, p1, p2⟩ := s_cells hcell (n := j) hjl rfl
          have hB2 := btr (btr hB hBk (Nat.le_refl _)) hBq (Nat.le_refl _)
          have r0 := (hB2.cell (p := ⟨bs, off + j * 3, none⟩) hlt).trans p0
          have r1 := (hB2.cell (p := ⟨bs, off + j * 3 + 1, none⟩) hlt).trans p1
          have r2 := (hB2.cell (p := ⟨bs, off + j * 3 + 2, none⟩) hlt).trans p2
          have hok := HOK.out j hjl
          have hlp : lowAt lo (ss.take (j + 1)) k = if (at_ ss j).week = (k : Int) then max (lowAt lo (ss.take j) k) ((at_ ss j).val - (at_ ss j).off) else lowAt lo (ss.take j) k := by rw [List.take_succ_eq_append_getElem hjl, low_push, at_lt hjl]
          have hhp : highAt hi (ss.take (j + 1)) k = if (at_ ss j).week = (k : Int) then min (highAt hi (ss.take j) k) ((at_ ss j).val + (at_ ss j).off) else highAt hi (ss.take j) k := by rw [List.take_succ_eq_append_getElem hjl, high_push, at_lt hjl]
          clear hcell p0 p1 p2
          generalize (at_ ss j).val = x1 at *
          generalize (at_ ss j).off = x2 at *
          generalize (at_ ss j).week = x0 at *
          generalize lowAt lo (ss.take j) k = la at *
          generalize highAt hi (ss.take j) k = ha at *
          have hw1 : IntKind.i64.wrap (x1 - x2) = x1 - x2 := by rw [IntKind.wrap_i64]; omega
          have hw2 : IntKind.i64.wrap (x1 + x2) = x1 + x2 := by rw [IntKind.wrap_i64]; omega
          have hEb : Below wr.heap.size wr (wr.alloc (Obj.cells #[Value.int IntKind.i64 x0, Value.int IntKind.i64 x1, Value.int IntKind.i64 x2] 104)) := (Below.refl _ _).alloc (Nat.le_refl _) _
          have hB3 := btr hBq hEb (Nat.le_refl _)
          have b6 : (wr.alloc (Obj.cells #[Value.int IntKind.i64 x0, Value.int IntKind.i64 x1, Value.int IntKind.i64 x2] 104)).heap[wr.heap.size]? = _ := heap_newI rfl
          by_cases hx : x0 = (k : Int)
          · rw [if_pos hx] at hlp hhp
            subst hx
            have hkk : ((k : Int) == (k : Int)) = true := by simp
            have HLP := Lib.hid hlp
            have HHP := Lib.hid hhp
            clear hlp hhp
            go_wp2
            rename_i K2 hK2
            have HK2 := Lib.hid hK2; clear hK2
            generalize hwa : World.alloc _ _ = wa at *
            have s0 := cell_blk (i := 0) b6
            have s1 := cell_blk (i := 1) b6
            have s2 := cell_blk (i := 2) b6
            simp only [List.getElem?_toArray, List.getElem?_cons_zero, List.getElem?_cons_succ] at s0 s1 s2
            refine wp_region_still_lit (by kernel_rfl) (by kernel_rfl) ?_
            change wpStill _ _ (World.drew wa) _ _ _
            repeat (first | (refine wpStill_max rfl (.tmp 39) (.tmp 44) _ rfl rfl rfl ?_) | (refine wpStill_min rfl (.tmp 46) (.tmp 51) _ rfl rfl rfl ?_) | still_step)
            refine wpStill_nil ?_
            have hB4 := hB3.drew
            clear s0 s1 s2 b6 hB3 hwa hEb
            change K2 _ (World.drew wa)
            generalize World.drew wa = wd at *
            refine HK2.out _ _ ?_; clear HK2 K2
            go_wp2
            go_roundw
            case rel => exact ⟨j + 1, by omega, by go_num, by rw [HLP.out], by rw [HHP.out], hB4⟩
            case measure => simp [intOf]; omega
          · rw [if_neg hx] at hlp hhp
            have hkk : (x0 == (k : Int)) = false := by simpa using hx
            have HLP := Lib.hid hlp
            have HHP := Lib.hid hhp
            clear hlp hhp
            go_wp2
            go_roundw
            case rel => exact ⟨j + 1, by omega, by go_num, by rw [HLP.out], by rw [HHP.out], hB3⟩
            case measure => simp [intOf]; omega
        · have hje : j = ss.length := by omega
          subst hje
          have ro2 := row_below ro hBq
          have rq2 := row_below rq hBq
          have hB3 := btr hBk hBq (Nat.le_refl _)
          have hsz := hB3.size
          simp only [List.take_length] at *
          clear ro rq hBq hBk
          go_wp2
          refine HK.out _ _ ?_; clear HK
          have eL : ((List.range (k + 1)).map (lowAt lo ss)).map (Value.int .i64) = ((List.range k).map (lowAt lo ss)).map (Value.int .i64) ++ [.int .i64 (lowAt lo ss k)] := by rw [List.range_succ, List.map_append, List.map_append]; rfl
          have eH : ((List.range (k + 1)).map (highAt hi ss)).map (Value.int .i64) = ((List.range k).map (highAt hi ss)).map (Value.int .i64) ++ [.int .i64 (highAt hi ss k)] := by rw [List.range_succ, List.map_append, List.map_append]; rfl
          have HEL := Lib.hid eL
          have HEH := Lib.hid eH
          clear eL eH
          generalize lowAt lo ss k = la at *
          generalize highAt hi ss k = ha at *
          have hbk1 : k + 1 ≤ 100 := by omega
          have HD2 : Hid (∀ g, (Value.slice aq k cq2).ownBlock = some g → (Value.slice ap k cq1).ownBlock ≠ some g) := Lib.hid fun g h1 h2 => HD.out g h2 h1
          go_wp2_with (at_builtin; first
            | (have := mk1; refine wpList_append_any _ rfl _ _ 41 rfl w1.heap.size 3 i3 (.int .i64 0) 1 8 Try.underlying41 HI.out.1 HI.out.2.1 HI.out.2.2.1 HI.out.2.2.2 rfl (by decide) _ _ _ rfl (rq3.alloc _) _ _ 1 1 _ rfl reads_one (by intro u hu; simp at hu; subst hu; rfl) (Nat.le_trans hbk1 (by decide)) (by omega) (by rw [World.size_alloc]; omega) ?_; intro v8 w8 r8 g8 o8)
            | (refine wpList_append_any _ rfl _ _ 41 rfl w1.heap.size 3 i3 (.int .i64 0) 1 8 Try.underlying41 HI.out.1 HI.out.2.1 HI.out.2.2.1 HI.out.2.2.2 rfl (by decide) _ _ _ rfl (ro2.alloc _) _ _ 1 1 _ rfl reads_one (by intro u hu; simp at hu; subst hu; rfl) (Nat.le_trans hbk1 (by decide)) (by omega) (by rw [World.size_alloc]; omega) ?_; intro v7 w7 r7 g7 o7; obtain ⟨rq3, hD7⟩ := push_two ro2 rq2 HD.out g7 o7; have hs7 := (append_same1 ro2 g7).2.1; have mk1 : True := trivial))
          obtain ⟨r78, hD8⟩ := push_two rq3 r7 (fun g h1 h2 => hD7 g h2 h1) g8 o8
          have hB7 := grown_below1 g7 ro2 (Nat.le_refl _) hsz hB3
          have hB8 := grown_below1 g8 rq3 (Nat.le_refl _) (by omega) hB7
          refine ⟨⟨k + 1, by omega, by go_num, by rw [HEL.out]; exact r78, by rw [HEH.out]; exact r8, Lib.hid (fun g h1 h2 => hD8 g h2 h1), hB8⟩, by simp [intOf]; omega⟩
    · have hki : ¬ ((k : Int) < (n : Int)) := by omega
      have hkk : k = n := by omega
      have hso := slI_own (xs := (List.range k).map (lowAt lo ss)) ro (by simp) (by simp; omega)
      have hsq := slI_own (xs := (List.range k).map (highAt hi ss)) rq (by simp) (by simp; omega)
      have HSO := Lib.hid hso
      have HSQ := Lib.hid hsq
      clear hso hsq ro rq c1 c2 c3
      subst hkk
      go_wp2
      go_ret2
      exact ⟨_, _, rfl, HSO.out, HSQ.out, btr hB hBk (Nat.le_refl _)⟩
end Ytgnjeefanbcbkaa
end Go.Proofs
