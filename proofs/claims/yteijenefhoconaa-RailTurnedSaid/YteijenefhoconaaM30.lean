/- The laws without a reference: the line and the trains of a track by numbers. -/
import Derived.Test.YteijenefhoconaaOT2
import Derived.Test.YteijenefhoconaaBox
open Go Go.RowKit Go.YteijenefhoconaaIt
namespace Go.Proofs
namespace Yteijenefhoconaa
theorem row_below {W W' : World} {base : Nat} {e : TypeId} {sz : Nat} {v : Value} {n : Nat} {xs : List Value} (h : W.ownsRow base e sz v n xs) (hb : Below W.heap.size W W') : W'.ownsRow base e sz v n xs := Stb.row (B := 0) W W' (Gr.below hb) h
theorem row_set_other {W : World} {base : Nat} {e : TypeId} {sz : Nat} {v : Value} {n : Nat} {xs : List Value} {b i : Nat} {x : Value} (h : W.ownsRow base e sz v n xs) (hne : v.ownBlock ≠ some b) : (W.setCell ⟨b, i, none⟩ x).ownsRow base e sz v n xs := by
  refine ⟨h.1, ?_⟩
  rcases h.2 with h | ⟨g, cap, cur, rfl, hb, hh, r1, r2, r3, r4⟩
  · exact .inl h
  · exact .inr ⟨g, cap, cur, rfl, hb, (heap_set_other (fun e => hne (by rw [e]; rfl))).trans hh, r1, r2, r3, r4⟩
theorem cap_of {W : World} {base : Nat} {e : TypeId} {sz : Nat} {v : Value} {n : Nat} {xs : List Value} (h : W.ownsRow base e sz v n xs) : ∀ ad m cap, v = .slice ad m cap → m ≤ cap := by
  intro ad m cap hv
  rcases h.2 with ⟨h1, _⟩ | ⟨g, c, cur, h1, _, _, hnc, _⟩
  · rw [h1] at hv; injection hv with _ e2 e3; omega
  · rw [h1] at hv; injection hv with _ e2 e3; omega
theorem size69 : (Try.prog.info? 69).map (·.size) = some 2 := by kernel_rfl
set_option maxRecDepth 100000 in
set_option maxHeartbeats 1000000 in
theorem made_cap (r0 r1 r2 r3 r4 r5 m : Int) (v : Value) (xs : List Tn) (w : World) (hR : ∀ x ∈ [r0, r1, r2, r3, r4, r5], 0 ≤ x ∧ x < 256) (hm : 0 ≤ m ∧ m < 256) (hx : SlP w v xs) :
    Calls Try.prog 30 #[encM [r0, r1, r2, r3, r4, r5] m v] w fun e w' => ∃ vL vT, e = .returned (.tuple #[vL, vT]) ∧ SlI w' vL (lineM [r0, r1, r2, r3, r4, r5] m) ∧ SlT w' vT (trainsM (lineM [r0, r1, r2, r3, r4, r5] m) xs) ∧ (∀ ad n cap, vT = .slice ad n cap → n ≤ cap) ∧ Below w.heap.size w w' := by
  obtain ⟨i3, hi3, hz1, hz2, hz3⟩ := info_parts info3
  obtain ⟨i6, hi6, hy1, hy2, hy3⟩ := info_parts info69
  have HI := Lib.hid (And.intro hi6 (And.intro hy1 (And.intro hy2 hy3)))
  clear hi6 hy1 hy2 hy3
  simp only [encM, List.map_cons, List.map_nil, List.cons_append, List.nil_append]
  obtain ⟨R, hRe⟩ : ∃ R, R = [r0, r1, r2, r3, r4, r5] := ⟨_, rfl⟩
  have HRE := Lib.hid hRe
  rw [← hRe] at hR ⊢
  go_enter Try.func30, Try.ntmps30
  refine wp_seq_k (fun K hK => ?_)
  have HK := Lib.hid hK; clear hK
  go_wp2
  refine HK.out _ _ ?_; clear HK K
  generalize hw1 : World.alloc _ _ = w1
  have b1 : w1.heap[w.heap.size]? = some (.cells ((R.map (Value.int .u8)) ++ [.int .u8 m, v]).toArray 52 (0, 0)) := by rw [← hw1, hRe]; exact heap_newI rfl
  have hb1 : Below w.heap.size w w1 := by rw [← hw1]; exact (Below.refl _ _).alloc (Nat.le_refl _) _
  have hs1 : w.heap.size + 1 ≤ w1.heap.size := by rw [← hw1]; simp
  have hR6 : R.length = 6 := by rw [hRe]; rfl
  have c6 : w1.cell? ⟨w.heap.size, 6, none⟩ = some (.int .u8 m) := by rw [cell_blk b1, hRe]; rfl
  have c7 : w1.cell? ⟨w.heap.size, 7, none⟩ = some v := by rw [cell_blk b1, hRe]; rfl
  have cr : ∀ s, s < 6 → w1.cell? ⟨w.heap.size, s, none⟩ = some (.int .u8 (at0 R s)) := fun s hs => by
    rw [cell_blk b1]
    simp [List.getElem?_append, hR6, hs, at0]
  have hrb : ∀ s, s < 6 → 0 ≤ at0 R s ∧ at0 R s < 256 := fun s hs => by rw [at0_lt (by omega)]; exact hR _ (List.getElem_mem _)
  clear hw1 b1 hRe
  have hx1 := hx.below hb1 (Nat.le_refl _)
  refine wp_seq_k (fun K hK => ?_)
  have HK := Lib.hid hK; clear hK
  go_wp2
  refine HK.out _ _ ?_; clear HK K
  refine wp_seq_k (fun K hK => ?_)
  have HK := Lib.hid hK; clear hK
  have hml := manyM_le m
  have hme : ((2 : Int) + m % 5) = (manyM m : Int) := by unfold manyM; omega
  have HCR := Lib.hid cr
  have HME := Lib.hid hme
  clear cr hme
  go_wp2
  go_loopw [4, 5] (fun v i wr => ∃ k : Nat, k ≤ manyM m ∧ i = .int .i64 k ∧ Below w1.heap.size w1 wr ∧ wr.ownsRow w1.heap.size 3 1 v k (((lineM R m).take k).map (.int .i64))) (fun _ i _ => manyM m - (intOf i).toNat)
  case atStart => exact ⟨0, Nat.zero_le _, rfl, Below.refl _ _, World.ownsRow_nil _ _ _ _⟩
  case round =>
    obtain ⟨k, hk, rfl, hb, ho⟩ := hrel
    have hsz := hb.size
    have d6 := (hb.cell (p := ⟨w.heap.size, 6, none⟩) (by simp; omega)).trans c6
    by_cases hkn : k < manyM m
    · have dk := (hb.cell (p := ⟨w.heap.size, k, none⟩) (by simp; omega)).trans (HCR.out k (by omega))
      have hrk := hrb k (by omega)
      have hge : (k : Int) < 2 + m % 5 := by rw [HME.out]; omega
      have hlk : (((lineM R m).take k).map (Value.int .i64)) ++ [.int .i64 (1 + at0 R k % 5 / 3)] = ((lineM R m).take (k + 1)).map (.int .i64) := by
        rw [List.take_succ_eq_append_getElem (by rw [lineM_len]; exact hkn), List.map_append]; simp [lineM, roomM]
      have HLK := Lib.hid hlk
      clear hlk
      go_wp2_with (at_builtin; refine wpList_append_own _ rfl _ _ 23 rfl w1.heap.size 3 i3 (.int .i64 0) 1 8 Try.underlying23 hi3 hz1 hz2 hz3 rfl (by decide) _ _ _ rfl (ho.alloc _) ⟨wr.heap.size, 0, none⟩ 1 1 [.int .i64 (1 + at0 R k % 5 / 3)] rfl rfl (cell_new1 rfl) (fun x hx => by simp at hx; subst hx; rfl) (Nat.le_trans (by omega : k + 1 ≤ 6) (by decide)) (by omega) (by rw [World.size_alloc]; omega) ?_; intro v' w6 r1 r2 _)
      go_roundw
      case rel => exact ⟨k + 1, by omega, by go_num, grown_below1 r2 ho (Nat.le_refl _) hsz hb, by rw [← HLK.out]; exact r1⟩
      case measure => simp [intOf]; omega
    · have hkn2 : k = manyM m := by omega
      have hge : ¬ ((k : Int) < 2 + m % 5) := by rw [HME.out]; omega
      go_wp2
      refine HK.out _ _ ?_; clear HK
      rw [hkn2, List.take_of_length_le (by rw [lineM_len]; exact Nat.le_refl _), ← lineM_len R m] at ho
      have hL := slI_own ho (by rw [lineM_len]; omega) (Nat.le_refl _) (fun _ _ _ => rfl)
      rename_i vL
      have hxr := hx1.below hb (Nat.le_refl _)
      have e7 := (hb.cell (p := ⟨w.heap.size, 7, none⟩) (by simp; omega)).trans c7
      have hB := hb1.trans (hb.mono (by omega))
      have hwr := hb.size
      clear hkn2 hkn hk ho hsz d6 c6 c7 HCR HME hb hx1 hx
      clear hge
      have hLL : 2 ≤ (lineM R m).length ∧ (lineM R m).length ≤ 6 := by rw [lineM_len]; exact hml
      generalize lineM R m = L at *
      have hL0 := hL
      obtain ⟨adL, capL, rfl, hmL, hcL⟩ := hL
      obtain ⟨⟨adx, capx, rfl, hmx, hcx⟩, hxb⟩ := hxr
      obtain ⟨bL, oL, rfl, hltL, hcellL⟩ := hcL (by omega)
      clear hcL
      have HL0 := Lib.hid hL0
      have HCL := Lib.hid hcellL
      clear hL0 hcellL
      have HXC := Lib.hid hcx
      have HXB := Lib.hid hxb
      clear hcx hxb
      obtain ⟨wo, rfl⟩ : ∃ wo : World, wo = wr := ⟨_, rfl⟩
      refine wp_seq_k (fun K hK => ?_)
      have HK := Lib.hid hK; clear hK
      go_wp2
      refine HK.out _ _ ?_; clear HK
      refine wp_seq_k (fun K hK => ?_)
      have HK := Lib.hid hK; clear hK
      go_wp2
      go_loopw [6, 7] (fun v i w3 => ∃ k : Nat, k ≤ min xs.length 4 ∧ i = .int .i64 k ∧ Below wo.heap.size wo w3 ∧ w3.ownsRow wo.heap.size 69 2 v k (flat (trainsN L xs k))) (fun _ i _ => min xs.length 4 - (intOf i).toNat)
      case atStart => exact ⟨0, Nat.zero_le _, rfl, Below.refl _ _, World.ownsRow_nil _ _ _ _⟩
      case round =>
        obtain ⟨k, hk, rfl, hb, ho⟩ := hrel
        have hsz := hb.size
        have d7 := (hb.cell (p := ⟨w.heap.size, 7, none⟩) (by simp; omega)).trans e7
        by_cases hkn : k < min xs.length 4
        · have hk1 : k < xs.length := by omega
          have hk2 : k < 4 := by omega
          obtain ⟨bx, ox, rfl, hltx, hcellx⟩ := HXC.out (by omega)
          have q1 := (hb.cell (p := ⟨bx, ox + k * 2, none⟩) (by simp; omega)).trans (hcellx k hk1).1
          have q2 := (hb.cell (p := ⟨bx, ox + k * 2 + 1, none⟩) (by simp; omega)).trans (hcellx k hk1).2
          have hxk := HXB.out k hk1
          have hst : trainsN L xs (k + 1) = trainsN L xs k ++ [trM L (trainsN L xs k) (tAt xs k, tTo xs k)] := rfl
          have HST := Lib.hid hst
          clear hst
          generalize tAt xs k = p at *
          generalize tTo xs k = q at *
          refine wp_seq_k (fun K hK => ?_)
          have HK := Lib.hid hK; clear hK
          go_wp2
          refine HK.out _ _ ?_; clear HK
          refine wp_seq_k (fun K hK => ?_)
          have HK := Lib.hid hK; clear hK
          refine wp_block ?_
          refine wp_seq_k (fun K hK => ?_)
          have HK2 := Lib.hid hK; clear hK
          have hm0 : ¬ L.length = 0 := by omega
          have hwp : IntKind.i64.wrap p = p := IntWalk.i64_in p (by omega)
          have hwq : IntKind.i64.wrap q = q := IntWalk.i64_in q (by omega)
          have htp : p.tmod ↑L.length = p % ↑L.length := Int.tmod_eq_emod_of_nonneg hxk.1.1
          have htq : q.tmod ↑L.length = q % ↑L.length := Int.tmod_eq_emod_of_nonneg hxk.2.1
          have hwl : bx < wr.heap.size := by omega
          have hwl2 : w.heap.size < wr.heap.size := by omega
          have HC7 := Lib.hid e7
          clear hcellx hrb hR HRE hz1 hz2 hz3 hi3 hxk e7
          have HX1 := Lib.hid (And.intro hb (And.intro ho (And.intro hsz (And.intro hk1 (And.intro hk2 (And.intro hkn hk))))))
          have HX2 := Lib.hid (And.intro hB (And.intro hwr (And.intro hs1 (And.intro hb1 (And.intro hml (And.intro hmL (And.intro hmx (And.intro hltx (And.intro hltL (And.intro hLL hm))))))))))
          clear hb ho hsz hkn hk hB hwr hs1 hb1 hml hmL hmx hltx hltL hR6 hm
          refine wp_region_alloc (obj := .cells #[.int .i64 0, .int .i64 0] 69 (0, 0)) (p := .pointer (some ⟨wr.heap.size, 0, none⟩)) 21 22 (on := _) (ot := _) (by kernel_rfl) (by kernel_rfl) rfl rfl rfl rfl (by kernel_rfl) ?hal ?_
          case hal => kernel_rfl
          simp only [struckS, List.set_cons_succ, List.set_cons_zero]
          have q7 : ∀ x : Tw wr.drew (wr.alloc (.cells #[.int .i64 0, .int .i64 0] 69 (0, 0))).drew, x.val.cell? ⟨w.heap.size, 7, none⟩ = _ := fun x => (tw_cell x (by simp; omega)).trans d7
          have q1' : ∀ x : Tw wr.drew (wr.alloc (.cells #[.int .i64 0, .int .i64 0] 69 (0, 0))).drew, x.val.cell? ⟨bx, ox + k * 2, none⟩ = _ := fun x => (tw_cell x (by simp; omega)).trans q1
          have q2' : ∀ x : Tw wr.drew (wr.alloc (.cells #[.int .i64 0, .int .i64 0] 69 (0, 0))).drew, x.val.cell? ⟨bx, ox + k * 2 + 1, none⟩ = _ := fun x => (tw_cell x (by simp; omega)).trans q2
          repeat go_big_quiet_step (fail)
          refine wpQuiet_nil ?_
          go_wp2
          refine HK2.out _ _ ?_; clear HK2 K
          have hp1 : 0 ≤ p % (L.length : Int) ∧ p % (L.length : Int) < L.length := ⟨Int.emod_nonneg _ (by omega), Int.emod_lt_of_pos _ (by omega)⟩
          have hq1 : 0 ≤ q % (L.length : Int) ∧ q % (L.length : Int) < L.length := ⟨Int.emod_nonneg _ (by omega), Int.emod_lt_of_pos _ (by omega)⟩
          clear q7 q1' q2' q1 q2
          obtain ⟨a, hae⟩ : ∃ a, a = p % (L.length : Int) := ⟨_, rfl⟩
          obtain ⟨c, hbe⟩ : ∃ c, c = q % (L.length : Int) := ⟨_, rfl⟩
          rw [← hae, ← hbe]
          rw [← hae] at hp1
          rw [← hbe] at hq1
          have HAE := Lib.hid (And.intro hae hbe)
          clear hae hbe
          generalize hw6 : World.drew _ = w6
          have hb6 : Below wr.heap.size wr w6 := by rw [← hw6]; exact ((Below.refl _ _).alloc (Nat.le_refl _) _).drew
          have b6 : w6.heap[wr.heap.size]? = some (.cells #[.int .i64 a, .int .i64 c] 69 (0, 0)) := by rw [← hw6]; exact heap_newI rfl
          have hs6 : wr.heap.size + 1 ≤ w6.heap.size := by rw [← hw6]; simp
          clear hw6
          obtain ⟨hb, ho, hsz, hk1, hk2, hkn, hk⟩ := HX1.out
          obtain ⟨hB, hwr, hs1, hb1, hml, hmL, hmx, hltx, hltL, hLL, hm⟩ := HX2.out
          clear HX1 HX2
          have ho6 := row_below ho hb6
          have hne : u6.ownBlock ≠ some wr.heap.size := fun e => by have := (ho.lt _ e).2; omega
          obtain ⟨an, rfl⟩ := Int.eq_ofNat_of_zero_le hp1.1
          have hb6' : Below wo.heap.size wo w6 := hb.trans (hb6.mono (by omega))
          have HT6 := Lib.hid (slT_own (by rw [trainsN_len]; exact ho6) (by rw [trainsN_len]; omega))
          have hcnt := fun (x : Ab w6.heap.size w6) => count34_any _ _ (an : Int) x.val (HT6.out.below x.ok (Nat.le_refl _))
          have g1 := fun (x : Ab w6.heap.size w6) => (x.ok.cell (p := ⟨wr.heap.size, 0, none⟩) (by simp; omega)).trans (cell_blk (i := 0) b6)
          have g5 := fun (x : Ab w6.heap.size w6) => ((hb6'.trans (x.ok.mono (by omega))).cell (p := ⟨bL, oL + an, none⟩) (by simp; omega)).trans (HCL.out an (by omega))
          simp only [List.getElem?_toArray, List.getElem?_cons_zero] at g1
          obtain ⟨mm, hmm⟩ : ∃ mm, mm = inT (trainsN L xs k) an := ⟨_, rfl⟩
          obtain ⟨rm, hrm⟩ : ∃ rm, rm = at0 L an := ⟨_, rfl⟩
          rw [← hmm] at hcnt
          simp only [← hrm] at g5
          have HMM := Lib.hid (And.intro hmm hrm)
          clear hmm hrm
          refine wp_seq_k (fun K hK => ?_)
          have HK2 := Lib.hid hK; clear hK
          refine wp_seq_k (fun K2 hK2 => ?_)
          have HK3 := Lib.hid hK2; clear hK2
          refine wp_region_ab w6.heap.size w6 (by kernel_rfl) (by kernel_rfl) (Below.refl _ _) ?_
          unfold AbC
          repeat go_big_quiet_step (first | (go_at_call 34; exact Calls.ab _ (Nat.le_refl _) (hcnt _)))
          refine wpQuiet_nil ?_
          rintro W' ⟨x, rfl⟩
          have hB7 := x.ok
          generalize x.val = w7 at *
          have hb7 := x.ok
          clear hcnt g1 g5
          have b7 := blk_below b6 hB7 (by omega)
          have hs7 := hB7.size
          have ho7 := row_below ho6 hB7
          have hb7' : Below wo.heap.size wo w7 := hb6'.trans (hB7.mono (by omega))
          clear hB7 ho6 b6 hb6 ho hb hb7
          refine HK3.out _ _ ?_; clear HK3 K2
          have hcs : (if rm ≤ (mm : Int) then (an : Int) else c) = (trM L (trainsN L xs k) (p, q)).2 := by
            unfold trM; simp only; rw [HMM.out.1, HMM.out.2, ← HAE.out.1, ← HAE.out.2]; simp only [Int.toNat_natCast]
          have hap : (an : Int) = (trM L (trainsN L xs k) (p, q)).1 := by unfold trM; simp only; rw [← HAE.out.1]
          have hflat : flat (trainsN L xs (k + 1)) = flat (trainsN L xs k) ++ [.int .i64 an, .int .i64 (if rm ≤ (mm : Int) then (an : Int) else c)] := by
            rw [HST.out, hcs, hap]; simp [flat]
          clear hcs hap
          by_cases hfull : rm ≤ (mm : Int)
          · rw [if_pos hfull] at hflat
            have HFL := Lib.hid hflat
            clear hflat
            have f7 := free_blk (i := 1) b7
            have p7 := cell_blk (i := 1) b7
            have q7 := cell_blk (i := 0) b7
            simp only [List.getElem?_toArray, List.getElem?_cons_zero, List.getElem?_cons_succ] at p7 q7
            go_wp2
            refine HK2.out _ _ ?_; clear HK2 K
            obtain ⟨w8, hw8⟩ : ∃ w8, w8 = w7.setCell ⟨wr.heap.size, 1, none⟩ (.int .i64 an) := ⟨_, rfl⟩
            rw [← hw8]
            have h8b : w8.heap[wr.heap.size]? = some (.cells #[.int .i64 an, .int .i64 an] 69 (0, 0)) := by rw [hw8, heap_set_blk b7]; rfl
            have ho8 : w8.ownsRow wo.heap.size 69 2 u6 k (flat (trainsN L xs k)) := by rw [hw8]; exact row_set_other ho7 hne
            have hb8 : Below wo.heap.size wo w8 := by rw [hw8]; exact hb7'.setCell (by simp; omega) _
            have hs8 : wr.heap.size + 1 ≤ w8.heap.size := by rw [hw8]; simp; omega
            clear hw8 f7 p7 q7 b7 ho7 hb7' hs7
            obtain ⟨hi6, hy1, hy2, hy3⟩ := HI.out
            go_wp2_with (first | (refine wpList_load_blk rfl 69 _ rfl _ rfl h8b Try.underlying69 rfl size69 rfl ?_) | (at_builtin; refine wpList_append_own _ rfl _ _ 24 rfl wo.heap.size 69 i6 (.agg #[.int .i64 0, .int .i64 0]) 2 16 Try.underlying24 hi6 hy1 hy2 hy3 rfl (by decide) _ _ _ rfl (ho8.alloc _) ⟨w8.heap.size, 0, none⟩ 1 1 [.int .i64 an, .int .i64 an] rfl rfl (cell_new2 rfl) (fun x hx => by simp at hx; rcases hx with rfl | rfl <;> rfl) (Nat.le_trans (by omega : k + 1 ≤ 2000) (by decide)) (by omega) (by rw [World.size_alloc]; omega) ?_; intro v' w9 r1 r2 _))
            refine HK.out _ _ ?_; clear HK
            go_wp2
            go_roundw
            case rel => exact ⟨k + 1, by omega, by go_num, grown_below1 r2 ho8 (Nat.le_refl _) (by have := hb8.size; omega) hb8, by rw [HFL.out]; exact r1⟩
            case measure => simp [intOf]; omega
          · rw [if_neg hfull] at hflat
            have HFL := Lib.hid hflat
            clear hflat
            go_wp2
            refine HK2.out _ _ ?_; clear HK2 K
            obtain ⟨w8, rfl⟩ : ∃ w8, w8 = w7 := ⟨_, rfl⟩
            have h8b := b7
            have ho8 := ho7
            have hb8 := hb7'
            clear b7 ho7 hb7'
            obtain ⟨hi6, hy1, hy2, hy3⟩ := HI.out
            go_wp2_with (first | (refine wpList_load_blk rfl 69 _ rfl _ rfl h8b Try.underlying69 rfl size69 rfl ?_) | (at_builtin; refine wpList_append_own _ rfl _ _ 24 rfl wo.heap.size 69 i6 (.agg #[.int .i64 0, .int .i64 0]) 2 16 Try.underlying24 hi6 hy1 hy2 hy3 rfl (by decide) _ _ _ rfl (ho8.alloc _) ⟨w8.heap.size, 0, none⟩ 1 1 [.int .i64 an, .int .i64 c] rfl rfl (cell_new2 rfl) (fun x hx => by simp at hx; rcases hx with rfl | rfl <;> rfl) (Nat.le_trans (by omega : k + 1 ≤ 2000) (by decide)) (by omega) (by rw [World.size_alloc]; omega) ?_; intro v' w9 r1 r2 _))
            refine HK.out _ _ ?_; clear HK
            go_wp2
            go_roundw
            case rel => exact ⟨k + 1, by omega, by go_num, grown_below1 r2 ho8 (Nat.le_refl _) (by have := hb8.size; omega) hb8, by rw [HFL.out]; exact r1⟩
            case measure => simp [intOf]; omega
        · have hkx : k = min xs.length 4 := by omega
          clear hkn hk
          have hT := slT_own (W := wr) (ts := trainsM L xs) (by unfold trainsM; rw [trainsN_len, ← hkx]; exact ho) (by unfold trainsM; rw [trainsN_len]; omega)
          have hLr := HL0.out.below hb (Nat.le_refl _)
          have hcp := Lib.hid (cap_of ho)
          clear HL0 HCL HXC HXB hrb hR HRE
          by_cases hx4 : xs.length ≤ 4
          all_goals
            go_wp2
            refine HK.out _ _ ?_; clear HK
            go_wp2
            go_ret2
            exact ⟨_, _, rfl, hLr, hT, hcp.out, hB.trans (hb.mono (by omega))⟩
theorem made_any (r0 r1 r2 r3 r4 r5 m : Int) (v : Value) (xs : List Tn) (w : World) (hR : ∀ x ∈ [r0, r1, r2, r3, r4, r5], 0 ≤ x ∧ x < 256) (hm : 0 ≤ m ∧ m < 256) (hx : SlP w v xs) :
    Calls Try.prog 30 #[encM [r0, r1, r2, r3, r4, r5] m v] w fun e w' => ∃ vL vT, e = .returned (.tuple #[vL, vT]) ∧ SlI w' vL (lineM [r0, r1, r2, r3, r4, r5] m) ∧ SlT w' vT (trainsM (lineM [r0, r1, r2, r3, r4, r5] m) xs) ∧ Below w.heap.size w w' :=
  (made_cap r0 r1 r2 r3 r4 r5 m v xs w hR hm hx).mono fun _ _ ⟨vL, vT, h1, h2, h3, _, h4⟩ => ⟨vL, vT, h1, h2, h3, h4⟩
end Yteijenefhoconaa
end Go.Proofs
