/- The law RailOneWay returns true. -/
import Derived.Test.YteijenefhoconaaTlem
import Derived.Test.YteijenefhoconaaOneP
open Go Go.RowKit Go.YteijenefhoconaaIt
namespace Go.Proofs
namespace Yteijenefhoconaa
theorem slT_open {W : World} {ad : Option Addr} {n cap : Nat} {ts : List Tn} (h : SlT W (.slice ad n cap) ts) (h0 : 0 < ts.length) : ∃ b off, ad = some ⟨b, off, none⟩ ∧ b < W.heap.size ∧ ∀ i, i < ts.length → W.cell? ⟨b, off + i * 2, none⟩ = some (.int .i64 (tAt ts i)) ∧ W.cell? ⟨b, off + i * 2 + 1, none⟩ = some (.int .i64 (tTo ts i)) := by
  obtain ⟨ad', cap', h1, _, h3⟩ := h
  injection h1 with e1 _ _
  obtain ⟨b, off, h4, h5, h6⟩ := h3 h0
  exact ⟨b, off, e1.trans h4, h5, h6⟩
theorem set_self {us : List Tn} {k : Nat} (hk : k < us.length) : us.set k (tAt us k, tTo us k) = us := by
  apply List.ext_getElem (by simp)
  intro i h1 h2
  rw [List.getElem_set]
  split
  · rename_i h; subst h; rw [tAt_lt hk, tTo_lt hk]
  · rfl
theorem oneK_same {up : Bool} {us : List Tn} {k : Nat} (hk : k < us.length) (h : decide (tAt us k < tTo us k) = up) : oneK up us (k + 1) = oneK up us k := by
  have e := oneK_at (up := up) hk
  rw [oneK_succ hk]
  have h2 : oneF up (tAt us k, tTo us k) = (tAt us k, tTo us k) := by unfold oneF; simp only [gt_iff_lt]; rw [h]; simp
  rw [h2, ← e.1, ← e.2]
  exact set_self (by rw [oneK_len]; exact hk)
theorem oneK_chg {up : Bool} {us : List Tn} {k : Nat} (hk : k < us.length) (h : decide (tAt us k < tTo us k) = !up) : oneK up us (k + 1) = (oneK up us k).set k (tAt (oneK up us k) k, tAt us k) := by
  have e := oneK_at (up := up) hk
  rw [oneK_succ hk]
  have h2 : oneF up (tAt us k, tTo us k) = (tAt us k, tAt us k) := by unfold oneF; simp only [gt_iff_lt]; rw [h]; cases up <;> simp
  rw [h2, e.1]
set_option maxRecDepth 100000 in
set_option maxHeartbeats 4000000 in
theorem railOneWay_any (r0 r1 r2 r3 r4 r5 m : Int) (v : Value) (xs : List Tn) (up : Bool) (w : World) (hR : ∀ x ∈ [r0, r1, r2, r3, r4, r5], 0 ≤ x ∧ x < 256) (hm : 0 ≤ m ∧ m < 256) (hx : SlP w v xs) :
    Calls Try.prog 10 #[.agg #[.int .u8 r0, .int .u8 r1, .int .u8 r2, .int .u8 r3, .int .u8 r4, .int .u8 r5, .int .u8 m, v], .bool up] w fun e w' => e = .returned (.bool true) ∧ Below w.heap.size w w' := by
  have HX := Lib.hid hx
  have HR := Lib.hid hR
  have HMM := Lib.hid hm
  clear hx hR hm
  have hmm := @run_makeMap Try.prog
  go_enter Try.func10, Try.ntmps10
  refine wp_seq_k (fun K hK => ?_)
  have HK := Lib.hid hK; clear hK
  go_wp2
  refine HK.out _ _ ?_; clear HK K
  generalize hw1 : World.alloc _ _ = w1
  have b1 : w1.heap[w.heap.size]? = some (.cells #[.int .u8 r0, .int .u8 r1, .int .u8 r2, .int .u8 r3, .int .u8 r4, .int .u8 r5, .int .u8 m, v] 52 (0, 0)) := by rw [← hw1]; exact heap_newI rfl
  have B : Below w.heap.size w w1 := by rw [← hw1]; exact (Below.refl _ _).alloc (Nat.le_refl _) _
  clear hw1
  refine wp_seq_k (fun K hK => ?_)
  have HK := Lib.hid hK; clear hK
  go_wp2_with (first | (refine wpList_load_blk rfl 52 _ rfl _ rfl b1 Try.underlying52 rfl size52 rfl ?_) | (go_at_call 30; refine (made6 r0 r1 r2 r3 r4 r5 m v xs _ HR.out HMM.out (HX.out.below B (Nat.le_refl _))).mono ?_; rintro e w2 ⟨vL, vT, L, ts, rfl, hL, hT, hok, hb⟩; replace B := btr B hb (Nat.le_refl _); clear hb b1))
  refine HK.out _ _ ?_; clear HK K
  obtain ⟨he, h4, hl2, hl6, hLb⟩ := hok
  have HV := Lib.hid (show Val L (tos ts) ts from ⟨he, rfl⟩)
  have HL := Lib.hid hL
  have HT := Lib.hid hT
  have HLB := Lib.hid hLb
  clear he hL hT hLb HX HR HMM
  have h4x := h4
  obtain ⟨adt, capt, rfl, hmt, -⟩ := HT.out
  obtain ⟨adL, capL, rfl, hmL, -⟩ := HL.out
  obtain ⟨i69, hi69, hy1, hy2, hy3⟩ := info_parts info69
  obtain ⟨i3, hi3, hz1, hz2, hz3⟩ := info_parts info3
  have hX0 : Below w2.heap.size w2 (w2.alloc (.cells #[] 69)) := (Below.refl _ _).alloc (Nat.le_refl _) _
  have hrd := reads_of_slT (HT.out.below hX0 (Nat.le_refl _))
  refine wp_seq_k (fun K hK => ?_)
  have HK := Lib.hid hK; clear hK
  go_wp2_with (at_builtin; refine wpList_append_any _ rfl _ _ 24 rfl w2.heap.size 69 i69 (.agg #[.int .i64 0, .int .i64 0]) 2 16 Try.underlying24 hi69 hy1 hy2 hy3 rfl (by decide) _ 0 [] rfl (World.ownsRow_made w2 #[] 0 (Nat.le_refl _) (by decide) rfl) _ _ _ _ _ rfl hrd (flat_one ts) (Nat.le_trans (by omega : 0 + ts.length ≤ 2000) (by decide)) (by omega) (by rw [World.size_alloc]; omega) ?_; intro v7 w7 r1 r2 _)
  refine HK.out _ _ ?_; clear HK K
  have hown : w7.ownsRow w2.heap.size 69 2 v7 ts.length (flat (oneK up ts 0)) := by rw [oneK_zero]; simpa using r1
  have hb7 : Below w2.heap.size w2 w7 := by
    have hs : w2.heap.size + 1 ≤ w7.heap.size := by have := r2.size; simpa using this
    refine ⟨r2.os, r2.tape, r2.output, by omega, fun k hk => ?_⟩
    rw [r2.block k (by simp; omega) (fun h2 => by have h3 : some k = some w2.heap.size := h2; injection h3; omega)]
    exact heap_oldI hk
  have hs7 := hb7.size
  clear r1 r2 hrd hX0
  obtain ⟨ado, capo, rfl⟩ := form_of hown
  go_wp2
  go_loopw [31] (fun i wr => ∃ k : Nat, k ≤ ts.length ∧ i = .int .i64 k ∧ Below w2.heap.size w2 wr ∧ wr.ownsRow w2.heap.size 69 2 (.slice ado ts.length capo) ts.length (flat (oneK up ts k))) (fun i _ => ts.length - (intOf i).toNat)
  case atStart => exact ⟨0, Nat.zero_le _, rfl, hb7, hown⟩
  case round =>
    obtain ⟨k, hk, rfl, hb, ho⟩ := hrel
    have hsz := hb.size
    by_cases hkn : k < ts.length
    · obtain ⟨g, rfl, c1, c2, hfz⟩ := row_at ho hkn (oneK_len _ _ _)
      have hgl := ho.lt g rfl
      have hka := oneK_at (up := up) hkn
      have hks := oneK_succ (up := up) hkn
      rw [hka.1] at c1
      rw [hka.2] at c2
      have f1 := hfz (k * 2 + 1)
      have HRS := Lib.hid (fun y => row_set ho (k := k) (by rw [oneK_len]; exact hkn) y)
      have HKA := Lib.hid hka
      have HKS := Lib.hid hks
      have HO1 := Lib.hid ho
      clear hka hks hfz ho
      obtain ⟨a, hae⟩ : ∃ a, a = tAt ts k := ⟨_, rfl⟩
      obtain ⟨t, hte⟩ : ∃ t, t = tTo ts k := ⟨_, rfl⟩
      rw [← hae] at c1
      rw [← hte] at c2
      have HE := Lib.hid (And.intro hae hte)
      clear hae hte
      by_cases hd : a < t
      all_goals
        first
        | have hdb : decide (a < t) = true := decide_eq_true hd
        | have hdb : decide (a < t) = false := decide_eq_false hd
        cases up
        all_goals
          go_wp2
          go_quiet (fail)
          go_wp2
          refine ⟨⟨k + 1, by omega, by go_num, ?_, ?_⟩, by simp [intOf]; omega⟩
          · first | exact below_drewN hb _ | exact (below_drewN hb _).setCell (by simp; omega) _
          · first
            | (rw [oneK_same hkn (by rw [← HE.out.1, ← HE.out.2]; first | exact decide_eq_true (by omega) | exact decide_eq_false (by omega))]; exact HO1.out)
            | (rw [oneK_chg hkn (by rw [← HE.out.1, ← HE.out.2]; first | exact decide_eq_true (by omega) | exact decide_eq_false (by omega)), ← HE.out.1]; exact HRS.out a)
    · have hkx : k = ts.length := by omega
      rw [hkx, oneK_all] at ho
      have hone := slT_own (ts := ts.map (oneF up)) (W := wr) (by rw [List.length_map]; exact ho) (by rw [List.length_map]; omega)
      have HON := Lib.hid hone
      have HVO := Lib.hid (show Val L (tos (ts.map (oneF up))) (ts.map (oneF up)) from ⟨oneM_val HV.out.1, rfl⟩)
      have HVW := Lib.hid (show Val (wideL L.length) (tos ts) ts from ⟨wide_val HV.out.1 h4, rfl⟩)
      have HL := Lib.hid (HL.out.below hb (Nat.le_refl _))
      have HT := Lib.hid (HT.out.below hb (Nat.le_refl _))
      replace B := btr B hb (Nat.le_refl _)
      clear ho hb hown hb7 hs7 hone
      subst hkx
      clear hkn hk
      go_wp2_with fail
      refine (y16 HVO.out (oneM_safe HV.out.1) _ HL.out HON.out).mono ?_
      rintro e w8 ⟨rfl, hb⟩
      have HL := Lib.hid (HL.out.below hb (Nat.le_refl _))
      have HT := Lib.hid (HT.out.below hb (Nat.le_refl _))
      replace B := btr B hb (Nat.le_refl _)
      clear hb HON HVO
      have hX0 : Below w8.heap.size w8 (w8.alloc (.cells #[] 3)) := (Below.refl _ _).alloc (Nat.le_refl _) _
      go_wp2
      go_loopw [11, 66] (fun v i wr => ∃ k : Nat, k ≤ L.length ∧ i = .int .i64 k ∧ Below w8.heap.size w8 wr ∧ wr.ownsRow w8.heap.size 3 1 v k ((wideL k).map (.int .i64))) (fun _ i _ => L.length - (intOf i).toNat)
      case atStart => exact ⟨0, Nat.zero_le _, rfl, hX0, World.ownsRow_made w8 #[] 0 (Nat.le_refl _) (by decide) rfl⟩
      case round =>
        obtain ⟨k, hk, rfl, hb, ho⟩ := hrel
        have hsz := hb.size
        by_cases hkn : k < L.length
        · have hrl : ((wideL k).map (Value.int .i64)) ++ [.int .i64 4] = (wideL (k + 1)).map (.int .i64) := by unfold wideL; rw [List.replicate_succ', List.map_append]; rfl
          have HRL := Lib.hid hrl
          clear hrl
          go_wp2_with (at_builtin; refine wpList_append_own _ rfl _ _ 23 rfl w8.heap.size 3 i3 (.int .i64 0) 1 8 Try.underlying23 hi3 hz1 hz2 hz3 rfl (by decide) _ _ _ rfl (ho.alloc _) ⟨wr.heap.size, 0, none⟩ 1 1 [.int .i64 4] rfl rfl (cell_new1 rfl) (fun x hx => by simp at hx; subst hx; rfl) (Nat.le_trans (by omega : k + 1 ≤ 2000) (by decide)) (by omega) (by rw [World.size_alloc]; omega) ?_; intro v' w6 r1 r2 _)
          go_roundw
          case rel => exact ⟨k + 1, by omega, by go_num, grown_below1 r2 ho (Nat.le_refl _) hsz hb, by rw [← HRL.out]; exact r1⟩
          case measure => simp [intOf]; omega
        · have hkx : k = L.length := by omega
          have hwl : (wideL L.length).length = L.length := by simp [wideL]
          have hw : SlI wr u11 (wideL L.length) := by
            refine slI_own (base := w8.heap.size) (W := wr) ?_ (by rw [hwl]; omega) (Nat.le_refl _) (fun _ _ _ => rfl)
            rw [hwl]; rw [hkx] at ho; exact ho
          have HW := Lib.hid hw
          have HL := Lib.hid (HL.out.below hb (Nat.le_refl _))
          have HT := Lib.hid (HT.out.below hb (Nat.le_refl _))
          replace B := btr B hb (Nat.le_refl _)
          clear ho hb hw hwl hsz hX0
          subst hkx
          clear hkn hk
          go_wp2_with fail
          refine (y16 HVW.out (wide_safe _ _ rfl HVW.out h4) _ HW.out HT.out).mono ?_
          rintro e w9 ⟨rfl, hb⟩
          have HW := Lib.hid (HW.out.below hb (Nat.le_refl _))
          have HT := Lib.hid (HT.out.below hb (Nat.le_refl _))
          replace B := btr B hb (Nat.le_refl _)
          clear hb
          go_wp2_with fail
          refine (y23 HVW.out _ HW.out HT.out).mono ?_
          rintro e w10 ⟨vg, rfl, hg, hb⟩
          have HW := Lib.hid (HW.out.below hb (Nat.le_refl _))
          have HT := Lib.hid (HT.out.below hb (Nat.le_refl _))
          have HG := Lib.hid (show SlI w10 vg (fN (fun i => tAt ts i != tTo ts i) ts.length) by rw [← (wide_good HVW.out h4).1]; exact hg)
          replace B := btr B hb (Nat.le_refl _)
          clear hb hg
          go_wp2_with fail
          refine (y35 HVW.out _ HW.out HT.out).mono ?_
          rintro e w11 ⟨vp, rfl, hp, hb⟩
          have HT := Lib.hid (HT.out.below hb (Nat.le_refl _))
          have HG := Lib.hid (HG.out.below hb (Nat.le_refl _))
          have HP := Lib.hid (show SlI w11 vp (fN (fun i => tAt ts i != tTo ts i) ts.length) by rw [← (wide_good HVW.out h4).2]; exact hp)
          replace B := btr B hb (Nat.le_refl _)
          clear hb hp
          obtain ⟨adg, capg, rfl, hmg, -⟩ := HG.out
          obtain ⟨-, -, -, -, hct⟩ := HT.out
          go_wp2
          go_loopw [18, 92] (fun c i wr => ∃ k : Nat, k ≤ ts.length ∧ i = .int .i64 k ∧ c = .int .i64 (fN (fun i => tAt ts i != tTo ts i) k).length ∧ Below w11.heap.size w11 wr) (fun _ i _ => ts.length - (intOf i).toNat)
          case atStart => exact ⟨0, Nat.zero_le _, rfl, rfl, Below.refl _ _⟩
          case round =>
            obtain ⟨k, hk, rfl, rfl, hb⟩ := hrel
            have hle := fN_le (fun i => tAt ts i != tTo ts i) k
            have hsu : (fN (fun i => tAt ts i != tTo ts i) (k + 1)).length = if (tAt ts k != tTo ts k) then (fN (fun i => tAt ts i != tTo ts i) k).length + 1 else (fN (fun i => tAt ts i != tTo ts i) k).length := by
              rw [fN_succ, List.length_append]; split <;> simp
            by_cases hkn : k < ts.length
            · obtain ⟨b, off, rfl, hlt, hcell⟩ := slT_open HT.out (by omega)
              have h1 := (hb.cell (p := ⟨b, off + k * 2, none⟩) hlt).trans (hcell k hkn).1
              have h2 := (hb.cell (p := ⟨b, off + k * 2 + 1, none⟩) hlt).trans (hcell k hkn).2
              generalize (fN (fun i => tAt ts i != tTo ts i) k).length = ck at *
              generalize tAt ts k = a at *
              generalize tTo ts k = t at *
              have HS := Lib.hid hsu
              clear hsu hcell
              cases hne : (a != t)
              all_goals
                have HNE := Lib.hid hne
                go_wp2
                go_roundw
                case rel => exact ⟨k + 1, by omega, by go_num, by rw [HS.out, HNE.out]; first | rfl | go_num, hb.alloc hb.size _⟩
                case measure => simp [intOf]; omega
            · have hkx : k = ts.length := by omega
              have HG := Lib.hid (HG.out.below hb (Nat.le_refl _))
              have HP := Lib.hid (HP.out.below hb (Nat.le_refl _))
              replace B := btr B hb (Nat.le_refl _)
              subst hkx
              clear hsu hkn hk hb
              go_wp2_with fail
              refine (x27 rfl _ HG.out HP.out).mono ?_
              rintro e w12 ⟨rfl, hb⟩
              replace B := btr B hb (Nat.le_refl _)
              clear hb
              go_wp2_with fail
              refine (works_any _).mono ?_
              rintro e w13 ⟨rfl, hb⟩
              replace B := btr B hb (Nat.le_refl _)
              go_wp2
              go_ret
              exact ⟨rfl, B⟩
end Yteijenefhoconaa
end Go.Proofs
