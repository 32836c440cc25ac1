/- The law RailNever returns true. -/
import Derived.Test.YteijenefhoconaaDisp2
import Derived.Test.YteijenefhoconaaFn
open Go Go.RowKit Go.YteijenefhoconaaIt
namespace Go.Proofs
namespace Yteijenefhoconaa
theorem below_bm2 {n bm B : Nat} {w0 X W : World} (h : Below n w0 X) (k : Bm bm B X W) (hn : n ≤ bm) (hB : n ≤ B) : Below n w0 W :=
  ⟨k.os.trans h.os, k.tape.trans h.tape, k.output.trans h.output, Nat.le_trans h.size k.size, fun i hi => (k.block i (by omega) (by omega)).trans (h.block i hi)⟩
theorem SlY.memo {w w' : World} {v : Value} {xs : List Int} {m : Nat} {G : Value → Value → Prop} (h : SlY w v xs) (hm : Memo w m G) (hb : Bm m w.heap.size w w') : SlY w' v xs := by
  obtain ⟨es, clock, h1, _⟩ := hm
  obtain ⟨⟨ad, cap, hv, hmx, hc⟩, hx⟩ := h
  refine ⟨⟨ad, cap, hv, hmx, fun h0 => ?_⟩, hx⟩
  obtain ⟨b, off, ha, hlt, hcell⟩ := hc h0
  have hne : b ≠ m := by
    rintro rfl
    obtain ⟨_, o2, h2, h3⟩ := YteijenefhoconaaIt.cells_of_cell (hcell 0 h0)
    have he := Option.some.inj (h1.symm.trans h2)
    rw [← he] at h3
    exact absurd h3 (by simp [Obj.isCells])
  exact ⟨b, off, ha, Nat.lt_of_lt_of_le hlt hb.size, fun i hi => (World.cell?_of_block (w := w) (hb.block b hlt hne)).trans (hcell i hi)⟩
theorem slI_cell2 {W : World} {ad : Option Addr} {n cap : Nat} {xs : List Int} (h : SlI W (.slice ad n cap) xs) {k : Nat} (hk : k < xs.length) : ∃ b off, ad = some ⟨b, off, none⟩ ∧ b < W.heap.size ∧ W.cell? ⟨b, off + k, none⟩ = some (.int .i64 (at0 xs k)) := by
  obtain ⟨ad', cap', h1, _, h3⟩ := h
  obtain ⟨b', off', h4, h5, h6⟩ := h3 (by omega)
  injection h1 with e1 _ _
  exact ⟨b', off', e1.trans h4, h5, h6 k hk⟩
theorem slB_one {W : World} {v : Value} {b : Bool} (h : SlB W v [b]) : ∃ g off cap, v = .slice (some ⟨g, off, none⟩) 1 cap ∧ g < W.heap.size ∧ W.cell? ⟨g, off, none⟩ = some (.bool b) := by
  obtain ⟨ad, cap, rfl, _, h3⟩ := h
  obtain ⟨g, off, rfl, h5, h6⟩ := h3 (by simp)
  exact ⟨g, off, cap, rfl, h5, by simpa using h6 0 (by simp)⟩
theorem disp1 {L : List Int} {us : List Tn} {j : Nat} {b : Bool} (h : gdT L us j = b) : dispT L us [(j : Int)] = ([b], if b then movT us j else us) := by
  cases b with
  | true => rw [dispT_yes (by rw [Int.toNat_natCast]; exact h)]; simp [dispT]
  | false => rw [dispT_no (by rw [Int.toNat_natCast, h]; simp)]; simp [dispT]
set_option maxRecDepth 100000 in
set_option maxHeartbeats 4000000 in
theorem railNever_any (r0 r1 r2 r3 r4 r5 m : Int) (v : Value) (xs : List Tn) (vo : Value) (os : List Int) (w : World) (hR : ∀ x ∈ [r0, r1, r2, r3, r4, r5], 0 ≤ x ∧ x < 256) (hm : 0 ≤ m ∧ m < 256) (hx : SlP w v xs) (ho : SlY w vo os) :
    Calls Try.prog 7 #[.agg #[.int .u8 r0, .int .u8 r1, .int .u8 r2, .int .u8 r3, .int .u8 r4, .int .u8 r5, .int .u8 m, v], vo] w fun e w' => e = .returned (.bool true) ∧ Below w.heap.size w w' := by
  have HX := Lib.hid hx
  have HR := Lib.hid hR
  have HMM := Lib.hid hm
  clear hx hR hm
  have HO := Lib.hid ho
  clear ho
  obtain ⟨⟨ado, capo, rfl, hmo, -⟩, -⟩ := HO.out
  have hmm := @run_makeMap Try.prog
  go_enter Try.func7, Try.ntmps7
  refine wp_seq_k (fun K hK => ?_)
  have HK := Lib.hid hK; clear hK
  go_wp2
  refine HK.out _ _ ?_; clear HK K
  generalize hw1 : World.alloc _ _ = w1
  have b1 : w1.heap[w.heap.size]? = some (.cells #[.int .u8 r0, .int .u8 r1, .int .u8 r2, .int .u8 r3, .int .u8 r4, .int .u8 r5, .int .u8 m, v] 52 (0, 0)) := by rw [← hw1]; exact heap_newI rfl
  have B : Below w.heap.size w w1 := by rw [← hw1]; exact (Below.refl _ _).alloc (Nat.le_refl _) _
  clear hw1
  go_wp2_with (first | (refine wpList_load_blk rfl 52 _ rfl _ rfl b1 Try.underlying52 rfl size52 rfl ?_) | (go_at_call 30; refine (made6 r0 r1 r2 r3 r4 r5 m v xs _ HR.out HMM.out (HX.out.below B (Nat.le_refl _))).mono ?_; rintro e w2 ⟨vL, vT, L, ts, rfl, hL, hT, hok, hb⟩; replace B := btr B hb (Nat.le_refl _); clear hb b1))
  obtain ⟨he, h4, hl2, hl6, hLb⟩ := hok
  have HV := Lib.hid (show Val L (tos ts) ts from ⟨he, rfl⟩)
  have HL := Lib.hid hL
  have HT := Lib.hid hT
  have HLB := Lib.hid hLb
  clear he hL hT hLb HX HR HMM
  obtain ⟨adt, capt, rfl, hmt, -⟩ := HT.out
  have H20 := left20 HV.out h4 hl6
  have HO := Lib.hid (HO.out.below B (Nat.le_refl _))
  have hsz := B.size
  by_cases hs : safeT L ts = true
  rotate_left
  · replace hs : safeT L ts = false := by simpa using hs
    have HS := Lib.hid hs
    clear hs
    go_wp2_with fail
    refine (y31n HV.out h4 HS.out _ HL.out HT.out).mono ?_
    rintro e w3 ⟨rfl, hb⟩
    have HL := Lib.hid (HL.out.below hb (Nat.le_refl _))
    have HT := Lib.hid (HT.out.below hb (Nat.le_refl _))
    replace B := btr B hb (Nat.le_refl _)
    clear hb
    go_wp2_with fail
    refine (y25n (asks := []) HV.out HS.out _ HL.out HT.out (slI_nil _)).mono ?_
    rintro e w4 ⟨rfl, hb⟩
    replace B := btr B hb (Nat.le_refl _)
    clear hb
    go_wp2_with fail
    refine (works_any _).mono ?_
    rintro e w5 ⟨rfl, hb⟩
    replace B := btr B hb (Nat.le_refl _)
    go_wp2
    go_ret
    exact ⟨rfl, B⟩
  have HS := Lib.hid hs
  clear hs
  go_wp2_with fail
  have hX : Below w2.heap.size w2 (w2.alloc (.map #[] 0)) := (Below.refl _ _).alloc (Nat.le_refl _) _
  have HL := Lib.hid (HL.out.below hX (Nat.le_refl _))
  have HT := Lib.hid (HT.out.below hX (Nat.le_refl _))
  have HO := Lib.hid (HO.out.below hX (Nat.le_refl _))
  replace B := btr B hX (Nat.le_refl _)
  refine (y31 HV.out h4 HS.out _ HL.out HT.out (memo_new w2 0 _)).mono ?_
  rintro e w3 ⟨rfl, hM, hb⟩
  have hM0 := memo_new w2 0 (GEnd L (tos ts))
  have HL := Lib.hid (HL.out.memo hM0 hb)
  have HT := Lib.hid (HT.out.memo hM0 hb)
  have HO := Lib.hid (HO.out.memo hM0 hb)
  have HM := Lib.hid hM
  replace B := below_bm2 B hb (by omega) (by have := B.size; omega)
  have hbm : w.heap.size ≤ w2.heap.size := by omega
  generalize w2.heap.size = bm at *
  clear hM hM0 hb hX hsz
  go_wp2
  go_loopw [6, 11] (fun vt i wr => ∃ (r : Nat) (us : List Tn), r ≤ 40 ∧ i = .int .i64 r ∧ Below w.heap.size w wr ∧ SlI wr vL L ∧ SlT wr vt us ∧ SlY wr (.slice ado os.length capo) os ∧ Memo wr bm (GEnd L (tos ts)) ∧ Val L (tos ts) us ∧ safeT L us = true ∧ us.length ≤ 4 ∧ leftT us + r = leftT ts) (fun _ i _ => 40 - (intOf i).toNat)
  case atStart => exact ⟨0, ts, by omega, rfl, B, HL.out, HT.out, HO.out, HM.out, HV.out, HS.out, h4, by omega⟩
  case round =>
    obtain ⟨r, us, hr, rfl, hB, hl, ht, ho, hM, hv, hs, hn, hlr⟩ := hrel
    obtain ⟨n, hne⟩ : ∃ n, n = us.length := ⟨_, rfl⟩
    have HL := Lib.hid hl
    have HT := Lib.hid ht
    have HO := Lib.hid ho
    have HM := Lib.hid hM
    have HVU := Lib.hid hv
    have HSU := Lib.hid hs
    obtain ⟨adu, capu, rfl, hmu, -⟩ := HT.out
    clear B hl ht ho hM hv hs hne n
    have hr2 : r < 40 := by omega
    go_wp2_with fail
    refine (y23 HVU.out _ HL.out HT.out).mono ?_
    rintro e w4 ⟨vg, rfl, hg, hb⟩
    have HL := Lib.hid (HL.out.below hb (Nat.le_refl _))
    have HT := Lib.hid (HT.out.below hb (Nat.le_refl _))
    have HO := Lib.hid (HO.out.below hb (Nat.le_refl _))
    have HM := Lib.hid (HM.out.below hb HM.out.lt)
    have HG := Lib.hid (show SlI w4 vg (fN (gdT L us) us.length) from hg)
    replace hB := btr hB hb (Nat.le_refl _)
    clear hg hb
    go_wp2_with fail
    refine (y35 HVU.out _ HL.out HT.out).mono ?_
    rintro e w5 ⟨vp, rfl, hp, hb⟩
    have HL := Lib.hid (HL.out.below hb (Nat.le_refl _))
    have HT := Lib.hid (HT.out.below hb (Nat.le_refl _))
    have HO := Lib.hid (HO.out.below hb (Nat.le_refl _))
    have HM := Lib.hid (HM.out.below hb HM.out.lt)
    have HG := Lib.hid (HG.out.below hb (Nat.le_refl _))
    have HP := Lib.hid (show SlI w5 vp (fN (possT L us) us.length) from hp)
    replace hB := btr hB hb (Nat.le_refl _)
    clear hp hb
    obtain ⟨G, hGe⟩ : ∃ G, G = fN (gdT L us) us.length := ⟨_, rfl⟩
    obtain ⟨PP, hPe⟩ : ∃ PP, PP = fN (possT L us) us.length := ⟨_, rfl⟩
    replace HG := Lib.hid (show SlI _ vg G by rw [hGe]; exact HG.out)
    replace HP := Lib.hid (show SlI _ vp PP by rw [hPe]; exact HP.out)
    have HGE := Lib.hid hGe
    have HPE := Lib.hid hPe
    clear hGe hPe
    obtain ⟨adg, capg, rfl, hmg, -⟩ := HG.out
    obtain ⟨adp, capp, rfl, hmp, -⟩ := HP.out
    by_cases hl0 : leftT us = 0
    · have hpz : ∀ i, i < us.length → possT L us i = false := fun i hi => by
        cases h : possT L us i with
        | false => rfl
        | true => exact absurd hl0 (poss_left HVU.out hi h)
      have eP : PP.length = 0 := by rw [HPE.out, fN_nil hpz]; rfl
      have eG : G.length = 0 := by rw [HGE.out, fN_nil (fun i hi => by unfold gdT; rw [hpz i hi]; rfl)]; rfl
      have h32 : Calls Try.prog 32 #[.slice adu us.length capu] w5 fun e w' => e = .returned (.int .i64 0) ∧ Below w5.heap.size w5 w' := by
        have := y32 HVU.out _ HT.out
        rw [hl0] at this
        exact this
      have tG : ((G.length : Int) == 0) = true := by rw [eG]; rfl
      have tP : ((PP.length : Int) == 0) = true := by rw [eP]; rfl
      clear eP eG hl0 hpz
      go_wp2_with fail
      refine h32.mono ?_
      rintro e w6 ⟨rfl, hb⟩
      replace hB := btr hB hb (Nat.le_refl _)
      clear h32 hb
      go_wp2_with fail
      refine (works_any _).mono ?_
      rintro e w7 ⟨rfl, hb⟩
      replace hB := btr hB hb (Nat.le_refl _)
      go_wp2
      go_ret
      exact ⟨rfl, hB⟩
    obtain ⟨i0, hi0, hg0⟩ := good_some HVU.out HSU.out hl0
    have gpos : 0 < G.length := by rw [HGE.out]; exact fN_pos hi0 hg0
    have tG : ((G.length : Int) == 0) = false := by rw [beq_eq_false_iff_ne]; omega
    have tL : ((leftT us : Int) == 0) = false := by simpa using hl0
    clear hg0
    go_wp2_with fail
    refine (y32 HVU.out _ HT.out).mono ?_
    rintro e w6 ⟨rfl, hb⟩
    have HL := Lib.hid (HL.out.below hb (Nat.le_refl _))
    have HT := Lib.hid (HT.out.below hb (Nat.le_refl _))
    have HO := Lib.hid (HO.out.below hb (Nat.le_refl _))
    have HM := Lib.hid (HM.out.below hb HM.out.lt)
    have HG := Lib.hid (HG.out.below hb (Nat.le_refl _))
    have HP := Lib.hid (HP.out.below hb (Nat.le_refl _))
    replace hB := btr hB hb (Nat.le_refl _)
    clear hb
    go_wp2
    go_loopw [16, 17, 93] (fun g h i wr => ∃ j : Nat, j ≤ us.length ∧ i = .int .i64 j ∧ g = .int .i64 (fN (gdT L us) j).length ∧ h = .int .i64 (fN (possT L us) j).length ∧ Below w.heap.size w wr ∧ SlI wr vL L ∧ SlT wr (.slice adu us.length capu) us ∧ SlY wr (.slice ado os.length capo) os ∧ Memo wr bm (GEnd L (tos ts)) ∧ SlI wr (.slice adg G.length capg) G ∧ SlI wr (.slice adp PP.length capp) PP) (fun _ _ i _ => us.length - (intOf i).toNat)
    case atStart => exact ⟨0, Nat.zero_le _, rfl, rfl, rfl, hB, HL.out, HT.out, HO.out, HM.out, HG.out, HP.out⟩
    case round =>
      obtain ⟨j, hj, rfl, rfl, rfl, hB, hl, ht, ho, hM, hg, hp⟩ := hrel
      have HL := Lib.hid hl
      have HT := Lib.hid ht
      have HO := Lib.hid ho
      have HM := Lib.hid hM
      have HG := Lib.hid hg
      have HP := Lib.hid hp
      clear hl ht ho hM hg hp
      obtain ⟨gj, hgj⟩ : ∃ x, x = (fN (gdT L us) j).length := ⟨_, rfl⟩
      obtain ⟨pj, hpj⟩ : ∃ x, x = (fN (possT L us) j).length := ⟨_, rfl⟩
      rw [← hgj, ← hpj]
      have hgb : gj ≤ 4 := by have := fN_le (gdT L us) j; omega
      have hpb : pj ≤ 4 := by have := fN_le (possT L us) j; omega
      by_cases hjn : j < us.length
      · have sg : (fN (gdT L us) (j + 1)).length = if gdT L us j then gj + 1 else gj := by rw [fN_succ, List.length_append, ← hgj]; cases gdT L us j <;> simp
        have sp : (fN (possT L us) (j + 1)).length = if possT L us j then pj + 1 else pj := by rw [fN_succ, List.length_append, ← hpj]; cases possT L us j <;> simp
        have SG := Lib.hid sg
        have SP := Lib.hid sp
        have HGJ := Lib.hid hgj
        have HPJ := Lib.hid hpj
        clear sg sp hgj hpj
        cases hps : possT L us j with
        | true =>
          have HPS := Lib.hid hps
          have hit := fN_hit hjn hps
          rw [← HPJ.out, ← HPE.out] at hit
          obtain ⟨hitl, hite⟩ := hit
          obtain ⟨bp, op, rfl, -, -⟩ := slI_cell2 HP.out hitl
          have HVN := Lib.hid (HVU.out.mov hjn hps)
          clear hps
          go_wp2_with fail
          refine (y33 HVU.out hjn HPS.out _ HL.out HT.out).mono ?_
          rintro e w7 ⟨va, rfl, hva, hb⟩
          have HL := Lib.hid (HL.out.below hb (Nat.le_refl _))
          have HT := Lib.hid (HT.out.below hb (Nat.le_refl _))
          have HO := Lib.hid (HO.out.below hb (Nat.le_refl _))
          have HM := Lib.hid (HM.out.below hb HM.out.lt)
          have HG := Lib.hid (HG.out.below hb (Nat.le_refl _))
          have HP := Lib.hid (HP.out.below hb (Nat.le_refl _))
          have HA := Lib.hid hva
          replace hB := btr hB hb (Nat.le_refl _)
          clear hb hva
          replace HA := Lib.hid (HA.out rfl)
          cases hss : safeT L (movT us j) with
          | true =>
            have HSS := Lib.hid hss
            clear hss
            go_wp2_with fail
            refine (y31 HVN.out (by rw [movT_len]; exact hn) HSS.out _ HL.out HA.out HM.out).mono ?_
            rintro e w8 ⟨rfl, hM, hb⟩
            have HL := Lib.hid (HL.out.memo HM.out hb)
            have HT := Lib.hid (HT.out.memo HM.out hb)
            have HO := Lib.hid (HO.out.memo HM.out hb)
            have HG := Lib.hid (HG.out.memo HM.out hb)
            have HP := Lib.hid (HP.out.memo HM.out hb)
            have HA := Lib.hid (HA.out.memo HM.out hb)
            replace hB := below_bm2 hB hb hbm hB.size
            have HM := Lib.hid hM
            clear hM hb
            have hcp := (slI_cell2 HP.out hitl)
            obtain ⟨bp2, op2, e0, -, hcp⟩ := hcp
            injection e0 with e1
            injection e1 with e2 e3 _
            subst e2 e3
            rw [hite] at hcp
            have HSL := Lib.hid (show gdT L us j = true from by unfold gdT; rw [HPS.out, HSS.out]; rfl)
            have hit2 := fN_hit hjn HSL.out
            rw [← HGJ.out, ← HGE.out] at hit2
            obtain ⟨hit2l, hit2e⟩ := hit2
            obtain ⟨bg, og, rfl, -, hcg⟩ := slI_cell2 HG.out hit2l
            rw [hit2e] at hcg
            clear hit2e hite
            as_aux_lemma =>
              go_wp2_with fail
              have hX : Below w8.heap.size w8 (w8.alloc (.cells #[.int .i64 (j : Int)] 3)) := (Below.refl _ _).alloc (Nat.le_refl _) _
              refine (y25 (asks := [(j : Int)]) HVU.out HSU.out (fun x hx => by rw [List.mem_singleton.1 hx]; omega) (by simp) _ (HL.out.below hX (Nat.le_refl _)) (HT.out.below hX (Nat.le_refl _)) (slI_new (xs := [(j : Int)]) (by simp))).mono ?_
              rintro e w9 ⟨vl, ve, rfl, hlet, hend, hb⟩
              replace hb := btr hX hb (Nat.le_refl _)
              have HL := Lib.hid (HL.out.below hb (Nat.le_refl _))
              have HT := Lib.hid (HT.out.below hb (Nat.le_refl _))
              have HO := Lib.hid (HO.out.below hb (Nat.le_refl _))
              have HM := Lib.hid (HM.out.below hb HM.out.lt)
              have HG := Lib.hid (HG.out.below hb (Nat.le_refl _))
              have HP := Lib.hid (HP.out.below hb (Nat.le_refl _))
              have HA := Lib.hid (HA.out.below hb (Nat.le_refl _))
              replace hB := btr hB hb (Nat.le_refl _)
              rw [disp1 HSL.out] at hlet hend
              obtain ⟨gl, ol, cl, rfl, -, hcl⟩ := slB_one hlet
              have HE := Lib.hid hend
              clear hb hX hlet hend
              go_wp2_with fail
              refine (x36 rfl _ HE.out HA.out).mono ?_
              rintro e w10 ⟨rfl, hb⟩
              have HL := Lib.hid (HL.out.below hb (Nat.le_refl _))
              have HT := Lib.hid (HT.out.below hb (Nat.le_refl _))
              have HO := Lib.hid (HO.out.below hb (Nat.le_refl _))
              have HM := Lib.hid (HM.out.below hb HM.out.lt)
              have HG := Lib.hid (HG.out.below hb (Nat.le_refl _))
              have HP := Lib.hid (HP.out.below hb (Nat.le_refl _))
              replace hB := btr hB hb (Nat.le_refl _)
              clear hb hcl
              go_wp2
              go_roundw
              case rel => exact ⟨j + 1, by omega, by go_num, by rw [SG.out, HSL.out, if_pos rfl]; go_num, by rw [SP.out, HPS.out, if_pos rfl]; go_num, hB, HL.out, HT.out, HO.out, HM.out, HG.out, HP.out⟩
              case measure => simp [intOf]; omega
          | false =>
            have HSS := Lib.hid hss
            clear hss
            go_wp2_with fail
            refine (y31 HVN.out (by rw [movT_len]; exact hn) HSS.out _ HL.out HA.out HM.out).mono ?_
            rintro e w8 ⟨rfl, hM, hb⟩
            have HL := Lib.hid (HL.out.memo HM.out hb)
            have HT := Lib.hid (HT.out.memo HM.out hb)
            have HO := Lib.hid (HO.out.memo HM.out hb)
            have HG := Lib.hid (HG.out.memo HM.out hb)
            have HP := Lib.hid (HP.out.memo HM.out hb)
            have HA := Lib.hid (HA.out.memo HM.out hb)
            replace hB := below_bm2 hB hb hbm hB.size
            have HM := Lib.hid hM
            clear hM hb
            have hcp := (slI_cell2 HP.out hitl)
            obtain ⟨bp2, op2, e0, -, hcp⟩ := hcp
            injection e0 with e1
            injection e1 with e2 e3 _
            subst e2 e3
            rw [hite] at hcp
            have HSL := Lib.hid (show gdT L us j = false from by unfold gdT; rw [HPS.out, HSS.out]; rfl)
            clear hite
            by_cases hcg : gj < G.length
            · have hmg := fN_miss hjn HSL.out (by rw [← HGJ.out, ← HGE.out]; exact hcg)
              rw [← HGJ.out, ← HGE.out] at hmg
              obtain ⟨bg, og, rfl, -, hcg2⟩ := slI_cell2 HG.out hcg
              generalize at0 G gj = xg at *
              have eg : (xg == (j : Int)) = false := by simpa using hmg
              clear hmg
              as_aux_lemma =>
                go_wp2_with fail
                have hX : Below w8.heap.size w8 (w8.alloc (.cells #[.int .i64 (j : Int)] 3)) := (Below.refl _ _).alloc (Nat.le_refl _) _
                refine (y25 (asks := [(j : Int)]) HVU.out HSU.out (fun x hx => by rw [List.mem_singleton.1 hx]; omega) (by simp) _ (HL.out.below hX (Nat.le_refl _)) (HT.out.below hX (Nat.le_refl _)) (slI_new (xs := [(j : Int)]) (by simp))).mono ?_
                rintro e w9 ⟨vl, ve, rfl, hlet, hend, hb⟩
                replace hb := btr hX hb (Nat.le_refl _)
                have HL := Lib.hid (HL.out.below hb (Nat.le_refl _))
                have HT := Lib.hid (HT.out.below hb (Nat.le_refl _))
                have HO := Lib.hid (HO.out.below hb (Nat.le_refl _))
                have HM := Lib.hid (HM.out.below hb HM.out.lt)
                have HG := Lib.hid (HG.out.below hb (Nat.le_refl _))
                have HP := Lib.hid (HP.out.below hb (Nat.le_refl _))
                replace hB := btr hB hb (Nat.le_refl _)
                rw [disp1 HSL.out] at hlet hend
                obtain ⟨gl, ol, cl, rfl, -, hcl⟩ := slB_one hlet
                have HE := Lib.hid hend
                clear hb hX hlet hend
                go_wp2_with fail
                refine (x36 rfl _ HE.out HT.out).mono ?_
                rintro e w10 ⟨rfl, hb⟩
                have HL := Lib.hid (HL.out.below hb (Nat.le_refl _))
                have HT := Lib.hid (HT.out.below hb (Nat.le_refl _))
                have HO := Lib.hid (HO.out.below hb (Nat.le_refl _))
                have HM := Lib.hid (HM.out.below hb HM.out.lt)
                have HG := Lib.hid (HG.out.below hb (Nat.le_refl _))
                have HP := Lib.hid (HP.out.below hb (Nat.le_refl _))
                replace hB := btr hB hb (Nat.le_refl _)
                clear hb hcl
                go_wp2
                go_roundw
                case rel => exact ⟨j + 1, by omega, by go_num, by rw [SG.out, HSL.out, if_neg (by simp)], by rw [SP.out, HPS.out, if_pos rfl]; go_num, hB, HL.out, HT.out, HO.out, HM.out, HG.out, HP.out⟩
                case measure => simp [intOf]; omega
            · skip
              as_aux_lemma =>
                go_wp2_with fail
                have hX : Below w8.heap.size w8 (w8.alloc (.cells #[.int .i64 (j : Int)] 3)) := (Below.refl _ _).alloc (Nat.le_refl _) _
                refine (y25 (asks := [(j : Int)]) HVU.out HSU.out (fun x hx => by rw [List.mem_singleton.1 hx]; omega) (by simp) _ (HL.out.below hX (Nat.le_refl _)) (HT.out.below hX (Nat.le_refl _)) (slI_new (xs := [(j : Int)]) (by simp))).mono ?_
                rintro e w9 ⟨vl, ve, rfl, hlet, hend, hb⟩
                replace hb := btr hX hb (Nat.le_refl _)
                have HL := Lib.hid (HL.out.below hb (Nat.le_refl _))
                have HT := Lib.hid (HT.out.below hb (Nat.le_refl _))
                have HO := Lib.hid (HO.out.below hb (Nat.le_refl _))
                have HM := Lib.hid (HM.out.below hb HM.out.lt)
                have HG := Lib.hid (HG.out.below hb (Nat.le_refl _))
                have HP := Lib.hid (HP.out.below hb (Nat.le_refl _))
                replace hB := btr hB hb (Nat.le_refl _)
                rw [disp1 HSL.out] at hlet hend
                obtain ⟨gl, ol, cl, rfl, -, hcl⟩ := slB_one hlet
                have HE := Lib.hid hend
                clear hb hX hlet hend
                go_wp2_with fail
                refine (x36 rfl _ HE.out HT.out).mono ?_
                rintro e w10 ⟨rfl, hb⟩
                have HL := Lib.hid (HL.out.below hb (Nat.le_refl _))
                have HT := Lib.hid (HT.out.below hb (Nat.le_refl _))
                have HO := Lib.hid (HO.out.below hb (Nat.le_refl _))
                have HM := Lib.hid (HM.out.below hb HM.out.lt)
                have HG := Lib.hid (HG.out.below hb (Nat.le_refl _))
                have HP := Lib.hid (HP.out.below hb (Nat.le_refl _))
                replace hB := btr hB hb (Nat.le_refl _)
                clear hb hcl
                go_wp2
                go_roundw
                case rel => exact ⟨j + 1, by omega, by go_num, by rw [SG.out, HSL.out, if_neg (by simp)], by rw [SP.out, HPS.out, if_pos rfl]; go_num, hB, HL.out, HT.out, HO.out, HM.out, HG.out, HP.out⟩
                case measure => simp [intOf]; omega
        | false =>
          have HPS := Lib.hid hps
          clear hps
          have HSL := Lib.hid (show gdT L us j = false from by unfold gdT; rw [HPS.out]; rfl)
          go_wp2_with fail
          refine (y33 HVU.out hjn HPS.out _ HL.out HT.out).mono ?_
          rintro e w7 ⟨va, rfl, -, hb⟩
          have HL := Lib.hid (HL.out.below hb (Nat.le_refl _))
          have HT := Lib.hid (HT.out.below hb (Nat.le_refl _))
          have HO := Lib.hid (HO.out.below hb (Nat.le_refl _))
          have HM := Lib.hid (HM.out.below hb HM.out.lt)
          have HG := Lib.hid (HG.out.below hb (Nat.le_refl _))
          have HP := Lib.hid (HP.out.below hb (Nat.le_refl _))
          replace hB := btr hB hb (Nat.le_refl _)
          clear hb 
          by_cases hcp : pj < PP.length
          · have hmp := fN_miss hjn HPS.out (by rw [← HPJ.out, ← HPE.out]; exact hcp)
            rw [← HPJ.out, ← HPE.out] at hmp
            obtain ⟨bp, op, rfl, -, hcp2⟩ := slI_cell2 HP.out hcp
            generalize at0 PP pj = xp at *
            have ep : (xp == (j : Int)) = false := by simpa using hmp
            clear hmp
            by_cases hcg : gj < G.length
            · have hmg := fN_miss hjn HSL.out (by rw [← HGJ.out, ← HGE.out]; exact hcg)
              rw [← HGJ.out, ← HGE.out] at hmg
              obtain ⟨bg, og, rfl, -, hcg2⟩ := slI_cell2 HG.out hcg
              generalize at0 G gj = xg at *
              have eg : (xg == (j : Int)) = false := by simpa using hmg
              clear hmg
              as_aux_lemma =>
                go_wp2_with fail
                have hX : Below w7.heap.size w7 (w7.alloc (.cells #[.int .i64 (j : Int)] 3)) := (Below.refl _ _).alloc (Nat.le_refl _) _
                refine (y25 (asks := [(j : Int)]) HVU.out HSU.out (fun x hx => by rw [List.mem_singleton.1 hx]; omega) (by simp) _ (HL.out.below hX (Nat.le_refl _)) (HT.out.below hX (Nat.le_refl _)) (slI_new (xs := [(j : Int)]) (by simp))).mono ?_
                rintro e w9 ⟨vl, ve, rfl, hlet, hend, hb⟩
                replace hb := btr hX hb (Nat.le_refl _)
                have HL := Lib.hid (HL.out.below hb (Nat.le_refl _))
                have HT := Lib.hid (HT.out.below hb (Nat.le_refl _))
                have HO := Lib.hid (HO.out.below hb (Nat.le_refl _))
                have HM := Lib.hid (HM.out.below hb HM.out.lt)
                have HG := Lib.hid (HG.out.below hb (Nat.le_refl _))
                have HP := Lib.hid (HP.out.below hb (Nat.le_refl _))
                replace hB := btr hB hb (Nat.le_refl _)
                rw [disp1 HSL.out] at hlet hend
                obtain ⟨gl, ol, cl, rfl, -, hcl⟩ := slB_one hlet
                have HE := Lib.hid hend
                clear hb hX hlet hend
                go_wp2_with fail
                refine (x36 rfl _ HE.out HT.out).mono ?_
                rintro e w10 ⟨rfl, hb⟩
                have HL := Lib.hid (HL.out.below hb (Nat.le_refl _))
                have HT := Lib.hid (HT.out.below hb (Nat.le_refl _))
                have HO := Lib.hid (HO.out.below hb (Nat.le_refl _))
                have HM := Lib.hid (HM.out.below hb HM.out.lt)
                have HG := Lib.hid (HG.out.below hb (Nat.le_refl _))
                have HP := Lib.hid (HP.out.below hb (Nat.le_refl _))
                replace hB := btr hB hb (Nat.le_refl _)
                clear hb hcl
                go_wp2
                go_roundw
                case rel => exact ⟨j + 1, by omega, by go_num, by rw [SG.out, HSL.out, if_neg (by simp)], by rw [SP.out, HPS.out, if_neg (by simp)], hB, HL.out, HT.out, HO.out, HM.out, HG.out, HP.out⟩
                case measure => simp [intOf]; omega
            · skip
              as_aux_lemma =>
                go_wp2_with fail
                have hX : Below w7.heap.size w7 (w7.alloc (.cells #[.int .i64 (j : Int)] 3)) := (Below.refl _ _).alloc (Nat.le_refl _) _
                refine (y25 (asks := [(j : Int)]) HVU.out HSU.out (fun x hx => by rw [List.mem_singleton.1 hx]; omega) (by simp) _ (HL.out.below hX (Nat.le_refl _)) (HT.out.below hX (Nat.le_refl _)) (slI_new (xs := [(j : Int)]) (by simp))).mono ?_
                rintro e w9 ⟨vl, ve, rfl, hlet, hend, hb⟩
                replace hb := btr hX hb (Nat.le_refl _)
                have HL := Lib.hid (HL.out.below hb (Nat.le_refl _))
                have HT := Lib.hid (HT.out.below hb (Nat.le_refl _))
                have HO := Lib.hid (HO.out.below hb (Nat.le_refl _))
                have HM := Lib.hid (HM.out.below hb HM.out.lt)
                have HG := Lib.hid (HG.out.below hb (Nat.le_refl _))
                have HP := Lib.hid (HP.out.below hb (Nat.le_refl _))
                replace hB := btr hB hb (Nat.le_refl _)
                rw [disp1 HSL.out] at hlet hend
                obtain ⟨gl, ol, cl, rfl, -, hcl⟩ := slB_one hlet
                have HE := Lib.hid hend
                clear hb hX hlet hend
                go_wp2_with fail
                refine (x36 rfl _ HE.out HT.out).mono ?_
                rintro e w10 ⟨rfl, hb⟩
                have HL := Lib.hid (HL.out.below hb (Nat.le_refl _))
                have HT := Lib.hid (HT.out.below hb (Nat.le_refl _))
                have HO := Lib.hid (HO.out.below hb (Nat.le_refl _))
                have HM := Lib.hid (HM.out.below hb HM.out.lt)
                have HG := Lib.hid (HG.out.below hb (Nat.le_refl _))
                have HP := Lib.hid (HP.out.below hb (Nat.le_refl _))
                replace hB := btr hB hb (Nat.le_refl _)
                clear hb hcl
                go_wp2
                go_roundw
                case rel => exact ⟨j + 1, by omega, by go_num, by rw [SG.out, HSL.out, if_neg (by simp)], by rw [SP.out, HPS.out, if_neg (by simp)], hB, HL.out, HT.out, HO.out, HM.out, HG.out, HP.out⟩
                case measure => simp [intOf]; omega
          · skip
            by_cases hcg : gj < G.length
            · have hmg := fN_miss hjn HSL.out (by rw [← HGJ.out, ← HGE.out]; exact hcg)
              rw [← HGJ.out, ← HGE.out] at hmg
              obtain ⟨bg, og, rfl, -, hcg2⟩ := slI_cell2 HG.out hcg
              generalize at0 G gj = xg at *
              have eg : (xg == (j : Int)) = false := by simpa using hmg
              clear hmg
              as_aux_lemma =>
                go_wp2_with fail
                have hX : Below w7.heap.size w7 (w7.alloc (.cells #[.int .i64 (j : Int)] 3)) := (Below.refl _ _).alloc (Nat.le_refl _) _
                refine (y25 (asks := [(j : Int)]) HVU.out HSU.out (fun x hx => by rw [List.mem_singleton.1 hx]; omega) (by simp) _ (HL.out.below hX (Nat.le_refl _)) (HT.out.below hX (Nat.le_refl _)) (slI_new (xs := [(j : Int)]) (by simp))).mono ?_
                rintro e w9 ⟨vl, ve, rfl, hlet, hend, hb⟩
                replace hb := btr hX hb (Nat.le_refl _)
                have HL := Lib.hid (HL.out.below hb (Nat.le_refl _))
                have HT := Lib.hid (HT.out.below hb (Nat.le_refl _))
                have HO := Lib.hid (HO.out.below hb (Nat.le_refl _))
                have HM := Lib.hid (HM.out.below hb HM.out.lt)
                have HG := Lib.hid (HG.out.below hb (Nat.le_refl _))
                have HP := Lib.hid (HP.out.below hb (Nat.le_refl _))
                replace hB := btr hB hb (Nat.le_refl _)
                rw [disp1 HSL.out] at hlet hend
                obtain ⟨gl, ol, cl, rfl, -, hcl⟩ := slB_one hlet
                have HE := Lib.hid hend
                clear hb hX hlet hend
                go_wp2_with fail
                refine (x36 rfl _ HE.out HT.out).mono ?_
                rintro e w10 ⟨rfl, hb⟩
                have HL := Lib.hid (HL.out.below hb (Nat.le_refl _))
                have HT := Lib.hid (HT.out.below hb (Nat.le_refl _))
                have HO := Lib.hid (HO.out.below hb (Nat.le_refl _))
                have HM := Lib.hid (HM.out.below hb HM.out.lt)
                have HG := Lib.hid (HG.out.below hb (Nat.le_refl _))
                have HP := Lib.hid (HP.out.below hb (Nat.le_refl _))
                replace hB := btr hB hb (Nat.le_refl _)
                clear hb hcl
                go_wp2
                go_roundw
                case rel => exact ⟨j + 1, by omega, by go_num, by rw [SG.out, HSL.out, if_neg (by simp)], by rw [SP.out, HPS.out, if_neg (by simp)], hB, HL.out, HT.out, HO.out, HM.out, HG.out, HP.out⟩
                case measure => simp [intOf]; omega
            · skip
              as_aux_lemma =>
                go_wp2_with fail
                have hX : Below w7.heap.size w7 (w7.alloc (.cells #[.int .i64 (j : Int)] 3)) := (Below.refl _ _).alloc (Nat.le_refl _) _
                refine (y25 (asks := [(j : Int)]) HVU.out HSU.out (fun x hx => by rw [List.mem_singleton.1 hx]; omega) (by simp) _ (HL.out.below hX (Nat.le_refl _)) (HT.out.below hX (Nat.le_refl _)) (slI_new (xs := [(j : Int)]) (by simp))).mono ?_
                rintro e w9 ⟨vl, ve, rfl, hlet, hend, hb⟩
                replace hb := btr hX hb (Nat.le_refl _)
                have HL := Lib.hid (HL.out.below hb (Nat.le_refl _))
                have HT := Lib.hid (HT.out.below hb (Nat.le_refl _))
                have HO := Lib.hid (HO.out.below hb (Nat.le_refl _))
                have HM := Lib.hid (HM.out.below hb HM.out.lt)
                have HG := Lib.hid (HG.out.below hb (Nat.le_refl _))
                have HP := Lib.hid (HP.out.below hb (Nat.le_refl _))
                replace hB := btr hB hb (Nat.le_refl _)
                rw [disp1 HSL.out] at hlet hend
                obtain ⟨gl, ol, cl, rfl, -, hcl⟩ := slB_one hlet
                have HE := Lib.hid hend
                clear hb hX hlet hend
                go_wp2_with fail
                refine (x36 rfl _ HE.out HT.out).mono ?_
                rintro e w10 ⟨rfl, hb⟩
                have HL := Lib.hid (HL.out.below hb (Nat.le_refl _))
                have HT := Lib.hid (HT.out.below hb (Nat.le_refl _))
                have HO := Lib.hid (HO.out.below hb (Nat.le_refl _))
                have HM := Lib.hid (HM.out.below hb HM.out.lt)
                have HG := Lib.hid (HG.out.below hb (Nat.le_refl _))
                have HP := Lib.hid (HP.out.below hb (Nat.le_refl _))
                replace hB := btr hB hb (Nat.le_refl _)
                clear hb hcl
                go_wp2
                go_roundw
                case rel => exact ⟨j + 1, by omega, by go_num, by rw [SG.out, HSL.out, if_neg (by simp)], by rw [SP.out, HPS.out, if_neg (by simp)], hB, HL.out, HT.out, HO.out, HM.out, HG.out, HP.out⟩
                case measure => simp [intOf]; omega
      · have hjx : j = us.length := by omega
        have eg : ((gj : Int) != (G.length : Int)) = false := by rw [hgj, HGE.out, hjx]; simp
        have ep : ((pj : Int) != (PP.length : Int)) = false := by rw [hpj, HPE.out, hjx]; simp
        clear hjn hj hgj hpj
        have hq0 : 0 ≤ fromO os r % (G.length : Int) := Int.emod_nonneg _ (by omega)
        have hq1 : fromO os r % (G.length : Int) < G.length := Int.emod_lt_of_pos _ (by omega)
        obtain ⟨q, hq⟩ := Int.eq_ofNat_of_zero_le hq0
        have hqt : (fromO os r % (G.length : Int)).toNat = q := by omega
        have hmem := fN_mem (p := gdT L us) (n := us.length) (k := q) (by rw [← HGE.out]; omega)
        obtain ⟨i1, hi1, hg1, he1⟩ := hmem
        rw [← HGE.out] at he1
        obtain ⟨bg, og, rfl, hbg, hcg⟩ := slI_cell2 HG.out (k := q) (by omega)
        rw [he1, ← hqt] at hcg
        obtain ⟨hps, hss⟩ := gdT_parts hg1
        have HPS := Lib.hid hps
        have HSS := Lib.hid hss
        have hfb := fromO_bnd HO.out r
        have hll := leftT_mov HVU.out hi1 HPS.out
        have HVN := Lib.hid (HVU.out.mov hi1 HPS.out)
        clear hq hqt he1 hps hss hg1
        by_cases hos : os.length = 0
        · have hf0 : fromO os r = 0 := by unfold fromO; rw [if_pos hos]
          rw [hf0] at hcg hq0 hq1
          simp at hcg
          have hos0 : os.length ≤ 0 := by omega
          clear hf0 hfb hos
          as_aux_lemma =>
          go_wp2_with fail
          refine (y37 HVU.out hi1 HPS.out _ HL.out HT.out).mono ?_
          rintro e w11 ⟨vn, rfl, hn1, hb⟩
          have HL := Lib.hid (HL.out.below hb (Nat.le_refl _))
          have HT := Lib.hid (HT.out.below hb (Nat.le_refl _))
          have HO := Lib.hid (HO.out.below hb (Nat.le_refl _))
          have HM := Lib.hid (HM.out.below hb HM.out.lt)
          have hcg := (hb.cell (p := ⟨bg, og, none⟩) hbg).trans hcg
          have HN1 := Lib.hid hn1
          replace hB := btr hB hb (Nat.le_refl _)
          clear hb hn1
          go_wp2_with fail
          refine (y33 HVU.out hi1 HPS.out _ HL.out HT.out).mono ?_
          rintro e w12 ⟨vm, rfl, hn2, hb⟩
          have HL := Lib.hid (HL.out.below hb (Nat.le_refl _))
          have HT := Lib.hid (HT.out.below hb (Nat.le_refl _))
          have HO := Lib.hid (HO.out.below hb (Nat.le_refl _))
          have HM := Lib.hid (HM.out.below hb HM.out.lt)
          have HN1 := Lib.hid (HN1.out.below hb (Nat.le_refl _))
          have HN2 := Lib.hid (hn2 rfl)
          replace hB := btr hB hb (Nat.le_refl _)
          clear hb hn2 hcg
          go_wp2_with fail
          refine (x36 rfl _ HN1.out HN2.out).mono ?_
          rintro e w13 ⟨rfl, hb⟩
          have HL := Lib.hid (HL.out.below hb (Nat.le_refl _))
          have HT := Lib.hid (HT.out.below hb (Nat.le_refl _))
          have HO := Lib.hid (HO.out.below hb (Nat.le_refl _))
          have HM := Lib.hid (HM.out.below hb HM.out.lt)
          have HN2 := Lib.hid (HN2.out.below hb (Nat.le_refl _))
          replace hB := btr hB hb (Nat.le_refl _)
          clear hb HN1
          go_wp2_with fail
          refine (y32 HVN.out _ HN2.out).mono ?_
          rintro e w14 ⟨rfl, hb⟩
          have HL := Lib.hid (HL.out.below hb (Nat.le_refl _))
          have HT := Lib.hid (HT.out.below hb (Nat.le_refl _))
          have HO := Lib.hid (HO.out.below hb (Nat.le_refl _))
          have HM := Lib.hid (HM.out.below hb HM.out.lt)
          have HN2 := Lib.hid (HN2.out.below hb (Nat.le_refl _))
          replace hB := btr hB hb (Nat.le_refl _)
          clear hb
          go_wp2_with fail
          refine (y32 HVU.out _ HT.out).mono ?_
          rintro e w15 ⟨rfl, hb⟩
          have HL := Lib.hid (HL.out.below hb (Nat.le_refl _))
          have HO := Lib.hid (HO.out.below hb (Nat.le_refl _))
          have HM := Lib.hid (HM.out.below hb HM.out.lt)
          have HN2 := Lib.hid (HN2.out.below hb (Nat.le_refl _))
          replace hB := btr hB hb (Nat.le_refl _)
          clear hb
          have hd : ((leftT (movT us i1) : Int) != (leftT us : Int) - 1) = false := by rw [show (leftT us : Int) - 1 = (leftT (movT us i1) : Int) by omega]; simp
          have hsx : safeT L (movT us i1) = true := HSS.out
          have HSX := Lib.hid hsx
          clear hsx
          go_wp2
          go_roundw
          case rel => exact ⟨r + 1, movT us i1, by omega, by go_num, hB, HL.out, HN2.out, HO.out, HM.out, HVN.out, HSX.out, by rw [movT_len]; exact hn, by omega⟩
          case measure => simp [intOf]; omega
        · have hf1 : fromO os r = at0 os (r % os.length) := by unfold fromO; rw [if_neg hos]
          rw [hf1] at hcg hq0 hq1 hfb
          obtain ⟨bo, oo, rfl, -, hco⟩ := slY_cell HO.out (k := r % os.length) (Nat.mod_lt _ (by omega))
          generalize at0 os (r % os.length) = f at *
          have hos1 : 0 < os.length := by omega
          have hr0 : 0 ≤ (r : Int) % (os.length : Int) := Int.emod_nonneg _ (by omega)
          have hr1 : (r : Int) % (os.length : Int) < os.length := Int.emod_lt_of_pos _ (by omega)
          clear hf1 hos
          as_aux_lemma =>
          go_wp2_with fail
          refine (y37 HVU.out hi1 HPS.out _ HL.out HT.out).mono ?_
          rintro e w11 ⟨vn, rfl, hn1, hb⟩
          have HL := Lib.hid (HL.out.below hb (Nat.le_refl _))
          have HT := Lib.hid (HT.out.below hb (Nat.le_refl _))
          have HO := Lib.hid (HO.out.below hb (Nat.le_refl _))
          have HM := Lib.hid (HM.out.below hb HM.out.lt)
          have hcg := (hb.cell (p := ⟨bg, og + (f % (G.length : Int)).toNat, none⟩) hbg).trans hcg
          have HN1 := Lib.hid hn1
          replace hB := btr hB hb (Nat.le_refl _)
          clear hb hn1
          go_wp2_with fail
          refine (y33 HVU.out hi1 HPS.out _ HL.out HT.out).mono ?_
          rintro e w12 ⟨vm, rfl, hn2, hb⟩
          have HL := Lib.hid (HL.out.below hb (Nat.le_refl _))
          have HT := Lib.hid (HT.out.below hb (Nat.le_refl _))
          have HO := Lib.hid (HO.out.below hb (Nat.le_refl _))
          have HM := Lib.hid (HM.out.below hb HM.out.lt)
          have HN1 := Lib.hid (HN1.out.below hb (Nat.le_refl _))
          have HN2 := Lib.hid (hn2 rfl)
          replace hB := btr hB hb (Nat.le_refl _)
          clear hb hn2 hcg
          go_wp2_with fail
          refine (x36 rfl _ HN1.out HN2.out).mono ?_
          rintro e w13 ⟨rfl, hb⟩
          have HL := Lib.hid (HL.out.below hb (Nat.le_refl _))
          have HT := Lib.hid (HT.out.below hb (Nat.le_refl _))
          have HO := Lib.hid (HO.out.below hb (Nat.le_refl _))
          have HM := Lib.hid (HM.out.below hb HM.out.lt)
          have HN2 := Lib.hid (HN2.out.below hb (Nat.le_refl _))
          replace hB := btr hB hb (Nat.le_refl _)
          clear hb HN1
          go_wp2_with fail
          refine (y32 HVN.out _ HN2.out).mono ?_
          rintro e w14 ⟨rfl, hb⟩
          have HL := Lib.hid (HL.out.below hb (Nat.le_refl _))
          have HT := Lib.hid (HT.out.below hb (Nat.le_refl _))
          have HO := Lib.hid (HO.out.below hb (Nat.le_refl _))
          have HM := Lib.hid (HM.out.below hb HM.out.lt)
          have HN2 := Lib.hid (HN2.out.below hb (Nat.le_refl _))
          replace hB := btr hB hb (Nat.le_refl _)
          clear hb
          go_wp2_with fail
          refine (y32 HVU.out _ HT.out).mono ?_
          rintro e w15 ⟨rfl, hb⟩
          have HL := Lib.hid (HL.out.below hb (Nat.le_refl _))
          have HO := Lib.hid (HO.out.below hb (Nat.le_refl _))
          have HM := Lib.hid (HM.out.below hb HM.out.lt)
          have HN2 := Lib.hid (HN2.out.below hb (Nat.le_refl _))
          replace hB := btr hB hb (Nat.le_refl _)
          clear hb
          have hd : ((leftT (movT us i1) : Int) != (leftT us : Int) - 1) = false := by rw [show (leftT us : Int) - 1 = (leftT (movT us i1) : Int) by omega]; simp
          have hsx : safeT L (movT us i1) = true := HSS.out
          have HSX := Lib.hid hsx
          clear hsx
          go_wp2
          go_roundw
          case rel => exact ⟨r + 1, movT us i1, by omega, by go_num, hB, HL.out, HN2.out, HO.out, HM.out, HVN.out, HSX.out, by rw [movT_len]; exact hn, by omega⟩
          case measure => simp [intOf]; omega
end Yteijenefhoconaa
end Go.Proofs
