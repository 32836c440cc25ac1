/- The law RailAsked returns true. -/
import Derived.Test.YteijenefhoconaaDisp2
open Go Go.RowKit Go.YteijenefhoconaaIt
namespace Go.Proofs
namespace Yteijenefhoconaa
theorem slI_cell2 {W : World} {ad : Option Addr} {n cap : Nat} {xs : List Int} (h : SlI W (.slice ad n cap) xs) {k : Nat} (hk : k < xs.length) : ∃ b off, ad = some ⟨b, off, none⟩ ∧ b < W.heap.size ∧ W.cell? ⟨b, off + k, none⟩ = some (.int .i64 (at0 xs k)) := by
  obtain ⟨ad', cap', h1, _, h3⟩ := h
  obtain ⟨b', off', h4, h5, h6⟩ := h3 (by omega)
  injection h1 with e1 _ _
  exact ⟨b', off', e1.trans h4, h5, h6 k hk⟩
theorem slB_cell2 {W : World} {ad : Option Addr} {n cap : Nat} {xs : List Bool} (h : SlB W (.slice ad n cap) xs) {k : Nat} (hk : k < xs.length) : ∃ b off, ad = some ⟨b, off, none⟩ ∧ b < W.heap.size ∧ W.cell? ⟨b, off + k, none⟩ = some (.bool (xs.getD k false)) := by
  obtain ⟨ad', cap', h1, _, h3⟩ := h
  obtain ⟨b', off', h4, h5, h6⟩ := h3 (by omega)
  injection h1 with e1 _ _
  exact ⟨b', off', e1.trans h4, h5, h6 k hk⟩
set_option maxRecDepth 100000 in
set_option maxHeartbeats 4000000 in
theorem railAsked_any (r0 r1 r2 r3 r4 r5 m : Int) (v : Value) (xs : List Tn) (vo : Value) (os : List Int) (w : World) (hR : ∀ x ∈ [r0, r1, r2, r3, r4, r5], 0 ≤ x ∧ x < 256) (hm : 0 ≤ m ∧ m < 256) (hx : SlP w v xs) (ho : SlY w vo os) :
    Calls Try.prog 8 #[.agg #[.int .u8 r0, .int .u8 r1, .int .u8 r2, .int .u8 r3, .int .u8 r4, .int .u8 r5, .int .u8 m, v], vo] w fun e w' => e = .returned (.bool true) ∧ Below w.heap.size w w' := by
  have HX := Lib.hid hx
  have HR := Lib.hid hR
  have HMM := Lib.hid hm
  clear hx hR hm
  have HO := Lib.hid ho
  clear ho
  obtain ⟨⟨ado, capo, rfl, hmo, -⟩, -⟩ := HO.out
  obtain ⟨i3, hi3, hz1, hz2, hz3⟩ := info_parts info3
  have hmm := @run_makeMap Try.prog
  go_enter Try.func8, Try.ntmps8
  refine wp_seq_k (fun K hK => ?_)
  have HK := Lib.hid hK; clear hK
  go_wp2
  refine HK.out _ _ ?_; clear HK K
  generalize hw1 : World.alloc _ _ = w1
  have b1 : w1.heap[w.heap.size]? = some (.cells #[.int .u8 r0, .int .u8 r1, .int .u8 r2, .int .u8 r3, .int .u8 r4, .int .u8 r5, .int .u8 m, v] 52 (0, 0)) := by rw [← hw1]; exact heap_newI rfl
  have B : Below w.heap.size w w1 := by rw [← hw1]; exact (Below.refl _ _).alloc (Nat.le_refl _) _
  clear hw1
  go_wp2_with (first | (refine wpList_load_blk rfl 52 _ rfl _ rfl b1 Try.underlying52 rfl size52 rfl ?_) | (go_at_call 30; refine (made6 r0 r1 r2 r3 r4 r5 m v xs _ HR.out HMM.out (HX.out.below B (Nat.le_refl _))).mono ?_; rintro e w2 ⟨vL, vT, L, ts, rfl, hL, hT, hok, hb⟩; replace B := btr B hb (Nat.le_refl _); clear hb b1))
  obtain ⟨he, h4, hl2, hl6, hLb⟩ := hok
  have HV := Lib.hid (show Val L (tos ts) ts from ⟨he, rfl⟩)
  have HL := Lib.hid hL
  have HT := Lib.hid hT
  have HLB := Lib.hid hLb
  clear he hL hT hLb HX HR HMM
  obtain ⟨adt, capt, rfl, hmt, -⟩ := HT.out
  have HO := Lib.hid (HO.out.below B (Nat.le_refl _))
  have H20 := left20 HV.out h4 hl6
  go_wp2
  go_loopw [7, 8] (fun v i wr => ∃ r : Nat, r ≤ 20 ∧ i = .int .i64 r ∧ Below w2.heap.size w2 wr ∧ wr.ownsRow w2.heap.size 3 1 v (r * ts.length) ((asksN os ts.length r).map (.int .i64))) (fun _ i _ => 20 - (intOf i).toNat)
  case atStart => exact ⟨0, Nat.zero_le _, rfl, Below.refl _ _, by rw [Nat.zero_mul]; exact World.ownsRow_nil _ _ _ _⟩
  case round =>
    obtain ⟨r, hr, rfl, hb, ho⟩ := hrel
    have hsz := hb.size
    by_cases hr20 : r < 20
    · have hrn : r * ts.length ≤ 76 := Nat.le_trans (Nat.mul_le_mul (by omega : r ≤ 19) h4) (by decide)
      have hfb := fromO_bnd HO.out r
      have dr : decide ((r : Int) < 20) = true := decide_eq_true (by omega)
      have HOr := Lib.hid (HO.out.below hb (Nat.le_refl _))
      have hse : asksN os ts.length (r + 1) = asksN os ts.length r ++ askK ts.length (fromO os r) ts.length := rfl
      have HSE := Lib.hid hse
      clear hse
      by_cases hos : os.length = 0
      · have hf0 : fromO os r = 0 := by unfold fromO; rw [if_pos hos]
        have HF := Lib.hid hf0
        have hos0 : os.length ≤ 0 := by omega
        have dos : decide (0 < os.length) = false := decide_eq_false (by omega)
        clear hos hfb
        go_wp2
        go_loopw [7, 40] (fun v i wr => ∃ k : Nat, k ≤ ts.length ∧ i = .int .i64 k ∧ Below w2.heap.size w2 wr ∧ wr.ownsRow w2.heap.size 3 1 v (r * ts.length + k) ((asksN os ts.length r ++ askK ts.length (fromO os r) k).map (.int .i64))) (fun _ i _ => ts.length - (intOf i).toNat)
        case atStart => exact ⟨0, Nat.zero_le _, rfl, hb, by simpa [askK] using ho⟩
        case round =>
         obtain ⟨i, hi, rfl, hb, ho⟩ := hrel
         have hsz := hb.size
         by_cases hin : i < ts.length
         · skip
           have hn0 : 0 < ts.length := by omega
           have hnn : ¬ ts.length = 0 := by omega
           have ha1 : ask1 ts.length (fromO os r) i = (i : Int) % ts.length := by unfold ask1; rw [HF.out]; simp
           have hrl : ((asksN os ts.length r ++ askK ts.length (fromO os r) i).map (Value.int .i64)) ++ [.int .i64 ((i : Int) % ts.length)] = (asksN os ts.length r ++ askK ts.length (fromO os r) (i + 1)).map (.int .i64) := by rw [askK_succ, ha1]; simp
           have HRL := Lib.hid hrl
           clear hrl ha1
           go_wp2_with (at_builtin; refine wpList_append_own _ rfl _ _ 22 rfl w2.heap.size 3 i3 (.int .i64 0) 1 8 Try.underlying22 hi3 hz1 hz2 hz3 rfl (by decide) _ _ _ rfl (ho.alloc _) ⟨wr.heap.size, 0, none⟩ 1 1 [.int .i64 ((i : Int) % ts.length)] rfl rfl (cell_new1 rfl) (fun x hx => by simp at hx; subst hx; rfl) (Nat.le_trans (by omega : (r * ts.length + i) + 1 ≤ 2000) (by decide)) (by omega) (by rw [World.size_alloc]; omega) ?_; intro v' w6 r1 r2 _)
           go_roundw
           case rel => exact ⟨i + 1, by omega, by go_num, grown_below1 r2 ho (Nat.le_refl _) hsz hb, by rw [← HRL.out]; exact r1⟩
           case measure => simp [intOf]; omega
         · have hix : i = ts.length := by omega
           have hfin : wr.ownsRow w2.heap.size 3 1 u7 ((r + 1) * ts.length) ((asksN os ts.length (r + 1)).map (.int .i64)) := by
             rw [HSE.out, Nat.succ_mul]; rw [hix] at ho; exact ho
           clear hin hi ho
           subst hix
           go_wp2
           go_roundw
           case rel => exact ⟨r + 1, by omega, by go_num, hb, hfin⟩
           case measure => simp [intOf]; omega
      · have hf1 : fromO os r = at0 os (r % os.length) := by unfold fromO; rw [if_neg hos]
        obtain ⟨bo, oo, rfl, -, hco⟩ := slY_cell HOr.out (k := r % os.length) (Nat.mod_lt _ (by omega))
        rw [← hf1] at hco
        have hos1 : 0 < os.length := by omega
        have dos : decide (0 < os.length) = true := decide_eq_true (by omega)
        have hr0 : 0 ≤ (r : Int) % (os.length : Int) := Int.emod_nonneg _ (by omega)
        have hr1 : (r : Int) % (os.length : Int) < os.length := Int.emod_lt_of_pos _ (by omega)
        generalize fromO os r = f at *
        clear hf1 hos
        go_wp2
        go_loopw [7, 40] (fun v i wr => ∃ k : Nat, k ≤ ts.length ∧ i = .int .i64 k ∧ Below w2.heap.size w2 wr ∧ wr.ownsRow w2.heap.size 3 1 v (r * ts.length + k) ((asksN os ts.length r ++ askK ts.length f k).map (.int .i64))) (fun _ i _ => ts.length - (intOf i).toNat)
        case atStart => exact ⟨0, Nat.zero_le _, rfl, hb, by simpa [askK] using ho⟩
        case round =>
         obtain ⟨i, hi, rfl, hb, ho⟩ := hrel
         have hsz := hb.size
         by_cases hin : i < ts.length
         · skip
           have hn0 : 0 < ts.length := by omega
           have hnn : ¬ ts.length = 0 := by omega
           have hva : askK ts.length f (i + 1) = askK ts.length f i ++ [ask1 ts.length f i] := askK_succ _ _ _
           have hrl : ((asksN os ts.length r ++ askK ts.length f i).map (Value.int .i64)) ++ [.int .i64 (ask1 ts.length f i)] = (asksN os ts.length r ++ askK ts.length f (i + 1)).map (.int .i64) := by rw [hva]; simp
           have HRL := Lib.hid hrl
           clear hrl hva
           by_cases hev : f % 2 = 0
           · have ha1 : ask1 ts.length f i = ((i : Int) + f / 2) % ts.length := by unfold ask1; rw [if_pos hev]
             rw [ha1] at HRL
             have t1 : (f % 2 == 0) = true := by rw [hev]; rfl
             clear ha1 hev
             go_wp2_with (at_builtin; refine wpList_append_own _ rfl _ _ 22 rfl w2.heap.size 3 i3 (.int .i64 0) 1 8 Try.underlying22 hi3 hz1 hz2 hz3 rfl (by decide) _ _ _ rfl (ho.alloc _) ⟨wr.heap.size, 0, none⟩ 1 1 [.int .i64 (((i : Int) + f / 2) % ts.length)] rfl rfl (cell_new1 rfl) (fun x hx => by simp at hx; subst hx; rfl) (Nat.le_trans (by omega : (r * ts.length + i) + 1 ≤ 2000) (by decide)) (by omega) (by rw [World.size_alloc]; omega) ?_; intro v' w6 r1 r2 _)
             go_roundw
             case rel => exact ⟨i + 1, by omega, by go_num, grown_below1 r2 ho (Nat.le_refl _) hsz hb, by rw [← HRL.out]; exact r1⟩
             case measure => simp [intOf]; omega
           · have ha1 : ask1 ts.length f i = (2 * ts.length - 1 - i + f / 2) % ts.length := by unfold ask1; rw [if_neg hev]
             rw [ha1] at HRL
             have t1 : (f % 2 == 0) = false := by rw [beq_eq_false_iff_ne]; exact hev
             clear ha1 hev
             go_wp2_with (at_builtin; refine wpList_append_own _ rfl _ _ 22 rfl w2.heap.size 3 i3 (.int .i64 0) 1 8 Try.underlying22 hi3 hz1 hz2 hz3 rfl (by decide) _ _ _ rfl (ho.alloc _) ⟨wr.heap.size, 0, none⟩ 1 1 [.int .i64 ((2 * ts.length - 1 - i + f / 2) % ts.length)] rfl rfl (cell_new1 rfl) (fun x hx => by simp at hx; subst hx; rfl) (Nat.le_trans (by omega : (r * ts.length + i) + 1 ≤ 2000) (by decide)) (by omega) (by rw [World.size_alloc]; omega) ?_; intro v' w6 r1 r2 _)
             go_roundw
             case rel => exact ⟨i + 1, by omega, by go_num, grown_below1 r2 ho (Nat.le_refl _) hsz hb, by rw [← HRL.out]; exact r1⟩
             case measure => simp [intOf]; omega
         · have hix : i = ts.length := by omega
           have hfin : wr.ownsRow w2.heap.size 3 1 u7 ((r + 1) * ts.length) ((asksN os ts.length (r + 1)).map (.int .i64)) := by
             rw [HSE.out, Nat.succ_mul]; rw [hix] at ho; exact ho
           clear hin hi ho
           subst hix
           go_wp2
           go_roundw
           case rel => exact ⟨r + 1, by omega, by go_num, hb, hfin⟩
           case measure => simp [intOf]; omega
    · have hrx : r = 20 := by omega
      have hlen := asksN_len os ts.length 20
      have hbd := asksN_bnd (os := os) (n := ts.length) 20
      have hn80 : 20 * ts.length ≤ 80 := by omega
      obtain ⟨AS, hAS⟩ : ∃ AS, AS = asksN os ts.length 20 := ⟨_, rfl⟩
      have hA : SlI wr u7 AS := by
        refine slI_own (base := w2.heap.size) (W := wr) ?_ (by rw [hAS]; omega) (Nat.le_refl _) (fun _ _ _ => rfl)
        rw [hAS, hlen]; rw [hrx] at ho; exact ho
      have hal : AS.length ≤ 80 := by rw [hAS]; omega
      have hask := asked_left HV.out (os := os)
      rw [← hAS] at hbd
      have HA := Lib.hid hA
      have HBD := Lib.hid hbd
      have HAS := Lib.hid hAS
      have HASK := Lib.hid hask
      have HL := Lib.hid (HL.out.below hb (Nat.le_refl _))
      have HT := Lib.hid (HT.out.below hb (Nat.le_refl _))
      replace B := btr B hb (Nat.le_refl _)
      obtain ⟨ada, capa, rfl, hma, -⟩ := HA.out
      clear ho hlen hbd hAS hA hask hb hr20 hsz hr HO
      subst hrx
      by_cases hs : safeT L ts = true
      rotate_left
      · replace hs : safeT L ts = false := by simpa using hs
        have HS := Lib.hid hs
        clear hs
        go_wp2_with fail
        refine (y25n HV.out HS.out _ HL.out HT.out HA.out).mono ?_
        rintro e w3 ⟨rfl, hb⟩
        have HL := Lib.hid (HL.out.below hb (Nat.le_refl _))
        have HT := Lib.hid (HT.out.below hb (Nat.le_refl _))
        replace B := btr B hb (Nat.le_refl _)
        clear hb
        go_wp2_with fail
        refine (y31n HV.out h4 HS.out _ HL.out HT.out).mono ?_
        rintro e w4 ⟨rfl, hb⟩
        replace B := btr B hb (Nat.le_refl _)
        clear hb
        go_wp2_with fail
        refine (works_any _).mono ?_
        rintro e w5 ⟨rfl, hb⟩
        replace B := btr B hb (Nat.le_refl _)
        go_wp2
        go_ret
        exact ⟨rfl, B⟩
      have HS := Lib.hid hs
      clear hs
      go_wp2_with fail
      refine (y25 HV.out HS.out HBD.out (by omega) _ HL.out HT.out HA.out).mono ?_
      rintro e w3 ⟨vl, ve, rfl, hlet, hend, hb⟩
      have HL := Lib.hid (HL.out.below hb (Nat.le_refl _))
      have HT := Lib.hid (HT.out.below hb (Nat.le_refl _))
      have HA := Lib.hid (HA.out.below hb (Nat.le_refl _))
      replace B := btr B hb (Nat.le_refl _)
      have hv := dispT_val AS ts HV.out HBD.out
      have hle := dispT_len L AS ts
      have hz : leftT (dispT L ts AS).2 = 0 := by
        have := HASK.out HS.out 20
        rw [← HAS.out] at this
        omega
      obtain ⟨LET, hLE⟩ : ∃ LET, LET = (dispT L ts AS).1 := ⟨_, rfl⟩
      obtain ⟨EN, hEN⟩ : ∃ EN, EN = (dispT L ts AS).2 := ⟨_, rfl⟩
      rw [← hLE] at hlet hle
      rw [← hEN] at hend hv hz
      have HLET := Lib.hid hlet
      have HEND := Lib.hid hend
      have HLE := Lib.hid hLE
      have HEN := Lib.hid hEN
      have HVE := Lib.hid hv.1
      have el : ((LET.length : Int) != (AS.length : Int)) = false := by rw [hle]; simp
      have ee : ((EN.length : Int) != (ts.length : Int)) = false := by rw [hv.2.1]; simp
      have HLL := Lib.hid hle
      have h32 := fun W h => y32 (vt := ve) hv.1 W h
      rw [hz] at h32
      have H32 := Lib.hid h32
      obtain ⟨adl, capl, rfl, hml, -⟩ := HLET.out
      obtain ⟨ade, cape, rfl, hme, -⟩ := HEND.out
      clear hb hlet hend hLE hEN hv hz hle h32
      go_wp2_with fail
      refine (y31n HV.out h4 HS.out _ HL.out HT.out).mono ?_
      rintro e w4 ⟨rfl, hb⟩
      have HL := Lib.hid (HL.out.below hb (Nat.le_refl _))
      have HT := Lib.hid (HT.out.below hb (Nat.le_refl _))
      have HA := Lib.hid (HA.out.below hb (Nat.le_refl _))
      have HLET := Lib.hid (HLET.out.below hb (Nat.le_refl _))
      have HEND := Lib.hid (HEND.out.below hb (Nat.le_refl _))
      replace B := btr B hb (Nat.le_refl _)
      clear hb
      go_wp2_with fail
      refine (H32.out _ HEND.out).mono ?_
      rintro e w5 ⟨rfl, hb⟩
      have HL := Lib.hid (HL.out.below hb (Nat.le_refl _))
      have HT := Lib.hid (HT.out.below hb (Nat.le_refl _))
      have HA := Lib.hid (HA.out.below hb (Nat.le_refl _))
      have HLET := Lib.hid (HLET.out.below hb (Nat.le_refl _))
      have HEND := Lib.hid (HEND.out.below hb (Nat.le_refl _))
      replace B := btr B hb (Nat.le_refl _)
      clear hb
      go_wp2
      go_loopw [6, 123] (fun vt i wr => ∃ k : Nat, k ≤ AS.length ∧ i = .int .i64 k ∧ Below w.heap.size w wr ∧ SlI wr vL L ∧ SlT wr vt (dispT L ts (AS.take k)).2 ∧ SlI wr (.slice ada AS.length capa) AS ∧ SlB wr (.slice adl LET.length capl) LET ∧ SlT wr (.slice ade EN.length cape) EN) (fun _ i _ => AS.length - (intOf i).toNat)
      case atStart => exact ⟨0, Nat.zero_le _, rfl, B, HL.out, by rw [List.take_zero]; exact HT.out, HA.out, HLET.out, HEND.out⟩
      case round =>
        obtain ⟨k, hk, rfl, hB, hl, ht, ha, hlt, hen⟩ := hrel
        have HL := Lib.hid hl
        have HT := Lib.hid ht
        have HA := Lib.hid ha
        have HLET := Lib.hid hlt
        have HEND := Lib.hid hen
        clear hl ht ha hlt hen B
        by_cases hka : k < AS.length
        · have hda := disp_at (L := L) (ts := ts) hka
          have hbk := HBD.out (at0 AS k) (by rw [at0_lt hka]; exact List.getElem_mem _)
          have hvk := dispT_val (AS.take k) ts HV.out (fun x hx => HBD.out x (List.mem_of_mem_take hx))
          obtain ⟨m1, hm1⟩ := Int.eq_ofNat_of_zero_le hbk.1
          obtain ⟨ba, oa, rfl, -, hca⟩ := slI_cell2 HA.out hka
          obtain ⟨bl, ol, rfl, -, hcl⟩ := slB_cell2 HLET.out (k := k) (by have := HLL.out; omega)
          obtain ⟨us, hus⟩ : ∃ us, us = (dispT L ts (AS.take k)).2 := ⟨_, rfl⟩
          rw [← HLE.out, ← hus, hm1, Int.toNat_natCast] at hda
          rw [hm1, Int.toNat_natCast] at hbk
          rw [← hus] at hvk
          rw [hm1] at hca
          have hmu : m1 < us.length := by rw [hvk.2.1]; exact hbk.2
          replace HT := Lib.hid (show SlT _ _ us by rw [hus]; exact HT.out)
          rw [hda.1] at hcl
          have HDA := Lib.hid hda.2
          have HVK := Lib.hid hvk.1
          have hkl : k < LET.length := by have := HLL.out; omega
          clear hda hvk hus hm1
          cases hgd : gdT L us m1 with
          | false =>
            rw [hgd] at hcl
            have HGD := Lib.hid hgd
            clear hgd
            go_wp2
            go_roundw
            case rel => exact ⟨k + 1, by omega, by go_num, hB, HL.out, by rw [HDA.out, HGD.out, if_neg (by simp)]; exact HT.out, HA.out, HLET.out, HEND.out⟩
            case measure => simp [intOf]; omega
          | true =>
            rw [hgd] at hcl
            have HGD := Lib.hid hgd
            clear hgd
            go_wp2_with fail
            refine (y33 HVK.out hmu (gdT_parts HGD.out).1 _ HL.out HT.out).mono ?_
            rintro e w6 ⟨vn, rfl, hvn, hb⟩
            have HL := Lib.hid (HL.out.below hb (Nat.le_refl _))
            have HA := Lib.hid (HA.out.below hb (Nat.le_refl _))
            have HLET := Lib.hid (HLET.out.below hb (Nat.le_refl _))
            have HEND := Lib.hid (HEND.out.below hb (Nat.le_refl _))
            have HN := Lib.hid (hvn rfl)
            replace hB := btr hB hb (Nat.le_refl _)
            clear hb hvn
            go_wp2
            go_roundw
            case rel => exact ⟨k + 1, by omega, by go_num, hB, HL.out, by rw [HDA.out, HGD.out, if_pos rfl]; exact HN.out, HA.out, HLET.out, HEND.out⟩
            case measure => simp [intOf]; omega
        · have hkx : k = AS.length := by omega
          have hend : (dispT L ts (AS.take k)).2 = EN := by rw [hkx, List.take_length, HEN.out]
          have HEQ := Lib.hid hend
          clear hend
          subst hkx
          go_wp2_with fail
          refine (x36 HEQ.out _ HT.out HEND.out).mono ?_
          rintro e w6 ⟨rfl, hb⟩
          replace hB := btr hB hb (Nat.le_refl _)
          clear hb
          go_wp2_with fail
          refine (works_any _).mono ?_
          rintro e w7 ⟨rfl, hb⟩
          replace hB := btr hB hb (Nat.le_refl _)
          go_wp2
          go_ret
          exact ⟨rfl, hB⟩

end Yteijenefhoconaa
end Go.Proofs
