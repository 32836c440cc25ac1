/- The laws without a reference: all plans are tried. -/
import Derived.Test.YteijenefhoconaaS33
open Go Go.RowKit Go.YteijenefhoconaaIt
namespace Go.Proofs
namespace Yteijenefhoconaa
/-- Where the first k of at most four trains are. -/
def posF (ts : List Tn) (k : Nat) : List Int := (List.range 4).map fun i => if i < k then tAt ts i else 0
theorem posF_len (ts : List Tn) (k : Nat) : (posF ts k).length = 4 := by simp [posF]
theorem posF_at {ts : List Tn} {k i : Nat} (hi : i < 4) : at0 (posF ts k) i = if i < k then tAt ts i else 0 := by
  rw [at0_lt (by rw [posF_len]; exact hi)]; simp [posF]
theorem posF_set {ts : List Tn} {k : Nat} (_ : k < 4) : (posF ts k).set k (tAt ts k) = posF ts (k + 1) := by
  apply List.ext_getElem (by simp [posF])
  intro i h1 h2
  have h5 : i < 4 := by simpa [posF] using h2
  simp only [List.getElem_set, posF, List.getElem_map, List.getElem_range]
  by_cases h : k = i
  · subst h; simp
  · rw [if_neg h]
    by_cases h3 : i < k
    · rw [if_pos h3, if_pos (by omega)]
    · rw [if_neg h3, if_neg (by omega)]
theorem posF_zero (ts : List Tn) : posF ts 0 = [0, 0, 0, 0] := by simp [posF, List.range_succ]
def posT (ts : List Tn) : List Int := posF ts ts.length
theorem key105 : WideMaps.ArrKey Try.prog 105 3 4 := ⟨Try.underlying105, by kernel_rfl, by kernel_rfl, by kernel_rfl⟩
theorem keyed105 : Maps.Keyed Try.prog 105 := Maps.Keyed.of_law key105.law
theorem size105 : (Try.prog.info? 105).map (·.size) = some 4 := by kernel_rfl
/-- An entry of what was tried. -/
def GEnd (L T : List Int) (k v : Value) : Prop := ∃ us, Val L T us ∧ us.length ≤ 4 ∧ k = .agg (arr (posT us)) ∧ v = .bool (safeT L us)
theorem posT_bnd {L T : List Int} {us : List Tn} (h : Val L T us) : ∀ x ∈ posT us, 0 ≤ x ∧ x < 100 := by
  intro x hx
  have hv := vt_of h.1
  simp only [posT, posF, List.mem_map, List.mem_range] at hx
  obtain ⟨i, hi, rfl⟩ := hx
  split
  · have := hv.at_ i (by assumption); have := hv.l8; omega
  · omega
theorem tkey {L T : List Int} {us : List Tn} (h : Val L T us) : ∃ l, keyOf Try.prog 105 (.agg (arr (posT us))) = some l :=
  keyOf_ints key105 Try.underlying3 tsize (posF_len _ _) (fun x hx => wf_small (posT_bnd h x hx).1 (posT_bnd h x hx).2)
theorem ekey {L T : List Int} {k v : Value} (h : GEnd L T k v) : ∃ l, keyOf Try.prog 105 k = some l := by
  obtain ⟨us, hu, _, rfl, _⟩ := h
  exact tkey hu
theorem posT_inj {L T : List Int} {us vs : List Tn} (h : Val L T us) (h' : Val L T vs) (h4 : us.length ≤ 4) (he : posT us = posT vs) : us = vs := by
  have hl : us.length = vs.length := by rw [← tos_len us, ← tos_len vs, h.2, h'.2]
  refine eq_of_tn hl (fun i hi => ⟨?_, ?_⟩)
  · have e1 : at0 (posT us) i = at0 (posT vs) i := by rw [he]
    unfold posT at e1
    rwa [posF_at (by omega), posF_at (by omega), if_pos hi, if_pos (by omega)] at e1
  · rw [← tos_at hi, ← tos_at (hl ▸ hi), h.2, h'.2]
theorem eval_end {L T : List Int} {us : List Tn} {v : Value} (hu : Val L T us) (h4 : us.length ≤ 4) (h : GEnd L T (.agg (arr (posT us))) v) : v = .bool (safeT L us) := by
  obtain ⟨vs, hv, _, h1, h2⟩ := h
  rw [posT_inj hu hv h4 (arr_inj (by injection h1))]
  exact h2
theorem leftN_all {ts : List Tn} : ∀ k, decide (leftN ts k = 0) = allT ts k
  | 0 => rfl
  | k + 1 => by
    have ih := leftN_all (ts := ts) k
    rw [leftN_succ, allT_succ, ← ih]
    have h0 : ∀ k, 0 ≤ leftN ts k := fun k => by
      induction k with
      | zero => simp [leftN]
      | succ k ih => rw [leftN_succ]; omega
    have h3 := h0 k
    rw [Bool.eq_iff_iff]
    simp only [decide_eq_true_eq, Bool.and_eq_true, beq_iff_eq]
    omega
theorem SlT.bm {w w' : World} {v : Value} {xs : List Tn} {m : Nat} {o : Obj} (h : SlT w v xs) (hb : Bm m w.heap.size w w') (hm : w.heap[m]? = some o) (ho : o.isCells = false) : SlT w' v xs := by
  obtain ⟨ad, cap, hv, hmx, hc⟩ := h
  refine ⟨ad, cap, hv, hmx, fun h0 => ?_⟩
  obtain ⟨b, off, ha, hlt, hcell⟩ := hc h0
  have hne : b ≠ m := by
    rintro rfl
    obtain ⟨_, o2, h2, h3⟩ := YteijenefhoconaaIt.cells_of_cell (hcell 0 h0).1
    have he := Option.some.inj (hm.symm.trans h2)
    rw [← he, ho] at h3
    exact absurd h3 (by simp)
  exact ⟨b, off, ha, Nat.lt_of_lt_of_le hlt hb.size, fun i hi => ⟨(World.cell?_of_block (w := w) (hb.block b hlt hne)).trans (hcell i hi).1, (World.cell?_of_block (w := w) (hb.block b hlt hne)).trans (hcell i hi).2⟩⟩
theorem SlT.memo {w w' : World} {v : Value} {xs : List Tn} {m : Nat} {G : Value → Value → Prop} (h : SlT w v xs) (hm : Memo w m G) (hb : Bm m w.heap.size w w') : SlT w' v xs := by
  obtain ⟨es, clock, h1, _⟩ := hm; exact h.bm hb h1 rfl
theorem SlI.memo {w w' : World} {v : Value} {xs : List Int} {m : Nat} {G : Value → Value → Prop} (h : SlI w v xs) (hm : Memo w m G) (hb : Bm m w.heap.size w w') : SlI w' v xs := by
  obtain ⟨es, clock, h1, _⟩ := hm; exact h.bm hb h1 rfl
/-- Whether one of the first k trains can go, so that all can arrive. -/
def anyN (L : List Int) (ts : List Tn) (k : Nat) : Bool := (List.range k).any fun i => possT L ts i && safeT L (movT ts i)
theorem anyN_succ (L : List Int) (ts : List Tn) (k : Nat) : anyN L ts (k + 1) = (anyN L ts k || (possT L ts k && safeT L (movT ts k))) := by
  unfold anyN; rw [List.range_succ, List.any_append]; simp
set_option maxRecDepth 100000 in
set_option maxHeartbeats 4000000 in
theorem ends_any (vL : Value) (L T : List Int) (bm : Nat) : ∀ (ts : List Tn) (vt : Value) (w : World), Val L T ts → ts.length ≤ 4 → SlI w vL L → SlT w vt ts → Memo w bm (GEnd L T) →
    Calls Try.prog 31 #[vL, vt, .map (some bm)] w fun e w' => e = .returned (.bool (safeT L ts)) ∧ Memo w' bm (GEnd L T) ∧ Bm bm w.heap.size w w' := by
  intro ts
  induction hn : leftT ts using Nat.strongRecOn generalizing ts with
  | _ n ih =>
  intro vt w hv h4 hL ht hM
  have HN := Lib.hid hn
  have HIH := Lib.hid ih
  have HV := Lib.hid hv
  have HL := Lib.hid hL
  have HT := Lib.hid ht
  have HM := Lib.hid hM
  have hmlt := hM.lt
  obtain ⟨ad, cap, rfl, hm, hc⟩ := ht
  clear hn ih hv hL hM
  have hkl := tkey HV.out
  go_enter Try.func31, Try.ntmps31
  refine wp_seq_k (fun K hK => ?_)
  have HK := Lib.hid hK; clear hK
  go_wp2
  refine HK.out _ _ ?_; clear HK K
  refine wp_seq_k (fun K hK => ?_)
  have HK := Lib.hid hK; clear hK
  go_wp2
  refine HK.out _ _ ?_; clear HK K
  generalize hw1 : World.alloc _ _ = w1
  have b1 : w1.heap[w.heap.size]? = some (.cells (arr (posF ts 0)) 105 (0, 0)) := by rw [posF_zero, ← hw1]; exact heap_newI rfl
  have hb1 : Below w.heap.size w w1 := by rw [← hw1]; exact (Below.refl _ _).alloc (Nat.le_refl _) _
  have hs1 : w.heap.size + 1 ≤ w1.heap.size := by rw [← hw1]; simp
  clear hw1
  refine wp_seq_k (fun K hK => ?_)
  have HK := Lib.hid hK; clear hK
  go_wp2
  go_loopw [18] (fun i wr => ∃ k : Nat, k ≤ ts.length ∧ i = .int .i64 k ∧ Below w.heap.size w wr ∧ w.heap.size + 1 ≤ wr.heap.size ∧ wr.heap[w.heap.size]? = some (.cells (arr (posF ts k)) 105 (0, 0))) (fun i _ => ts.length - (intOf i).toNat)
  case atStart => exact ⟨0, Nat.zero_le _, rfl, hb1, hs1, b1⟩
  case round =>
    obtain ⟨k, hk, rfl, hb, hs, hbl⟩ := hrel
    by_cases hkn : k < ts.length
    · obtain ⟨b, off, rfl, hlt, hcell⟩ := hc (by omega)
      have h1 := (hb.cell (p := ⟨b, off + k * 2, none⟩) hlt).trans (hcell k hkn).1
      have h2 := (hb.cell (p := ⟨b, off + k * 2 + 1, none⟩) hlt).trans (hcell k hkn).2
      have hse := posF_set (ts := ts) (k := k) (by omega)
      generalize tAt ts k = a at *
      generalize tTo ts k = t at *
      have HS := Lib.hid hse
      clear hse hcell hc
      have hbl2 : (wr.alloc (.cells #[.int .i64 a, .int .i64 t] 69)).heap[w.heap.size]? = some (.cells (arr (posF ts k)) 105 (0, 0)) := (heap_oldI (by omega)).trans hbl
      have f1 := free_blk (i := k) hbl2
      have p1 := cell_blk (i := k) hbl2
      rw [arr_get (A := posF ts k) (by rw [posF_len]; omega)] at p1
      go_wp2
      go_roundw
      case rel => exact ⟨k + 1, by omega, by go_num, (hb.alloc hb.size _).setCell (by simp) _, by simp; omega, by rw [heap_set_blk hbl2, arr_set, HS.out]⟩
      case measure => simp [intOf]; omega
    · have hkn2 : k = ts.length := by omega
      have hb2 : wr.heap[w.heap.size]? = some (.cells (arr (posT ts)) 105 (0, 0)) := by rw [hbl, hkn2]; rfl
      clear hbl hkn2 hk
      go_wp2
      refine HK.out _ _ ?_; clear HK
      have hMr := HM.out.below hb hmlt
      have hsz : (arr (posT ts)).size = 4 := by rw [arr_size]; exact posF_len _ _
      obtain ⟨kl, hkl⟩ := hkl
      have hev := fun v (h : GEnd L T (.agg (arr (posT ts))) v) => eval_end HV.out h4 h
      refine wp_seq_k (fun K hK => ?_)
      have HK := Lib.hid hK; clear hK
      refine wp_seq_k (fun K2 hK2 => ?_)
      have HK2 := Lib.hid hK2; clear hK2
      rcases hMr.look keyed105 Try.underlying56 zero4 (fun _ _ => ekey) hkl with hlk | hlk
      · have hlk1 := hlk wr rfl
        have HLK := Lib.hid hlk1
        clear hlk hlk1 hc
        go_wp2_with (first | (refine wpList_load_blk rfl 105 _ rfl _ rfl hb2 Try.underlying105 rfl size105 hsz ?_) | (refine wpList_lookup_run rfl 56 _ _ true rfl rfl rfl HLK.out ?_))
        refine HK2.out _ _ ?_; clear HK2 K2
        go_wp2
        refine HK.out _ _ ?_; clear HK
        have hvt := vt_of HV.out.1
        have hT2 := HT.out.below hb (Nat.le_refl _)
        have h32 := left32_any _ ts wr hT2 (by omega) (fun i hi => by have := hvt.at_ i hi; have := hvt.to_ i hi; have := hvt.l8; omega)
        obtain ⟨c, hce⟩ : ∃ c, c = leftN ts ts.length := ⟨_, rfl⟩
        have hal : (c == 0) = allT ts ts.length := by rw [hce, ← leftN_all]; rfl
        rw [← hce] at h32
        have HAL := Lib.hid hal
        clear hce hal hT2 HLK
        refine wp_seq_k (fun K hK => ?_)
        have HK := Lib.hid hK; clear hK
        go_wp2_with (go_at_call 32; refine h32.mono ?_; rintro e w3 ⟨rfl, hb3⟩)
        refine HK.out _ _ ?_; clear HK
        have hbl3 := blk_below hb2 hb3 (lt_blk hb2)
        have hB3 : Bm bm w.heap.size w w3 := Bm.of (hb.trans (hb3.mono (by omega)))
        have hM3 := hMr.below hb3 hMr.lt
        have hs3 : w.heap.size + 1 ≤ w3.heap.size := by have := hb3.size; omega
        clear h32 hb2 hb3 hMr hs hb
        refine wp_seq_k (fun K hK => ?_)
        have HK := Lib.hid hK; clear hK
        go_wp2
        go_loopw [12, 41] (fun d i wr => ∃ k : Nat, k ≤ ts.length ∧ i = .int .i64 k ∧ d = .bool (allT ts ts.length || anyN L ts k) ∧ Memo wr bm (GEnd L T) ∧ Bm bm w.heap.size w wr ∧ w.heap.size + 1 ≤ wr.heap.size ∧ wr.heap[w.heap.size]? = some (.cells (arr (posT ts)) 105 (0, 0))) (fun _ i _ => ts.length - (intOf i).toNat)
        case atStart => exact ⟨0, Nat.zero_le _, rfl, by rw [← HAL.out]; simp [anyN], hM3, hB3, hs3, hbl3⟩
        case round =>
          obtain ⟨k, hk, rfl, rfl, hMr, hb, hs, hbl⟩ := hrel
          have hLr := HL.out.memo HM.out hb
          have hTr := HT.out.memo HM.out hb
          obtain ⟨acc, hacc⟩ : ∃ acc, acc = (allT ts ts.length || anyN L ts k) := ⟨_, rfl⟩
          rw [← hacc]
          by_cases hkn : k < ts.length
          · have hnext : (allT ts ts.length || anyN L ts (k + 1)) = (acc || (possT L ts k && safeT L (movT ts k))) := by rw [anyN_succ, ← Bool.or_assoc, ← hacc]
            have HNX := Lib.hid hnext
            clear hnext hacc
            have h33 := step33_any vL _ L ts k wr hLr hTr hvt hkn
            have hih : possT L ts k = true → ∀ (v5 : Value) (w5 : World), Below wr.heap.size wr w5 → SlT w5 v5 (movT ts k) → Calls Try.prog 31 #[vL, v5, .map (some bm)] w5 fun e w' => e = .returned (.bool (safeT L (movT ts k))) ∧ Memo w' bm (GEnd L T) ∧ Bm bm w5.heap.size w5 w' := fun hp v5 w5 hb5 hv5 =>
              HIH.out _ (by have := leftT_mov HV.out hkn hp; have := HN.out; omega) _ rfl v5 w5 (HV.out.mov hkn hp) (by rw [movT_len]; exact h4) (hLr.below hb5 (Nat.le_refl _)) hv5 (hMr.below hb5 hMr.lt)
            obtain ⟨sv, hsv⟩ : ∃ sv, sv = safeT L (movT ts k) := ⟨_, rfl⟩
            rw [← hsv] at hih HNX
            have HIH2 := Lib.hid hih
            have hblt := lt_blk hbl
            clear hih hsv
            cases sv
            all_goals
              go_wp2_with (first
                | (go_at_call 33; refine h33.mono ?_; rintro e w5 ⟨hb5, hcs⟩; rcases hcs with ⟨hp, rfl⟩ | ⟨hp, v5, rfl, hv5⟩; all_goals have HP := Lib.hid hp; clear hp)
                | (go_at_call 31; refine (HIH2.out HP.out v5 w5 hb5 hv5).mono ?_; rintro e w6 ⟨rfl, hM6, hB6⟩))
              · go_roundw
                case rel => exact ⟨k + 1, by omega, by go_num, by rw [HNX.out, HP.out]; simp, hMr.below hb5 hMr.lt, hb.trans (Bm.of (hb5.mono hb.size)), by have := hb5.size; omega, blk_below hbl hb5 hblt⟩
                case measure => simp [intOf]; omega
              · have hbl6 : w6.heap[w.heap.size]? = some (.cells (arr (posT ts)) 105 (0, 0)) := (hB6.block _ (by have := hb5.size; omega) (by omega)).trans (blk_below hbl hb5 hblt)
                have hB : Bm bm w.heap.size w w6 := (hb.trans (Bm.of (hb5.mono hb.size))).trans (hB6.mono (by have := hb5.size; have := hb.size; omega))
                have hs6 : w.heap.size + 1 ≤ w6.heap.size := by have := hb5.size; have := hB6.size; omega
                go_roundw
                case rel => exact ⟨k + 1, by omega, by go_num, by rw [HNX.out, HP.out]; simp, hM6, hB, hs6, hbl6⟩
                case measure => simp [intOf]; omega
          · have hkn2 : k = ts.length := by omega
            have hfin : acc = safeT L ts := by rw [hacc, hkn2, safeT_step HV.out]; rfl
            have HF := Lib.hid hfin
            clear hacc hkn2 hk hfin
            go_wp2
            refine HK.out _ _ ?_; clear HK
            obtain ⟨es', clock', hrun, hes'⟩ := Memo.update (P := Try.prog) hMr keyed105 Try.underlying56 (fun _ _ => ekey) hkl (v := .bool acc) ⟨ts, HV.out, h4, rfl, by rw [HF.out]⟩
            have HRUN := Lib.hid hrun
            clear hrun
            go_wp2_with (first | (refine wpList_load_blk rfl 105 _ rfl _ rfl hbl Try.underlying105 rfl size105 hsz ?_) | (refine wpList_mapUpdate_run rfl 56 _ _ _ rfl rfl rfl rfl HRUN.out ?_))
            go_ret
            refine ⟨by rw [← HF.out]; rfl, ⟨es', clock', World.putObj_heap_same hMr.lt, hes'⟩, hb.trans (Bm.put _ _)⟩
      · obtain ⟨v, hv, hlk1⟩ := hlk wr rfl
        rw [hev v hv] at hlk1
        have HLK := Lib.hid hlk1
        clear hlk hlk1 hc
        generalize safeT L ts = sv at *
        go_wp2_with (first | (refine wpList_load_blk rfl 105 _ rfl _ rfl hb2 Try.underlying105 rfl size105 hsz ?_) | (refine wpList_lookup_run rfl 56 _ _ true rfl rfl rfl HLK.out ?_))
        refine HK2.out _ _ ?_; clear HK2 K2
        go_wp2
        go_ret
        exact ⟨rfl, hMr, Bm.of hb⟩
end Yteijenefhoconaa
end Go.Proofs
