/- Need: the least room with which a state can be kept for ever. -/
import Derived.Test.YtndmjginmomfiaaW10
import Derived.Test.YtndmjginmomfiaaGenD
open Go Go.RowKit Go.YtndmjginmomfiaaIt
namespace Go.Proofs
namespace Ytndmjginmomfiaa
def wr (y : Yd) (r : Nat) : Yd := ⟨r, y.most, y.lots, y.ws⟩
theorem wr_ok {y : Yd} (ok : Ok y) {r : Nat} (h : r ≤ 60) : Ok (wr y r) :=
  ⟨by show (0 : Int) ≤ (r : Int); omega, by show (r : Int) ≤ 60; omega, ok.most0, ok.most1, ok.lots0, ok.lots1, ok.n0, ok.n1, ok.each⟩
/-- What a search for the first number answers. -/
def FirstR (p : Int → Bool) (lo hi : Int) (e : Ending) : Prop :=
  (p hi = false ∧ e = .returned (.tuple #[.int .i64 0, .bool false])) ∨ (∃ r : Int, lo ≤ r ∧ r ≤ hi ∧ p r = true ∧ (r = lo ∨ p (r - 1) = false) ∧ e = .returned (.tuple #[.int .i64 r, .bool true]))
set_option maxRecDepth 100000 in
set_option maxHeartbeats 1000000 in
theorem first_any (lo hi : Int) (g : Nat) (lb : Array Value) (p : Int → Bool) (w : World) (h0 : 0 ≤ lo) (hh : lo ≤ hi) (h1 : hi ≤ 1000)
    (eg : ∀ args w, (callFunc g args).run Try.prog w = .ok (.enter g args) w) (hp : ∀ x, lo ≤ x → x ≤ hi → ∀ W, Below w.heap.size w W → Calls Try.prog g (#[.int .i64 x] ++ lb) W fun e W' => e = .returned (.bool (p x)) ∧ Below W.heap.size W W') :
    Calls Try.prog 61 #[.int .i64 lo, .int .i64 hi, .func (.func g) #[] lb] w fun e w' => Below w.heap.size w w' ∧ FirstR p lo hi e := by
  have HP := Lib.hid hp
  clear hp
  have hc := HP.out hi hh (Int.le_refl _) w (Below.refl _ _)
  cases e1 : p hi
  · rw [e1] at hc
    have HE := Lib.hid e1
    clear e1
    go_enter Try.func61, Try.ntmps61
    go_wp2_with fail
    refine hc.mono ?_
    rintro e w2 ⟨rfl, hb⟩
    clear hc
    go_wp2
    go_ret2
    exact ⟨hb, .inl ⟨HE.out, rfl⟩⟩
  · rw [e1] at hc
    have HE := Lib.hid e1
    clear e1
    go_enter Try.func61, Try.ntmps61
    go_wp2_with fail
    refine hc.mono ?_
    rintro e w2 ⟨rfl, hb⟩
    clear hc
    go_wp2
    go_loopw [0, 1] (fun u v wr => ∃ a b : Int, u = .int .i64 a ∧ v = .int .i64 b ∧ lo ≤ a ∧ a ≤ b ∧ b ≤ hi ∧ p b = true ∧ (a = lo ∨ p (a - 1) = false) ∧ Below w.heap.size w wr) (fun u v _ => (intOf v - intOf u).toNat)
    case atStart => exact ⟨lo, hi, rfl, rfl, Int.le_refl _, hh, Int.le_refl _, HE.out, .inl rfl, hb⟩
    case round =>
      obtain ⟨a, b, rfl, rfl, ha, hab, hbh, hpb, hpa, hbw⟩ := hrel
      have HX := Lib.hid (And.intro hpb hpa)
      clear hpb hpa hb
      by_cases hlt : a < b
      · have hm : (a + b).tdiv 2 = (a + b) / 2 := Int.tdiv_eq_ediv_of_nonneg (by omega)
        obtain ⟨m, hme⟩ : ∃ m, m = (a + b) / 2 := ⟨_, rfl⟩
        have hm1 : a ≤ m := by omega
        have hm2 : m < b := by omega
        rw [← hme] at hm
        have hcm := HP.out m (by omega) (by omega) wr hbw
        clear hme
        cases e2 : p m
        · rw [e2] at hcm
          have HE := Lib.hid e2
          clear e2
          go_wp2_with fail
          refine hcm.mono ?_
          rintro e w3 ⟨rfl, hb3⟩
          have hb4 : Below w.heap.size w w3 := hbw.trans (hb3.mono hbw.size)
          clear hcm hb3 hbw
          go_wp2
          go_roundw
          case rel => exact ⟨m + 1, b, rfl, rfl, by omega, by omega, hbh, HX.out.1, .inr (by rw [show m + 1 - 1 = m by omega]; exact HE.out), hb4⟩
          case measure => simp [intOf]; omega
        · rw [e2] at hcm
          have HE := Lib.hid e2
          clear e2
          go_wp2_with fail
          refine hcm.mono ?_
          rintro e w3 ⟨rfl, hb3⟩
          have hb4 : Below w.heap.size w w3 := hbw.trans (hb3.mono hbw.size)
          clear hcm hb3 hbw
          go_wp2
          go_roundw
          case rel => exact ⟨a, m, rfl, rfl, ha, by omega, by omega, HE.out, HX.out.2, hb4⟩
          case measure => simp [intOf]; omega
      · have he : a = b := by omega
        subst he
        go_wp2
        go_ret2
        exact ⟨hbw, .inr ⟨a, ha, hbh, HX.out.1, HX.out.2, rfl⟩⟩
set_option maxRecDepth 100000 in
set_option maxHeartbeats 2000000 in
theorem need62_any (y : Yd) (v : Value) (r s m bY bs bm : Nat) (w : World) (ok : Ok y) (hr : r ≤ 60) (hs : s ≤ r) (hm : m < y.ws.length) (hw : SlW w v y.ws) (h1 : w.heap[bY]? = some (.cells (encY y v) 24 (0, 0))) (h2 : w.heap[bs]? = some (.cells #[.int .i64 s] 3 (0, 0))) (h3 : w.heap[bm]? = some (.cells #[.int .i64 m] 3 (0, 0))) :
    Calls Try.prog 62 #[.int .i64 r, .pointer (some ⟨bY, 0, none⟩), .pointer (some ⟨bs, 0, none⟩), .pointer (some ⟨bm, 0, none⟩)] w fun e w' => e = .returned (.bool (termP (wr y r) s m == never)) ∧ Below w.heap.size w w' := by
  have hy4 : (encY y v).size = 4 := rfl
  have hg := fun W hW => game_any (wr y r) v W (wr_ok ok hr) (hw.below (w' := W) hW (Nat.le_refl _))
  have ht := fun W g vl k hG hst => term_any (wr y r) v vl g k s m W (wr_ok ok hr) hG hst (by show s ≤ (r : Int).toNat; omega) hm
  have ho1 : (encY y v).all (·.oneCell') = true := by obtain ⟨ad, cap, rfl, -⟩ := hw; simp [encY, Value.oneCell']
  have HG := Lib.hid hg
  have HT := Lib.hid ht
  clear hg ht
  go_enter Try.func62, Try.ntmps62
  refine wp_seq_k (fun K hK => ?_)
  have HK := Lib.hid hK; clear hK
  go_wp2
  refine HK.out _ _ ?_; clear HK K
  refine wp_seq_k (fun K hK => ?_)
  have HK := Lib.hid hK; clear hK
  go_wp2_with (first | (refine wpList_load_blk rfl 24 _ rfl _ rfl h1 Try.underlying24 rfl size24 hy4 ?_) | (refine wpList_store_blk rfl 24 _ _ rfl _ rfl rfl (heap_newI rfl) size24 hy4 rfl ho1 ?_))
  refine HK.out _ _ ?_; clear HK K
  generalize hwA : World.putObj _ _ _ = wA
  have bz : wA.heap[w.heap.size]? = some (.cells (encY y v) 24 (0, 0)) := by rw [← hwA]; exact World.putObj_heap_same (by rw [World.size_alloc]; omega)
  have hB : Below w.heap.size w wA := by rw [← hwA]; exact below_putObj ((Below.refl _ _).alloc (Nat.le_refl _) _) (Nat.le_refl _)
  clear hwA
  have cz := cell_blk (i := 0) bz
  have fz := free_blk (i := 0) bz
  simp only [encY, List.getElem?_toArray, List.getElem?_cons_zero] at cz
  have hlz := lt_blk bz
  refine wp_seq_k (fun K hK => ?_)
  have HK := Lib.hid hK; clear hK
  go_wp2
  refine HK.out _ _ ?_; clear HK K
  generalize hwB : World.setCell _ _ _ = wB
  have bz2 : wB.heap[w.heap.size]? = some (.cells (encY (wr y r) v) 24 (0, 0)) := by rw [← hwB, heap_set_blk bz]; rfl
  have hB2 : Below w.heap.size w wB := by rw [← hwB]; exact hB.setCell (by simp) _
  clear hwB cz fz bz hB hlz wA
  have h2' := blk_keep h2 hB2
  have h3' := blk_keep h3 hB2
  refine wp_seq_k (fun K hK => ?_)
  have HK := Lib.hid hK; clear hK
  refine wp_region_held (S := fun W => W.heap[w.heap.size]? = some (.cells (encY (wr y r) v) 24 (0, 0)) ∧ W.heap[bs]? = some (.cells #[.int .i64 s] 3 (0, 0)) ∧ W.heap[bm]? = some (.cells #[.int .i64 m] 3 (0, 0))) (by kernel_rfl) ?_
  change wpAnyH _ _ _ _ _ _ _ _ (World.drew wB)
  have hS : (World.drew wB).heap[w.heap.size]? = some (.cells (encY (wr y r) v) 24 (0, 0)) ∧ (World.drew wB).heap[bs]? = some (.cells #[.int .i64 s] 3 (0, 0)) ∧ (World.drew wB).heap[bm]? = some (.cells #[.int .i64 m] 3 (0, 0)) := ⟨bz2, h2', h3'⟩
  refine wpAnyH_take (i := 0) (oi := { dst := some 10, op := _, type := _, pos := _, after := _, guard := none }) (v := .agg (encY (wr y r) v)) rfl (by kernel_rfl) (by kernel_rfl) (by kernel_rfl) (fun _ _ _ h => h) (Or.inl ⟨by rfl, ?_⟩) hS ?_
  · exact yields_load_blk 24 (.tmp 6) rfl w.heap.size rfl (fun W hW => hW.1) Try.underlying24 rfl size24 rfl
  simp only [Act.put, List.setIfInBounds_toArray, List.set_cons_zero, List.set_cons_succ]
  refine wpAnyH_take (i := 2) (oi := { dst := some 12, op := _, type := _, pos := _, after := _, guard := none }) (v := ?_) rfl (by kernel_rfl) (by kernel_rfl) (by kernel_rfl) (fun _ _ _ h => h) (Or.inl ⟨by rfl, ?_⟩) hS ?_
  rotate_left
  · intro U hU
    have c := cell_blk (i := 0) hU.2.1
    simp only [List.getElem?_toArray, List.getElem?_cons_zero] at c
    go_simp
    all_goals with_reducible rfl
  simp only [Act.put, List.setIfInBounds_toArray, List.set_cons_zero, List.set_cons_succ]
  refine wpAnyH_take (i := 3) (oi := { dst := some 13, op := _, type := _, pos := _, after := _, guard := none }) (v := ?_) rfl (by kernel_rfl) (by kernel_rfl) (by kernel_rfl) (fun _ _ _ h => h) (Or.inl ⟨by rfl, ?_⟩) hS ?_
  rotate_left
  · intro U hU
    have c := cell_blk (i := 0) hU.2.2
    simp only [List.getElem?_toArray, List.getElem?_cons_zero] at c
    go_simp
    all_goals with_reducible rfl
  simp only [Act.put, List.setIfInBounds_toArray, List.set_cons_zero, List.set_cons_succ]
  refine wpAnyH_one (i := 1) (o := { dst := some 11, op := Op.call { callee := Callee.value (Operand.func 40), args := #[Operand.tmp 10], argTypes := _ }, type := _, pos := _, after := _, guard := none }) (by kernel_rfl) rfl (by rfl) (fun K1 hK1 => ?_)
  have HK1 := Lib.hid hK1; clear hK1
  refine oper_callg (f := 40) (lb := #[]) rfl rfl (enters_of Try.func40 (by kernel_rfl) rfl) rfl (R := fun u W => ∃ g vl k, u = .pointer (some ⟨g, 0, none⟩) ∧ Gm W g (wr y r) v vl (layL (wr y r) k) ∧ Stab (wr y r) k ∧ Below wB.heap.size wB W) ?_ ?_
  · refine (HG.out wB.drew hB2.drew).mono ?_
    rintro e W ⟨g, vl, k, rfl, hG, hst, hb⟩
    exact ⟨_, rfl, g, vl, k, rfl, hG, hst, (Below.refl _ wB).drew.trans hb⟩
  rintro u w2 ⟨g, vl, k, rfl, hG, hst, hb⟩
  refine HK1.out _ _ ⟨blk_keep bz2 hb, blk_keep h2' hb, blk_keep h3' hb⟩ ?_
  clear HK1 K1
  simp only [Act.put, List.setIfInBounds_toArray, List.set_cons_zero, List.set_cons_succ]
  refine wpAnyH_one (i := 4) (o := { dst := some 14, op := Op.call { callee := Callee.value (Operand.func 41), args := #[Operand.tmp 11, Operand.tmp 12, Operand.tmp 13], argTypes := _ }, type := _, pos := _, after := _, guard := none }) (by kernel_rfl) rfl (by rfl) (fun K1 hK1 => ?_)
  have HK1 := Lib.hid hK1; clear hK1
  refine oper_callg (f := 41) (lb := #[]) rfl rfl (enters_of Try.func41 (by kernel_rfl) rfl) rfl (R := fun u W => u = .int .i64 (termP (wr y r) s m) ∧ Below wB.heap.size wB W) ?_ ?_
  · refine (HT.out w2 g vl k hG hst).mono ?_
    rintro e W ⟨rfl, hb2⟩
    exact ⟨_, rfl, rfl, hb.trans (hb2.mono hb.size)⟩
  rintro u w3 ⟨rfl, hb3⟩
  clear hb hG hst hS
  refine HK1.out _ _ ⟨blk_keep bz2 hb3, blk_keep h2' hb3, blk_keep h3' hb3⟩ ?_
  clear HK1 K1
  simp only [Act.put, List.setIfInBounds_toArray, List.set_cons_zero, List.set_cons_succ]
  have hS : w3.heap[w.heap.size]? = some (.cells (encY (wr y r) v) 24 (0, 0)) ∧ w3.heap[bs]? = some (.cells #[.int .i64 s] 3 (0, 0)) ∧ w3.heap[bm]? = some (.cells #[.int .i64 m] 3 (0, 0)) := ⟨blk_keep bz2 hb3, blk_keep h2' hb3, blk_keep h3' hb3⟩
  refine wpAnyH_one (i := 5) (o := { dst := some 15, op := _, type := _, pos := _, after := _, guard := none }) (by kernel_rfl) rfl (by rfl) (fun K1 hK1 => ?_)
  have HK1 := Lib.hid hK1; clear hK1
  go_simp
  refine HK1.out _ _ hS ?_
  clear HK1 K1
  refine wpAnyH_one (i := 6) (o := { dst := some 5, op := _, type := _, pos := _, after := _, guard := none }) (by kernel_rfl) rfl (by rfl) (fun K1 hK1 => ?_)
  have HK1 := Lib.hid hK1; clear hK1
  go_simp
  refine HK1.out _ _ hS ?_
  clear HK1 K1
  refine wpAnyH_done (by kernel_rfl) ?_ _
  refine HK.out _ _ ?_; clear HK
  have hE := hB2.trans (hb3.mono hB2.size)
  go_wp2
  go_ret
  exact ⟨rfl, hE⟩
theorem lay_room {y : Yd} (ok : Ok y) {r r' : Nat} (h : r ≤ r') (h60 : r' ≤ 60) : ∀ d, Sub (lay (wr y r) d) (lay (wr y r') d)
  | 0 => by
    intro m s hb
    rw [lay0_get _ (wr_ok ok (by omega : r ≤ 60)).n1] at hb
    rw [lay0_get _ (wr_ok ok h60).n1]
    by_cases hm : m < y.ws.length
    · rw [if_pos (show m < (wr y r).ws.length from hm), upN_bit] at hb
      rw [if_pos (show m < (wr y r').ws.length from hm), upN_bit]
      have h1 : s ≤ (r : Int).toNat := of_decide_eq_true hb
      exact decide_eq_true (show s ≤ (r' : Int).toNat by omega)
    · rw [if_neg (show ¬ m < (wr y r).ws.length from hm)] at hb; simp at hb
  | d + 1 => by
    intro m s hb
    have hb' : ((bef (wr y r) (lay (wr y r) d)).getD m 0).testBit s = true := hb
    show ((bef (wr y r') (lay (wr y r') d)).getD m 0).testBit s = true
    rw [bef_get _ _ (wr_ok ok (by omega : r ≤ 60)).n1] at hb'
    rw [bef_get _ _ (wr_ok ok h60).n1]
    by_cases hm : m < y.ws.length
    · rw [if_pos (show m < (wr y r).ws.length from hm), bw_bit] at hb'
      rw [if_pos (show m < (wr y r').ws.length from hm), bw_bit]
      rw [Bool.and_eq_true] at hb' ⊢
      refine ⟨?_, ?_⟩
      · have h1 : s < (r : Int).toNat + 1 := of_decide_eq_true hb'.1
        exact decide_eq_true (show s < (r' : Int).toNat + 1 by omega)
      · have h2 := hb'.2
        unfold stB at h2 ⊢
        rw [List.any_eq_true] at h2 ⊢
        obtain ⟨o, ho, hl⟩ := h2
        exact ⟨o, ho, leads_mono (wr_ok ok h60) (lay_room ok h h60 d) hl⟩
    · rw [if_neg (show ¬ m < (wr y r).ws.length from hm)] at hb'; simp at hb'
theorem term_never {y : Yd} (ok : Ok y) {s m : Nat} (hs : s ≤ y.room.toNat) (hm : m < y.ws.length) : termP y s m = never ↔ ∀ d, keepB y d s m = true := by
  have hc := term_lt ok
  rcases term_cases ok hs hm with ⟨h1, h2⟩ | ⟨t, h1, h2, h3, h4⟩
  · exact ⟨fun _ => h2, fun _ => h1⟩
  · constructor
    · intro h; rw [h1] at h; unfold never at h; omega
    · intro h; have := h (t + 1); rw [h4] at this; cases this
def ever (y : Yd) (s m r : Nat) : Bool := termP (wr y r) s m == never
theorem ever_mono {y : Yd} (ok : Ok y) {s m r r' : Nat} (hm : m < y.ws.length) (hs : s ≤ r) (h : r ≤ r') (h60 : r' ≤ 60) (he : ever y s m r = true) : ever y s m r' = true := by
  unfold ever at he ⊢
  rw [beq_iff_eq] at he ⊢
  have h1 := (term_never (wr_ok ok (by omega : r ≤ 60)) (show s ≤ (r : Int).toNat by omega) (show m < (wr y r).ws.length from hm)).1 he
  exact (term_never (wr_ok ok h60) (show s ≤ (r' : Int).toNat by omega) (show m < (wr y r').ws.length from hm)).2 fun d => lay_room ok h h60 d m s (h1 d)
def needV (y : Yd) (s m : Nat) : Option Nat := (List.range 61).find? fun r => decide (s ≤ r) && ever y s m r
theorem need_none {y : Yd} (ok : Ok y) {s m : Nat} (hm : m < y.ws.length) (h : ever y s m 60 = false) : needV y s m = none := by
  unfold needV
  rw [List.find?_eq_none]
  intro r hr hc
  have hr := List.mem_range.1 hr
  rw [Bool.and_eq_true] at hc
  have := ever_mono ok hm (of_decide_eq_true hc.1) (show r ≤ 60 by omega) (Nat.le_refl _) hc.2
  rw [h] at this; cases this
theorem need_some {y : Yd} (ok : Ok y) {s m r : Nat} (hm : m < y.ws.length) (hs : s ≤ r) (hr : r ≤ 60) (h : ever y s m r = true) (hl : r = s ∨ ever y s m (r - 1) = false) : needV y s m = some r := by
  unfold needV
  rw [List.find?_range_eq_some]
  refine ⟨by simp [hs, h], by simp; omega, fun j hj => ?_⟩
  rw [Bool.not_eq_true', Bool.and_eq_false_iff]
  by_cases hsj : s ≤ j
  · refine .inr ?_
    rcases hl with rfl | hl
    · omega
    · rw [Bool.eq_false_iff]
      intro he
      have := ever_mono ok hm hsj (show j ≤ r - 1 by omega) (by omega) he
      rw [hl] at this; cases this
  · exact .inl (by simpa using hsj)
def needE (y : Yd) (s m : Int) : Int := if chkE y = 0 then (if btw 0 s 60 = true then (if btw 0 m (y.ws.length - 1) = true then (if needV y s.toNat m.toNat = none then 21 else 0) else 5) else 10) else chkE y
def needR (y : Yd) (s m : Int) : Int := if needE y s m = 0 then (((needV y s.toNat m.toNat).getD 0 : Nat) : Int) else (0 : Int)
def pE (y : Yd) (s m : Nat) (x : Int) : Bool := ever y s m x.toNat
theorem need_of {y : Yd} (ok : Ok y) {s m : Nat} (hs : s ≤ 60) (hm : m < y.ws.length) {e : Ending} (h : FirstR (pE y s m) s 60 e) :
    (needV y s m = none ∧ e = .returned (.tuple #[.int .i64 0, .bool false])) ∨ ∃ r : Nat, needV y s m = some r ∧ r ≤ 60 ∧ e = .returned (.tuple #[.int .i64 r, .bool true]) := by
  rcases h with ⟨h1, h2⟩ | ⟨r, h1, h2, h3, h4, h5⟩
  · exact .inl ⟨need_none ok hm h1, h2⟩
  · obtain ⟨n, rfl⟩ := Int.eq_ofNat_of_zero_le (show 0 ≤ r by omega)
    refine .inr ⟨n, need_some ok hm (by omega) (by omega) h3 ?_, by omega, h5⟩
    rcases h4 with h4 | h4
    · exact .inl (by omega)
    · refine .inr ?_
      unfold pE at h4
      rwa [show ((n : Int) - 1).toNat = n - 1 by omega] at h4
set_option maxRecDepth 100000 in
set_option maxHeartbeats 2000000 in
theorem need_any (y : Yd) (v : Value) (s m : Int) (w : World) (hw : SlW w v y.ws) :
    Calls Try.prog 30 #[.agg (encY y v), .int .i64 s, .int .i64 m] w fun e w' => e = .returned (.tuple #[.int .i64 (needR y s m), .int .i64 (needE y s m)]) ∧ Below w.heap.size w w' := by
  have hmf := hmf
  have hy4 : (encY y v).size = 4 := rfl
  have hw0 := hw
  obtain ⟨ad, cap, rfl, -, -, -⟩ := hw
  have hw := hw0
  clear hw0
  have hcc := fun W hW => check_any y _ W (hw.below (w' := W) hW (Nat.le_refl _))
  have hse : needE y s m = if chkE y = 0 then (if btw 0 s 60 = true then (if btw 0 m (y.ws.length - 1) = true then (if needV y s.toNat m.toNat = none then 21 else 0) else 5) else 10) else chkE y := rfl
  have hre : needR y s m = if needE y s m = 0 then (((needV y s.toNat m.toNat).getD 0 : Nat) : Int) else (0 : Int) := rfl
  generalize needR y s m = RV at *
  generalize needE y s m = RE at *
  have HSE := Lib.hid (And.intro hse hre)
  clear hse hre
  have hok := chk_ok (y := y)
  have hff := fun (sn mn : Nat) (ok : Ok y) (hs : sn ≤ 60) (hm : mn < y.ws.length) (e : Ending) => need_of ok hs hm (e := e)
  have HFF := Lib.hid hff
  have HCC := Lib.hid hcc
  have HOK := Lib.hid hok
  clear hcc hok hff
  go_enter Try.func30, Try.ntmps30
  refine wp_seq_k (fun K hK => ?_)
  have HK := Lib.hid hK; clear hK
  go_wp2
  refine HK.out _ _ ?_; clear HK K
  generalize hw1 : World.alloc _ _ = w1
  obtain ⟨b1, b2, b3, hB, hs1⟩ := blk3 hw1
  clear hw1
  have hcc := HCC.out w1 hB
  have hok := HOK.out
  generalize chkE y = C at *
  have HOK := Lib.hid hok
  have c2 := cell_blk (i := 0) b2
  have c3 := cell_blk (i := 0) b3
  simp only [List.getElem?_toArray, List.getElem?_cons_zero] at c2 c3
  have hl2 := lt_blk b2
  have hl3 := lt_blk b3
  by_cases h0 : C = 0
  rotate_left
  · have h0b : (C != 0) = true := bne_iff_ne.2 h0
    have HR := Lib.hid (show RE = C ∧ RV = 0 by
      obtain ⟨h1, h2⟩ := HSE.out
      rw [if_neg h0] at h1
      rw [h1, if_neg h0] at h2
      exact ⟨h1, h2⟩)
    clear h0 hok
    go_wp2_with (first | (refine wpList_load_blk rfl 24 _ rfl _ rfl b1 Try.underlying24 rfl size24 hy4 ?_) | (go_at_call 21; refine hcc.mono ?_; rintro e w2 ⟨rfl, hb2⟩))
    go_ret2
    exact ⟨by rw [HR.out.1, HR.out.2]; rfl, hB.trans (hb2.mono (by omega))⟩
  subst h0
  have ok := HOK.out.1 rfl
  have hln := ok.n1
  obtain ⟨h1, h2⟩ := HSE.out
  rw [if_pos rfl] at h1
  have HSE := Lib.hid (And.intro h1 h2)
  clear h1 h2 hok HOK
  refine wp_seq_k (fun K hK => ?_)
  have HK := Lib.hid hK; clear hK
  go_wp2_with (first | (refine wpList_load_blk rfl 24 _ rfl _ rfl b1 Try.underlying24 rfl size24 hy4 ?_) | (go_at_call 21; refine hcc.mono ?_; rintro e w2 ⟨rfl, hb2⟩))
  refine HK.out _ _ ?_; clear HK K
  replace b1 := blk_keep b1 hb2
  replace b2 := blk_keep b2 hb2
  replace b3 := blk_keep b3 hb2
  replace hB := hB.trans (hb2.mono (by omega))
  clear hb2 hcc c2 c3 hl2 hl3 hs1
  have c2 := cell_blk (i := 0) b2
  have c3 := cell_blk (i := 0) b3
  have c4 := cell_blk (i := 3) b1
  simp only [encY, List.getElem?_toArray, List.getElem?_cons_zero, List.getElem?_cons_succ] at c2 c3 c4
  cases e1 : btw 0 s 60
  · have HR := Lib.hid (show RE = 10 ∧ RV = 0 by
      obtain ⟨h1, h2⟩ := HSE.out
      rw [e1] at h1
      rw [h1] at h2
      exact ⟨h1, h2⟩)
    go_wp2_with (go_at_call 45; (with_reducible refine (between_any _ _ _ _).mono ?_); rintro e w' ⟨rfl, rfl⟩)
    go_ret2
    exact ⟨by rw [HR.out.1, HR.out.2]; rfl, hB⟩
  cases e2 : btw 0 m ((y.ws.length : Int) - 1)
  · have HR := Lib.hid (show RE = 5 ∧ RV = 0 by
      obtain ⟨h1, h2⟩ := HSE.out
      rw [e1, e2] at h1
      rw [h1] at h2
      exact ⟨h1, h2⟩)
    go_wp2_with (go_at_call 45; (with_reducible refine (between_any _ _ _ _).mono ?_); rintro e w' ⟨rfl, rfl⟩)
    go_ret2
    exact ⟨by rw [HR.out.1, HR.out.2]; rfl, hB⟩
  obtain ⟨hs0, hs60⟩ := btw_true.1 e1
  obtain ⟨hm0, hm1⟩ := btw_true.1 e2
  obtain ⟨sn, rfl⟩ := Int.eq_ofNat_of_zero_le hs0
  obtain ⟨mn, rfl⟩ := Int.eq_ofNat_of_zero_le hm0
  have hff := HFF.out sn mn ok (by omega) (by omega)
  have hfa := first_any sn 60 62 #[.pointer (some ⟨w.heap.size, 0, none⟩), .pointer (some ⟨w.heap.size + 1, 0, none⟩), .pointer (some ⟨w.heap.size + 1 + 1, 0, none⟩)] (pE y sn mn) w2 hs0 hs60 (by omega) (enters_of Try.func62 (by kernel_rfl) rfl) (fun x hx1 hx2 W hW => by
    obtain ⟨n, rfl⟩ := Int.eq_ofNat_of_zero_le (show 0 ≤ x by omega)
    exact need62_any y _ n sn mn _ _ _ W ok (by omega) (by omega) (by omega) (hw.below (hB.trans (hW.mono hB.size)) (Nat.le_refl _)) (blk_keep b1 hW) (blk_keep b2 hW) (blk_keep b3 hW))
  have HR := Lib.hid (show RE = (if needV y sn mn = none then 21 else 0) ∧ RV = if RE = 0 then (((needV y sn mn).getD 0 : Nat) : Int) else (0 : Int) by
    obtain ⟨h1, h2⟩ := HSE.out
    rw [e1, e2] at h1
    exact ⟨h1, h2⟩)
  have HFF := Lib.hid hff
  have HFA := Lib.hid (hfa.mono (fun e w3 h => (show Below w2.heap.size w2 w3 ∧ _ from ⟨h.1, HFF.out e h.2⟩)))
  generalize needV y sn mn = NV at *
  clear hff hfa HSE b1 b2 b3
  go_wp2_with (first | (go_at_call 45; (with_reducible refine (between_any _ _ _ _).mono ?_); rintro e w' ⟨rfl, rfl⟩) | (go_at_call 61; refine HFA.out.mono ?_; rintro e w3 ⟨hb3, hcs⟩; rcases hcs with ⟨rfl, rfl⟩ | ⟨rn, rfl, hrn, rfl⟩))
  all_goals go_ret2
  · exact ⟨by rw [HR.out.2, HR.out.1]; rfl, hB.trans (hb3.mono hB.size)⟩
  · exact ⟨by rw [HR.out.2, HR.out.1]; rfl, hB.trans (hb3.mono hB.size)⟩
end Ytndmjginmomfiaa
end Go.Proofs
