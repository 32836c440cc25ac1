/- The reference: Break. -/
import Derived.Test.YtndmjginmomfiaaR5
open Go Go.RowKit Go.YtndmjginmomfiaaIt
namespace Go.Proofs
namespace Ytndmjginmomfiaa
/-- One that breaks: out of bounds, or with too small a term. -/
def badX (y : Yd) (d : Nat) (x : Nat × Int) : Bool := !btw 0 x.2 y.room || decide (at0 (tabR (tabP y) x.1) x.2.toNat < (d : Int))
theorem badX_has {y : Yd} (ok : Ok y) {d : Nat} (hd : d ≤ 10000) {m' : Nat} (hm : m' < y.ws.length) (c : Int) : badX y d (m', c) = !hasN ((lay y d).getD m' 0) c c := by
  have hr0 := ok.room0
  have hr1 := ok.room1
  unfold badX
  simp only
  by_cases hc : 0 ≤ c ∧ c ≤ y.room
  · have h1 : btw 0 c y.room = true := btw_true.2 hc
    rw [h1, hasN_one hc.1 (by omega), tabP_val y hm (by omega)]
    have h2 := term_ge ok (s := c.toNat) (by omega) hm hd
    have h3 : ((lay y d).getD m' 0).testBit c.toNat = keepB y d c.toNat m' := rfl
    rw [h3]
    cases hk : keepB y d c.toNat m'
    · have : ¬ (d : Int) ≤ termP y c.toNat m' := fun h => by rw [h2, hk] at h; cases h
      simp; omega
    · have := h2.2 hk
      simp; omega
  · have h1 : btw 0 c y.room = false := btw_false.2 hc
    rw [h1]
    have h3 : hasN ((lay y d).getD m' 0) c c = false := by
      rw [Bool.eq_false_iff]
      intro h
      have h4 := (hasN_iff (Int.le_refl c)).1 h
      have h5 := h4.2 c (Int.le_refl _) (Int.le_refl _)
      have h6 : keepB y d c.toNat m' = true := h5
      have := (keep_in ok h6).2
      omega
    rw [h3]; rfl
/-- The break of one weather, by numbers crushed. -/
theorem brkV_some {y : Yd} (ok : Ok y) {d : Nat} (hd : d ≤ 10000) {s : Int} {m' : Nat} {o : Int} (hm : m' < y.ws.length) {i : Nat} (hi : (y.at_ m').lo + (i : Int) ≤ (y.at_ m').hi) (hb : badX y d (m', come y s m' o - ((y.at_ m').lo + (i : Int))) = true)
    (hn : ∀ j, j < i → badX y d (m', come y s m' o - ((y.at_ m').lo + (j : Int))) = false) : brkV y (lay y d) s m' o = some (m', (y.at_ m').lo + (i : Int)) := by
  unfold brkV brkAt
  have e : (List.range ((come y s m' o - (y.at_ m').lo) - (come y s m' o - (y.at_ m').hi) + 1).toNat).find? (fun (k : Nat) => !hasN ((lay y d).getD m' 0) (come y s m' o - (y.at_ m').lo - (k : Int)) (come y s m' o - (y.at_ m').lo - (k : Int))) = some i := by
    rw [List.find?_range_eq_some]
    refine ⟨?_, by simp; omega, fun j hj => ?_⟩
    · rw [← badX_has ok hd hm, ← hb]; congr 2; omega
    · have := hn j hj
      rw [show come y s m' o - ((y.at_ m').lo + (j : Int)) = come y s m' o - (y.at_ m').lo - (j : Int) by omega, badX_has ok hd hm] at this
      simpa using this
  rw [e]; rfl
theorem brkV_none {y : Yd} (ok : Ok y) {d : Nat} (hd : d ≤ 10000) {s : Int} {m' : Nat} {o : Int} (hm : m' < y.ws.length)
    (hn : ∀ j : Nat, (y.at_ m').lo + (j : Int) ≤ (y.at_ m').hi → badX y d (m', come y s m' o - ((y.at_ m').lo + (j : Int))) = false) : brkV y (lay y d) s m' o = none := by
  unfold brkV brkAt
  have e : (List.range ((come y s m' o - (y.at_ m').lo) - (come y s m' o - (y.at_ m').hi) + 1).toNat).find? (fun (k : Nat) => !hasN ((lay y d).getD m' 0) (come y s m' o - (y.at_ m').lo - (k : Int)) (come y s m' o - (y.at_ m').lo - (k : Int))) = none := by
    rw [List.find?_eq_none]
    intro j hj
    have hj := List.mem_range.1 hj
    have := hn j (by omega)
    rw [show come y s m' o - ((y.at_ m').lo + (j : Int)) = come y s m' o - (y.at_ m').lo - (j : Int) by omega, badX_has ok hd hm] at this
    simpa using this
  rw [e]; rfl
def preF (y : Yd) (m k : Nat) : List Nat := (List.range k).filter (nx y m)
theorem preF_succ (y : Yd) (m k : Nat) : preF y m (k + 1) = preF y m k ++ if nx y m k then [k] else [] := by
  unfold preF; rw [List.range_succ, List.filter_append]
  by_cases h : nx y m k = true <;> simp [h]
theorem folL_split (y : Yd) (m : Nat) {k : Nat} (h : k < y.ws.length) : ∃ r, folL y m = preF y m (k + 1) ++ r := by
  refine ⟨((List.range (y.ws.length - (k + 1))).map (k + 1 + ·)).filter (nx y m), ?_⟩
  unfold folL preF
  have : y.ws.length = (k + 1) + (y.ws.length - (k + 1)) := by omega
  conv => lhs; rw [this, List.range_add]
  rw [List.filter_append]
theorem brk_at {y : Yd} {l : List Nat} {s : Int} {m : Nat} {o : Int} {k : Nat} (hk : k < y.ws.length) (hn : nx y m k = true) (h0 : (preF y m k).findSome? (fun m' => brkV y l s m' o) = none) {r : Nat × Int} (h : brkV y l s k o = some r) : brk y l s m o = some r := by
  obtain ⟨q, hq⟩ := folL_split y m hk
  unfold brk
  rw [hq, preF_succ, if_pos hn, List.append_assoc, List.findSome?_append, h0]
  simp [h]
theorem pre_next {y : Yd} {l : List Nat} {s : Int} {m : Nat} {o : Int} {k : Nat} (h0 : (preF y m k).findSome? (fun m' => brkV y l s m' o) = none) (h : nx y m k = true → brkV y l s k o = none) : (preF y m (k + 1)).findSome? (fun m' => brkV y l s m' o) = none := by
  rw [preF_succ, List.findSome?_append, h0]
  by_cases hn : nx y m k = true
  · rw [if_pos hn]; simp [h hn]
  · rw [if_neg hn]; rfl
set_option maxRecDepth 100000 in
set_option maxHeartbeats 8000000 in
theorem rbreak_any (y : Yd) (v : Value) (s m o d : Int) (w : World) (hw : SlW w v y.ws) :
    Calls Try.prog 29 #[.agg (encY y v), .int .i64 s, .int .i64 m, .int .i64 o, .int .i64 d] w fun e w' => Below w.heap.size w w' ∧
      e = .returned (.tuple #[.int .i64 (brM y s m o d), .int .i64 (brC y s m o d), .int .i64 (brE y s m o d)]) := by
  have hy4 : (encY y v).size = 4 := rfl
  have hcc := fun W hW => rdayed_any y v s m d W (hw.below (w' := W) hW (Nat.le_refl _))
  have hok := fun h => ordE_ok (y := y) (s := s) (m := m) (d := d) h
  have hse : brE y s m o d = if stE y s m = 0 then (if btw 1 d 1000 = true then (if btw 0 o y.most = true ∧ o % y.lots = 0 then (if brk y (lay y (d - 1).toNat) s m.toNat o = none then 5 else 0) else 21) else 2) else stE y s m := rfl
  have hbm : brM y s m o d = if brE y s m o d = 0 then ((((brk y (lay y (d - 1).toNat) s m.toNat o).getD (0, 0)).1 : Nat) : Int) else (0 : Int) := rfl
  have hbc : brC y s m o d = if brE y s m o d = 0 then ((brk y (lay y (d - 1).toNat) s m.toNat o).getD (0, 0)).2 else 0 := rfl
  have hse2 : brE y s m o d = if ordE y s m d = 0 then (if btw 0 o y.most = true ∧ o % y.lots = 0 then (if brk y (lay y (d - 1).toNat) s m.toNat o = none then 5 else 0) else 21) else ordE y s m d := by
    rw [hse]
    unfold ordE
    by_cases h1 : stE y s m = 0
    · rw [if_pos h1, if_pos h1]
      by_cases h2 : btw 1 d 1000 = true
      · rw [if_pos h2, if_pos h2, if_pos rfl]
      · rw [if_neg h2, if_neg h2, if_neg (by decide)]
    · rw [if_neg h1, if_neg h1, if_neg h1]
  clear hse
  generalize brM y s m o d = RM at *
  generalize brC y s m o d = RC at *
  generalize brE y s m o d = RE at *
  generalize ordE y s m d = C at *
  have HSE := Lib.hid (And.intro hse2 (And.intro hbm hbc))
  have HT := Lib.hid (fun W (ok : Ok y) (hW : Below w.heap.size w W) => rterms_any y v W ok (hw.below hW (Nat.le_refl _)))
  have HOK := Lib.hid hok
  have HCC := Lib.hid hcc
  have HWS := Lib.hid hw
  obtain ⟨ad, cap, rfl, hmx, hcp, hc⟩ := hw
  have HC := Lib.hid hc
  clear hok hcc hse2 hbm hbc hc
  go_enter Try.func29, Try.ntmps29
  refine wp_seq_k (fun K hK => ?_)
  have HK := Lib.hid hK; clear hK
  go_wp2
  refine HK.out _ _ ?_; clear HK K
  generalize hw1 : World.alloc _ _ = w1
  obtain ⟨b1, hB, hs1⟩ := blk1 hw1
  clear hw1
  have hcc := HCC.out w1 hB
  clear HCC
  by_cases h0 : C = 0
  rotate_left
  · have h0b : (C != 0) = true := bne_iff_ne.2 h0
    obtain ⟨h1, h2, h3⟩ := HSE.out
    rw [if_neg h0] at h1
    rw [h1, if_neg h0] at h2 h3
    have HN := Lib.hid (And.intro h1 (And.intro h2 h3))
    clear h0 h1 h2 h3
    go_wp2_with (first | (refine wpList_load_blk rfl 31 _ rfl _ rfl b1 Try.underlying31 rfl size31 hy4 ?_) | (go_at_call 57; refine hcc.mono ?_; rintro e w2 ⟨rfl, hb2⟩))
    refine bodyPost_ret (results_tmp3 rfl _ _ _) rfl ⟨btr hB hb2 (Nat.le_refl _), ?_⟩
    rw [HN.out.1, HN.out.2.1, HN.out.2.2]; rfl
  subst h0
  obtain ⟨⟨ok, hs, hm⟩, hd0, hd1⟩ := HOK.out rfl
  obtain ⟨sn, rfl⟩ := Int.eq_ofNat_of_zero_le hs.1
  obtain ⟨mn, rfl⟩ := Int.eq_ofNat_of_zero_le hm.1
  have hml : mn < y.ws.length := by omega
  have hs60 : (sn : Int) ≤ 60 := by have := ok.room1; omega
  have hte := HT.out
  obtain ⟨dn, hdn⟩ : ∃ dn : Nat, dn = (d - 1).toNat := ⟨_, rfl⟩
  have hwd : d - 1 = (dn : Int) := by omega
  have hd9 : dn ≤ 1000 := by omega
  have HG := Lib.hid (show RE = (if btw 0 o y.most = true ∧ o % y.lots = 0 then (if brk y (lay y dn) sn mn o = none then 5 else 0) else 21) ∧ (RM = if RE = 0 then ((((brk y (lay y dn) sn mn o).getD (0, 0)).1 : Nat) : Int) else (0 : Int)) ∧ (RC = if RE = 0 then ((brk y (lay y dn) sn mn o).getD (0, 0)).2 else 0) by
    obtain ⟨h1, h2, h3⟩ := HSE.out
    rw [if_pos rfl, ← hdn] at h1
    rw [← hdn] at h2 h3
    exact ⟨h1, h2, h3⟩)
  clear hdn HSE HOK
  refine wp_seq_k (fun K hK => ?_)
  have HK := Lib.hid hK; clear hK
  go_wp2_with (first | (refine wpList_load_blk rfl 31 _ rfl _ rfl b1 Try.underlying31 rfl size31 hy4 ?_) | (go_at_call 57; refine hcc.mono ?_; rintro e w2 ⟨rfl, hb2⟩))
  refine HK.out _ _ ?_; clear HK K
  replace b1 := blk_keep b1 hb2
  replace hB := btr hB hb2 (Nat.le_refl _)
  have ht := hte w2 ok hB
  clear hb2 hcc hs1 hte HT
  have c1 := cell_blk (i := 1) b1
  have c2 := cell_blk (i := 2) b1
  simp only [encY, List.getElem?_toArray, List.getElem?_cons_zero, List.getElem?_cons_succ] at c1 c2
  have hl1 := ok.lots0
  have hl0 : ¬ y.lots = 0 := by omega
  have BAD : ¬ (btw 0 o y.most = true ∧ o % y.lots = 0) → RE = 21 ∧ RM = 0 ∧ RC = 0 := by
    intro hn
    obtain ⟨h1, h2, h3⟩ := HG.out
    rw [if_neg hn] at h1
    rw [h1] at h2 h3
    exact ⟨h1, h2, h3⟩
  cases e2 : btw 0 o y.most
  · have HN := Lib.hid (BAD (by simp [e2]))
    clear BAD
    go_wp2_with (go_at_call 46; (with_reducible refine (is_any _ _ _ _).mono ?_); rintro e w' ⟨rfl, rfl⟩)
    refine bodyPost_ret (results_tmp3 rfl _ _ _) rfl ⟨hB, ?_⟩
    rw [HN.out.1, HN.out.2.1, HN.out.2.2]; rfl
  have ho := btw_true.1 e2
  have htm : o.tmod y.lots = o % y.lots := Int.tmod_eq_emod_of_nonneg ho.1
  by_cases e3 : o % y.lots = 0
  rotate_left
  · have HN := Lib.hid (BAD (by simp [e3]))
    have e3b : (o % y.lots != 0) = true := bne_iff_ne.2 e3
    clear BAD e3
    go_wp2_with (go_at_call 46; (with_reducible refine (is_any _ _ _ _).mono ?_); rintro e w' ⟨rfl, rfl⟩)
    refine bodyPost_ret (results_tmp3 rfl _ _ _) rfl ⟨hB, ?_⟩
    rw [HN.out.1, HN.out.2.1, HN.out.2.2]; rfl
  have e3b : (o % y.lots != 0) = false := by rw [e3]; rfl
  have HNO := Lib.hid (show brk y (lay y dn) sn mn o = none → RE = 5 ∧ RM = 0 ∧ RC = 0 by
    intro hb
    obtain ⟨h1, h2, h3⟩ := HG.out
    rw [if_pos ⟨e2, e3⟩, if_pos hb] at h1
    rw [h1] at h2 h3
    exact ⟨h1, h2, h3⟩)
  have HYES := Lib.hid (show ∀ r, brk y (lay y dn) sn mn o = some r → RE = 0 ∧ RM = (r.1 : Nat) ∧ RC = r.2 by
    intro r hb
    obtain ⟨h1, h2, h3⟩ := HG.out
    rw [if_pos ⟨e2, e3⟩, hb, if_neg (by simp)] at h1
    rw [h1, hb] at h2 h3
    exact ⟨h1, h2, h3⟩)
  have hob : 0 ≤ o ∧ o ≤ 80 := by have := ok.most1; omega
  clear BAD e3 HG
  go_wp2_with (first | (go_at_call 46; (with_reducible refine (is_any _ _ _ _).mono ?_); rintro e w' ⟨rfl, rfl⟩) | (refine wpList_load_blk rfl 31 _ rfl _ rfl b1 Try.underlying31 rfl size31 hy4 ?_))
  refine ht.mono ?_
  rintro e w3 ⟨u, rfl, hu, hb3⟩
  replace b1 := blk_keep b1 hb3
  replace hB := btr hB hb3 (Nat.le_refl _)
  clear hb3 ht c1 c2 e2 e3b htm hl0 ho
  obtain ⟨adt, capt, rfl, hmt, hct, hop⟩ := hu.opened
  have HOP := Lib.hid hop
  have HTB := Lib.hid (tabP_tb y)
  have HCB := Lib.hid (fun k (hk : k < y.ws.length) => come_bound ok hk (show 0 ≤ (sn : Int) ∧ (sn : Int) ≤ 60 by omega) hob)
  have HEA := Lib.hid ok.each
  have HBV := Lib.hid (fun k => bit_val ok (k := k) hml)
  have hn1 := ok.n1
  have hr0 := ok.room0
  have hr1 := ok.room1
  have HOK := Lib.hid ok
  clear hop hu ok
  go_wp2
  go_loopw [15] (fun i wr => ∃ k : Nat, k ≤ y.ws.length ∧ i = .int .i64 k ∧ (preF y mn k).findSome? (fun m' => brkV y (lay y dn) sn m' o) = none ∧ Below w3.heap.size w3 wr) (fun i _ => y.ws.length - (intOf i).toNat)
  case atStart => exact ⟨0, Nat.zero_le _, rfl, rfl, Below.refl _ _⟩
  case round =>
    obtain ⟨k, hk, rfl, hno, hBk⟩ := hrel
    have HPN := Lib.hid hno
    clear hno
    have b1r := blk_keep b1 hBk
    have c3 := cell_blk (i := 3) b1r
    simp only [encY, List.getElem?_toArray, List.getElem?_cons_zero, List.getElem?_cons_succ] at c3
    by_cases hkn : k < y.ws.length
    · obtain ⟨b, off, rfl, hlt, hcell⟩ := HC.out (by omega)
      obtain ⟨q0, q1, q2, q3⟩ := wt_cells hcell (n := k) hkn rfl
      obtain ⟨p0, p1, p2, p3⟩ := wt_cells hcell (n := mn) hml rfl
      rw [← at_lt hkn] at q0 q1 q2 q3
      rw [← at_lt hml] at p3
      have hBw := hB.trans (hBk.mono hB.size)
      replace q0 := (hBw.cell (p := ⟨b, off + k * 4, none⟩) hlt).trans q0
      replace q1 := (hBw.cell (p := ⟨b, off + k * 4 + 1, none⟩) hlt).trans q1
      replace q2 := (hBw.cell (p := ⟨b, off + k * 4 + 2, none⟩) hlt).trans q2
      replace q3 := (hBw.cell (p := ⟨b, off + k * 4 + 3, none⟩) hlt).trans q3
      replace p3 := (hBw.cell (p := ⟨b, off + mn * 4 + 3, none⟩) hlt).trans p3
      have hbv := HBV.out k
      have hmi : (mn : Int) < (y.ws.length : Int) := by omega
      have hcb := HCB.out k hkn
      have hea := HEA.out k hkn
      clear p0 p1 p2 hcell
      obtain ⟨wo, rfl⟩ : ∃ wo, wo = wr := ⟨_, rfl⟩
      have hE : Below wo.heap.size wo (wo.alloc (.cells #[.int .i64 (y.at_ k).comes, .int .i64 (y.at_ k).lo, .int .i64 (y.at_ k).hi, .int .i64 (y.at_ k).next] 86)) := (Below.refl _ _).alloc (Nat.le_refl _) _
      have bX : (wo.alloc (.cells #[.int .i64 (y.at_ k).comes, .int .i64 (y.at_ k).lo, .int .i64 (y.at_ k).hi, .int .i64 (y.at_ k).next] 86)).heap[wo.heap.size]? = some (.cells #[.int .i64 (y.at_ k).comes, .int .i64 (y.at_ k).lo, .int .i64 (y.at_ k).hi, .int .i64 (y.at_ k).next] 86 (0, 0)) := heap_newI rfl
      have hB' := hBk.trans (hE.mono hBk.size)
      have HST := Lib.hid (And.intro hB' bX)
      have hbw := hB.size
      have hbk := hBk.size
      have p3E := (hE.cell (p := ⟨b, off + mn * 4 + 3, none⟩) (by show b < wo.heap.size; omega)).trans p3
      have HP3 := Lib.hid p3E
      clear hB' bX hE hBw p3E
      unfold come at hcb
      by_cases hnx : nx y mn k = true
      · rw [if_pos hnx] at hbv
        have HNX := Lib.hid hnx
        have HBVV := Lib.hid hbv
        clear hnx hbv
        go_wp2
        go_loopw [17] (fun c wr => ∃ i : Nat, (y.at_ k).lo + (i : Int) ≤ (y.at_ k).hi + 1 ∧ c = .int .i64 ((y.at_ k).lo + (i : Int)) ∧ (∀ j, j < i → badX y dn (k, come y sn k o - ((y.at_ k).lo + (j : Int))) = false) ∧ Below w3.heap.size w3 wr ∧ wr.heap[wo.heap.size]? = some (.cells #[.int .i64 (y.at_ k).comes, .int .i64 (y.at_ k).lo, .int .i64 (y.at_ k).hi, .int .i64 (y.at_ k).next] 86 (0, 0)) ∧ wr.cell? ⟨b, off + mn * 4 + 3, none⟩ = some (.int .i64 (y.at_ mn).next)) (fun c _ => ((y.at_ k).hi + 2 - intOf c).toNat)
        case atStart => exact ⟨0, by omega, by simp, fun j hj => by omega, HST.out.1, HST.out.2, HP3.out⟩
        case round =>
          clear c3 q0 q1 q2 q3 p3 b1r
          obtain ⟨i, hi, rfl, hno2, hBi, bX, p3⟩ := hrel
          have HN2 := Lib.hid hno2
          clear hno2
          have b1r := blk_keep b1 hBi
          have c0 := cell_blk (i := 0) b1r
          have c3 := cell_blk (i := 3) b1r
          have x0 := cell_blk (i := 0) bX
          have x2 := cell_blk (i := 2) bX
          simp only [encY, List.getElem?_toArray, List.getElem?_cons_zero, List.getElem?_cons_succ] at c0 c3 x0 x2
          by_cases hin : (y.at_ k).lo + (i : Int) ≤ (y.at_ k).hi
          · have hbv := HBVV.out
            obtain ⟨x, hx⟩ : ∃ x, x = (sn : Int) + o * (y.at_ k).comes / 1000 - ((y.at_ k).lo + (i : Int)) := ⟨_, rfl⟩
            have hx2 : come y sn k o - ((y.at_ k).lo + (i : Int)) = x := hx.symm
            have HBRK := Lib.hid (show badX y dn (k, x) = true → RE = 0 ∧ RM = (k : Int) ∧ RC = (y.at_ k).lo + (i : Int) from fun hb =>
              HYES.out _ (brk_at hkn HNX.out HPN.out (brkV_some HOK.out (show dn ≤ 10000 by omega) hkn hin (by rw [hx2]; exact hb) HN2.out)))
            have HOKB := Lib.hid (show badX y dn (k, x) = false → ∀ j, j < i + 1 → badX y dn (k, come y sn k o - ((y.at_ k).lo + (j : Int))) = false from fun hb j hj => by
              rcases (show j < i ∨ j = i by omega) with h | rfl
              · exact HN2.out j h
              · rw [hx2]; exact hb)
            have HBX := Lib.hid (show badX y dn (k, x) = (!btw 0 x y.room || decide (at0 (tabR (tabP y) k) x.toNat < (dn : Int))) from rfl)
            have HX := Lib.hid hx
            clear hx hx2
            go_wp2_with fail
            refine (is_any _ _ _ _).mono ?_
            rintro e w' ⟨rfl, rfl⟩
            rw [← HX.out]
            cases e1 : btw 0 x y.room
            · have HN := Lib.hid (HBRK.out (by rw [HBX.out, e1]; rfl))
              clear e1
              go_wp2
              refine bodyPost_ret (results_tmp3 rfl _ _ _) rfl ⟨hB.trans (hBi.mono hB.size), ?_⟩
              rw [HN.out.1, HN.out.2.1, HN.out.2.2]; rfl
            · obtain ⟨hx0, hx1⟩ := btw_true.1 e1
              obtain ⟨n, rfl⟩ := Int.eq_ofNat_of_zero_le hx0
              obtain ⟨b', off', ad2, cap2, he', hlt', hcell', hrow⟩ := HOP.out k (by rw [HTB.out.len]; exact hkn)
              have hrl := HTB.out.row k (by rw [HTB.out.len]; exact hkn)
              obtain ⟨ad3, cap3, he3, hm3, hcp3, hc3⟩ := hrow
              cases he3
              obtain ⟨b3, off3, he4, hlt3, hcell3⟩ := hc3 (by omega)
              have hz1 := (hBi.cell (p := ⟨b', off' + k, none⟩) hlt').trans hcell'
              have hz2 := (hBi.cell (p := ⟨b3, off3 + n, none⟩) hlt3).trans (hcell3 n (by omega))
              have hkt : (k : Int) < ((tabP y).length : Int) := by rw [HTB.out.len]; omega
              rw [hrl] at hz1 hcp3 hm3
              have hnl : (n : Int) < ((y.room.toNat + 1 : Nat) : Int) := by omega
              subst he' he4
              have hbx : badX y dn (k, (n : Int)) = decide (at0 (tabR (tabP y) k) n < (dn : Int)) := by rw [HBX.out, e1]; rfl
              clear hcell' hcell3 hc3 e1
              obtain ⟨T, hTe⟩ : ∃ T, T = at0 (tabR (tabP y) k) n := ⟨_, rfl⟩
              rw [← hTe] at hz2 hbx
              clear hTe
              by_cases hT : T < (dn : Int)
              · have HN := Lib.hid (HBRK.out (by rw [hbx]; simp [hT]))
                clear hbx
                go_wp2
                refine bodyPost_ret (results_tmp3 rfl _ _ _) rfl ⟨hB.trans (hBi.mono hB.size), ?_⟩
                rw [HN.out.1, HN.out.2.1, HN.out.2.2]; rfl
              · have HN := Lib.hid (HOKB.out (by rw [hbx]; simp [hT]))
                clear hbx
                go_wp2
                go_roundw
                case rel => exact ⟨i + 1, by push_cast; omega, by push_cast; rw [Int.add_assoc], HN.out, hBi, bX, p3⟩
                case measure => simp [intOf]; omega
          · have hvn := brkV_none HOK.out (show dn ≤ 10000 by omega) (s := (sn : Int)) (o := o) hkn (fun j hj => HN2.out j (by omega))
            have hnext := pre_next HPN.out (fun _ => hvn)
            have HN := Lib.hid hnext
            clear hvn hnext
            go_wp2
            go_roundw
            case rel => exact ⟨k + 1, by omega, by go_num, HN.out, hBi⟩
            case measure => simp [intOf]; omega
      · rw [if_neg hnx] at hbv
        have hnext := pre_next HPN.out (fun h => absurd h hnx)
        have HN := Lib.hid hnext
        have HBVV := Lib.hid hbv
        clear hnext hnx hbv
        go_wp2
        go_loopw [17] (fun c wr => c = .int .i64 (y.at_ k).lo ∧ Below w3.heap.size w3 wr ∧ wr.heap[wo.heap.size]? = some (.cells #[.int .i64 (y.at_ k).comes, .int .i64 (y.at_ k).lo, .int .i64 (y.at_ k).hi, .int .i64 (y.at_ k).next] 86 (0, 0)) ∧ wr.cell? ⟨b, off + mn * 4 + 3, none⟩ = some (.int .i64 (y.at_ mn).next)) (fun c _ => 0)
        case atStart => exact ⟨rfl, HST.out.1, HST.out.2, HP3.out⟩
        case round =>
          clear c3 q0 q1 q2 q3 p3 b1r
          obtain ⟨rfl, hBi, bX, p3⟩ := hrel
          have b1r := blk_keep b1 hBi
          have c3 := cell_blk (i := 3) b1r
          have x2 := cell_blk (i := 2) bX
          simp only [encY, List.getElem?_toArray, List.getElem?_cons_zero, List.getElem?_cons_succ] at c3 x2
          have hbv := HBVV.out
          have hlh : (y.at_ k).lo ≤ (y.at_ k).hi := by omega
          go_wp2
          go_roundw
          case rel => exact ⟨k + 1, by omega, by go_num, HN.out, hBi⟩
          case measure => simp [intOf]; omega
    · have hke : k = y.ws.length := by omega
      have hbn : brk y (lay y dn) sn mn o = none := by have := HPN.out; rw [hke] at this; exact this
      have HN := Lib.hid (HNO.out hbn)
      clear hke hbn
      go_wp2
      refine bodyPost_ret (results_tmp3 rfl _ _ _) rfl ⟨hB.trans (hBk.mono hB.size), ?_⟩
      rw [HN.out.1, HN.out.2.1, HN.out.2.2]; rfl
end Ytndmjginmomfiaa
end Go.Proofs
