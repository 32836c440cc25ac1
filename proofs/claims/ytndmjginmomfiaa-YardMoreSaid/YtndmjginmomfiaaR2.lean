/- The reference: Worst, best. -/
import Derived.Test.YtndmjginmomfiaaR1
open Go Go.RowKit Go.YtndmjginmomfiaaIt
namespace Go.Proofs
namespace Ytndmjginmomfiaa
theorem wpList_max {P : Program} {ops : Array Oper} {rest : List Oper} {o : Oper} {a : Act} {w : World} {Q : Exit → Act → World → Prop} (hgd : o.guard = none) (x y : Operand) (ats : Array TypeId)
    (ho : o.op = .call { callee := .builtin .max, args := #[x, y], argTypes := ats }) {k : IntKind} {m n : Int} (hx : a.eval x = .int k m) (hy : a.eval y = .int k n)
    (h : wpList P ops Q rest (a.put o.dst (.int k (max m n))) w) : wpList P ops Q (o :: rest) a w :=
  wpList_plain hgd fun K hK => by
    have hr : (execOp a.eval o).run P w = .ok (.value (.int k (max m n))) w := by
      unfold execOp
      simp only [ho, resolve, invoke, builtin, Sem.run_bind, Sem.run_pure, Result.andThen_ok, List.map_toArray, List.map_cons, List.map_nil, hx, hy]
      have e : (if m < n then n else m) = max m n := by rw [Int.max_def]; split <;> split <;> omega
      simp [Builtin.max_, Builtin.max2, go_sem, e]
    unfold Oper.wp
    rw [hr]
    exact hK _ _ h
/-- A table of a yard's shape. -/
structure Tb (y : Yd) (tab : List (List Int)) : Prop where
  len : tab.length = y.ws.length
  row : ∀ m, m < tab.length → (tabR tab m).length = y.room.toNat + 1
def cL (y : Yd) (s : Int) (m' : Nat) (o : Int) : List Int := (List.range ((y.at_ m').hi - (y.at_ m').lo + 1).toNat).map fun (i : Nat) => come y s m' o - ((y.at_ m').lo + (i : Int))
def sucF (y : Yd) (s : Int) (m : Nat) (o : Int) (m' : Nat) : List (Nat × Int) := if nx y m m' then (cL y s m' o).map (fun c => (m', c)) else []
/-- What can follow, by the first k weathers. -/
def sucK (y : Yd) (s : Int) (m : Nat) (o : Int) (k : Nat) : List (Nat × Int) := (List.range k).flatMap (sucF y s m o)
def inR (y : Yd) (x : Nat × Int) : Bool := btw 0 x.2 y.room
def minT (tab : List (List Int)) (l : List (Nat × Int)) : Int := l.foldl (fun a x => min a (at0 (tabR tab x.1) x.2.toNat)) never
def worstP (y : Yd) (tab : List (List Int)) (s : Int) (m : Nat) (o : Int) : Int := if (sucK y s m o y.ws.length).all (inR y) = true then minT tab (sucK y s m o y.ws.length) else -1
def bestP (y : Yd) (tab : List (List Int)) (s : Int) (m : Nat) : Int := (ordL y).foldl (fun a o => max a (worstP y tab s m o)) (-1)
theorem sucK_succ (y : Yd) (s : Int) (m : Nat) (o : Int) (k : Nat) : sucK y s m o (k + 1) = sucK y s m o k ++ sucF y s m o k := by
  unfold sucK; rw [List.range_succ, List.flatMap_append]; simp
theorem cL_len (y : Yd) (s : Int) (m' : Nat) (o : Int) : (cL y s m' o).length = ((y.at_ m').hi - (y.at_ m').lo + 1).toNat := by simp [cL]
theorem cL_get (y : Yd) (s : Int) (m' : Nat) (o : Int) {i : Nat} (h : i < (cL y s m' o).length) : (cL y s m' o)[i] = come y s m' o - ((y.at_ m').lo + (i : Int)) := by simp [cL]
def preC (y : Yd) (s : Int) (m' : Nat) (o : Int) (i : Nat) : List (Nat × Int) := ((cL y s m' o).take i).map (fun c => (m', c))
theorem preC_succ (y : Yd) (s : Int) (m' : Nat) (o : Int) {i : Nat} (h : i < (cL y s m' o).length) : preC y s m' o (i + 1) = preC y s m' o i ++ [(m', come y s m' o - ((y.at_ m').lo + (i : Int)))] := by
  unfold preC
  rw [List.take_succ_eq_append_getElem h, List.map_append, cL_get]; rfl
theorem minT_snoc (tab : List (List Int)) (l : List (Nat × Int)) (x : Nat × Int) : minT tab (l ++ [x]) = min (minT tab l) (at0 (tabR tab x.1) x.2.toNat) := by unfold minT; rw [List.foldl_append]; rfl
theorem sucK_mono {y : Yd} {s : Int} {m : Nat} {o : Int} {k n : Nat} (h : k ≤ n) {x : Nat × Int} (hx : x ∈ sucK y s m o k) : x ∈ sucK y s m o n := by
  unfold sucK at hx ⊢
  rw [List.mem_flatMap] at hx ⊢
  obtain ⟨m', hm, h2⟩ := hx
  exact ⟨m', by rw [List.mem_range] at hm ⊢; omega, h2⟩
/-- One that is out of bounds makes the answer -1. -/
theorem worst_out {y : Yd} {tab : List (List Int)} {s : Int} {m : Nat} {o : Int} {k i : Nat} (hk : k < y.ws.length) (hn : nx y m k = true) (hi : i < (cL y s k o).length) (hb : inR y (k, come y s k o - ((y.at_ k).lo + (i : Int))) = false) : worstP y tab s m o = -1 := by
  unfold worstP
  rw [if_neg]
  rw [Bool.not_eq_true, List.all_eq_false]
  refine ⟨(k, come y s k o - ((y.at_ k).lo + (i : Int))), ?_, by simp [hb]⟩
  refine sucK_mono (k := k + 1) hk ?_
  rw [sucK_succ, List.mem_append]
  refine .inr ?_
  unfold sucF
  rw [if_pos hn, List.mem_map]
  exact ⟨_, List.getElem_mem hi, by rw [cL_get]⟩
theorem bit_val {y : Yd} (ok : Ok y) {m k : Nat} (hm : m < y.ws.length) : bits .and .i64 ((y.at_ m).next / 2 ^ k) 1 = if nx y m k = true then 1 else 0 := by
  have h := ok.each m hm
  have h4 := ok.n1
  have hp : (2 : Int) ^ y.ws.length ≤ 2 ^ 4 := by
    have h1 : 2 ^ y.ws.length ≤ 2 ^ 4 := Nat.pow_le_pow_right (by omega) h4
    have : ((2 ^ y.ws.length : Nat) : Int) ≤ ((2 ^ 4 : Nat) : Int) := by exact_mod_cast h1
    push_cast at this; exact this
  have hq : (0 : Int) < 2 ^ k := Int.pow_pos (by omega)
  have h0 : 0 ≤ (y.at_ m).next / 2 ^ k := Int.ediv_nonneg (by omega) (by omega)
  have h1 : (y.at_ m).next / 2 ^ k ≤ (y.at_ m).next := Int.ediv_le_self _ (by omega)
  rw [i64_and1 h0 (by omega)]
  unfold nx
  by_cases h2 : (y.at_ m).next / 2 ^ k % 2 = 1
  · simp [h2]
  · simp [h2]; omega
set_option maxRecDepth 100000 in
set_option maxHeartbeats 4000000 in
theorem worst_any (y : Yd) (v vt : Value) (tab : List (List Int)) (s : Int) (m : Nat) (o : Int) (w : World) (ok : Ok y) (tb : Tb y tab) (hm : m < y.ws.length) (hs : 0 ≤ s ∧ s ≤ 60) (ho : 0 ≤ o ∧ o ≤ 80) (hw : SlW w v y.ws) (ht : SlII w vt tab) :
    Calls Try.prog 58 #[.agg (encY y v), vt, .int .i64 s, .int .i64 m, .int .i64 o] w fun e w' => e = .returned (.int .i64 (worstP y tab s m o)) ∧ Below w.heap.size w w' := by
  obtain ⟨W, hW⟩ : ∃ W, W = worstP y tab s m o := ⟨_, rfl⟩
  have HOUT := Lib.hid (fun (k i : Nat) (hk : k < y.ws.length) (hn : nx y m k = true) (hi : i < (cL y s k o).length) (hb : inR y (k, come y s k o - ((y.at_ k).lo + (i : Int))) = false) => hW.trans (worst_out (tab := tab) hk hn hi hb))
  have HFIN := Lib.hid (fun (h : (sucK y s m o y.ws.length).all (inR y) = true) => hW.trans (show worstP y tab s m o = minT tab (sucK y s m o y.ws.length) by unfold worstP; rw [if_pos h]))
  rw [← hW]
  obtain ⟨ad, cap, rfl, hmx, hcp, hc⟩ := hw
  obtain ⟨adt, capt, rfl, hmt, hct, hop⟩ := ht.opened
  have HC := Lib.hid hc
  have HOP := Lib.hid hop
  have HCB := Lib.hid (fun k (hk : k < y.ws.length) => come_bound ok hk hs ho)
  have HEA := Lib.hid ok.each
  have HTB := Lib.hid tb
  have HBV := Lib.hid (fun k => bit_val ok (k := k) hm)
  have hn1 := ok.n1
  have hr0 := ok.room0
  have hr1 := ok.room1
  clear hW hc hop ht tb
  go_enter Try.func58, Try.ntmps58
  refine wp_seq_k (fun K hK => ?_)
  have HK := Lib.hid hK; clear hK
  go_wp2
  refine HK.out _ _ ?_; clear HK K
  generalize hw1 : World.alloc _ _ = w1
  obtain ⟨b1, hB, hs1⟩ := blk1 hw1
  clear hw1
  go_wp2
  go_loopw [11, 12] (fun q i wr => ∃ k : Nat, k ≤ y.ws.length ∧ i = .int .i64 k ∧ q = .int .i64 (minT tab (sucK y s m o k)) ∧ (sucK y s m o k).all (inR y) = true ∧ Below w.heap.size w wr ∧ wr.heap[w.heap.size]? = some (.cells (encY y (.slice ad y.ws.length cap)) 31 (0, 0))) (fun _ i _ => y.ws.length - (intOf i).toNat)
  case atStart => exact ⟨0, Nat.zero_le _, rfl, rfl, rfl, hB, b1⟩
  case round =>
    clear hB b1
    obtain ⟨k, hk, rfl, rfl, hall, hB, b1⟩ := hrel
    have HALL := Lib.hid hall
    clear hall
    have c3 := cell_blk (i := 3) b1
    have c0 := cell_blk (i := 0) b1
    simp only [encY, List.getElem?_toArray, List.getElem?_cons_zero, List.getElem?_cons_succ] at c3 c0
    by_cases hkn : k < y.ws.length
    · obtain ⟨b, off, rfl, hlt, hcell⟩ := HC.out (by omega)
      obtain ⟨q0, q1, q2, q3⟩ := wt_cells hcell (n := k) hkn rfl
      obtain ⟨p0, p1, p2, p3⟩ := wt_cells hcell (n := m) hm rfl
      rw [← at_lt hkn] at q0 q1 q2 q3
      rw [← at_lt hm] at p3
      replace q0 := (hB.cell (p := ⟨b, off + k * 4, none⟩) hlt).trans q0
      replace q1 := (hB.cell (p := ⟨b, off + k * 4 + 1, none⟩) hlt).trans q1
      replace q2 := (hB.cell (p := ⟨b, off + k * 4 + 2, none⟩) hlt).trans q2
      replace q3 := (hB.cell (p := ⟨b, off + k * 4 + 3, none⟩) hlt).trans q3
      replace p3 := (hB.cell (p := ⟨b, off + m * 4 + 3, none⟩) hlt).trans p3
      have hbv := HBV.out k
      have hmi : (m : Int) < (y.ws.length : Int) := by omega
      have hsk := sucK_succ y s m o k
      clear p0 p1 p2 hcell
      by_cases hnx : nx y m k = true
      · rw [if_pos hnx] at hbv
        have hsk2 : sucK y s m o (k + 1) = sucK y s m o k ++ (cL y s k o).map (fun c => (k, c)) := by rw [hsk]; unfold sucF; rw [if_pos hnx]
        have HSK := Lib.hid hsk2
        have HNX := Lib.hid hnx
        have hcb := HCB.out k hkn
        have hea := HEA.out k hkn
        have hcl := cL_len y s k o
        obtain ⟨wo, rfl⟩ : ∃ wo, wo = wr := ⟨_, rfl⟩
        have hE : Below wo.heap.size wo (wo.alloc (.cells #[.int .i64 (y.at_ k).comes, .int .i64 (y.at_ k).lo, .int .i64 (y.at_ k).hi, .int .i64 (y.at_ k).next] 86)) := (Below.refl _ _).alloc (Nat.le_refl _) _
        have bX : (wo.alloc (.cells #[.int .i64 (y.at_ k).comes, .int .i64 (y.at_ k).lo, .int .i64 (y.at_ k).hi, .int .i64 (y.at_ k).next] 86)).heap[wo.heap.size]? = some (.cells #[.int .i64 (y.at_ k).comes, .int .i64 (y.at_ k).lo, .int .i64 (y.at_ k).hi, .int .i64 (y.at_ k).next] 86 (0, 0)) := heap_newI rfl
        have b1' := blk_keep b1 hE
        have hB' := hB.trans (hE.mono hB.size)
        have HST := Lib.hid (And.intro hB' (And.intro b1' bX))
        clear hsk hsk2 hnx hB' b1' bX hE
        unfold come at hcb
        go_wp2
        go_loopw [11, 14] (fun q c wr => ∃ i : Nat, i ≤ (cL y s k o).length ∧ c = .int .i64 ((y.at_ k).lo + (i : Int)) ∧ q = .int .i64 (minT tab (sucK y s m o k ++ preC y s k o i)) ∧ (sucK y s m o k ++ preC y s k o i).all (inR y) = true ∧ Below w.heap.size w wr ∧ wr.heap[w.heap.size]? = some (.cells (encY y (.slice (some ⟨b, off, none⟩) y.ws.length cap)) 31 (0, 0)) ∧ wr.heap[wo.heap.size]? = some (.cells #[.int .i64 (y.at_ k).comes, .int .i64 (y.at_ k).lo, .int .i64 (y.at_ k).hi, .int .i64 (y.at_ k).next] 86 (0, 0))) (fun _ c _ => ((y.at_ k).hi + 1 - intOf c).toNat)
        case atStart => exact ⟨0, Nat.zero_le _, by simp, by simp [preC], by simp [preC]; simpa using HALL.out, HST.out.1, HST.out.2.1, HST.out.2.2⟩
        case round =>
          clear hB b1 c3 c0 q0 q1 q2 q3 p3 hbv
          obtain ⟨i, hi, rfl, rfl, hal2, hB, b1, bX⟩ := hrel
          have HAL2 := Lib.hid hal2
          clear hal2
          have c0 := cell_blk (i := 0) b1
          have x0 := cell_blk (i := 0) bX
          have x2 := cell_blk (i := 2) bX
          simp only [encY, List.getElem?_toArray, List.getElem?_cons_zero, List.getElem?_cons_succ] at c0 x0 x2
          by_cases hin : i < (cL y s k o).length
          · have hout := fun hb => HOUT.out k i hkn HNX.out hin hb
            have hps := preC_succ y s k o hin
            obtain ⟨x, hx⟩ : ∃ x, x = s + o * (y.at_ k).comes / 1000 - ((y.at_ k).lo + (i : Int)) := ⟨_, rfl⟩
            have hx2 : come y s k o - ((y.at_ k).lo + (i : Int)) = x := hx.symm
            rw [hx2] at hps hout
            have hinR : inR y (k, x) = btw 0 x y.room := rfl
            rw [hinR] at hout
            have HP := Lib.hid (And.intro hps (And.intro hout hx))
            clear hps hout hx hx2 hinR
            go_wp2_with fail
            refine (is_any _ _ _ _).mono ?_
            rintro e w' ⟨rfl, rfl⟩
            rw [← HP.out.2.2]
            cases e1 : btw 0 x y.room
            · have hf := HP.out.2.1 e1
              have HF := Lib.hid hf
              clear hf e1
              go_wp2
              go_ret
              exact ⟨by rw [HF.out]; rfl, hB⟩
            · obtain ⟨hx0, hx1⟩ := btw_true.1 e1
              obtain ⟨n, rfl⟩ := Int.eq_ofNat_of_zero_le hx0
              obtain ⟨b', off', ad2, cap2, he', hlt', hcell', hrow⟩ := HOP.out k (by rw [HTB.out.len]; exact hkn)
              have hrl := HTB.out.row k (by rw [HTB.out.len]; exact hkn)
              obtain ⟨ad3, cap3, he3, hm3, hcp3, hc3⟩ := hrow
              cases he3
              obtain ⟨b3, off3, he4, hlt3, hcell3⟩ := hc3 (by omega)
              have hz1 := (hB.cell (p := ⟨b', off' + k, none⟩) hlt').trans hcell'
              have hz2 := (hB.cell (p := ⟨b3, off3 + n, none⟩) hlt3).trans (hcell3 n (by omega))
              have hkt : (k : Int) < (tab.length : Int) := by rw [HTB.out.len]; omega
              rw [hrl] at hz1 hcp3 hm3
              have hnl : (n : Int) < ((y.room.toNat + 1 : Nat) : Int) := by omega
              subst he' he4
              have hmin : minT tab (sucK y s m o k ++ preC y s k o (i + 1)) = min (minT tab (sucK y s m o k ++ preC y s k o i)) (at0 (tabR tab k) n) := by
                rw [HP.out.1, ← List.append_assoc, minT_snoc]; rfl
              have hall2 : (sucK y s m o k ++ preC y s k o (i + 1)).all (inR y) = true := by
                rw [HP.out.1, ← List.append_assoc, List.all_append, HAL2.out]
                simp [inR, e1]
              have HN := Lib.hid (And.intro hmin hall2)
              clear hmin hall2 e1 hcell' hcell3 hc3
              go_wp2_with (refine wpList_min rfl _ _ _ rfl rfl rfl ?_)
              go_roundw
              case rel => exact ⟨i + 1, by omega, by go_num, by rw [HN.out.1], HN.out.2, hB, b1, bX⟩
              case measure => simp [intOf]; omega
          · have hie : i = (cL y s k o).length := by omega
            have hpe : preC y s k o i = (cL y s k o).map (fun c => (k, c)) := by unfold preC; rw [hie, List.take_length]
            have hn2 : sucK y s m o k ++ preC y s k o i = sucK y s m o (k + 1) := by rw [HSK.out, hpe]
            have HN := Lib.hid hn2
            clear hpe hn2
            go_wp2
            go_roundw
            case rel => exact ⟨k + 1, by omega, by go_num, by rw [HN.out], by rw [← HN.out]; exact HAL2.out, hB, b1⟩
            case measure => simp [intOf]; omega
      · have hz : sucK y s m o (k + 1) = sucK y s m o k := by rw [hsk]; unfold sucF; rw [if_neg hnx, List.append_nil]
        rw [if_neg hnx] at hbv
        have HZ := Lib.hid hz
        clear hsk hz hnx
        go_wp2
        go_roundw
        case rel => exact ⟨k + 1, by omega, by go_num, by rw [HZ.out], by rw [HZ.out]; exact HALL.out, hB, b1⟩
        case measure => simp [intOf]; omega
    · have hke : k = y.ws.length := by omega
      rw [hke] at HALL
      have hf := HFIN.out HALL.out
      rw [← hke] at hf
      have HF := Lib.hid hf
      clear hke hf
      go_wp2
      go_ret
      exact ⟨by rw [HF.out]; rfl, hB⟩
def bestK (y : Yd) (tab : List (List Int)) (s : Int) (m : Nat) (k : Nat) : Int := ((ordL y).take k).foldl (fun a o => max a (worstP y tab s m o)) (-1)
theorem bestK_succ (y : Yd) (tab : List (List Int)) (s : Int) (m : Nat) {k : Nat} (h : k < ordC y) : bestK y tab s m (k + 1) = max (bestK y tab s m k) (worstP y tab s m ((k : Int) * y.lots)) := by
  unfold bestK
  have hl : k < (ordL y).length := by rw [ordL_len]; exact h
  rw [List.take_succ_eq_append_getElem hl, List.foldl_append]
  simp [ordL]
theorem bestK_end (y : Yd) (tab : List (List Int)) (s : Int) (m : Nat) : bestK y tab s m (ordC y) = bestP y tab s m := by
  unfold bestK bestP; rw [← ordL_len, List.take_length]
set_option maxRecDepth 100000 in
set_option maxHeartbeats 4000000 in
theorem best_any (y : Yd) (v vt : Value) (tab : List (List Int)) (s : Int) (m : Nat) (w : World) (ok : Ok y) (tb : Tb y tab) (hm : m < y.ws.length) (hs : 0 ≤ s ∧ s ≤ 60) (hw : SlW w v y.ws) (ht : SlII w vt tab) :
    Calls Try.prog 53 #[.agg (encY y v), vt, .int .i64 s, .int .i64 m] w fun e w' => e = .returned (.int .i64 (bestP y tab s m)) ∧ Below w.heap.size w w' := by
  have hy4 : (encY y v).size = 4 := rfl
  have HW := Lib.hid (fun (o : Int) (ho : 0 ≤ o ∧ o ≤ 80) W (hW : Below w.heap.size w W) => worst_any y v vt tab s m o W ok tb hm hs ho (hw.below hW (Nat.le_refl _)) (ht.below hW (Nat.le_refl _)))
  have HOB := Lib.hid (fun k (hk : k ≤ ordC y) => ord_bound ok hk)
  have HOC := Lib.hid (fun k => ordC_le ok (k := k))
  have h41 := ordC_41 ok
  have hl0 := ok.lots0
  have hl1 := ok.lots1
  have hm1 := ok.most1
  have HKS := Lib.hid (fun k (h : k < ordC y) => bestK_succ y tab s m h)
  have hke := bestK_end y tab s m
  have hk0 : bestK y tab s m 0 = -1 := rfl
  have HKE := Lib.hid hke
  clear hke
  go_enter Try.func53, Try.ntmps53
  refine wp_seq_k (fun K hK => ?_)
  have HK := Lib.hid hK; clear hK
  go_wp2
  refine HK.out _ _ ?_; clear HK K
  generalize hw1 : World.alloc _ _ = w1
  obtain ⟨b1, hB, hs1⟩ := blk1 hw1
  clear hw1
  go_wp2
  go_loopw [9, 10] (fun q i wr => ∃ k : Nat, k ≤ ordC y ∧ i = .int .i64 ((k : Int) * y.lots) ∧ q = .int .i64 (bestK y tab s m k) ∧ Below w.heap.size w wr ∧ wr.heap[w.heap.size]? = some (.cells (encY y v) 31 (0, 0))) (fun _ i _ => 100 - (intOf i).toNat)
  case atStart => exact ⟨0, Nat.zero_le _, by simp, by rw [hk0], hB, b1⟩
  case round =>
    clear hB b1 hk0
    obtain ⟨k, hk, rfl, rfl, hB, b1⟩ := hrel
    have hbk := HOB.out k hk
    have c1 := cell_blk (i := 1) b1
    have c2 := cell_blk (i := 2) b1
    simp only [encY, List.getElem?_toArray, List.getElem?_cons_zero, List.getElem?_cons_succ] at c1 c2
    obtain ⟨o, ho⟩ : ∃ o : Int, o = k * y.lots := ⟨_, rfl⟩
    rw [← ho] at hbk ⊢
    by_cases hkn : k < ordC y
    · have hle : o ≤ y.most := by rw [ho]; exact (HOC.out k).2 hkn
      have hks := HKS.out k hkn
      rw [← ho] at hks
      have hnx : o + y.lots = ((k + 1 : Nat) : Int) * y.lots := by rw [ho]; push_cast; rw [Int.add_mul]; omega
      have HN := Lib.hid (And.intro hnx hks)
      have hwo := HW.out o hbk wr hB
      clear hnx hks ho
      go_wp2_with (first | (refine wpList_load_blk rfl 31 _ rfl _ rfl b1 Try.underlying31 rfl size31 hy4 ?_) | (go_at_call 58; refine hwo.mono ?_; rintro e w2 ⟨rfl, hb2⟩; replace b1 := blk_keep b1 hb2; replace hB := hB.trans (hb2.mono hB.size); have c2 := cell_blk (i := 2) b1; simp only [encY, List.getElem?_toArray, List.getElem?_cons_zero, List.getElem?_cons_succ] at c2) | (refine wpList_max rfl _ _ _ rfl rfl rfl ?_))
      go_roundw
      case rel => exact ⟨k + 1, by omega, by rw [HN.out.1], by rw [HN.out.2], hB, b1⟩
      case measure => simp [intOf]; omega
    · have hgt : ¬ o ≤ y.most := by rw [ho]; exact fun h => hkn ((HOC.out k).1 h)
      have hke : k = ordC y := by omega
      have hf : bestK y tab s m k = bestP y tab s m := by rw [hke]; exact HKE.out
      have HF := Lib.hid hf
      clear hke ho hf
      go_wp2
      go_ret
      exact ⟨by rw [← HF.out]; rfl, hB⟩
end Ytndmjginmomfiaa
end Go.Proofs
