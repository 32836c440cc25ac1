/- Pans: slowest: the pace, its timetable and a cycle that has it. -/
import Derived.Test.YteileadcmekkoaaQ8
import Derived.Lib.SliceRun
open Go Go.RowKit Go.YteileadcmekkoaaIt
namespace Go.Proofs
namespace Yteileadcmekkoaa
open PanPlain (Ed St rounds runTo upd it pf Back backC Path Cyc frm wgt)
/-- A timetable keeps a period. -/
def Keeps (ws : List Wa) (num den : Int) (y : Nat → Int) : Prop := ∀ (j : Nat) (e : Ed), (eds ws num den)[j]? = some e → y e.f + e.w ≤ y e.t
theorem Keeps.get {ws : List Wa} {num den : Int} {y : Nat → Int} (h : Keeps ws num den y) {i : Nat} (hi : i < ws.length) : y (at_ ws i).f.toNat + ((at_ ws i).hi * den - (at_ ws i).b * num) ≤ y (at_ ws i).t.toNat := h i _ (eds_get hi)
theorem Keeps.of {ws : List Wa} {num den : Int} {y : Nat → Int} (h : ∀ i, i < ws.length → y (at_ ws i).f.toNat + ((at_ ws i).hi * den - (at_ ws i).b * num) ≤ y (at_ ws i).t.toNat) : Keeps ws num den y := fun j e he => by
  obtain ⟨hl, rfl⟩ := eds_some he
  exact h j hl
/-- The pace, the least timetable for it, and a cycle. -/
structure Slow (n : Nat) (ws : List Wa) (num den : Nat) (X : Nat → Int) (l : List Nat) : Prop where
  b : num ≤ 100000 ∧ 1 ≤ den ∧ den ≤ 40
  keep : Keeps ws num den X
  nn : ∀ v, 0 ≤ X v
  hi : ∀ v, X v ≤ 160000000
  least : ∀ y : Nat → Int, Keeps ws num den y → (∀ v, 0 ≤ y v) → ∀ v, X v ≤ y v
  cyc : (l = [] ∧ num = 0 ∧ den = 1) ∨ (CycP n ws num den l ∧ 1 ≤ num)
theorem SlI.fresh {w w' : World} {v : Value} {xs : List Int} {B : Nat} (h : SlI w v xs) (hf : FrS B v) (hs : w.heap.size ≤ w'.heap.size) (hk : ∀ k, B ≤ k → k < w.heap.size → w'.heap[k]? = w.heap[k]?) : SlI w' v xs := by
  obtain ⟨ad, cap, rfl, h1, h2, h3⟩ := h
  obtain ⟨g, n, c, he, hg⟩ := hf
  injection he with e1 e2 e3
  refine ⟨ad, cap, rfl, h1, h2, fun h0 => ?_⟩
  obtain ⟨b, off, rfl, hb, hc⟩ := h3 h0
  injection e1 with e1
  injection e1 with e1 e4 e5
  subst e1
  exact ⟨b, off, rfl, Nat.lt_of_lt_of_le hb hs, fun i hi => (World.cell?_of_block (a := ⟨b, off + i, none⟩) (hk b hg hb)).trans (hc i hi)⟩
theorem slI_putO {w : World} {v : Value} {xs : List Int} {B b : Nat} {o' : Obj} (h : SlI w v xs) (hf : FrS B v) (hb : b < B) : SlI (w.putObj b o') v xs :=
  h.fresh hf (by simp) fun k hk _ => World.putObj_heap_other (by omega)
/-- A slice that is nil, or new. -/
def NilOr (B : Nat) (w : World) (v : Value) (xs : List Int) : Prop := SlI w v xs ∧ (xs = [] → v = .slice none 0 0) ∧ (xs ≠ [] → FrS B v)
theorem NilOr.put {B b : Nat} {w : World} {v : Value} {xs : List Int} {o' : Obj} (h : NilOr B w v xs) (hb : b < B) : NilOr B (w.putObj b o') v xs := by
  refine ⟨?_, h.2⟩
  by_cases hx : xs = []
  · rw [h.2.1 hx, hx]; exact slI_nil _
  · exact slI_putO h.1 (h.2.2 hx) hb
theorem NilOr.below {B n : Nat} {w w' : World} {v : Value} {xs : List Int} (h : NilOr B w v xs) (hb : Below n w w') (hn : w.heap.size ≤ n) : NilOr B w' v xs := ⟨h.1.below hb hn, h.2⟩
theorem nilOr_lo {B B' : Nat} {w : World} {v : Value} {xs : List Int} (hb : B ≤ B') (h : NilOr B' w v xs) : NilOr B w v xs := ⟨h.1, h.2.1, fun hx => by obtain ⟨g, n, c, e, hg⟩ := h.2.2 hx; exact ⟨g, n, c, e, by omega⟩⟩
theorem rise_split {n : Nat} {ws : List Wa} {num den : Int} {e : Ending} {w' : World} {B : Nat} (h : RiseR B n ws num den e w') : ∃ t c, e = .returned (.tuple #[t, c]) ∧
    ((∃ r, r ≤ n ∧ (rounds (eds ws num den) (r + 1)).ra = none ∧ c = .slice none 0 0 ∧ SlI w' t ((List.range n).map (rounds (eds ws num den) r).x) ∧ FrS B t) ∨
     (∃ v k, (rounds (eds ws num den) (n + 1)).ra = some v ∧ Back (eds ws num den) (rounds (eds ws num den) (n + 1)) n (it (pf (eds ws num den) (rounds (eds ws num den) (n + 1))) n v) k ∧ t = .slice none 0 0 ∧
      SlI w' c ((backC (eds ws num den) (rounds (eds ws num den) (n + 1)) (it (pf (eds ws num den) (rounds (eds ws num den) (n + 1))) n v) k).reverse.map fun (i : Nat) => (i : Int)) ∧ FrS B c)) := by
  rcases h with ⟨r, h1, h2, u, rfl, h3⟩ | ⟨v, k, u, h1, h2, rfl, h3, h4⟩
  · exact ⟨_, _, rfl, .inl ⟨r, h1, h2, rfl, h3⟩⟩
  · exact ⟨_, _, rfl, .inr ⟨v, k, h1, h2, rfl, h3, h4⟩⟩
/-- Results: a struct or an array in memory, and two values. -/
theorem results_agg_tmp2 {P : Program} {fn : Func} {p u z : Tmp} {ty : TypeId} (h : fn.results = #[.cell p ty, .tmp u, .tmp z]) (tmps : Array Value) (w : World) (g : Nat) {t : TypeId} {cs : Array Value} {fr : Nat × Nat} {d : TypeDesc}
    (hp : tmps.getD p undef = .pointer (some ⟨g, 0, none⟩)) (hg : w.heap[g]? = some (.cells cs t fr))
    (hu : P.underlying ty = some d) (hd : (match d with | .struct _ | .array _ _ => true | _ => false) = true) {k : Nat} (hi : (P.info? ty).map (·.size) = some k) (hk : cs.size = k) :
    (results fn tmps).run P w = .ok (.tuple #[.agg cs, tmps.getD u undef, tmps.getD z undef]) w := by
  subst hk
  have hp' : tmps[p]?.getD undef = .pointer (some ⟨g, 0, none⟩) := by simpa using hp
  simp [results, h, hp', asAddr, run_loadVar_row w g t ty cs fr d hg hu hd hi]
/-- What rise answers at its end is the least timetable. -/
theorem slow_of {n : Nat} {ws : List Wa} (hv : Val n ws) {num den r : Nat} {l : List Nat} (hn : num ≤ 100000) (hd : 1 ≤ den ∧ den ≤ 40) (hr : r ≤ n) (hra : (rounds (eds ws num den) (r + 1)).ra = none) (hc : (l = [] ∧ num = 0 ∧ den = 1) ∨ (CycP n ws num den l ∧ 1 ≤ num)) :
    Slow n ws num den (rounds (eds ws num den) r).x l := by
  refine ⟨⟨hn, hd⟩, (PanPlain.steady hra).1, PanPlain.rounds_nonneg _ r, fun v => ?_, fun y hy h0 v => PanPlain.rounds_least hy h0 r v, hc⟩
  have h1 := (PanPlain.fin_bound (hv.wt (num := num) (den := den) (by omega) (by omega)) (by omega) r v).2
  have hn10 := hv.n1
  have h2 : ((r * (eds ws num den).length : Nat) : Int) ≤ 400 := by
    rw [eds_len]
    have := Nat.mul_le_mul (by omega : r ≤ 10) hv.len
    omega
  have h3 : ((r * (eds ws num den).length : Nat) : Int) * (10000 * (den : Int)) ≤ 400 * 400000 := Int.mul_le_mul h2 (by omega) (by omega) (by omega)
  omega
def natOf : Option Value → Nat
  | some (.int _ i) => i.toNat
  | _ => 0
theorem size24 : (Try.prog.info? 24).map (·.size) = some 2 := by kernel_rfl
set_option maxRecDepth 100000 in
set_option maxHeartbeats 4000000 in
theorem slow_any (n : Nat) (v : Value) (ws : List Wa) (w : World) (hV : Val n ws) (hs : NS ws) (hv : SlA w v ws) :
    Calls Try.prog 52 #[.agg #[.int .i64 n, v]] w fun e w' => ∃ num den X l t c, e = .returned (.tuple #[.agg #[.int .i64 (num : Nat), .int .i64 (den : Nat)], t, c]) ∧ Slow n ws num den X l ∧
      SlI w' t ((List.range n).map X) ∧ NilOr w.heap.size w' c (l.map fun (i : Nat) => (i : Int)) ∧ Below w.heap.size w w' := by
  have HV := Lib.hid hv
  have HN := Lib.hid (And.intro hV hs)
  obtain ⟨ad, cap, rfl, -, -, -⟩ := hv
  clear hV hs
  have h52 : ∀ (num den : Nat) (W : World), num ≤ 100000 → 1 ≤ den ∧ den ≤ 40 → Below w.heap.size w W → _ := fun num den W h1 h2 hB => rise_any n (.slice ad ws.length cap) ws num den W HN.out.1 (HV.out.below hB (Nat.le_refl _)) (by omega) (by omega)
  have H73 := Lib.hid h52
  clear h52
  have qT : ∀ (w : World) (a : Option Addr) (n c n' c' : Nat), (binOp .eql 45 (.slice a n c) (.slice none n' c')).run Try.prog w = .ok (.bool a.isNone) w := fun w a n c n' c' => Lib.run_eql_slice_nil w _ _ a n c n' c' Try.underlying45
  go_enter Try.func52, Try.ntmps52
  refine wp_seq_k (fun K hK => ?_)
  have HK := Lib.hid hK; clear hK
  go_wp2
  refine HK.out _ _ ?_; clear HK K
  refine wp_seq_k (fun K hK => ?_)
  have HK := Lib.hid hK; clear hK
  go_wp2
  refine HK.out _ _ ?_; clear HK K
  generalize hw1 : World.alloc _ _ = w1
  obtain ⟨b1, b2, hB, hs1⟩ := blk2 hw1
  clear hw1
  go_wp2
  go_loopw [4] (fun c wr => ∃ (num den : Nat) (l : List Nat), num ≤ 100000 ∧ (1 ≤ den ∧ den ≤ 40) ∧ wr.heap[w.heap.size]? = some (.cells #[.int .i64 n, .slice ad ws.length cap] 24 (0, 0)) ∧ wr.heap[w.heap.size + 1]? = some (.cells #[.int .i64 num, .int .i64 den] 26 (0, 0)) ∧ Below w.heap.size w wr ∧
    ((l = [] ∧ num = 0 ∧ den = 1) ∨ (CycP n ws num den l ∧ 1 ≤ num)) ∧ NilOr (w.heap.size + 2) wr c (l.map fun (i : Nat) => (i : Int))) (fun _ wr => mu (natOf (wr.cell? ⟨w.heap.size + 1, 0, none⟩)) (natOf (wr.cell? ⟨w.heap.size + 1, 1, none⟩)))
  case atStart => exact ⟨0, 1, [], by omega, by omega, b1, b2, hB, .inl ⟨rfl, rfl, rfl⟩, slI_nil _, fun _ => rfl, fun h => absurd rfl h⟩
  case round =>
    clear b1 b2 hB
    obtain ⟨num, den, l, hnm, hdn, b1, b2, hB, hcy, hsl⟩ := hrel
    have HC := Lib.hid (And.intro hcy hsl)
    clear hcy hsl
    have h73 := H73.out num den wr hnm hdn hB
    refine wp_block ?_
    refine wp_seq_k (fun K hK => ?_)
    have HK := Lib.hid hK; clear hK
    go_wp2_with (first | (refine wpList_load_blk rfl 24 _ rfl _ rfl b1 Try.underlying24 rfl size24 rfl ?_) | (refine wpList_load_blk rfl 26 _ rfl _ rfl b2 Try.underlying26 rfl size26 rfl ?_) | (go_at_call 73; refine h73.mono ?_; rintro e w2 ⟨hb2, hR⟩; obtain ⟨t, c, rfl, hR2⟩ := rise_split hR; clear hR; replace hR2 := Lib.hid hR2))
    refine HK.out _ _ ?_; clear HK K
    have HWB := Lib.hid b2
    replace b1 := blk_keep b1 hb2
    replace b2 := blk_keep b2 hb2
    have HWR := Lib.hid hB
    have HC2 := Lib.hid (HC.out.2.below hb2 (Nat.le_refl _))
    replace hB := btr hB hb2 (Nat.le_refl _)
    clear h73
    rcases hR2.out with ⟨r, hr, hra, rfl, hu, hf⟩ | ⟨v0, k, hra, hbk, rfl, hu, hf⟩
    · refine wp_seq_k (fun K hK => ?_)
      have HK := Lib.hid hK; clear hK
      go_wp2_with (first | (refine wpList_load_blk rfl 26 _ rfl _ rfl b2 Try.underlying26 rfl size26 rfl ?_) | (refine wpList_store_blk rfl 26 _ _ rfl _ rfl rfl b2 size26 rfl rfl (by simp [Value.oneCell']) ?_))
      obtain ⟨hcy, hsl⟩ := HC.out
      have hsz := hB.size
      have hwz := lt_blk HWB.out
      exact bodyPost_ret (results_agg_tmp2 rfl _ _ (w.heap.size + 1) rfl (World.putObj_heap_same (lt_blk b2)) Try.underlying26 rfl size26 rfl) rfl ⟨num, den, _, l, t, _, rfl, slow_of HN.out.1 hnm hdn hr hra hcy, slI_putO hu hf (by omega), nilOr_lo (by omega) (HC2.out.put (by omega)), below_putObj hB (by omega)⟩
    · obtain ⟨gu, lu, cu, rfl, hgu⟩ := hf
      refine wp_seq_k (fun K hK => ?_)
      have HK := Lib.hid hK; clear hK
      go_wp2
      refine HK.out _ _ ?_; clear HK K
      have hcy := (PanPlain.back_cyc hbk).1
      have hll := (PanPlain.back_cyc hbk).2.2
      have hb1 := cyc_bk HN.out.1 HN.out.2 hcy
      have hlt := path_lt hcy.path
      have hn10 := HN.out.1.n1
      have hsz := HWR.out.size
      have hwz := lt_blk HWB.out
      have HZ := Lib.hid (show w.heap.size + 1 < wr.heap.size by omega)
      have HZ2 := Lib.hid (show w.heap.size + 2 ≤ gu by omega)
      have h65 := period_any n (.slice ad ws.length cap) (.slice (some ⟨gu, 0, none⟩) lu cu) ws _ w2 (HV.out.below hB (Nat.le_refl _)) hu HN.out.1.bnd hlt (by omega) hb1
      go_wp2_with (first | (refine wpList_load_blk rfl 24 _ rfl _ rfl b1 Try.underlying24 rfl size24 rfl ?_) | (go_at_call 65; refine h65.mono ?_; rintro e w3 ⟨p, q, hp, hq, rfl, hb3⟩; have HF := Lib.hid (found_more HN.out.1 HN.out.2 hbk hp hq); clear hp hq; have b13 := blk_keep b1 hb3; have b23 := blk_keep b2 hb3; have hB3 := btr hB hb3 (Nat.le_refl _); have hu3 := hu.below hb3 (Nat.le_refl _)) | (refine wpList_store_blk rfl 26 _ _ rfl _ rfl rfl b23 size26 rfl rfl (by simp [Value.oneCell']) ?_))
      go_roundw
      case rel =>
        obtain ⟨h1, h2, h3, h4⟩ := HF.out
        have hP : 1 ≤ p / Nat.gcd p q := Nat.pos_of_ne_zero fun e => by rw [e] at h4; omega
        have hne : (backC (eds ws num den) (rounds (eds ws num den) (n + 1)) (it (pf (eds ws num den) (rounds (eds ws num den) (n + 1))) n v0) k).reverse ≠ [] := hcy.ne
        exact ⟨_, _, _, h2, h3, (World.putObj_heap_other (by omega)).trans b13, World.putObj_heap_same (lt_blk b23), below_putObj hB3 (by omega), .inr ⟨h1, hP⟩, slI_putO hu3 ⟨gu, lu, cu, rfl, hgu⟩ HZ.out, fun e => absurd (List.map_eq_nil_iff.1 e) hne, fun _ => ⟨gu, lu, cu, rfl, HZ2.out⟩⟩
      case measure =>
        obtain ⟨h1, h2, h3, h4⟩ := HF.out
        rw [cell_blk (World.putObj_heap_same (lt_blk b23)), cell_blk (World.putObj_heap_same (lt_blk b23)), cell_blk HWB.out, cell_blk HWB.out]
        show mu (((p / Nat.gcd p q : Nat) : Int).toNat) (((q / Nat.gcd p q : Nat) : Int).toNat) < mu ((num : Int).toNat) ((den : Int).toNat)
        simp only [Int.toNat_natCast]
        exact mu_lt hdn h3 h2 h4
end Yteileadcmekkoaa
end Go.Proofs
