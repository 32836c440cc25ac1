/- Laws of rotation: lists of years, where they end. -/
import Derived.Test.YtnjgglnpmhjmiaaA6
open Go Go.RowKit Go.YtnjgglnpmhjmiaaIt
open Rest
namespace Go.Proofs
namespace Ytnjgglnpmhjmiaa
/-- The error of a list of years. -/
def lstE (l : Lw) (ys : List Int) : Int := if 60 < ys.length then 14 else if ys.any (fun c => !btw 0 c ((l.k : Int) - 1)) then 5 else 0
def YsOk (l : Lw) (ys : List Int) : Prop := ∀ c ∈ ys, 0 ≤ c ∧ c < (l.k : Int)
theorem lstE_ok {l : Lw} {ys : List Int} (h : lstE l ys = 0) : ys.length ≤ 60 ∧ YsOk l ys := by
 unfold lstE at h
 split at h; · omega
 rename_i h1
 split at h; · omega
 rename_i h2
 refine ⟨by omega, fun c hc => ?_⟩
 have : ¬ ((!btw 0 c ((l.k : Int) - 1)) = true) := fun e => h2 (List.any_eq_true.2 ⟨c, hc, e⟩)
 have : btw 0 c ((l.k : Int) - 1) = true := by simpa using this
 rw [btw_true] at this
 omega
theorem ok_lstE {l : Lw} {ys : List Int} (h1 : ys.length ≤ 60) (h : YsOk l ys) : lstE l ys = 0 := by
 unfold lstE
 rw [if_neg (by omega), if_neg]
 intro e
 obtain ⟨c, hc, e⟩ := List.any_eq_true.1 e
 have := h c hc
 have : btw 0 c ((l.k : Int) - 1) = true := by rw [btw_true]; omega
 simp [this] at e
def runI (l : Lw) (s : Int) (ys : List Int) : Int := ys.foldl (fun s c => l.at s c.toNat) s
def endI (l : Lw) (lists : List (List Int)) : Int := lists.foldl (runI l) 0
theorem runI_st {l : Lw} (ho : l.Ok) : ∀ {ys : List Int} {s : Int}, l.st s → YsOk l ys → l.st (runI l s ys)
 | [], s, hs, _ => hs
 | c :: ys, s, hs, h => by
  have hc := h c (by simp)
  have : c.toNat < l.k := by omega
  exact runI_st ho (ys := ys) (ho.cl hs this) (fun d hd => h d (List.mem_cons_of_mem _ hd))
theorem runI_snoc (l : Lw) (s : Int) (ys : List Int) (c : Int) : runI l s (ys ++ [c]) = l.at (runI l s ys) c.toNat := by simp [runI]
theorem endI_snoc (l : Lw) (lists : List (List Int)) (ys : List Int) : endI l (lists ++ [ys]) = runI l (endI l lists) ys := by simp [endI]
theorem endI_st {l : Lw} (ho : l.Ok) {lists : List (List Int)} (h : ∀ ys ∈ lists, YsOk l ys) : l.st (endI l lists) := by
 unfold endI
 have : ∀ (ls : List (List Int)) (s : Int), l.st s → (∀ ys ∈ ls, YsOk l ys) → l.st (ls.foldl (runI l) s) := by
  intro ls
  induction ls with
  | nil => intro s hs _; exact hs
  | cons a ls ih => intro s hs h; exact ih _ (runI_st ho hs (h a (by simp))) (fun ys hy => h ys (List.mem_cons_of_mem _ hy))
 exact this lists 0 ho.st0 h
set_option maxRecDepth 100000 in
theorem none102_any {g : Nat} {l : Lw} {vn vg : Value} {w : World} (h : LawX w g 25 l vn vg) (h0 : l.nx ≠ []) (hk : l.k ≤ 1000) (x : Int) : Calls Try.prog 102 (#[.int .i64 x] ++ #[.pointer (some ⟨g, 0, none⟩)]) w fun e w' => e = .returned (.bool (!btw 0 x ((l.k : Int) - 1))) ∧ Below w.heap.size w w' := by
 have H85 := Lib.hid (crops_any h.law h0)
 have hb := h.blk
 have hw : wrap64 ((l.k : Int) - 1) = (l.k : Int) - 1 := IntWalk.wrap64_in _ (by omega)
 clear h
 go_enter Try.func102, Try.ntmps102
 go_wp2_with (first | (refine wpList_load_blk rfl 25 _ rfl _ rfl hb Try.underlying25 rfl size25 rfl ?_) | (go_at_call 85; refine H85.out.mono ?_; rintro e w2 ⟨rfl, hb2⟩) | (go_at_call 64; refine (between_any 0 x ((l.k : Int) - 1) _).mono ?_; rintro e w3 ⟨rfl, rfl⟩))
 go_ret
 exact ⟨rfl, hb2⟩
set_option maxRecDepth 100000 in
set_option maxHeartbeats 1000000 in
theorem check76_any {v vy : Value} {l : Lw} {ys : List Int} {w : World} (h : LawA w v l) (ho : l.Ok) (hy : SlI w vy ys) : Calls Try.prog 76 #[v, vy] w fun e w' => e = .returned (.int .i64 (lstE l ys)) ∧ Below w.heap.size w w' := by
 obtain ⟨vn, vg, rfl, hn, hg⟩ := h
 have hX := LawA.box (⟨_, _, rfl, hn, hg⟩ : LawA w (.agg #[vn, vg]) l) 25
 have hB1 := (Below.refl w.heap.size w).alloc (Nat.le_refl _) (.cells #[vn, vg] 25)
 have hY1 := hy.below hB1 (Nat.le_refl _)
 obtain ⟨bad, hbad⟩ : ∃ q, q = ys.any (fun c => !btw 0 c ((l.k : Int) - 1)) := ⟨_, rfl⟩
 have HC87 : Hid (Calls Try.prog 87 #[vy, .func (.func 102) #[] #[.pointer (some ⟨w.heap.size, 0, none⟩)]] (w.alloc (.cells #[vn, vg] 25)) fun e w' => e = .returned (.bool bad) ∧ Below (w.alloc (.cells #[vn, vg] 25)).heap.size (w.alloc (.cells #[vn, vg] 25)) w') := Lib.hid (by
  rw [hbad]
  exact cont87_any _ ys 102 _ _ _ hY1 (enters_of Try.func102 (by kernel_rfl) rfl) fun x _ U hU => none102_any (hX.below hU) ho.ne (by have := ho.k4; omega) x)
 obtain ⟨ad, c, rfl⟩ := slI_form hy
 have HE : Hid (lstE l ys = if 60 < ys.length then 14 else if bad = true then 5 else 0) := Lib.hid (by rw [hbad]; rfl)
 have HB1 := Lib.hid hB1
 clear hn hg hX hB1 hy hbad ho hY1
 by_cases h1 : 60 < ys.length
 ·have he : lstE l ys = 14 := by rw [HE.out, if_pos h1]
  have hb : decide ((60 : Int) < (ys.length : Int)) = true := by simp; omega
  rw [he]
  clear he h1
  go_enter Try.func76, Try.ntmps76
  go_wp2
  go_ret
  exact ⟨rfl, HB1.out⟩
 have hb : decide ((60 : Int) < (ys.length : Int)) = false := by simp; omega
 cases bad
 ·have he : lstE l ys = 0 := by rw [HE.out, if_neg h1, if_neg (by simp)]
  rw [he]
  clear he h1
  go_enter Try.func76, Try.ntmps76
  go_wp2_with (go_at_call 87; refine HC87.out.mono ?_; rintro e w2 ⟨rfl, hb2⟩)
  go_ret
  exact ⟨rfl, btr HB1.out hb2 (Nat.le_refl _)⟩
 ·have he : lstE l ys = 5 := by rw [HE.out, if_neg h1, if_pos rfl]
  rw [he]
  clear he h1
  go_enter Try.func76, Try.ntmps76
  go_wp2_with (go_at_call 87; refine HC87.out.mono ?_; rintro e w2 ⟨rfl, hb2⟩)
  go_ret
  exact ⟨rfl, btr HB1.out hb2 (Nat.le_refl _)⟩
theorem slII_len {w : World} {v : Value} {rows : List (List Int)} (h : SlII w v rows) : rows.length ≤ 140737488355328 := by
 obtain ⟨vs, ⟨ad, cap, e, hm, hc, _⟩, hl, _⟩ := h
 omega
set_option maxRecDepth 100000 in
set_option maxHeartbeats 4000000 in
theorem end77_any {v vl : Value} {l : Lw} {lists : List (List Int)} {w : World} (h : LawA w v l) (ho : l.Ok) (hl : SlII w vl lists) (hv : ∀ ys ∈ lists, YsOk l ys) : Calls Try.prog 77 #[v, vl] w fun e w' => e = .returned (.int .i64 (endI l lists)) ∧ Below w.heap.size w w' := by
 obtain ⟨vn, vg, rfl, hn, hg⟩ := h
 obtain ⟨an, cn, rfl, hcn⟩ := slII_form hn
 have hllen := slII_len hl
 obtain ⟨al, cl, rfl, hcl⟩ := slII_form hl
 have hX := LawA.box (⟨_, _, rfl, hn, hg⟩ : LawA w (.agg #[.slice an l.nx.length cn, vg]) l) 25
 have hB1 := (Below.refl w.heap.size w).alloc (Nat.le_refl _) (.cells #[.slice an l.nx.length cn, vg] 25)
 have hL1 := hl.below hB1 (Nat.le_refl _)
 obtain ⟨w1, hw1⟩ : ∃ q, q = w.alloc (.cells #[.slice an l.nx.length cn, vg] 25) := ⟨_, rfl⟩
 obtain ⟨g, hgw⟩ : ∃ q, q = w.heap.size := ⟨_, rfl⟩
 go_enter Try.func77, Try.ntmps77
 refine wp_seq_k (fun K hK => ?_)
 have HK := Lib.hid hK; clear hK
 have HW := Lib.hid (And.intro hw1 hgw)
 clear hw1 hgw
 go_wp2
 refine HK.out _ _ ?_; clear HK
 obtain ⟨hw1, hgw⟩ := HW.out
 rw [← hw1] at hX hL1 hB1 ⊢
 rw [← hgw] at hX hB1 ⊢
 have c0 := cell_blk (i := 0) hX.blk
 simp only [List.getElem?_toArray, List.getElem?_cons_zero] at c0
 have HX := Lib.hid hX
 have HL1 := Lib.hid hL1
 have HB1 := Lib.hid hB1
 have HO := Lib.hid ho
 have HV := Lib.hid hv
 clear hw1 hgw HW hX hL1 hB1 hn hg hl ho hv
 go_wp2
 go_loopw [5, 12] (fun s i wr => ∃ k : Nat, k ≤ lists.length ∧ i = .int .i64 k ∧ s = .int .i64 (endI l (lists.take k)) ∧ w1 = wr) (fun _ i _ => lists.length - (intOf i).toNat)
 case atStart => exact ⟨0, Nat.zero_le _, rfl, rfl, rfl⟩
 case round =>
  obtain ⟨k, hk, rfl, rfl, rfl⟩ := hrel
  by_cases hkn : k < lists.length
  ·have hki : (k : Int) < (lists.length : Int) := by omega
   obtain ⟨b, off, a, cc, rfl, hbl, hcell, hrow⟩ := HL1.out.row hkn
   have hst : l.st (endI l (lists.take k)) := endI_st HO.out fun ys hy => HV.out ys (List.mem_of_mem_take hy)
   have hyk := HV.out _ (List.getElem_mem hkn)
   have hend : Hid (endI l (lists.take (k + 1)) = runI l (endI l (lists.take k)) lists[k]) := Lib.hid (by rw [List.take_succ_eq_append_getElem hkn, endI_snoc])
   obtain ⟨ys, hys⟩ : ∃ ys, ys = lists[k] := ⟨_, rfl⟩
   obtain ⟨s0, hs0⟩ : ∃ s, s = endI l (lists.take k) := ⟨_, rfl⟩
   rw [← hys] at hcell hrow hyk hend
   rw [← hs0] at hst hend ⊢
   have HS := Lib.hid (And.intro hst hyk)
   obtain ⟨ad', cap', e', hylen, -, hcc⟩ := hrow
   injection e' with e1 e2 e3
   subst e1
   have HCC := Lib.hid hcc
   clear hst hyk hys hs0 hcc e2 e3
   go_wp2
   go_loopw [5, 18] (fun s i wr => ∃ j : Nat, j ≤ ys.length ∧ i = .int .i64 j ∧ s = .int .i64 (runI l s0 (ys.take j)) ∧ w1 = wr) (fun _ i _ => ys.length - (intOf i).toNat)
   case atStart => exact ⟨0, Nat.zero_le _, rfl, rfl, rfl⟩
   case round =>
    obtain ⟨j, hj, rfl, rfl, rfl⟩ := hrel
    by_cases hjn : j < ys.length
    ·have hji : (j : Int) < (ys.length : Int) := by omega
     obtain ⟨b2, off2, rfl, hb2, hcell2⟩ := HCC.out (by omega)
     have c2 := hcell2 j hjn
     rw [at0_lt hjn] at c2
     have hs1 : l.st (runI l s0 (ys.take j)) := runI_st HO.out HS.out.1 fun c hc => HS.out.2 c (List.mem_of_mem_take hc)
     have hcy := HS.out.2 _ (List.getElem_mem hjn)
     have hnx : Hid (runI l s0 (ys.take (j + 1)) = l.at (runI l s0 (ys.take j)) (ys[j]).toNat) := Lib.hid (by rw [List.take_succ_eq_append_getElem hjn, runI_snoc])
     obtain ⟨c, hc⟩ : ∃ c : Nat, ys[j] = (c : Int) := ⟨(ys[j]).toNat, by omega⟩
     rw [hc] at c2 hcy hnx
     rw [show ((c : Nat) : Int).toNat = c from rfl] at hnx
     obtain ⟨s1, hs1e⟩ : ∃ s, s = runI l s0 (ys.take j) := ⟨_, rfl⟩
     rw [← hs1e] at hs1 hnx ⊢
     obtain ⟨m, rfl, hm⟩ := hs1.nat
     have hck : c < l.k := by omega
     obtain ⟨h2, e⟩ := HO.out.at_eq hm hck
     obtain ⟨b3, off3, a3, cc3, rfl, hb3, hcell3, hrow3⟩ := HX.out.nx.row hm
     obtain ⟨ad3, cap3, e3, -, -, hcc3⟩ := hrow3
     injection e3 with e4 e5 e6
     subst e4
     obtain ⟨b4, off4, rfl, hb4, hcell4⟩ := hcc3 (by omega)
     have c4 := hcell4 c h2
     rw [at0_lt h2, ← e] at c4
     have hsl : (m : Int) < (l.nx.length : Int) := by omega
     have hcl3 : (c : Int) < ((l.nx[m]).length : Int) := by omega
     obtain ⟨rl, hrl⟩ : ∃ q, q = (l.nx[m]).length := ⟨_, rfl⟩
     rw [← hrl] at hcell3 hcl3
     obtain ⟨rv, hrv⟩ : ∃ q, q = l.at (m : Int) c := ⟨_, rfl⟩
     rw [← hrv] at c4 hnx
     clear hcell2 hc hs1e e hcc3 hcell4 hrv e5 e6 hs1 h2
     clear hrl
     go_wp2
     refine ⟨⟨j + 1, by omega, by go_num, by rw [hnx.out], trivial⟩, ?_⟩
     simp only [intOf]; omega
    ·have hji : ¬ (j : Int) < (ys.length : Int) := by omega
     have hje : j = ys.length := by omega
     subst hje
     rw [List.take_length]
     have hend2 := hend.out
     obtain ⟨s2, hs2⟩ : ∃ s, s = runI l s0 ys := ⟨_, rfl⟩
     rw [← hs2] at hend2 ⊢
     have HE2 := Lib.hid hend2
     clear hs2 hend2
     go_wp2
     refine ⟨⟨k + 1, by omega, by go_num, by rw [HE2.out], trivial⟩, ?_⟩
     simp only [intOf]; omega
  ·have hki : ¬ (k : Int) < (lists.length : Int) := by omega
   have hke : k = lists.length := by omega
   subst hke
   rw [List.take_length]
   go_wp2
   go_ret
   exact ⟨rfl, HB1.out⟩
end Ytnjgglnpmhjmiaa
end Go.Proofs
/- Laws of rotation: Allows. -/
open Go Go.RowKit Go.YtnjgglnpmhjmiaaIt
open Rest
namespace Go.Proofs
namespace Ytnjgglnpmhjmiaa
def allowsE (l : Lw) (ys : List Int) : Int := if chkL l = 0 then lstE l ys else chkL l
def allowsB (l : Lw) (ys : List Int) : Bool := decide (allowsE l ys = 0) && l.good (runI l 0 ys)
theorem slII_one {w : World} {a : Option Addr} {n c : Nat} {ys : List Int} (h : SlI w (.slice a n c) ys) : SlII (w.alloc (.cells #[.slice a n c] 40)) (.slice (some ⟨w.heap.size, 0, none⟩) 1 1) [ys] := by
 refine ⟨[.slice a n c], ⟨some ⟨w.heap.size, 0, none⟩, 1, rfl, by simp, by simp, fun _ => ⟨w.heap.size, 0, rfl, by rw [World.size_alloc]; omega, fun i hi => ?_⟩⟩, rfl, fun i hi _ => ?_⟩
 ·have : i = 0 := by simpa using hi
  subst this
  exact cell_blk (i := 0) (heap_newI rfl)
 ·have : i = 0 := by simpa using hi
  subst this
  exact h.below ((Below.refl w.heap.size w).alloc (Nat.le_refl _) _) (Nat.le_refl _)
set_option maxRecDepth 100000 in
set_option maxHeartbeats 4000000 in
theorem allows38_any {v vy : Value} {l : Lw} {ys : List Int} {w : World} (h : LawA w v l) (hy : SlI w vy ys) : Calls Try.prog 38 #[v, vy] w fun e w' => e = .returned (.tuple #[.bool (allowsB l ys), .int .i64 (allowsE l ys)]) ∧ Below w.heap.size w w' := by
 have H0 := Lib.hid h
 have HY0 := Lib.hid hy
 obtain ⟨vn, vg, rfl, hn, hg⟩ := h
 obtain ⟨ag, cg, rfl, -⟩ := id hg
 have hX := LawA.box (⟨_, _, rfl, hn, hg⟩ : LawA w (.agg #[vn, .slice ag (l.gd.map Value.bool).length cg]) l) 25
 rw [List.length_map] at *
 have hB1 := (Below.refl w.heap.size w).alloc (Nat.le_refl _) (.cells #[vn, .slice ag l.gd.length cg] 25)
 obtain ⟨w1, hw1⟩ : ∃ q, q = w.alloc (.cells #[vn, .slice ag l.gd.length cg] 25) := ⟨_, rfl⟩
 obtain ⟨g, hgw⟩ : ∃ q, q = w.heap.size := ⟨_, rfl⟩
 obtain ⟨a, c, rfl⟩ := slI_form hy
 go_enter Try.func38, Try.ntmps38
 refine wp_seq_k (fun K hK => ?_)
 have HK := Lib.hid hK; clear hK
 have HW := Lib.hid (And.intro hw1 hgw)
 clear hw1 hgw
 go_wp2
 refine HK.out _ _ ?_; clear HK
 obtain ⟨hw1, hgw⟩ := HW.out
 have HB0 := Lib.hid (show Below w.heap.size w w1 by rw [hw1]; exact hB1)
 rw [← hw1] at hX ⊢
 rw [← hgw] at hX ⊢
 have HBg := Lib.hid (show Below g w w1 by rw [hgw]; exact HB0.out)
 have HB := Lib.hid hX.blk
 have HX := Lib.hid hX
 have H52 := Lib.hid (fun W (hW : Below w1.heap.size w1 W) => check_any ((H0.out.below HB0.out (Nat.le_refl _)).below hW (Nat.le_refl _)))
 clear hw1 hgw HW hX hB1 hn hg hy
 have HE : Hid (allowsE l ys = if chkL l = 0 then lstE l ys else chkL l) := Lib.hid rfl
 obtain ⟨E, hE⟩ : ∃ E, E = chkL l := ⟨_, rfl⟩
 rw [← hE] at H52 HE
 have HCE := Lib.hid hE
 clear hE
 by_cases h0 : E = 0
 case neg =>
  have hb0 : (E != 0) = true := by simpa using h0
  have hb0' : (E == 0) = false := by simpa using h0
  have e1 : allowsE l ys = E := by rw [HE.out, if_neg h0]
  have e2 : allowsB l ys = false := by unfold allowsB; rw [e1, decide_eq_false h0, Bool.false_and]
  rw [e1, e2]
  clear h0 e1 e2
  go_wp2_with (first | (refine wpList_load_blk rfl 25 _ rfl _ rfl HB.out Try.underlying25 rfl size25 rfl ?_) | (go_at_call 52; refine (H52.out w1 (Below.refl _ _)).mono ?_; rintro e w3 ⟨rfl, hb3⟩))
  exact bodyPost_ret (results_tmp2 rfl _ _ _) rfl ⟨rfl, HBg.out.trans (hb3.mono (Nat.le_of_lt (lt_blk HB.out)))⟩
 subst h0
 have hok : l.Ok := chkL_ok HCE.out.symm
 have HOK := Lib.hid hok
 have H76 := Lib.hid (fun W (hW : Below w1.heap.size w1 W) => check76_any ((H0.out.below HB0.out (Nat.le_refl _)).below hW (Nat.le_refl _)) hok ((HY0.out.below HB0.out (Nat.le_refl _)).below hW (Nat.le_refl _)))
 clear hok
 obtain ⟨F, hF⟩ : ∃ F, F = lstE l ys := ⟨_, rfl⟩
 rw [← hF] at H76 HE
 have HFE := Lib.hid hF
 clear hF
 by_cases h0 : F = 0
 case neg =>
  have hb0 : (F != 0) = true := by simpa using h0
  have hb0' : (F == 0) = false := by simpa using h0
  have e1 : allowsE l ys = F := by rw [HE.out, if_pos rfl]
  have e2 : allowsB l ys = false := by unfold allowsB; rw [e1, decide_eq_false h0, Bool.false_and]
  rw [e1, e2]
  clear h0 e1 e2
  go_wp2_with (first | (refine wpList_load_blk rfl 25 _ rfl _ rfl HB.out Try.underlying25 rfl size25 rfl ?_) | (go_at_call 52; refine (H52.out w1 (Below.refl _ _)).mono ?_; rintro e w3 ⟨rfl, hb3⟩; have HB3 := Lib.hid hb3; have HB4 := Lib.hid (blk_keep HB.out hb3); clear hb3) | (refine wpList_load_blk rfl 25 _ rfl _ rfl HB4.out Try.underlying25 rfl size25 rfl ?_) | (go_at_call 76; refine (H76.out _ HB3.out).mono ?_; rintro e w4 ⟨rfl, hb4⟩; have HB5 := Lib.hid hb4; clear hb4))
  exact bodyPost_ret (results_tmp2 rfl _ _ _) rfl ⟨rfl, HBg.out.trans ((btr HB3.out HB5.out (Nat.le_refl _)).mono (Nat.le_of_lt (lt_blk HB.out)))⟩
 subst h0
 have e1 : allowsE l ys = 0 := by rw [HE.out, if_pos rfl]
 have e2 : allowsB l ys = l.good (runI l 0 ys) := by unfold allowsB; rw [e1]; rfl
 rw [e1, e2]
 have hys := (lstE_ok HFE.out.symm).2
 have hst : l.st (runI l 0 ys) := runI_st HOK.out HOK.out.st0 hys
 have HYS := Lib.hid hys
 have H77 := Lib.hid (fun W vl (hW : Below w1.heap.size w1 W) (hl : SlII W vl [ys]) => end77_any (HX.out.below hW).law HOK.out hl (by intro y hy; rw [List.mem_singleton.1 hy]; exact HYS.out))
 have hee : endI l [ys] = runI l 0 ys := rfl
 rw [hee] at H77
 obtain ⟨s, hs⟩ : ∃ s, s = runI l 0 ys := ⟨_, rfl⟩
 rw [← hs] at hst H77 ⊢
 obtain ⟨m, rfl, hm⟩ := hst.nat
 have hml : m < l.gd.length := by rw [HOK.out.gd]; exact hm
 have hg1 := HX.out.gd
 obtain ⟨b, off, rfl, hbl, hcell⟩ := slV_bool hg1 hml
 have eg : l.good (m : Int) = l.gd[m] := by
  unfold Lw.good
  rw [show (m : Int).toNat = m from rfl, List.getD_eq_getElem?_getD, List.getElem?_eq_getElem hml, Option.getD_some]
 rw [← eg] at hcell
 obtain ⟨rv, hrv⟩ : ∃ q, q = l.good (m : Int) := ⟨_, rfl⟩
 rw [← hrv] at hcell ⊢
 have hmi : (m : Int) < (l.gd.length : Int) := by omega
 clear e1 e2 hys hee hs hst hg1 eg hrv hm hml
 have HSL : Hid (∀ W, Below w1.heap.size w1 W → SlI W (.slice a ys.length c) ys) := Lib.hid fun W hW => (HY0.out.below HB0.out (Nat.le_refl _)).below hW (Nat.le_refl _)
 refine wp_noP ?_
 refine wp_seq_k (fun K hK => ?_)
 have HK := Lib.hid hK; clear hK
 go_wp2_with (first | (refine wpList_load_blk rfl 25 _ rfl _ rfl HB.out Try.underlying25 rfl size25 rfl ?_) | (go_at_call 52; refine (H52.out w1 (Below.refl _ _)).mono ?_; rintro e w3 ⟨rfl, hb3⟩; have HB3 := Lib.hid hb3; have HB4 := Lib.hid (blk_keep HB.out hb3); clear hb3))
 refine HK.out _ _ ?_; clear HK
 refine wp_seq_k (fun K hK => ?_)
 have HK := Lib.hid hK; clear hK
 go_wp2_with (first | (refine wpList_load_blk rfl 25 _ rfl _ rfl HB4.out Try.underlying25 rfl size25 rfl ?_) | (go_at_call 76; refine (H76.out _ HB3.out).mono ?_; rintro e w4 ⟨rfl, hb4⟩; have HB5 := Lib.hid (btr HB3.out hb4 (Nat.le_refl _)); clear hb4))
 refine HK.out _ _ ?_; clear HK
 have hX4 := HX.out.below HB5.out
 have hb1 := hX4.blk
 have c1 := cell_blk (i := 1) hb1
 simp only [List.getElem?_toArray, List.getElem?_cons_zero, List.getElem?_cons_succ] at c1
 have hc4 := (HB5.out.cell (p := ⟨b, off + m, none⟩) hbl).trans hcell
 have hbl4 : b < w4.heap.size := Nat.lt_of_lt_of_le hbl HB5.out.size
 have hgl4 := lt_blk hb1
 clear hX4 hcell hbl
 refine wp_seq_k (fun K hK => ?_)
 have HK2 := Lib.hid hK; clear hK
 have hbq : Below w4.heap.size w4 w4.drew := (Below.refl _ _).drew
 have hB5a : Below w4.heap.size w4 ((w4.alloc (.cells #[.slice a ys.length c] 40)).drew) := ((Below.refl _ _).alloc (Nat.le_refl _) _).drew
 have hB5b : Below w1.heap.size w1 ((w4.alloc (.cells #[.slice a ys.length c] 40)).drew) := btr HB5.out hB5a (Nat.le_refl _)
 have hSL5 : SlII ((w4.alloc (.cells #[.slice a ys.length c] 40)).drew) (.slice (some ⟨w4.heap.size, 0, none⟩) 1 1) [ys] := (slII_one (HSL.out w4 HB5.out)).below (Below.refl _ _).drew (Nat.le_refl _)
 obtain ⟨wq5, hwq5⟩ : ∃ q, q = (w4.alloc (.cells #[.slice a ys.length c] 40)).drew := ⟨_, rfl⟩
 rw [← hwq5] at hB5a hB5b hSL5
 refine wp_region_x (R := fun U => Below w4.heap.size w4 U) (S := fun _ => True) (z := 999) rfl ?_
 change wpAnyX _ _ _ _ _ _ _ _ _ _ w4.drew
 refine wpX_kp (i := 0) (oi := ⟨some 19, _, _, _, _, none⟩) (v := ?_) rfl (fun _ _ _ h => h) ?_ ⟨(by assumption), fun _ => trivial⟩ ?_
 rotate_left
 ·intro U hU
  go_simp
  all_goals with_reducible rfl
 simp only [putE]
 refine wpX_kp (i := 1) (oi := ⟨some 20, _, _, _, _, none⟩) (v := ?_) rfl (fun _ _ _ h => h) ?_ ⟨(by assumption), fun _ => trivial⟩ ?_
 rotate_left
 ·intro U hU
  have u0 := (hU.cell (p := ⟨g, 1, none⟩) hgl4).trans c1
  go_simp
  all_goals with_reducible rfl
 simp only [putE]
 refine wpX_kp (i := 2) (oi := ⟨some 21, _, _, _, _, none⟩) (v := ?_) rfl (fun _ _ _ h => h) ?_ ⟨(by assumption), fun _ => trivial⟩ ?_
 rotate_left
 ·refine yields_load_blk 25 (.tmp 2) ?_ g ?_ (t := 25) (fr := (0, 0)) (cs := #[vn, .slice (some ⟨b, off, none⟩) l.gd.length cg]) (fun U hU => ?_) Try.underlying25 rfl size25 rfl
  ·rfl
  ·rfl
  ·simpa using blk_keep hb1 hU
 simp only [putE]
 refine wpX_kp (i := 3) (oi := ⟨some 22, _, _, _, _, none⟩) (v := ?_) rfl (fun _ _ _ h => h) ?_ ⟨(by assumption), fun _ => trivial⟩ ?_
 rotate_left
 ·intro U hU
  go_simp
  all_goals with_reducible rfl
 simp only [putE]
 refine wpAnyX_one (i := 4) (o := ⟨some 23, _, _, _, _, none⟩) (by kernel_rfl) rfl (by rfl) (fun K1 hK1 => ?_)
 have HK1' := Lib.hid hK1; clear hK1
 go_simp
 rw [← hwq5]
 refine HK1'.out _ _ ⟨hB5a, fun _ => trivial⟩ ?_
 clear HK1'
 try simp only [putE]
 refine wpAnyX_one (i := 5) (o := ⟨some 24, _, _, _, _, none⟩) (by kernel_rfl) rfl (by rfl) (fun K1 hK1 => ?_)
 have HK1' := Lib.hid hK1; clear hK1
 refine oper_call (ts := _) (xs := #[.tmp 21, .tmp 23]) (f := 77) rfl (enters_of Try.func77 (by kernel_rfl) rfl) rfl (R := fun w' => Below wq5.heap.size wq5 w') (v := .int .i64 (m : Nat)) ((H77.out wq5 _ hB5b hSL5).mono (by rintro e w' ⟨rfl, h⟩; exact ⟨rfl, h⟩)) ?_
 rintro wr1 hr1
 have hBr1 : Below w4.heap.size w4 wr1 := btr hB5a hr1 (Nat.le_refl _)
 refine HK1'.out _ _ ⟨hBr1, fun _ => trivial⟩ ?_
 clear HK1'
 try simp only [putE]
 refine wpX_kp (i := 6) (oi := ⟨some 25, _, _, _, _, none⟩) (v := ?_) rfl (fun _ _ _ h => h) ?_ ⟨(by assumption), fun _ => trivial⟩ ?_
 rotate_left
 ·intro U hU
  go_simp
  all_goals with_reducible rfl
 simp only [putE]
 refine wpX_kp (i := 7) (oi := ⟨some 26, _, _, _, _, none⟩) (v := ?_) rfl (fun _ _ _ h => h) ?_ ⟨(by assumption), fun _ => trivial⟩ ?_
 rotate_left
 ·intro U hU
  have u0 := (hU.cell (p := ⟨b, off + m, none⟩) hbl4).trans hc4
  go_simp
  all_goals with_reducible rfl
 simp only [putE]
 refine wpX_kp (i := 8) (oi := ⟨some 4, _, _, _, _, none⟩) (v := ?_) rfl (fun _ _ _ h => h) ?_ ⟨(by assumption), fun _ => trivial⟩ ?_
 rotate_left
 ·intro U hU
  go_simp
  all_goals with_reducible rfl
 simp only [putE]
 refine wpX_kp (i := 9) (oi := ⟨some 5, _, _, _, _, none⟩) (v := ?_) rfl (fun _ _ _ h => h) ?_ ⟨(by assumption), fun _ => trivial⟩ ?_
 rotate_left
 ·intro U hU
  go_simp
  all_goals with_reducible rfl
 simp only [putE]
 refine wpAnyX_done (by kernel_rfl) ?_ _
 refine HK2.out _ _ ?_; clear HK2
 go_wp2
 exact noP_ret (bodyPost_ret (results_tmp2 rfl _ _ _) rfl ⟨rfl, HBg.out.trans ((btr HB5.out hBr1 (Nat.le_refl _)).mono (Nat.le_of_lt (lt_blk HB.out)))⟩)
end Ytnjgglnpmhjmiaa
end Go.Proofs
/- Laws of rotation: First. -/
open Go Go.RowKit Go.YtnjgglnpmhjmiaaIt
open Rest
namespace Go.Proofs
namespace Ytnjgglnpmhjmiaa
open Classical in
/-- The walk over a system. -/
noncomputable def theW {α : Type} [DecidableEq α] (x : RSys α) : List (α × List Nat) := if h : ∃ L, Walk x L then h.choose else []
theorem theW_eq {α : Type} [DecidableEq α] {x : RSys α} {L : List (α × List Nat)} (h : Walk x L) : theW x = L := by
 unfold theW
 have hx : ∃ L, Walk x L := ⟨L, h⟩
 rw [dif_pos hx]
 exact hx.choose_spec.uniq h
/-- The first list that leads to a good state. -/
noncomputable def firstO {α : Type} [DecidableEq α] (x : RSys α) : Option (List Nat) := ((theW x).find? fun p => x.gd p.1).map Prod.snd
noncomputable def firstE (E : Int) {α : Type} [DecidableEq α] (x : RSys α) : Int := if E = 0 then (if (firstO x).isSome = true then 0 else 5) else E
noncomputable def firstY (E : Int) {α : Type} [DecidableEq α] (x : RSys α) : List Nat := if E = 0 then (firstO x).getD [] else []
set_option maxRecDepth 100000 in
theorem apart_any (a b : Bool) (w : World) : Calls Try.prog 71 #[.bool a, .bool b] w fun e w' => e = .returned (.bool (a != b)) ∧ w = w' := by
 go_enter Try.func71, Try.ntmps71
 go_wp2
 go_ret
 exact ⟨rfl, rfl⟩
theorem first67_any {x : RSys Int} {ok : Int → Prop} {fN fG : Nat} {lN lG : Array Value} {B : Nat} {W0 : World} {L : List (Int × List Nat)} (hM : SysM x ok fN fG lN lG B W0) (hB : B ≤ W0.heap.size)
  (eN : ∀ args w, (callFunc fN args).run Try.prog w = .ok (.enter fN args) w) (eG : ∀ args w, (callFunc fG args).run Try.prog w = .ok (.enter fG args) w) (hL : Walk x L) (hlen : L.length ≤ 5000) (w : World) (hb : Below B W0 w) :
  Calls Try.prog 67 #[.agg (sysV x fN fG lN lG)] w fun e w' => ∃ v, e = .returned (.tuple #[v, .bool (firstO x).isSome]) ∧ SlI w' v (nI ((firstO x).getD [])) ∧ Below w.heap.size w w' := by
 have ho : firstO x = firstW x L := by unfold firstO firstW; rw [theW_eq hL]
 rw [ho]
 refine (first_any hM hB eN eG hL hlen w hb).mono ?_
 rintro e w' ⟨h1, ⟨ys, v, h2, rfl, h3⟩ | ⟨h2, rfl⟩⟩
 ·rw [h2]; exact ⟨v, rfl, h3, h1⟩
 ·rw [h2]; exact ⟨_, rfl, slI_nil _, h1⟩
set_option maxRecDepth 100000 in
set_option maxHeartbeats 2000000 in
theorem first25_any {v : Value} {l : Lw} {w : World} (h : LawA w v l) : Calls Try.prog 25 #[v] w fun e w' => ∃ vy, e = .returned (.tuple #[vy, .int .i64 (firstE (chkL l) (sysL l))]) ∧ SlI w' vy (nI (firstY (chkL l) (sysL l))) ∧ Below w.heap.size w w' := by
 have H0 := Lib.hid h
 obtain ⟨vn, vg, rfl, hn, hg⟩ := h
 have H52 := Lib.hid (fun W (hW : Below w.heap.size w W) => check_any (H0.out.below hW (Nat.le_refl _)))
 have b1 : (w.alloc (.cells #[vn, vg] 25)).heap[w.heap.size]? = some (.cells #[vn, vg] 25 (0, 0)) := heap_newI rfl
 have hB : Below w.heap.size w (w.alloc (.cells #[vn, vg] 25)) := (Below.refl _ _).alloc (Nat.le_refl _) _
 clear hn hg
 go_enter Try.func25, Try.ntmps25
 refine wp_seq_k (fun K hK => ?_)
 have HK := Lib.hid hK; clear hK
 go_wp2
 refine HK.out _ _ ?_; clear HK
 obtain ⟨w2, hw2⟩ : ∃ q, q = w.alloc (.cells #[vn, vg] 25) := ⟨_, rfl⟩
 rw [← hw2] at b1 hB ⊢
 clear hw2
 obtain ⟨g1, hg1⟩ : ∃ q, q = w.heap.size := ⟨_, rfl⟩
 rw [← hg1] at b1
 rw [← hg1]
 have HH := Lib.hid (And.intro b1 (And.intro hB hg1))
 have HB1 := Lib.hid b1
 have HC := Lib.hid (H52.out w2 hB)
 clear b1 hB hg1
 obtain ⟨E, hE⟩ : ∃ E, E = chkL l := ⟨_, rfl⟩
 rw [← hE] at HC ⊢
 have HE := Lib.hid hE
 clear hE
 by_cases h0 : E = 0
 case neg =>
  have hb0 : (E != 0) = true := by simpa using h0
  have hb0' : (E == 0) = false := by simpa using h0
  have e1 : firstE E (sysL l) = E := by unfold firstE; rw [if_neg h0]
  have e2 : firstY E (sysL l) = [] := by unfold firstY; rw [if_neg h0]
  rw [e1, e2]
  clear h0 e1 e2
  go_wp2_with (first | (refine wpList_load_blk rfl 25 _ rfl _ rfl HB1.out Try.underlying25 rfl size25 rfl ?_) | (go_at_call 52; refine HC.out.mono ?_; rintro e w3 ⟨rfl, hb3⟩; have HB3 := Lib.hid hb3; clear hb3))
  obtain ⟨c1, hB, hg1⟩ := HH.out
  exact bodyPost_ret (results_tmp2 rfl _ _ _) rfl ⟨_, rfl, slI_nil _, by rw [hg1]; exact btr hB HB3.out (Nat.le_refl _)⟩
 have HOK := Lib.hid (chkL_ok (l := l) (by rw [← HE.out]; exact h0))
 subst h0
 obtain ⟨L, hL, hlen, -⟩ := HOK.out.walk
 have HL := Lib.hid (And.intro hL (show L.length ≤ 5000 by omega))
 have H67 := Lib.hid (fun W g vn vg (hX : LawX W g 25 l vn vg) => first67_any (hX.sys HOK.out) (Nat.le_refl _) enter91 enter92 hL (show L.length ≤ 5000 by omega) W (Below.refl _ _))
 have e1 : firstE 0 (sysL l) = if (firstO (sysL l)).isSome = true then 0 else 5 := by unfold firstE; rw [if_pos rfl]
 have e2 : firstY 0 (sysL l) = (firstO (sysL l)).getD [] := by unfold firstY; rw [if_pos rfl]
 rw [e1, e2]
 clear hL hlen e1 e2
 obtain ⟨o, ho⟩ : ∃ o, o = firstO (sysL l) := ⟨_, rfl⟩
 rw [← ho] at H67 ⊢
 clear ho
 have H66 := Lib.hid (fun W (hW : Below w.heap.size w W) => system_any (H0.out.below hW (Nat.le_refl _)) HOK.out.ne)
 refine wp_seq_k (fun K hK => ?_)
 have HK := Lib.hid hK; clear hK
 go_wp2_with (first | (refine wpList_load_blk rfl 25 _ rfl _ rfl HB1.out Try.underlying25 rfl size25 rfl ?_) | (go_at_call 52; refine HC.out.mono ?_; rintro e w3 ⟨rfl, hb3⟩; have HB3 := Lib.hid hb3; clear hb3))
 refine HK.out _ _ ?_; clear HK
 obtain ⟨c1, hB, hg1⟩ := HH.out
 have d1 := blk_keep c1 HB3.out
 have HB4 := Lib.hid (btr hB HB3.out (by omega))
 have HG1 := Lib.hid hg1
 have HD1 := Lib.hid d1
 clear c1 hB hg1 d1 HB3 HC HH HB1
 refine wp_seq_k (fun K hK => ?_)
 have HK := Lib.hid hK; clear hK
 go_wp2_with (first | (refine wpList_load_blk rfl 25 _ rfl _ rfl HD1.out Try.underlying25 rfl size25 rfl ?_) | (go_at_call 66; refine (H66.out _ HB4.out).mono ?_; rintro e w4 ⟨g, un, ug, rfl, hX, hgg, hb4⟩; have H6 := Lib.hid (H67.out w4 g un ug hX); have HX4 := Lib.hid (And.intro hgg hb4); clear hX hgg hb4) | (go_at_call 67; refine H6.out.mono ?_; rintro e w5 ⟨v, rfl, hv, hb5⟩; have H5 := Lib.hid (And.intro hv hb5); clear hv hb5))
 refine HK.out _ _ ?_; clear HK
 obtain ⟨hv, hb5⟩ := H5.out
 have hfin : Below g1 w w5 := by rw [HG1.out]; exact btr (btr HB4.out HX4.out.2 (Nat.le_refl _)) hb5 (Nat.le_refl _)
 have HF := Lib.hid (And.intro hv hfin)
 clear hv hb5 hfin
 cases o with
 | none =>
  simp only [Option.isSome_none, Option.getD_none, Bool.false_eq_true, if_false] at HF ⊢
  go_wp2
  exact bodyPost_ret (results_tmp2 rfl _ _ _) rfl ⟨_, rfl, slI_nil _, HF.out.2⟩
 | some ys =>
  simp only [Option.isSome_some, Option.getD_some, if_true] at HF ⊢
  go_wp2
  exact bodyPost_ret (results_tmp2 rfl _ _ _) rfl ⟨_, rfl, HF.out⟩
end Ytnjgglnpmhjmiaa
end Go.Proofs
