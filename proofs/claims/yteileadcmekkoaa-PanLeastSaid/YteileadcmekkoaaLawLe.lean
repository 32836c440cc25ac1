/- For each house, five numbers and a number the law PanLeast returns true. -/
import Derived.Test.YteileadcmekkoaaMd
import Derived.Test.YteileadcmekkoaaSm
import Derived.Test.YteileadcmekkoaaQ25
import Derived.Test.YteileadcmekkoaaTm
open Go Go.RowKit Go.YteileadcmekkoaaIt
namespace Go.Proofs
namespace Yteileadcmekkoaa
theorem size65 : (Try.prog.info? 65).map (·.size) = some 2 := by kernel_rfl
theorem five_at (e0 e1 e2 e3 e4 : Int) {s : Nat} (h : s < 5) : (#[Value.int .u8 e0, .int .u8 e1, .int .u8 e2, .int .u8 e3, .int .u8 e4] : Array Value)[s]? = some (.int .u8 (at0 [e0, e1, e2, e3, e4] s)) := by
  match s, h with
  | 0, _ => rfl
  | 1, _ => rfl
  | 2, _ => rfl
  | 3, _ => rfl
  | 4, _ => rfl
theorem five_bd {e0 e1 e2 e3 e4 : Int} (h5 : (0 ≤ e0 ∧ e0 < 256) ∧ (0 ≤ e1 ∧ e1 < 256) ∧ (0 ≤ e2 ∧ e2 < 256) ∧ (0 ≤ e3 ∧ e3 < 256) ∧ (0 ≤ e4 ∧ e4 < 256)) {s : Nat} (h : s < 5) : 0 ≤ at0 [e0, e1, e2, e3, e4] s ∧ at0 [e0, e1, e2, e3, e4] s < 256 := by
  match s, h with
  | 0, _ => exact h5.1
  | 1, _ => exact h5.2.1
  | 2, _ => exact h5.2.2.1
  | 3, _ => exact h5.2.2.2.1
  | 4, _ => exact h5.2.2.2.2
theorem own_cell {W : World} {base g n c : Nat} {e : TypeId} {xs : List Value} (h : W.ownsRow base e 1 (.slice (some ⟨g, 0, none⟩) n c) n xs) {j : Nat} (hj : j < n) : W.cell? ⟨g, j, none⟩ = xs[j]? := by
  rcases h.2 with ⟨e1, _⟩ | ⟨g', cap, cur, e1, _, hh, h3, h4, h5, h6⟩
  · cases e1
  · injection e1 with e1 _ _
    injection e1 with e1
    injection e1 with e1
    subst e1
    rw [cell_blk hh, ← h6, List.getElem?_take_of_lt (by omega)]
    simp
theorem own_down {W : World} {base g m c : Nat} {t : List Int} (h : W.ownsRow base 3 1 (.slice (some ⟨g, 0, none⟩) m c) m (t.map (.int .i64))) (hl : t.length = m) (hm : m ≤ 1000) {j : Nat} (hj : j < m) {x : Int} (hx : x = at0 t j - 1) :
    SlI (W.setCell ⟨g, j, none⟩ (.int .i64 x)) (.slice (some ⟨g, 0, none⟩) m c) (downL t j) := by
  subst hx
  have hlen : (downL t j).length = m := by unfold downL; rw [List.length_set, hl]
  have hcell := fun i (hi : i < m) => own_cell h hi
  rcases h.2 with ⟨e1, _⟩ | ⟨g', cap, cur, e1, _, hh, h3, h4, h5, h6⟩
  · cases e1
  · injection e1 with e1 _ e3
    injection e1 with e1
    injection e1 with e1
    subst e1 e3
    refine ⟨some ⟨g, 0, none⟩, c, by rw [hlen], by rw [hlen]; omega, by rw [hlen]; exact h3, fun _ => ⟨g, 0, rfl, by rw [World.size_setCell]; exact lt_blk hh, fun i hi => ?_⟩⟩
    rw [hlen] at hi
    unfold downL
    rw [Nat.zero_add, at0_set (by omega), cell_blk (heap_set_blk hh), Array.getElem?_setIfInBounds]
    by_cases hij : j = i
    · subst hij
      rw [if_pos rfl, if_pos (by omega), if_pos rfl]
    · rw [if_neg hij, if_neg (fun e => hij e.symm)]
      have h7 := hcell i hi
      rw [cell_blk hh] at h7
      rw [h7]
      unfold at0
      simp [List.getD_eq_getElem?_getD, hl, hi]
theorem own_form {W : World} {base n : Nat} {e : TypeId} {v : Value} {xs : List Value} (h : W.ownsRow base e 1 v n xs) (h0 : 0 < n) : ∃ g c, v = .slice (some ⟨g, 0, none⟩) n c := by
  rcases h.2 with ⟨_, h1⟩ | ⟨g, cap, cur, e1, _⟩
  · omega
  · exact ⟨g, cap, e1⟩
theorem own_free {W : World} {base g n c : Nat} {e : TypeId} {xs : List Value} (h : W.ownsRow base e 1 (.slice (some ⟨g, 0, none⟩) n c) n xs) {j : Nat} (_hj : j < n) : W.frozen? ⟨g, j, none⟩ = false := by
  rcases h.2 with ⟨e1, _⟩ | ⟨g', cap, cur, e1, _, hh, h3, h4, h5, h6⟩
  · cases e1
  · injection e1 with e1 _ _
    injection e1 with e1
    injection e1 with e1
    subst e1
    exact free_blk hh
theorem fine_bd {m : Nat} {ws : List Wa} (h : chkE (m : Int) ws = 0) (hM : Made (m : Int) ws) (s : Nat) : ptab (m : Int) ws s ≤ 30000 := by
  obtain ⟨m', l, hm, hv, hs, hsl⟩ := pace_ok h
  have hmm : m' = m := by omega
  subst hmm
  have hd := hsl.b
  have h1 := hsl.small hv (C := 3360) (by omega) (fun x hx => by
    obtain ⟨-, -, -, -, h2, h3, h4, h5, -⟩ := hM.ok x hx
    have h6 : x.hi * (pden (m' : Int) ws : Int) ≤ 84 * 40 := Int.mul_le_mul h4 (by omega) (by omega) (by omega)
    have h7 : 0 ≤ x.b * (pnum (m' : Int) ws : Int) := Int.mul_nonneg h5 (by omega)
    omega) s
  have h5 := hM.n5
  omega
set_option maxRecDepth 100000 in
set_option maxHeartbeats 40000000 in
theorem least_any (s e0 e1 e2 e3 e4 l : Int) (u : Value) (qs : List Q4) (w : World) (hs : 0 ≤ s ∧ s < 256) (h5 : (0 ≤ e0 ∧ e0 < 256) ∧ (0 ≤ e1 ∧ e1 < 256) ∧ (0 ≤ e2 ∧ e2 < 256) ∧ (0 ≤ e3 ∧ e3 < 256) ∧ (0 ≤ e4 ∧ e4 < 256)) (hl : 0 ≤ l ∧ l < 256) (hq : ∀ q ∈ qs, q.ok) (hu : SlQ w u qs) :
    Calls Try.prog 9 #[.agg #[.int .u8 s, u], .agg #[.int .u8 e0, .int .u8 e1, .int .u8 e2, .int .u8 e3, .int .u8 e4], .int .u8 l] w fun e w' => e = .returned (.bool true) ∧ Below w.heap.size w w' := by
  have HU := Lib.hid hu
  have HQ := Lib.hid hq
  obtain ⟨ad, cap, rfl, -, -, -⟩ := hu
  clear hq
  go_enter Try.func9, Try.ntmps9
  refine wp_seq_k (fun K hK => ?_)
  have HK := Lib.hid hK; clear hK
  go_wp2
  refine HK.out _ _ ?_; clear HK K
  generalize hw1 : World.alloc _ _ = w1
  obtain ⟨b1, be, hB0, hs1⟩ := blk2 hw1
  clear hw1
  have h36 := made_any s _ qs w1 hs HQ.out (HU.out.below hB0 (Nat.le_refl _))
  have H36 := Lib.hid h36
  clear h36 HU HQ
  refine wp_seq_k (fun K hK => ?_)
  have HK := Lib.hid hK; clear hK
  go_wp2_with (first | (refine wpList_load_blk rfl 65 _ rfl _ rfl b1 Try.underlying65 rfl size65 rfl ?_) | (go_at_call 36; refine H36.out.mono ?_; rintro e w2 ⟨n, v, ws, rfl, hv, hM, hb2⟩; have hv0 := hv; obtain ⟨av, cv, rfl, -, -, -⟩ := hv))
  refine HK.out _ _ ?_; clear HK K H36
  have hnb := And.intro hM.n1 hM.n5
  have hlen := hM.len
  have B := btr hB0 hb2 (Nat.le_refl _)
  generalize hw3 : World.alloc _ _ = w3
  obtain ⟨b5, hB3, hs3⟩ := blk1 hw3
  clear hw3
  have HV := Lib.hid (hv0.below hB3 (Nat.le_refl _))
  replace B := btr B hB3 (Nat.le_refl _)
  have HM := Lib.hid hM
  replace be := blk_keep (blk_keep be hb2) hB3
  clear hv0 hb2 hB3 hB0 hM
  clear b1
  obtain ⟨m, rfl⟩ : ∃ m : Nat, n = m := ⟨n.toNat, by omega⟩
  have hval : Val m ws := val_mem.2 ⟨⟨by omega, by omega⟩, by omega, fun x hx => by have := HM.out.ok x hx; unfold okM at this; unfold okV; omega⟩
  have hch := chk_of hval
  obtain ⟨E0, hE0⟩ : ∃ E0, E0 = chkE m ws := ⟨_, rfl⟩
  have hE3 : E0 = 16 ∨ E0 = 0 := by
    rw [hE0, hch]
    by_cases h1 : NS ws <;> simp [h1]
  clear hch hval
  rcases hE3 with hE | hE
  · subst hE
    have HE0 := Lib.hid hE0.symm
    clear hE0
    refine wp_seq_k (fun K hK => ?_)
    have HK := Lib.hid hK; clear hK
    go_wp2_with (first | (refine wpList_load_blk rfl 24 _ rfl _ rfl b5 Try.underlying24 rfl size24 rfl ?_) | (go_at_call 18; refine (pace_any _ _ ws _ HV.out).mono ?_; rintro e w4 ⟨rfl, hb⟩; rw [HE0.out]))
    refine HK.out _ _ ?_; clear HK K
    replace b5 := blk_keep b5 hb
    replace be := blk_keep be hb
    have HV := Lib.hid (HV.out.below hb (Nat.le_refl _))
    replace B := btr B hb (Nat.le_refl _)
    clear hb
    generalize hwx : World.alloc _ _ = w5
    obtain ⟨bp, hb, -⟩ := blk1 hwx
    clear hwx
    replace b5 := blk_keep b5 hb
    replace be := blk_keep be hb
    have HV := Lib.hid (HV.out.below hb (Nat.le_refl _))
    replace B := btr B hb (Nat.le_refl _)
    clear hb
    refine wp_seq_k (fun K hK => ?_)
    have HK := Lib.hid hK; clear hK
    go_wp2_with (first | (refine wpList_load_blk rfl 24 _ rfl _ rfl b5 Try.underlying24 rfl size24 rfl ?_) | (go_at_call 28; refine (table_any _ _ ws _ HV.out).mono ?_; rintro e w6 ⟨⟨tb, rfl, htb⟩, hb⟩; rw [HE0.out]; have htb0 := htb; obtain ⟨at_2, ct, rfl⟩ := slI_form htb))
    refine HK.out _ _ ?_; clear HK K
    have HT := Lib.hid htb0
    replace b5 := blk_keep b5 hb
    replace be := blk_keep be hb
    replace bp := blk_keep bp hb
    have HV := Lib.hid (HV.out.below hb (Nat.le_refl _))
    replace B := btr B hb (Nat.le_refl _)
    clear hb htb htb0
    go_wp2_with (go_at_call 16; refine (works_any _).mono ?_; rintro e w9 ⟨rfl, hb9⟩)
    go_ret
    exact ⟨rfl, btr B hb9 (Nat.le_refl _)⟩
  · subst hE
    have HE0 := Lib.hid hE0.symm
    clear hE0
    refine wp_seq_k (fun K hK => ?_)
    have HK := Lib.hid hK; clear hK
    go_wp2_with (first | (refine wpList_load_blk rfl 24 _ rfl _ rfl b5 Try.underlying24 rfl size24 rfl ?_) | (go_at_call 18; refine (pace_any _ _ ws _ HV.out).mono ?_; rintro e w4 ⟨rfl, hb⟩; rw [HE0.out]))
    refine HK.out _ _ ?_; clear HK K
    replace b5 := blk_keep b5 hb
    replace be := blk_keep be hb
    have HV := Lib.hid (HV.out.below hb (Nat.le_refl _))
    replace B := btr B hb (Nat.le_refl _)
    clear hb
    generalize hwx : World.alloc _ _ = w5
    obtain ⟨bp, hb, -⟩ := blk1 hwx
    clear hwx
    replace b5 := blk_keep b5 hb
    replace be := blk_keep be hb
    have HV := Lib.hid (HV.out.below hb (Nat.le_refl _))
    replace B := btr B hb (Nat.le_refl _)
    clear hb
    refine wp_seq_k (fun K hK => ?_)
    have HK := Lib.hid hK; clear hK
    go_wp2_with (first | (refine wpList_load_blk rfl 24 _ rfl _ rfl b5 Try.underlying24 rfl size24 rfl ?_) | (go_at_call 28; refine (table_any _ _ ws _ HV.out).mono ?_; rintro e w6 ⟨⟨tb, rfl, htb⟩, hb⟩; rw [HE0.out]; have htb0 := htb; obtain ⟨at_2, ct, rfl⟩ := slI_form htb))
    refine HK.out _ _ ?_; clear HK K
    have HT := Lib.hid htb0
    replace b5 := blk_keep b5 hb
    replace be := blk_keep be hb
    replace bp := blk_keep bp hb
    have HV := Lib.hid (HV.out.below hb (Nat.le_refl _))
    replace B := btr B hb (Nat.le_refl _)
    clear hb htb htb0
    have hla : (tabL (m : Int) ws).length = m := by rw [tabL_ok HE0.out]; simp
    rw [hla]
    obtain ⟨m2, l2, hm2, hv2, hs2, hsl⟩ := pace_ok HE0.out
    have hpb := hsl.b
    have hxb := hsl.hi
    have hxn := hsl.nn
    have HX := Lib.hid (And.intro hxb hxn)
    clear hm2 hv2 hs2 hsl hxb hxn
    generalize hP : pnum (m : Int) ws = P at *
    generalize hD : pden (m : Int) ws = D at *
    have HPD := Lib.hid (And.intro hP hD)
    clear hP hD
    obtain ⟨adt, capt, et, -, -, hct⟩ := HT.out
    obtain ⟨bt, ot, rfl, hltt, hcellt⟩ := hct (by rw [hla]; omega)
    injection et with et0 _ et1
    subst et0 et1
    have HCT := Lib.hid (fun s (hs : s < m) => (hcellt s (by rw [hla]; exact hs)).trans (by rw [tab_at HE0.out hs]) : ∀ s, s < m → w6.cell? ⟨bt, ot + s, none⟩ = some (.int .i64 (ptab (m : Int) ws s)))
    clear hcellt hct
    have c50 := cell_blk (i := 0) b5
    have cp1 := cell_blk (i := 1) bp
    simp only [List.getElem?_toArray, List.getElem?_cons_zero, List.getElem?_cons_succ] at c50 cp1
    refine wp_seq_k (fun K hK => ?_)
    have HK := Lib.hid hK; clear hK
    go_wp2
    refine HK.out _ _ ?_; clear HK K
    refine wp_seq_k (fun K hK => ?_)
    have HK := Lib.hid hK; clear hK
    go_wp2
    refine HK.out _ _ ?_; clear HK K
    refine wp_seq_k (fun K hK => ?_)
    have HK := Lib.hid hK; clear hK
    go_wp2
    refine HK.out _ _ ?_; clear HK K
    obtain ⟨i3, hi3, hz1, hz2, hz3⟩ := info_parts info3
    have HI3 := Lib.hid (And.intro hi3 (And.intro hz1 (And.intro hz2 hz3)))
    clear hi3 hz1 hz2 hz3
    obtain ⟨eF, heF⟩ : ∃ eF : Nat → Int, eF = at0 [e0, e1, e2, e3, e4] := ⟨_, rfl⟩
    have heb : ∀ s, s < m → 0 ≤ eF s ∧ eF s < 256 := fun s hs => by rw [heF]; exact five_bd h5 (by omega)
    have hec : ∀ s, s < m → w6.cell? ⟨w.heap.size + 1, s, none⟩ = some (.int .u8 (eF s)) := fun s hs => (cell_blk (i := s) be).trans (by rw [heF]; exact five_at e0 e1 e2 e3 e4 (by omega))
    have lbe := lt_blk be
    have HEF := Lib.hid (And.intro heb hec)
    clear heF heb hec
    obtain ⟨X, hX⟩ : ∃ X : Nat → Int, X = ptab (m : Int) ws := ⟨_, rfl⟩
    have hXb : ∀ s, 0 ≤ X s ∧ X s ≤ 160000000 := fun s => by rw [hX]; exact ⟨HX.out.2 s, HX.out.1 s⟩
    rw [← hX] at HCT
    have HXX := Lib.hid (And.intro hX hXb)
    clear hX hXb HX
    refine wp_seq_k (fun K hK => ?_)
    have HK := Lib.hid hK; clear hK
    go_wp2
    go_loopw [12, 61] (fun q i wr => ∃ k : Nat, k ≤ m ∧ i = .int .i64 k ∧ wr.ownsRow w6.heap.size 3 1 q k (((List.range k).map fun s => max 0 (X s + eF s % 5 - 2)).map (.int .i64)) ∧ Below w6.heap.size w6 wr) (fun _ i _ => m - (intOf i).toNat)
    case atStart => exact ⟨0, Nat.zero_le _, rfl, World.ownsRow_nil _ _ _ _, Below.refl _ _⟩
    case round =>
      obtain ⟨k, hk, rfl, ro, hBk⟩ := hrel
      by_cases hkm : k < m
      · have hki : (k : Int) < (m : Int) := by omega
        obtain ⟨aq, cq, rfl⟩ := form_of ro
        have q0 := (hBk.cell (p := ⟨bt, ot + k, none⟩) hltt).trans (HCT.out k hkm)
        have q1 := (hBk.cell (p := ⟨w.heap.size + 1, k, none⟩) lbe).trans (HEF.out.2 k hkm)
        have hxb := HXX.out.2 k
        have heb := HEF.out.1 k hkm
        have hk5 : (k : Int) < 5 := by omega
        have hsz6 := hBk.size
        have e9 : ((List.range (k + 1)).map fun s => max 0 (X s + eF s % 5 - 2)) = ((List.range k).map fun s => max 0 (X s + eF s % 5 - 2)) ++ [max 0 (X k + eF k % 5 - 2)] := by rw [List.range_succ, List.map_append]; rfl
        have HE9 := Lib.hid e9
        clear e9
        obtain ⟨xk, hxk⟩ : ∃ xk, xk = X k := ⟨_, rfl⟩
        obtain ⟨ek, hek⟩ : ∃ ek, ek = eF k := ⟨_, rfl⟩
        rw [← hxk] at q0 hxb HE9
        rw [← hek] at q1 heb HE9
        clear hxk hek
        have hm1 := Int.emod_nonneg ek (show (5 : Int) ≠ 0 by omega)
        have hm2 := Int.emod_lt_of_pos ek (show (0 : Int) < 5 by omega)
        go_wp2_with (first | (refine wpList_max rfl _ _ _ rfl rfl rfl ?_) | (at_builtin; refine wpList_append_own _ rfl _ _ 45 rfl w6.heap.size 3 i3 (.int .i64 0) 1 8 Try.underlying45 HI3.out.1 HI3.out.2.1 HI3.out.2.2.1 HI3.out.2.2.2 rfl (by decide) _ _ _ rfl (ro.alloc _) ⟨wr.heap.size, 0, none⟩ 1 1 [.int .i64 (max 0 (xk + ek % 5 - 2))] rfl rfl (cell_newL rfl) (by intro u hu; simp at hu; subst hu; rfl) (Nat.le_trans (by omega : k + 1 ≤ 200) (by decide)) (by omega) (by rw [World.size_alloc]; omega) ?_; intro v' w7 r1 r2 _))
        obtain ⟨hk7, hs7, ee1, ee2, ee3⟩ := append_same1 ro r2
        have hB7 : Below w6.heap.size w6 w7 := ⟨ee1.trans hBk.os, ee2.trans hBk.tape, ee3.trans hBk.output, by omega, fun b hb => (hk7 b (by omega) (fun e => by have := (ro.lt _ e).1; omega)).trans (hBk.block b hb)⟩
        refine ⟨⟨k + 1, by omega, by go_num, ?_, hB7⟩, by simp [intOf]; omega⟩
        rw [HE9.out, List.map_append]
        exact r1
      · have hki : ¬ ((k : Int) < (m : Int)) := by omega
        have hkk : k = m := by omega
        obtain ⟨aq, cq, rfl⟩ := form_of ro
        have hso := slI_own (xs := (List.range k).map fun s => max 0 (X s + eF s % 5 - 2)) ro (by simp) (by simp; omega)
        go_wp2
        refine HK.out _ _ ?_; clear HK
        rw [hkk] at hso
        have HO := Lib.hid hso
        replace b5 := blk_keep b5 hBk
        replace bp := blk_keep bp hBk
        replace be := blk_keep be hBk
        have HV := Lib.hid (HV.out.below hBk (Nat.le_refl _))
        replace B := btr B hBk (Nat.le_refl _)
        have HB6 := Lib.hid hBk
        have hol : ((List.range k).map fun s => max 0 (X s + eF s % 5 - 2)).length = m := by simp [hkk]
        clear hso ro
        obtain ⟨V0, hV0⟩ : ∃ V0, V0 = verE (m : Int) ws (P : Int) (D : Int) ((List.range m).map fun s => max 0 (X s + eF s % 5 - 2)) := ⟨_, rfl⟩
        have HV0 := Lib.hid hV0
        clear hV0
        by_cases hz : V0 = 0
        · subst hz
          have HO1 : RowKit.Hid (SlI wr (.slice aq m cq) ((List.range m).map fun s => max 0 (X s + eF s % 5 - 2))) := HO
          refine wp_seq_k (fun K hK => ?_)
          have HK := Lib.hid hK; clear hK
          go_wp2_with (first | (refine wpList_load_blk rfl 24 _ rfl _ rfl b5 Try.underlying24 rfl size24 rfl ?_) | (refine wpList_load_blk rfl 26 _ rfl _ rfl bp Try.underlying26 rfl size26 rfl ?_) | (go_at_call 31; refine (verify_any _ _ _ ws _ _ _ _ HV.out HO1.out).mono ?_; rintro e w8 ⟨rfl, hb⟩; rw [← HV0.out]))
          replace b5 := blk_keep b5 hb
          replace bp := blk_keep bp hb
          replace be := blk_keep be hb
          have HV := Lib.hid (HV.out.below hb (Nat.le_refl _))
          replace B := btr B hb (Nat.le_refl _)
          have HB6 := Lib.hid (btr HB6.out hb (Nat.le_refl _))
          have hlo := least_ok HE0.out (o := (List.range m).map fun s => max 0 (X s + eF s % 5 - 2)) (by rw [HPD.out.1, HPD.out.2]; exact HV0.out.symm)
          have hle : ∀ j, j < m → ¬ (max 0 (X j + eF j % 5 - 2) < X j) := fun j hj => by
            have h1 := hlo j hj
            have e : at0 ((List.range m).map fun s => max 0 (X s + eF s % 5 - 2)) j = max 0 (X j + eF j % 5 - 2) := by unfold at0; simp [List.getD_eq_getElem?_getD, hj]
            rw [e, ← HXX.out.1] at h1
            omega
          have HLE := Lib.hid hle
          obtain ⟨aO, cO, eO, -, -, hcO⟩ := HO1.out
          obtain ⟨bo, oo, rfl, hlO, hcellO⟩ := hcO (by simp; omega)
          injection eO with eO1 eO2 eO3
          subst eO1
          have HCO := Lib.hid (fun j (hj : j < m) => (hb.cell (p := ⟨bo, oo + j, none⟩) hlO).trans ((hcellO j (by simpa using hj)).trans (by unfold at0; simp [List.getD_eq_getElem?_getD, hj])) : ∀ j, j < m → w8.cell? ⟨bo, oo + j, none⟩ = some (.int .i64 (max 0 (X j + eF j % 5 - 2))))
          have hlO8 : bo < w8.heap.size := Nat.lt_of_lt_of_le hlO hb.size
          clear hlo hle hcO hcellO hb eO2 eO3
          go_loopw [86] (fun i wx => ∃ j : Nat, j ≤ m ∧ i = .int .i64 j ∧ Below w8.heap.size w8 wx) (fun i _ => m - (intOf i).toNat)
          case atStart => exact ⟨0, Nat.zero_le _, rfl, Below.refl _ _⟩
          case round =>
            obtain ⟨j, hj, rfl, hBj⟩ := hrel
            by_cases hjm : j < m
            · have hji : (j : Int) < (m : Int) := by omega
              have q0 := (hBj.cell (p := ⟨bo, oo + j, none⟩) hlO8).trans (HCO.out j hjm)
              have q1 := ((btr HB6.out hBj (Nat.le_refl _)).cell (p := ⟨bt, ot + j, none⟩) hltt).trans (HCT.out j hjm)
              have hnl := HLE.out j hjm
              generalize max 0 (X j + eF j % 5 - 2) = zo at *
              generalize X j = xo at *
              go_wp2
              go_quiet (fail)
              go_wp2
              go_roundw
              case rel => exact ⟨j + 1, by omega, by go_num, below_drewN hBj _⟩
              case measure => simp [intOf]; omega
            · have hji : ¬ ((j : Int) < (m : Int)) := by omega
              have hjm2 : j = m := by omega
              go_wp2
              refine HK.out _ _ ?_; clear HK
              replace b5 := blk_keep b5 hBj
              replace bp := blk_keep bp hBj
              replace be := blk_keep be hBj
              have HV := Lib.hid (HV.out.below hBj (Nat.le_refl _))
              replace B := btr B hBj (Nat.le_refl _)
              have HB6 := Lib.hid (btr HB6.out hBj (Nat.le_refl _))
              have HTW := Lib.hid (HT.out.below HB6.out (Nat.le_refl _))
              rw [hla] at HTW
              have hltW := Nat.lt_of_lt_of_le hltt HB6.out.size
              have hCW : ∀ s, s < m → wr.cell? ⟨bt, ot + s, none⟩ = some (.int .i64 (X s)) := fun s hs => (HB6.out.cell (p := ⟨bt, ot + s, none⟩) hltt).trans (HCT.out s hs)
              have HCW := Lib.hid hCW
              clear hCW
              refine wp_seq_k (fun K hK => ?_)
              have HK := Lib.hid hK; clear hK
              go_wp2
              go_loopw [101] (fun i wx => ∃ j : Nat, j ≤ m ∧ i = .int .i64 j ∧ Below wr.heap.size wr wx) (fun i _ => m - (intOf i).toNat)
              case atStart => exact ⟨0, Nat.zero_le _, rfl, Below.refl _ _⟩
              case round =>
                obtain ⟨j, hj, rfl, hBj⟩ := hrel
                by_cases hjm : j < m
                · have hji : (j : Int) < (m : Int) := by omega
                  have c50 := cell_blk (i := 0) (blk_keep b5 hBj)
                  have hsx := hBj.size
                  have hA1 : Below wr.heap.size wr (wr.alloc (.cells #[] 3)) := (Below.refl _ wr).alloc (Nat.le_refl _) _
                  have hown : (wr.alloc (.cells #[] 3)).ownsRow wr.heap.size 3 1 (.slice (some ⟨wr.heap.size, 0, none⟩) 0 0) 0 [] := ⟨rfl, .inr ⟨wr.heap.size, 0, #[], rfl, Nat.le_refl _, heap_newI rfl, by decide, by decide, rfl, rfl⟩⟩
                  have hrd := reads_of_slI (((HTW.out.below hBj (Nat.le_refl _)).below hA1 (Nat.le_refl _)))
                  skip
                  have hone : ∀ u ∈ (tabL (m : Int) ws).map (Value.int .i64), u.oneCell' = true := by
                    intro u hu
                    obtain ⟨z, _, rfl⟩ := List.mem_map.1 hu
                    rfl
                  have hlk : ((tabL (m : Int) ws).map (Value.int .i64))[j]? = some (.int .i64 (X j)) := by
                    have h1 := tab_at HE0.out hjm
                    unfold at0 at h1
                    rw [List.getD_eq_getElem?_getD, List.getElem?_eq_getElem (by rw [hla]; exact hjm)] at h1
                    rw [List.getElem?_map, List.getElem?_eq_getElem (by rw [hla]; exact hjm), HXX.out.1, ← h1]
                    simp
                  have hxj := HXX.out.2 j
                  have hxe : X j - 1 = at0 (tabL (m : Int) ws) j - 1 := by rw [tab_at HE0.out hjm, HXX.out.1]
                  have hdn := down_no HE0.out hjm
                  rw [HPD.out.1, HPD.out.2] at hdn
                  obtain ⟨V1, hV1⟩ : ∃ V1, V1 = verE (m : Int) ws (P : Int) (D : Int) (downL (tabL (m : Int) ws) j) := ⟨_, rfl⟩
                  rw [← hV1] at hdn
                  have HV1 := Lib.hid hV1
                  have HXE := Lib.hid hxe
                  have hdb : (V1 == 0) = false := by rw [beq_eq_false_iff_ne]; exact hdn
                  clear hV1 hxe hdn
                  by_cases hpos : 0 < X j
                  · go_wp2_with (first | (refine wpList_load_blk rfl 24 _ rfl _ rfl b59 Try.underlying24 rfl size24 rfl ?_) | (refine wpList_load_blk rfl 26 _ rfl _ rfl bp9 Try.underlying26 rfl size26 rfl ?_) | (go_at_call 31; refine (verify_any _ _ _ ws _ _ _ _ HV9.out HL9.out).mono ?_; rintro e w10 ⟨rfl, hb10⟩; rw [← HV1.out]) | (at_builtin; refine wpList_append_any _ rfl _ _ 45 rfl wr.heap.size 3 i3 (.int .i64 0) 1 8 Try.underlying45 HI3.out.1 HI3.out.2.1 HI3.out.2.2.1 HI3.out.2.2.2 rfl (by decide) _ _ _ rfl hown _ (some ⟨bt, ot, none⟩) m ct _ rfl hrd hone (Nat.le_trans (by omega : 0 + m ≤ 200) (by decide)) (by omega) (by rw [World.size_alloc]; omega) ?_; intro v7 w7 r1 r2 r3; rw [Nat.zero_add, List.nil_append] at r1; obtain ⟨g7, c7, hv7⟩ := own_form r1 (by omega); subst hv7; have cj := own_cell r1 hjm; rw [hlk] at cj; have fj := own_free r1 hjm; have hg7 := r1.lt g7 rfl; have r2' : (wr.alloc (.cells #[] 3)).grownBy w7 (Value.slice (some ⟨wr.heap.size, 0, none⟩) 0 0).ownBlock := r2; have hB7 : Below wr.heap.size wr w7 := ⟨r2'.os, r2'.tape, r2'.output, by have := r2'.size; rw [World.size_alloc] at this; omega, fun b hb => (r2'.block b (by rw [World.size_alloc]; omega) (fun e => by have e2 : b = wr.heap.size := Option.some.inj e; omega)).trans (heap_oldI hb)⟩; have hB9 := hB7.setCell (p := ⟨g7, j, none⟩) hg7.1 (.int .i64 (X j - 1)); have HL9 := Lib.hid (own_down (x := X j - 1) r1 hla (by omega) hjm HXE.out); have b59 := blk_keep (blk_keep b5 hBj) hB9; have bp9 := blk_keep (blk_keep bp hBj) hB9; have HV9 := Lib.hid ((HV.out.below hBj (Nat.le_refl _)).below hB9 (Nat.le_refl _)); have ct9 := (hB9.cell (p := ⟨bt, ot + j, none⟩) (Nat.lt_of_lt_of_le hltW hBj.size)).trans (hBj.cell (p := ⟨bt, ot + j, none⟩) hltW |>.trans (HCW.out j hjm))))
                    go_roundw
                    case rel => exact ⟨j + 1, by omega, by go_num, hBj.trans ((hB9.trans (hb10.mono hB9.size)).mono hBj.size)⟩
                    case measure => simp [intOf]; omega
                  · go_wp2_with (first | (refine wpList_load_blk rfl 24 _ rfl _ rfl b59 Try.underlying24 rfl size24 rfl ?_) | (refine wpList_load_blk rfl 26 _ rfl _ rfl bp9 Try.underlying26 rfl size26 rfl ?_) | (go_at_call 31; refine (verify_any _ _ _ ws _ _ _ _ HV9.out HL9.out).mono ?_; rintro e w10 ⟨rfl, hb10⟩; rw [← HV1.out]) | (at_builtin; refine wpList_append_any _ rfl _ _ 45 rfl wr.heap.size 3 i3 (.int .i64 0) 1 8 Try.underlying45 HI3.out.1 HI3.out.2.1 HI3.out.2.2.1 HI3.out.2.2.2 rfl (by decide) _ _ _ rfl hown _ (some ⟨bt, ot, none⟩) m ct _ rfl hrd hone (Nat.le_trans (by omega : 0 + m ≤ 200) (by decide)) (by omega) (by rw [World.size_alloc]; omega) ?_; intro v7 w7 r1 r2 r3; rw [Nat.zero_add, List.nil_append] at r1; obtain ⟨g7, c7, hv7⟩ := own_form r1 (by omega); subst hv7; have cj := own_cell r1 hjm; rw [hlk] at cj; have fj := own_free r1 hjm; have hg7 := r1.lt g7 rfl; have r2' : (wr.alloc (.cells #[] 3)).grownBy w7 (Value.slice (some ⟨wr.heap.size, 0, none⟩) 0 0).ownBlock := r2; have hB7 : Below wr.heap.size wr w7 := ⟨r2'.os, r2'.tape, r2'.output, by have := r2'.size; rw [World.size_alloc] at this; omega, fun b hb => (r2'.block b (by rw [World.size_alloc]; omega) (fun e => by have e2 : b = wr.heap.size := Option.some.inj e; omega)).trans (heap_oldI hb)⟩; have hB9 := hB7.setCell (p := ⟨g7, j, none⟩) hg7.1 (.int .i64 (X j - 1)); have HL9 := Lib.hid (own_down (x := X j - 1) r1 hla (by omega) hjm HXE.out); have b59 := blk_keep (blk_keep b5 hBj) hB9; have bp9 := blk_keep (blk_keep bp hBj) hB9; have HV9 := Lib.hid ((HV.out.below hBj (Nat.le_refl _)).below hB9 (Nat.le_refl _)); have ct9 := (hB9.cell (p := ⟨bt, ot + j, none⟩) (Nat.lt_of_lt_of_le hltW hBj.size)).trans (hBj.cell (p := ⟨bt, ot + j, none⟩) hltW |>.trans (HCW.out j hjm))))
                    go_roundw
                    case rel => exact ⟨j + 1, by omega, by go_num, hBj.trans (hB9.mono hBj.size)⟩
                    case measure => simp [intOf]; omega
                · have hji : ¬ ((j : Int) < (m : Int)) := by omega
                  have hjm2 : j = m := by omega
                  go_wp2
                  refine HK.out _ _ ?_; clear HK
                  have B2 := btr B hBj (Nat.le_refl _)
                  have b5j := blk_keep b5 hBj
                  have bpj := blk_keep bp hBj
                  have HVj := Lib.hid (HV.out.below hBj (Nat.le_refl _))
                  have hB6j := btr HB6.out hBj (Nat.le_refl _)
                  have cp0 := cell_blk (i := 0) bpj
                  have cp1 := cell_blk (i := 1) bpj
                  simp only [List.getElem?_toArray, List.getElem?_cons_zero, List.getElem?_cons_succ] at cp0 cp1
                  have hm20 := Int.emod_nonneg l (show (20 : Int) ≠ 0 by omega)
                  have hm21 := Int.emod_lt_of_pos l (show (0 : Int) < 20 by omega)
                  refine wp_seq_k (fun K hK => ?_)
                  have HK := Lib.hid hK; clear hK
                  go_wp2_with (go_at_call 40; refine (per_any _ _ _).mono ?_; rintro e w11 ⟨rfl, hb⟩)
                  refine HK.out _ _ ?_; clear HK K
                  have B3 := btr B2 hb (Nat.le_refl _)
                  have b5k := blk_keep b5j hb
                  have HVk := Lib.hid (HVj.out.below hb (Nat.le_refl _))
                  have hB6k := btr hB6j hb (Nat.le_refl _)
                  generalize hwx : World.alloc _ _ = w12
                  obtain ⟨bq, hb12, -⟩ := blk1 hwx
                  clear hwx
                  replace B3 := btr B3 hb12 (Nat.le_refl _)
                  replace b5k := blk_keep b5k hb12
                  replace HVk := Lib.hid (HVk.out.below hb12 (Nat.le_refl _))
                  replace hB6k := btr hB6k hb12 (Nat.le_refl _)
                  have cq0 := cell_blk (i := 0) bq
                  simp only [List.getElem?_toArray, List.getElem?_cons_zero] at cq0
                  clear hb hb12 cp0 cp1 hB6j B2 b5j bpj
                  by_cases hng : (P : Int) * 20 - 1 - l % 20 < 0
                  · go_wp2_with (go_at_call 16; refine (works_any _).mono ?_; rintro e w9 ⟨rfl, hb9⟩)
                    go_ret
                    exact ⟨rfl, btr B3 hb9 (Nat.le_refl _)⟩
                  · refine wp_seq_k (fun K hK => ?_)
                    have HK := Lib.hid hK; clear hK
                    go_wp2
                    refine HK.out _ _ ?_; clear HK K
                    refine wp_seq_k (fun K hK => ?_)
                    have HK := Lib.hid hK; clear hK
                    go_wp2
                    refine HK.out _ _ ?_; clear HK K
                    refine wp_seq_k (fun K hK => ?_)
                    have HK := Lib.hid hK; clear hK
                    go_wp2
                    go_loopw [19, 144] (fun q i wr => ∃ k : Nat, k ≤ m ∧ i = .int .i64 k ∧ wr.ownsRow w12.heap.size 3 1 q k (((List.range k).map fun s => 20 * X s + eF s).map (.int .i64)) ∧ Below w12.heap.size w12 wr) (fun _ i _ => m - (intOf i).toNat)
                    case atStart => exact ⟨0, Nat.zero_le _, rfl, World.ownsRow_nil _ _ _ _, Below.refl _ _⟩
                    case round =>
                      obtain ⟨y, hy, rfl, ro2, hBy⟩ := hrel
                      by_cases hym : y < m
                      · have hyi : (y : Int) < (m : Int) := by omega
                        obtain ⟨aq2, cq2, rfl⟩ := form_of ro2
                        have hB6y := btr hB6k hBy (Nat.le_refl _)
                        have q0 := (hB6y.cell (p := ⟨bt, ot + y, none⟩) hltt).trans (HCT.out y hym)
                        have q1 := (hB6y.cell (p := ⟨w.heap.size + 1, y, none⟩) lbe).trans (HEF.out.2 y hym)
                        have hxb := HXX.out.2 y
                        have heb := HEF.out.1 y hym
                        have hy5 : (y : Int) < 5 := by omega
                        have hszy := hBy.size
                        have e9 : ((List.range (y + 1)).map fun s => 20 * X s + eF s) = ((List.range y).map fun s => 20 * X s + eF s) ++ [20 * X y + eF y] := by rw [List.range_succ, List.map_append]; rfl
                        have HE9 := Lib.hid e9
                        clear e9
                        obtain ⟨xk, hxk⟩ : ∃ xk, xk = X y := ⟨_, rfl⟩
                        obtain ⟨ek, hek⟩ : ∃ ek, ek = eF y := ⟨_, rfl⟩
                        rw [← hxk] at q0 hxb HE9
                        rw [← hek] at q1 heb HE9
                        clear hxk hek
                        go_wp2_with (at_builtin; refine wpList_append_own _ rfl _ _ 45 rfl w12.heap.size 3 i3 (.int .i64 0) 1 8 Try.underlying45 HI3.out.1 HI3.out.2.1 HI3.out.2.2.1 HI3.out.2.2.2 rfl (by decide) _ _ _ rfl (ro2.alloc _) ⟨wr.heap.size, 0, none⟩ 1 1 [.int .i64 (20 * xk + ek)] rfl rfl (cell_newL rfl) (by intro u hu; simp at hu; subst hu; rfl) (Nat.le_trans (by omega : y + 1 ≤ 200) (by decide)) (by omega) (by rw [World.size_alloc]; omega) ?_; intro v' w7 r1 r2 _)
                        obtain ⟨hk7, hs7, ee1, ee2, ee3⟩ := append_same1 ro2 r2
                        have hB7 : Below w12.heap.size w12 w7 := ⟨ee1.trans hBy.os, ee2.trans hBy.tape, ee3.trans hBy.output, by omega, fun b hb => (hk7 b (by omega) (fun e => by have := (ro2.lt _ e).1; omega)).trans (hBy.block b hb)⟩
                        refine ⟨⟨y + 1, by omega, by go_num, ?_, hB7⟩, by simp [intOf]; omega⟩
                        rw [HE9.out, List.map_append]
                        exact r1
                      · have hyi : ¬ ((y : Int) < (m : Int)) := by omega
                        have hye : y = m := by omega
                        obtain ⟨aq2, cq2, rfl⟩ := form_of ro2
                        have hso2 := slI_own (xs := (List.range y).map fun s => 20 * X s + eF s) ro2 (by simp) (by simp; omega)
                        rw [hye] at hso2
                        have HO2 := Lib.hid hso2
                        clear hso2 ro2
                        have b5z := blk_keep b5k hBy
                        have bqz := blk_keep bq hBy
                        have HVz := Lib.hid (HVk.out.below hBy (Nat.le_refl _))
                        have B4 := btr B3 hBy (Nat.le_refl _)
                        have hfn := fine_no HE0.out (less := l % 20) hm20 (fine := (List.range m).map fun s => 20 * X s + eF s) (by rw [HPD.out.1]; omega) (by rw [HPD.out.1, HPD.out.2]; unfold goodP; rw [btw_true.2 ⟨by omega, by omega⟩, btw_true.2 ⟨by omega, by omega⟩]; rfl) (by simp) (fun x hx => by
                          obtain ⟨s, hs, rfl⟩ := List.mem_map.1 hx
                          have h1 := HXX.out.2 s
                          have h2 := HEF.out.1 s (List.mem_range.1 hs)
                          have h3 := fine_bd HE0.out HM.out s
                          rw [← HXX.out.1] at h3
                          omega)
                        rw [HPD.out.1, HPD.out.2] at hfn
                        have HFN := Lib.hid hfn
                        clear hfn
                        go_wp2
                        refine HK.out _ _ ?_; clear HK
                        go_wp2_with (first | (refine wpList_load_blk rfl 24 _ rfl _ rfl b5z Try.underlying24 rfl size24 rfl ?_) | (refine wpList_load_blk rfl 26 _ rfl _ rfl bqz Try.underlying26 rfl size26 rfl ?_) | (go_at_call 31; refine (verify_any _ _ _ ws _ _ _ _ HVz.out HO2.out).mono ?_; rintro e w13 ⟨rfl, hb13⟩; rw [HFN.out]) | (go_at_call 16; refine (works_any _).mono ?_; rintro e w9 ⟨rfl, hb9⟩))
                        go_ret
                        exact ⟨rfl, btr (btr B4 hb13 (Nat.le_refl _)) hb9 (Nat.le_refl _)⟩
        · have hz2 : (V0 == 0) = false := by rw [beq_eq_false_iff_ne]; exact hz
          have HO1 : RowKit.Hid (SlI wr (.slice aq m cq) ((List.range m).map fun s => max 0 (X s + eF s % 5 - 2))) := HO
          refine wp_seq_k (fun K hK => ?_)
          have HK := Lib.hid hK; clear hK
          go_wp2_with (first | (refine wpList_load_blk rfl 24 _ rfl _ rfl b5 Try.underlying24 rfl size24 rfl ?_) | (refine wpList_load_blk rfl 26 _ rfl _ rfl bp Try.underlying26 rfl size26 rfl ?_) | (go_at_call 31; refine (verify_any _ _ _ ws _ _ _ _ HV.out HO1.out).mono ?_; rintro e w8 ⟨rfl, hb⟩; rw [← HV0.out]))
          refine HK.out _ _ ?_; clear HK
          replace b5 := blk_keep b5 hb
          replace bp := blk_keep bp hb
          replace be := blk_keep be hb
          have HV := Lib.hid (HV.out.below hb (Nat.le_refl _))
          replace B := btr B hb (Nat.le_refl _)
          have HB6 := Lib.hid (btr HB6.out hb (Nat.le_refl _))
          have HTW := Lib.hid (HT.out.below HB6.out (Nat.le_refl _))
          rw [hla] at HTW
          have hltW := Nat.lt_of_lt_of_le hltt HB6.out.size
          have hCW : ∀ s, s < m → w8.cell? ⟨bt, ot + s, none⟩ = some (.int .i64 (X s)) := fun s hs => (HB6.out.cell (p := ⟨bt, ot + s, none⟩) hltt).trans (HCT.out s hs)
          have HCW := Lib.hid hCW
          clear hCW
          refine wp_seq_k (fun K hK => ?_)
          have HK := Lib.hid hK; clear hK
          go_wp2
          go_loopw [101] (fun i wx => ∃ j : Nat, j ≤ m ∧ i = .int .i64 j ∧ Below w8.heap.size w8 wx) (fun i _ => m - (intOf i).toNat)
          case atStart => exact ⟨0, Nat.zero_le _, rfl, Below.refl _ _⟩
          case round =>
            obtain ⟨j, hj, rfl, hBj⟩ := hrel
            by_cases hjm : j < m
            · have hji : (j : Int) < (m : Int) := by omega
              have c50 := cell_blk (i := 0) (blk_keep b5 hBj)
              have hsx := hBj.size
              have hA1 : Below wr.heap.size wr (wr.alloc (.cells #[] 3)) := (Below.refl _ wr).alloc (Nat.le_refl _) _
              have hown : (wr.alloc (.cells #[] 3)).ownsRow wr.heap.size 3 1 (.slice (some ⟨wr.heap.size, 0, none⟩) 0 0) 0 [] := ⟨rfl, .inr ⟨wr.heap.size, 0, #[], rfl, Nat.le_refl _, heap_newI rfl, by decide, by decide, rfl, rfl⟩⟩
              have hrd := reads_of_slI (((HTW.out.below hBj (Nat.le_refl _)).below hA1 (Nat.le_refl _)))
              skip
              have hone : ∀ u ∈ (tabL (m : Int) ws).map (Value.int .i64), u.oneCell' = true := by
                intro u hu
                obtain ⟨z, _, rfl⟩ := List.mem_map.1 hu
                rfl
              have hlk : ((tabL (m : Int) ws).map (Value.int .i64))[j]? = some (.int .i64 (X j)) := by
                have h1 := tab_at HE0.out hjm
                unfold at0 at h1
                rw [List.getD_eq_getElem?_getD, List.getElem?_eq_getElem (by rw [hla]; exact hjm)] at h1
                rw [List.getElem?_map, List.getElem?_eq_getElem (by rw [hla]; exact hjm), HXX.out.1, ← h1]
                simp
              have hxj := HXX.out.2 j
              have hxe : X j - 1 = at0 (tabL (m : Int) ws) j - 1 := by rw [tab_at HE0.out hjm, HXX.out.1]
              have hdn := down_no HE0.out hjm
              rw [HPD.out.1, HPD.out.2] at hdn
              obtain ⟨V1, hV1⟩ : ∃ V1, V1 = verE (m : Int) ws (P : Int) (D : Int) (downL (tabL (m : Int) ws) j) := ⟨_, rfl⟩
              rw [← hV1] at hdn
              have HV1 := Lib.hid hV1
              have HXE := Lib.hid hxe
              have hdb : (V1 == 0) = false := by rw [beq_eq_false_iff_ne]; exact hdn
              clear hV1 hxe hdn
              by_cases hpos : 0 < X j
              · go_wp2_with (first | (refine wpList_load_blk rfl 24 _ rfl _ rfl b59 Try.underlying24 rfl size24 rfl ?_) | (refine wpList_load_blk rfl 26 _ rfl _ rfl bp9 Try.underlying26 rfl size26 rfl ?_) | (go_at_call 31; refine (verify_any _ _ _ ws _ _ _ _ HV9.out HL9.out).mono ?_; rintro e w10 ⟨rfl, hb10⟩; rw [← HV1.out]) | (at_builtin; refine wpList_append_any _ rfl _ _ 45 rfl wr.heap.size 3 i3 (.int .i64 0) 1 8 Try.underlying45 HI3.out.1 HI3.out.2.1 HI3.out.2.2.1 HI3.out.2.2.2 rfl (by decide) _ _ _ rfl hown _ (some ⟨bt, ot, none⟩) m ct _ rfl hrd hone (Nat.le_trans (by omega : 0 + m ≤ 200) (by decide)) (by omega) (by rw [World.size_alloc]; omega) ?_; intro v7 w7 r1 r2 r3; rw [Nat.zero_add, List.nil_append] at r1; obtain ⟨g7, c7, hv7⟩ := own_form r1 (by omega); subst hv7; have cj := own_cell r1 hjm; rw [hlk] at cj; have fj := own_free r1 hjm; have hg7 := r1.lt g7 rfl; have r2' : (wr.alloc (.cells #[] 3)).grownBy w7 (Value.slice (some ⟨wr.heap.size, 0, none⟩) 0 0).ownBlock := r2; have hB7 : Below wr.heap.size wr w7 := ⟨r2'.os, r2'.tape, r2'.output, by have := r2'.size; rw [World.size_alloc] at this; omega, fun b hb => (r2'.block b (by rw [World.size_alloc]; omega) (fun e => by have e2 : b = wr.heap.size := Option.some.inj e; omega)).trans (heap_oldI hb)⟩; have hB9 := hB7.setCell (p := ⟨g7, j, none⟩) hg7.1 (.int .i64 (X j - 1)); have HL9 := Lib.hid (own_down (x := X j - 1) r1 hla (by omega) hjm HXE.out); have b59 := blk_keep (blk_keep b5 hBj) hB9; have bp9 := blk_keep (blk_keep bp hBj) hB9; have HV9 := Lib.hid ((HV.out.below hBj (Nat.le_refl _)).below hB9 (Nat.le_refl _)); have ct9 := (hB9.cell (p := ⟨bt, ot + j, none⟩) (Nat.lt_of_lt_of_le hltW hBj.size)).trans (hBj.cell (p := ⟨bt, ot + j, none⟩) hltW |>.trans (HCW.out j hjm))))
                go_roundw
                case rel => exact ⟨j + 1, by omega, by go_num, hBj.trans ((hB9.trans (hb10.mono hB9.size)).mono hBj.size)⟩
                case measure => simp [intOf]; omega
              · go_wp2_with (first | (refine wpList_load_blk rfl 24 _ rfl _ rfl b59 Try.underlying24 rfl size24 rfl ?_) | (refine wpList_load_blk rfl 26 _ rfl _ rfl bp9 Try.underlying26 rfl size26 rfl ?_) | (go_at_call 31; refine (verify_any _ _ _ ws _ _ _ _ HV9.out HL9.out).mono ?_; rintro e w10 ⟨rfl, hb10⟩; rw [← HV1.out]) | (at_builtin; refine wpList_append_any _ rfl _ _ 45 rfl wr.heap.size 3 i3 (.int .i64 0) 1 8 Try.underlying45 HI3.out.1 HI3.out.2.1 HI3.out.2.2.1 HI3.out.2.2.2 rfl (by decide) _ _ _ rfl hown _ (some ⟨bt, ot, none⟩) m ct _ rfl hrd hone (Nat.le_trans (by omega : 0 + m ≤ 200) (by decide)) (by omega) (by rw [World.size_alloc]; omega) ?_; intro v7 w7 r1 r2 r3; rw [Nat.zero_add, List.nil_append] at r1; obtain ⟨g7, c7, hv7⟩ := own_form r1 (by omega); subst hv7; have cj := own_cell r1 hjm; rw [hlk] at cj; have fj := own_free r1 hjm; have hg7 := r1.lt g7 rfl; have r2' : (wr.alloc (.cells #[] 3)).grownBy w7 (Value.slice (some ⟨wr.heap.size, 0, none⟩) 0 0).ownBlock := r2; have hB7 : Below wr.heap.size wr w7 := ⟨r2'.os, r2'.tape, r2'.output, by have := r2'.size; rw [World.size_alloc] at this; omega, fun b hb => (r2'.block b (by rw [World.size_alloc]; omega) (fun e => by have e2 : b = wr.heap.size := Option.some.inj e; omega)).trans (heap_oldI hb)⟩; have hB9 := hB7.setCell (p := ⟨g7, j, none⟩) hg7.1 (.int .i64 (X j - 1)); have HL9 := Lib.hid (own_down (x := X j - 1) r1 hla (by omega) hjm HXE.out); have b59 := blk_keep (blk_keep b5 hBj) hB9; have bp9 := blk_keep (blk_keep bp hBj) hB9; have HV9 := Lib.hid ((HV.out.below hBj (Nat.le_refl _)).below hB9 (Nat.le_refl _)); have ct9 := (hB9.cell (p := ⟨bt, ot + j, none⟩) (Nat.lt_of_lt_of_le hltW hBj.size)).trans (hBj.cell (p := ⟨bt, ot + j, none⟩) hltW |>.trans (HCW.out j hjm))))
                go_roundw
                case rel => exact ⟨j + 1, by omega, by go_num, hBj.trans (hB9.mono hBj.size)⟩
                case measure => simp [intOf]; omega
            · have hji : ¬ ((j : Int) < (m : Int)) := by omega
              have hjm2 : j = m := by omega
              go_wp2
              refine HK.out _ _ ?_; clear HK
              have B2 := btr B hBj (Nat.le_refl _)
              have b5j := blk_keep b5 hBj
              have bpj := blk_keep bp hBj
              have HVj := Lib.hid (HV.out.below hBj (Nat.le_refl _))
              have hB6j := btr HB6.out hBj (Nat.le_refl _)
              have cp0 := cell_blk (i := 0) bpj
              have cp1 := cell_blk (i := 1) bpj
              simp only [List.getElem?_toArray, List.getElem?_cons_zero, List.getElem?_cons_succ] at cp0 cp1
              have hm20 := Int.emod_nonneg l (show (20 : Int) ≠ 0 by omega)
              have hm21 := Int.emod_lt_of_pos l (show (0 : Int) < 20 by omega)
              refine wp_seq_k (fun K hK => ?_)
              have HK := Lib.hid hK; clear hK
              go_wp2_with (go_at_call 40; refine (per_any _ _ _).mono ?_; rintro e w11 ⟨rfl, hb⟩)
              refine HK.out _ _ ?_; clear HK K
              have B3 := btr B2 hb (Nat.le_refl _)
              have b5k := blk_keep b5j hb
              have HVk := Lib.hid (HVj.out.below hb (Nat.le_refl _))
              have hB6k := btr hB6j hb (Nat.le_refl _)
              generalize hwx : World.alloc _ _ = w12
              obtain ⟨bq, hb12, -⟩ := blk1 hwx
              clear hwx
              replace B3 := btr B3 hb12 (Nat.le_refl _)
              replace b5k := blk_keep b5k hb12
              replace HVk := Lib.hid (HVk.out.below hb12 (Nat.le_refl _))
              replace hB6k := btr hB6k hb12 (Nat.le_refl _)
              have cq0 := cell_blk (i := 0) bq
              simp only [List.getElem?_toArray, List.getElem?_cons_zero] at cq0
              clear hb hb12 cp0 cp1 hB6j B2 b5j bpj
              by_cases hng : (P : Int) * 20 - 1 - l % 20 < 0
              · go_wp2_with (go_at_call 16; refine (works_any _).mono ?_; rintro e w9 ⟨rfl, hb9⟩)
                go_ret
                exact ⟨rfl, btr B3 hb9 (Nat.le_refl _)⟩
              · refine wp_seq_k (fun K hK => ?_)
                have HK := Lib.hid hK; clear hK
                go_wp2
                refine HK.out _ _ ?_; clear HK K
                refine wp_seq_k (fun K hK => ?_)
                have HK := Lib.hid hK; clear hK
                go_wp2
                refine HK.out _ _ ?_; clear HK K
                refine wp_seq_k (fun K hK => ?_)
                have HK := Lib.hid hK; clear hK
                go_wp2
                go_loopw [19, 144] (fun q i wr => ∃ k : Nat, k ≤ m ∧ i = .int .i64 k ∧ wr.ownsRow w12.heap.size 3 1 q k (((List.range k).map fun s => 20 * X s + eF s).map (.int .i64)) ∧ Below w12.heap.size w12 wr) (fun _ i _ => m - (intOf i).toNat)
                case atStart => exact ⟨0, Nat.zero_le _, rfl, World.ownsRow_nil _ _ _ _, Below.refl _ _⟩
                case round =>
                  obtain ⟨y, hy, rfl, ro2, hBy⟩ := hrel
                  by_cases hym : y < m
                  · have hyi : (y : Int) < (m : Int) := by omega
                    obtain ⟨aq2, cq2, rfl⟩ := form_of ro2
                    have hB6y := btr hB6k hBy (Nat.le_refl _)
                    have q0 := (hB6y.cell (p := ⟨bt, ot + y, none⟩) hltt).trans (HCT.out y hym)
                    have q1 := (hB6y.cell (p := ⟨w.heap.size + 1, y, none⟩) lbe).trans (HEF.out.2 y hym)
                    have hxb := HXX.out.2 y
                    have heb := HEF.out.1 y hym
                    have hy5 : (y : Int) < 5 := by omega
                    have hszy := hBy.size
                    have e9 : ((List.range (y + 1)).map fun s => 20 * X s + eF s) = ((List.range y).map fun s => 20 * X s + eF s) ++ [20 * X y + eF y] := by rw [List.range_succ, List.map_append]; rfl
                    have HE9 := Lib.hid e9
                    clear e9
                    obtain ⟨xk, hxk⟩ : ∃ xk, xk = X y := ⟨_, rfl⟩
                    obtain ⟨ek, hek⟩ : ∃ ek, ek = eF y := ⟨_, rfl⟩
                    rw [← hxk] at q0 hxb HE9
                    rw [← hek] at q1 heb HE9
                    clear hxk hek
                    go_wp2_with (at_builtin; refine wpList_append_own _ rfl _ _ 45 rfl w12.heap.size 3 i3 (.int .i64 0) 1 8 Try.underlying45 HI3.out.1 HI3.out.2.1 HI3.out.2.2.1 HI3.out.2.2.2 rfl (by decide) _ _ _ rfl (ro2.alloc _) ⟨wr.heap.size, 0, none⟩ 1 1 [.int .i64 (20 * xk + ek)] rfl rfl (cell_newL rfl) (by intro u hu; simp at hu; subst hu; rfl) (Nat.le_trans (by omega : y + 1 ≤ 200) (by decide)) (by omega) (by rw [World.size_alloc]; omega) ?_; intro v' w7 r1 r2 _)
                    obtain ⟨hk7, hs7, ee1, ee2, ee3⟩ := append_same1 ro2 r2
                    have hB7 : Below w12.heap.size w12 w7 := ⟨ee1.trans hBy.os, ee2.trans hBy.tape, ee3.trans hBy.output, by omega, fun b hb => (hk7 b (by omega) (fun e => by have := (ro2.lt _ e).1; omega)).trans (hBy.block b hb)⟩
                    refine ⟨⟨y + 1, by omega, by go_num, ?_, hB7⟩, by simp [intOf]; omega⟩
                    rw [HE9.out, List.map_append]
                    exact r1
                  · have hyi : ¬ ((y : Int) < (m : Int)) := by omega
                    have hye : y = m := by omega
                    obtain ⟨aq2, cq2, rfl⟩ := form_of ro2
                    have hso2 := slI_own (xs := (List.range y).map fun s => 20 * X s + eF s) ro2 (by simp) (by simp; omega)
                    rw [hye] at hso2
                    have HO2 := Lib.hid hso2
                    clear hso2 ro2
                    have b5z := blk_keep b5k hBy
                    have bqz := blk_keep bq hBy
                    have HVz := Lib.hid (HVk.out.below hBy (Nat.le_refl _))
                    have B4 := btr B3 hBy (Nat.le_refl _)
                    have hfn := fine_no HE0.out (less := l % 20) hm20 (fine := (List.range m).map fun s => 20 * X s + eF s) (by rw [HPD.out.1]; omega) (by rw [HPD.out.1, HPD.out.2]; unfold goodP; rw [btw_true.2 ⟨by omega, by omega⟩, btw_true.2 ⟨by omega, by omega⟩]; rfl) (by simp) (fun x hx => by
                      obtain ⟨s, hs, rfl⟩ := List.mem_map.1 hx
                      have h1 := HXX.out.2 s
                      have h2 := HEF.out.1 s (List.mem_range.1 hs)
                      have h3 := fine_bd HE0.out HM.out s
                      rw [← HXX.out.1] at h3
                      omega)
                    rw [HPD.out.1, HPD.out.2] at hfn
                    have HFN := Lib.hid hfn
                    clear hfn
                    go_wp2
                    refine HK.out _ _ ?_; clear HK
                    go_wp2_with (first | (refine wpList_load_blk rfl 24 _ rfl _ rfl b5z Try.underlying24 rfl size24 rfl ?_) | (refine wpList_load_blk rfl 26 _ rfl _ rfl bqz Try.underlying26 rfl size26 rfl ?_) | (go_at_call 31; refine (verify_any _ _ _ ws _ _ _ _ HVz.out HO2.out).mono ?_; rintro e w13 ⟨rfl, hb13⟩; rw [HFN.out]) | (go_at_call 16; refine (works_any _).mono ?_; rintro e w9 ⟨rfl, hb9⟩))
                    go_ret
                    exact ⟨rfl, btr (btr B4 hb13 (Nat.le_refl _)) hb9 (Nat.le_refl _)⟩
end Yteileadcmekkoaa
end Go.Proofs
