/- Laws of rotation: the reference: joined laws. -/
import Derived.Test.YtnjgglnpmhjmiaaSf
import Derived.Test.YtnjgglnpmhjmiaaRj
import Derived.Test.YtnjgglnpmhjmiaaRz
import Derived.Test.YtnjgglnpmhjmiaaB4
open Go Go.RowKit Go.YtnjgglnpmhjmiaaIt
open Rest
namespace Go.Proofs
namespace Ytnjgglnpmhjmiaa
theorem RJ.rowN {base g8 : Nat} {Z : Nat → Prop} {W W1 W2 : World} {v10 vn vn' vg : Value} {ro : List Int} {us : List Value} {rows : List (List Int)} {gs : List Bool} (h : RJ base g8 Z W v10 vn vg ro us rows gs) (hl : ro.length ≤ 10000) (hb1 : Below W.heap.size W W1) (q : W2.ownsRow base 40 1 vn' (us.length + 1) (us ++ [v10])) (g : W1.grownBy W2 vn.ownBlock) :
  RJ base g8 (fun i => Z i ∨ v10.ownBlock = some i) (W2.setCell ⟨g8, 0, none⟩ vn') (.slice none 0 0) vn' vg [] (us ++ [v10]) (rows ++ [ro]) gs ∧ W2.heap[g8]? = some (.cells #[vn, vg] 29 (0, 0)) := by
 have hW1 := hb1.size
 have hty : ∀ (i : Nat) {cs : Array Value} {t : TypeId} {fr : Nat × Nat}, W.heap[i]? = some (.cells cs t fr) → t ≠ 40 → W2.heap[i]? = W.heap[i]? := fun i {cs} {t} {fr} hc ht =>
  (g.block i (Nat.lt_of_lt_of_le (lt_blk hc) hW1) fun e => ht (own_ty (h.quiet hb1).on e.symm (blk_keep hc hb1))).trans (hb1.block i (lt_blk hc))
 have hb8 : W2.heap[g8]? = some (.cells #[vn, vg] 29 (0, 0)) := (hty g8 h.box (by decide)).trans h.box
 refine ⟨?_, hb8⟩
 have hset : ∀ (i : Nat), i ≠ g8 → (W2.setCell ⟨g8, 0, none⟩ vn').heap[i]? = W2.heap[i]? := fun i hi => heap_set_other hi
 have hall : ∀ (i : Nat) {cs : Array Value} {t : TypeId} {fr : Nat × Nat}, W.heap[i]? = some (.cells cs t fr) → t ≠ 40 → t ≠ 29 → (W2.setCell ⟨g8, 0, none⟩ vn').heap[i]? = W.heap[i]? := fun i {cs} {t} {fr} hc h1 h3 =>
  (hset i (fun e => h3 (by rw [e, h.box] at hc; injection hc with hc; injection hc with _ hc _; exact hc.symm))).trans (hty i hc h1)
 have hsz : W.heap.size ≤ (W2.setCell ⟨g8, 0, none⟩ vn').heap.size := by
  rw [World.size_setCell]
  have := g.size
  omega
 have ht : ∀ i, (Z i ∨ v10.ownBlock = some i) → base ≤ i ∧ ∃ cs, W.heap[i]? = some (.cells cs 3 (0, 0)) := fun i hi => by
  rcases hi with hi | hi
  ·exact h.zt i hi
  ·obtain ⟨h1, _, cur, hc⟩ := own_lt h.o10 hi; exact ⟨h1, cur, hc⟩
 have hz2 : ∀ i, Z i ∨ v10.ownBlock = some i → i < W.heap.size → (W2.setCell ⟨g8, 0, none⟩ vn').heap[i]? = W.heap[i]? := fun i hi _ => by obtain ⟨cs, hc⟩ := (ht i hi).2; exact hall i hc (by decide) (by decide)
 have h10 := slI_own h.o10 rfl (by omega)
 have hrn := (h.rn.keep (Z' := fun i => Z i ∨ v10.ownBlock = some i) (fun _ h => .inl h) (Nat.le_refl _) (fun _ _ _ => rfl)).push (v := v10) (l := ro) h10 (fun g off n c e => .inr (by
  rcases h.o10.2 with ⟨e2, _⟩ | ⟨g', cap, cur, e2, _⟩
  ·rw [e] at e2; cases e2
  ·rw [e] at e2; injection e2 with e2 _ _; injection e2 with e2; injection e2 with e2 _ _
   rw [e, e2]
   subst e2
   rfl))
 exact {
  o10 := ⟨rfl, .inl ⟨rfl, rfl⟩⟩
  on := by
   rw [List.length_append]
   refine own_same q fun i hi => hset i (fun e3 => ?_)
   obtain ⟨_, hl2, cur, hc⟩ := own_lt q hi
   rw [e3, hb8] at hc
   injection hc with hc
   injection hc with _ hc _
   cases hc
  og := own_same h.og fun i hi => by obtain ⟨_, _, cur, hc⟩ := own_lt h.og hi; exact hall i hc (by decide) (by decide)
  rn := hrn.keep (fun _ h => h) hsz hz2
  box := by rw [heap_set_blk hb8]; rfl
  zt := fun i hi => ⟨(ht i hi).1, by obtain ⟨cs, hc⟩ := (ht i hi).2; exact ⟨cs, (hall i hc (by decide) (by decide)).trans hc⟩⟩
  z10 := fun i _ e' => by cases e' }
theorem RJ.addG {base g8 : Nat} {Z : Nat → Prop} {W W1 W2 : World} {v10 vn vg vg' : Value} {ro : List Int} {us : List Value} {rows : List (List Int)} {gs : List Bool} {b : Bool} (h : RJ base g8 Z W v10 vn vg ro us rows gs) (hb1 : Below W.heap.size W W1) (q : W2.ownsRow base 4 1 vg' (gs.length + 1) (gs.map Value.bool ++ [.bool b])) (g : W1.grownBy W2 vg.ownBlock) :
  RJ base g8 Z (W2.setCell ⟨g8, 1, none⟩ vg') v10 vn vg' ro us rows (gs ++ [b]) ∧ W2.heap[g8]? = some (.cells #[vn, vg] 29 (0, 0)) := by
 have hW1 := hb1.size
 have hty : ∀ (i : Nat) {cs : Array Value} {t : TypeId} {fr : Nat × Nat}, W.heap[i]? = some (.cells cs t fr) → t ≠ 4 → W2.heap[i]? = W.heap[i]? := fun i {cs} {t} {fr} hc ht =>
  (g.block i (Nat.lt_of_lt_of_le (lt_blk hc) hW1) fun e => ht (own_ty (h.quiet hb1).og e.symm (blk_keep hc hb1))).trans (hb1.block i (lt_blk hc))
 have hb8 : W2.heap[g8]? = some (.cells #[vn, vg] 29 (0, 0)) := (hty g8 h.box (by decide)).trans h.box
 refine ⟨?_, hb8⟩
 have hset : ∀ (i : Nat), i ≠ g8 → (W2.setCell ⟨g8, 1, none⟩ vg').heap[i]? = W2.heap[i]? := fun i hi => heap_set_other hi
 have hall : ∀ (i : Nat) {cs : Array Value} {t : TypeId} {fr : Nat × Nat}, W.heap[i]? = some (.cells cs t fr) → t ≠ 4 → t ≠ 29 → (W2.setCell ⟨g8, 1, none⟩ vg').heap[i]? = W.heap[i]? := fun i {cs} {t} {fr} hc h1 h3 =>
  (hset i (fun e => h3 (by rw [e, h.box] at hc; injection hc with hc; injection hc with _ hc _; exact hc.symm))).trans (hty i hc h1)
 have hsz : W.heap.size ≤ (W2.setCell ⟨g8, 1, none⟩ vg').heap.size := by
  rw [World.size_setCell]
  have := g.size
  omega
 exact {
  o10 := own_same h.o10 fun i hi => by obtain ⟨_, _, cur, hc⟩ := own_lt h.o10 hi; exact hall i hc (by decide) (by decide)
  on := own_same h.on fun i hi => by obtain ⟨_, _, cur, hc⟩ := own_lt h.on hi; exact hall i hc (by decide) (by decide)
  og := by
   rw [List.length_append, List.map_append]
   refine own_same q fun i hi => hset i (fun e3 => ?_)
   obtain ⟨_, _, cur, hc⟩ := own_lt q hi
   rw [e3, hb8] at hc
   injection hc with hc
   injection hc with _ hc _
   cases hc
  rn := h.rn.keep (fun _ h => h) hsz fun i hi _ => by obtain ⟨cs, hc⟩ := (h.zt i hi).2; exact hall i hc (by decide) (by decide)
  box := by rw [heap_set_blk hb8]; rfl
  zt := fun i hi => ⟨(h.zt i hi).1, by obtain ⟨cs, hc⟩ := (h.zt i hi).2; exact ⟨cs, (hall i hc (by decide) (by decide)).trans hc⟩⟩
  z10 := h.z10 }
def jrow (k : Nat) (f : Nat → Nat → Int) (s : Nat) : List Int := (List.range k).map fun c => f s c
theorem jrow_succ (k : Nat) (f : Nat → Nat → Int) (s : Nat) : jrow (k + 1) f s = jrow k f s ++ [f s k] := by simp [jrow, List.range_succ]
theorem jrow_len (k : Nat) (f : Nat → Nat → Int) (s : Nat) : (jrow k f s).length = k := by simp [jrow]
theorem jlaw_nx (s k : Nat) (f : Nat → Nat → Int) (g : Nat → Bool) : (lawOf (s + 1) k f g).nx = (lawOf s k f g).nx ++ [jrow k f s] := by simp [lawOf, jrow, List.range_succ]
theorem jlaw_gd (s k : Nat) (f : Nat → Nat → Int) (g : Nat → Bool) : (lawOf (s + 1) k f g).gd = (lawOf s k f g).gd ++ [g s] := by simp [lawOf, List.range_succ]
theorem jlaw_len (s k : Nat) (f : Nat → Nat → Int) (g : Nat → Bool) : (lawOf s k f g).nx.length = s ∧ (lawOf s k f g).gd.length = s := by simp [lawOf]
theorem jwr1 {P : Nat} (h : P ≤ 1600) : IntKind.i64.wrap (P : Int) = (P : Int) := by rw [IntKind.wrap_i64]; omega
theorem jwr2 {P n : Nat} (h : P ≤ 1600) (hn : n ≤ 40) : IntKind.i64.wrap ((P : Int) + (n : Int)) = (P : Int) + (n : Int) := by rw [IntKind.wrap_i64]; omega
theorem pair_div {m s t : Nat} (h : t < m) : (s * m + t) / m = s ∧ (s * m + t) % m = t := by
 rw [Nat.mul_comm]
 exact ⟨by rw [Nat.mul_add_div (by omega), Nat.div_eq_of_lt h, Nat.add_zero], by rw [Nat.mul_add_mod, Nat.mod_eq_of_lt h]⟩
set_option maxRecDepth 100000 in
set_option maxHeartbeats 8000000 in
theorem rjoined_any {va vb : Value} {la lb : Lw} {bt : Bool} {f : Bool → Bool → Bool} (hf : ∀ a b, f a b = (a && b || (!bt && (a || b)))) {w : World} (ha : LawA w va la) (hb : LawA w vb lb) :
  Calls Try.prog 83 #[va, vb, .bool bt] w fun e w' => ∃ vn vg, e = .returned (.tuple #[.agg #[vn, vg], .int .i64 (joinE la lb f)]) ∧ LawF w w' (.agg #[vn, vg]) (resL (tabL (joinT la lb f)) (joinE la lb f)) ∧ Below w.heap.size w w' := by
 obtain ⟨an, ag, rfl, ha1, ha2⟩ := ha
 obtain ⟨bn, bg, rfl, hb1, hb2⟩ := hb
 have hA0 := LawA.box (⟨_, _, rfl, ha1, ha2⟩ : LawA w (.agg #[an, ag]) la) 29
 have hA := (hA0.below ((Below.refl _ _).alloc (Nat.le_refl _) (.cells #[bn, bg] 29)))
 have hBl : LawA (w.alloc (.cells #[an, ag] 29)) (.agg #[bn, bg]) lb := LawA.below (⟨_, _, rfl, hb1, hb2⟩ : LawA w (.agg #[bn, bg]) lb) ((Below.refl _ _).alloc (Nat.le_refl _) _) (Nat.le_refl _)
 have hBX := hBl.box 29
 have hA3 := hA.below ((Below.refl _ _).alloc (Nat.le_refl _) (.cells #[.slice none 0 0, .slice none 0 0] 29))
 have hBX3 := hBX.below ((Below.refl _ _).alloc (Nat.le_refl _) (.cells #[.slice none 0 0, .slice none 0 0] 29))
 rw [World.size_alloc] at hBX3
 obtain ⟨c1, c2, c3, hB1, hz1⟩ := blkE3 (w := w) (a := .cells #[an, ag] 29) (b := .cells #[bn, bg] 29) (c := .cells #[.slice none 0 0, .slice none 0 0] 29) rfl
 obtain ⟨w1, hw1⟩ : ∃ q, q = ((w.alloc (.cells #[an, ag] 29)).alloc (.cells #[bn, bg] 29)).alloc (.cells #[.slice none 0 0, .slice none 0 0] 29) := ⟨_, rfl⟩
 obtain ⟨g3, hg3⟩ : ∃ q, q = w.heap.size := ⟨_, rfl⟩
 obtain ⟨g4, hg4⟩ : ∃ q, q = g3 + 1 := ⟨_, rfl⟩
 obtain ⟨g6, hg6⟩ : ∃ q, q = g4 + 1 := ⟨_, rfl⟩
 have HW := Lib.hid (And.intro hw1 (And.intro hg3 (And.intro hg4 hg6)))
 rw [← hw1] at hA3 hBX3 hB1 c3 hz1
 rw [← hg3] at hA3 hBX3 hB1 c3 hz1
 rw [← hg4] at hBX3
 rw [← hg4, ← hg6] at c3
 have HA := Lib.hid hA3
 have HBX := Lib.hid hBX3
 have HC6 := Lib.hid c3
 have HB1 := Lib.hid hB1
 have HGW := Lib.hid (show w1.heap.size = g3 + 3 ∧ g4 = g3 + 1 ∧ g6 = g3 + 2 by omega)
 have H73 := Lib.hid (rtwo_any HA.out.law HBX.out.law)
 obtain ⟨E, hE⟩ : ∃ E, E = chk2E la lb := ⟨_, rfl⟩
 rw [← hE] at H73
 have HE := Lib.hid hE
 have ERR : Hid (E ≠ 0 → joinE la lb f = E) := Lib.hid fun h => by unfold joinE; rw [if_neg (by rw [← HE.out]; exact h), HE.out]
 clear ha1 ha2 hb1 hb2 hA0 hA hBl hBX hA3 hBX3 c1 c2 c3 hz1 hw1 hg3 hg4 hg6 hE hB1
 go_enter Try.func83, Try.ntmps83
 refine wp_seq_k (fun K hK => ?_)
 have HK := Lib.hid hK; clear hK
 go_wp2
 refine HK.out _ _ ?_; clear HK
 rw [← HW.out.1, ← HW.out.2.1, ← HW.out.2.2.1, ← HW.out.2.2.2]
 clear HW
 refine wp_seq_k (fun K hK => ?_)
 have HK := Lib.hid hK; clear hK
 go_wp2_with (first | (refine wpList_load_blk rfl 29 (.tmp 3) rfl _ rfl HA.out.blk Try.underlying29 rfl size29 rfl ?_) | (refine wpList_load_blk rfl 29 (.tmp 4) rfl _ rfl HBX.out.blk Try.underlying29 rfl size29 rfl ?_) | (go_at_call 73; refine H73.out.mono ?_; rintro e w2 ⟨rfl, hb2⟩; have HB2 := Lib.hid hb2; clear hb2))
 refine HK.out _ _ ?_; clear HK
 have HC7 := Lib.hid (blk_keep HC6.out HB2.out)
 by_cases h0 : E = 0
 case neg =>
  have hb0 : (E != 0) = true := by simpa using h0
  have HJE := Lib.hid (ERR.out h0)
  clear ERR
  rw [HJE.out]
  go_wp2_with (refine wpList_store_blk rfl 29 _ _ rfl _ rfl rfl HC7.out size29 rfl rfl (by simp [Value.oneCell']) ?_)
  refine bodyPost_ret (results_agg_tmp rfl _ _ g6 rfl (World.putObj_heap_same (lt_blk HC7.out)) Try.underlying29 rfl size29 rfl) rfl ⟨_, _, rfl, ?_, ?_⟩
  ·unfold resL; rw [if_neg h0]; exact LawF.nil _ _
  ·have := HGW.out
   exact below_putObj (HB1.out.trans (HB2.out.mono (by omega))) (by omega)
 subst h0
 have HOK := Lib.hid (chk2_ok (a := la) (b := lb) HE.out.symm)
 have hb0 : ((0 : Int) != 0) = false := rfl
 clear ERR
 refine wp_seq_k (fun K hK => ?_)
 have HK := Lib.hid hK; clear hK
 go_wp2
 refine HK.out _ _ ?_; clear HK
 refine wp_seq_k (fun K hK => ?_)
 have HK := Lib.hid hK; clear hK
 go_wp2
 refine HK.out _ _ ?_; clear HK
 obtain ⟨an, cn1, rfl, -⟩ := slII_form HA.out.nx
 obtain ⟨bn, cn2, rfl, -⟩ := slII_form HBX.out.nx
 obtain ⟨ag, cg1, rfl, -⟩ := id HA.out.gd
 obtain ⟨bg, cg2, rfl, -⟩ := id HBX.out.gd
 rw [List.length_map, HOK.out.1.gd] at HA ⊢
 rw [List.length_map, HOK.out.2.1.gd] at HBX ⊢
 obtain ⟨mA, hmA⟩ : ∃ m, m = la.nx.length := ⟨_, rfl⟩
 obtain ⟨mB, hmB⟩ : ∃ m, m = lb.nx.length := ⟨_, rfl⟩
 obtain ⟨k, hkk⟩ : ∃ q, q = la.k := ⟨_, rfl⟩
 have HM := Lib.hid (And.intro hmA (And.intro hmB (And.intro hkk (show k = lb.k by rw [hkk]; exact HOK.out.2.2))))
 rw [← hmA] at HA ⊢
 rw [← hmB] at HBX ⊢
 have hA40 : 1 ≤ mA ∧ mA ≤ 40 := by rw [HM.out.1]; exact ⟨HOK.out.1.n1, HOK.out.1.n40⟩
 have hB40 : 1 ≤ mB ∧ mB ≤ 40 := by rw [HM.out.2.1]; exact ⟨HOK.out.2.1.n1, HOK.out.2.1.n40⟩
 have hk4 : 1 ≤ k ∧ k ≤ 4 := by rw [hkk]; exact ⟨HOK.out.1.k1, HOK.out.1.k4⟩
 obtain ⟨w3, hw3⟩ : ∃ q, q = w2.alloc (.cells #[.slice none 0 0, .slice none 0 0] 29) := ⟨_, rfl⟩
 have hb23 : Below w2.heap.size w2 w3 := by rw [hw3]; exact (Below.refl _ _).alloc (Nat.le_refl _) _
 have c9 : w3.heap[w2.heap.size]? = some (.cells #[.slice none 0 0, .slice none 0 0] 29 (0, 0)) := by rw [hw3]; exact heap_newI rfl
 rw [← hw3]
 obtain ⟨g9, hg9⟩ : ∃ q, q = w2.heap.size := ⟨_, rfl⟩
 rw [← hg9] at c9 ⊢
 obtain ⟨bs, hbs⟩ : ∃ q, q = w2.heap.size := ⟨_, rfl⟩
 rw [← hbs] at hb23
 have HBS := Lib.hid hbs
 have hbsg : bs ≤ g9 := by rw [hg9, hbs]; exact Nat.le_refl _
 obtain ⟨FF, hFF⟩ : ∃ q, q = pairF la lb := ⟨_, rfl⟩
 obtain ⟨GG, hGG⟩ : ∃ q, q = pairG la lb f := ⟨_, rfl⟩
 have HFF := Lib.hid (And.intro hFF hGG)
 have HJ0 := Lib.hid (And.intro (RJ.start (base := bs) c9) hb23)
 have HX := Lib.hid (show ∀ W, Below bs w2 W → LawX W g3 29 la (.slice an mA cn1) (.slice ag mA cg1) ∧ LawX W g4 29 lb (.slice bn mB cn2) (.slice bg mB cg2) from fun W hW => by
  rw [hbs] at hW
  exact ⟨(HA.out.below HB2.out).below hW, (HBX.out.below HB2.out).below hW⟩)
 have HK5 : Hid (∀ W, Below bs w2 W → Calls Try.prog 65 #[.agg #[.slice an mA cn1, .slice ag mA cg1]] W fun e w' => e = .returned (.int .i64 (k : Nat)) ∧ Below W.heap.size W w') := Lib.hid fun W hW => by rw [hkk]; exact rcrops_any (HX.out W hW).1.law HOK.out.1.fit.ne
 clear hw3 hb23 c9 hg9 hbs hFF hGG hkk hmA hmB H73
 refine wp_seq_k (fun K hK => ?_)
 have HK := Lib.hid hK; clear hK
 go_wp2
 go_loopw [10] (fun i wr => ∃ (s : Nat) (Z : Nat → Prop) (vn vg : Value) (us : List Value), s ≤ mA ∧ i = .int .i64 s ∧ Hid (RJ bs g9 Z wr (.slice none 0 0) vn vg [] us (lawOf (s * mB) k FF GG).nx (lawOf (s * mB) k FF GG).gd ∧ Below bs w2 wr)) (fun i _ => mA - (intOf i).toNat)
 case atStart => exact ⟨0, _, _, _, [], Nat.zero_le _, rfl, by rw [Nat.zero_mul]; exact HJ0⟩
 case round =>
  clear HJ0
  obtain ⟨s, Z, vn, vg, us, hs, rfl, HJ1⟩ := hrel
  obtain ⟨wo, rfl⟩ : ∃ q, q = wr := ⟨_, rfl⟩
  have xa := cell_blk (i := 0) (HX.out wo HJ1.out.2).1.blk
  simp only [List.getElem?_toArray, List.getElem?_cons_zero] at xa
  by_cases hsn : s < mA
  rotate_left
  ·have hse : s = mA := by omega
   have hsi : ¬ (s : Int) < (mA : Int) := by omega
   obtain ⟨hJ, hB⟩ := HJ1.out
   rw [hse] at hJ
   have hn16 : mA * mB ≤ 1600 := Nat.mul_le_mul hA40.2 hB40.2
   have hn1 : 1 ≤ mA * mB := Nat.mul_pos hA40.1 hB40.1
   have hul : us.length = mA * mB := by rw [hJ.rn.1, (jlaw_len _ k FF GG).1]
   have hX := hJ.law (by rw [hul]; omega) (by rw [(jlaw_len _ k FF GG).2]; omega)
   have hfit : (lawOf (mA * mB) k FF GG).Fit := lawOf_fit hn1 (by omega) hk4.1 hk4.2 fun u c hu hc => by
    have h := pairF_bd HOK.out.1 HOK.out.2.1 HOK.out.2.2 (u := u) (c := c) (by rw [← HM.out.1, ← HM.out.2.1]; exact hu) (by rw [← HM.out.2.2.1]; exact hc)
    rw [← HM.out.1, ← HM.out.2.1] at h
    rw [HFF.out.1]
    exact h
   have h60 := rtable_any (l := lawOf (mA * mB) k FF GG) hX.law hfit
   rw [lawOf_k FF GG hn1, HFF.out.1, HFF.out.2, HM.out.1, HM.out.2.1, HM.out.2.2.1, pair_fut HOK.out.1 HOK.out.2.1 HOK.out.2.2 f] at h60
   obtain ⟨T, hT⟩ : ∃ T, T = joinT la lb f := ⟨_, rfl⟩
   have H60 := Lib.hid (show Calls Try.prog 60 #[.agg #[vn, vg]] wo fun e w' => ∃ vn vg vst, e = .returned (.tuple #[.agg #[vn, vg], vst]) ∧ Below wo.heap.size wo w' ∧ TabN wo w' vn vg vst T from by rw [hT]; exact h60)
   have HT0 := Lib.hid hT
   have HXB := Lib.hid hX.blk
   have HB := Lib.hid hB
   have HC := Lib.hid ((hB.block g6 (by have := HGW.out; have := HBS.out; have := HB2.out.size; omega)).trans HC7.out)
   clear hJ hB hX h60 HJ1 hse hT hul hfit hn16 hn1
   go_wp2
   refine HK.out _ _ ?_; clear HK
   refine wp_seq_k (fun K hK => ?_)
   have HK := Lib.hid hK; clear hK
   go_wp2_with (first | (refine wpList_load_blk rfl 29 (.tmp 9) rfl _ rfl HXB.out Try.underlying29 rfl size29 rfl ?_) | (go_at_call 60; refine H60.out.mono ?_; rintro e w5 ⟨tn, tg, ts, rfl, hb3, hT⟩; have HT := Lib.hid hT; have HB3 := Lib.hid hb3; have HTL := Lib.hid (hT.law (Nat.le_refl _) fun _ _ _ => rfl); clear hb3 hT) | (refine wpList_store_blk rfl 29 _ _ rfl _ rfl rfl (heap_newI rfl) size29 rfl rfl HTL.out.one ?_))
   refine HK.out _ _ ?_; clear HK
   generalize hw4 : World.putObj _ _ _ = w4
   obtain ⟨hx4, hb4⟩ := storedT HTL.out hw4
   obtain ⟨g14, hg14⟩ : ∃ g, g = w5.heap.size := ⟨_, rfl⟩
   rw [← hg14] at hx4 ⊢
   obtain ⟨ta, tc, rfl, -⟩ := slII_form hx4.nx
   obtain ⟨N, hN⟩ : ∃ N, N = (tabL T).nx.length := ⟨_, rfl⟩
   have x14 := cell_blk (i := 0) hx4.blk
   simp only [List.getElem?_toArray, List.getElem?_cons_zero] at x14
   rw [← hN] at hx4 x14 HTL HT ⊢
   have HX4 := Lib.hid hx4
   have HB4 := Lib.hid hb4
   have HC4 := Lib.hid (blk_keep (blk_keep HC.out HB3.out) hb4)
   have HNN := Lib.hid (show N = (joinT la lb f).nx.length by rw [hN, ← HT0.out]; simp [tabL])
   have HBF : Hid (Below g3 w w4) := Lib.hid (by
    have h1 := HGW.out
    have h2 := HBS.out
    have h3 := HB2.out.size
    have h4 := HB.out.size
    have h5 := HB3.out.size
    have h6 : Below g3 w wo := (HB1.out.trans (HB2.out.mono (by omega))).trans (HB.out.mono (by omega))
    exact (h6.trans (HB3.out.mono (by omega))).trans (hb4.mono (by omega)))
   have HG63 : Hid (g3 ≤ g6 ∧ g6 < wo.heap.size) := Lib.hid (by
    have h1 := HGW.out
    have h2 := HBS.out
    have h3 := HB2.out.size
    have h4 := HB.out.size
    omega)
   clear hx4 hb4 hw4 hg14 hN
   by_cases h40 : (40 : Int) < (N : Int)
   ·have HJE : Hid (joinE la lb f = 15) := Lib.hid (by unfold joinE; rw [if_pos HE.out.symm, if_pos (by rw [← HNN.out]; omega)])
    rw [HJE.out]
    go_wp2_with (guard_target =~ wpList _ _ _ _ _ _; refine wpList_store_blk rfl 29 _ _ rfl _ rfl rfl HC4.out size29 rfl rfl (by simp [Value.oneCell']) ?_)
    refine bodyPost_ret (results_agg_tmp rfl _ _ g6 rfl (World.putObj_heap_same (lt_blk HC4.out)) Try.underlying29 rfl size29 rfl) rfl ⟨_, _, rfl, ?_, ?_⟩
    ·unfold resL; rw [if_neg (by decide)]; exact LawF.nil _ _
    ·exact below_putObj HBF.out HG63.out.1
   ·have HJE : Hid (joinE la lb f = 0) := Lib.hid (by unfold joinE; rw [if_pos HE.out.symm, if_neg (by rw [← HNN.out]; omega)])
    rw [HJE.out]
    go_wp2_with (guard_target =~ wpList _ _ _ _ _ _; first | (refine wpList_load_blk rfl 29 (.tmp 14) rfl _ rfl HX4.out.blk Try.underlying29 rfl size29 rfl ?_) | (refine wpList_store_blk rfl 29 _ _ rfl _ rfl rfl HC4.out size29 rfl rfl HX4.out.law.one ?_))
    refine bodyPost_ret (results_agg_tmp rfl _ _ g6 rfl (World.putObj_heap_same (lt_blk HC4.out)) Try.underlying29 rfl size29 rfl) rfl ⟨_, _, rfl, ?_, ?_⟩
    ·have hs4 := HB4.out.size
     unfold resL
     rw [if_pos rfl, ← HT0.out]
     refine HT.out.lawF (by rw [World.putObj_size]; exact hs4) (by have h1 := HGW.out; have h3 := HB2.out.size; have h4 := HB.out.size; have h5 := HBS.out; have h6 := HB1.out.size; omega) (fun i hi hi' => ?_)
     have h1 := HG63.out
     rw [World.putObj_heap_other (by omega)]
     exact HB4.out.block i hi'
    ·exact below_putObj HBF.out HG63.out.1
  ·have hsi : (s : Int) < (mA : Int) := by omega
   go_wp2
   go_loopw [11] (fun i wr => ∃ (t : Nat) (Z : Nat → Prop) (vn vg : Value) (us : List Value), t ≤ mB ∧ i = .int .i64 t ∧ Hid (RJ bs g9 Z wr (.slice none 0 0) vn vg [] us (lawOf (s * mB + t) k FF GG).nx (lawOf (s * mB + t) k FF GG).gd ∧ Below bs w2 wr)) (fun i _ => mB - (intOf i).toNat)
   case atStart => exact ⟨0, Z, vn, vg, us, Nat.zero_le _, rfl, HJ1⟩
   case round =>
    clear HJ1 xa
    obtain ⟨t, Z, vn, vg, us, ht, rfl, HJ2⟩ := hrel
    obtain ⟨wp, rfl⟩ : ∃ q, q = wr := ⟨_, rfl⟩
    have xb := cell_blk (i := 0) (HX.out wp HJ2.out.2).2.blk
    simp only [List.getElem?_toArray, List.getElem?_cons_zero] at xb
    by_cases htn : t < mB
    rotate_left
    ·have hte : t = mB := by omega
     have hti : ¬ (t : Int) < (mB : Int) := by omega
     have HJ4 := Lib.hid (show RJ bs g9 Z wp (.slice none 0 0) vn vg [] us (lawOf ((s + 1) * mB) k FF GG).nx (lawOf ((s + 1) * mB) k FF GG).gd ∧ Below bs w2 wp from by
      have h := HJ2.out
      rw [hte] at h
      rw [Nat.succ_mul]
      exact h)
     clear hte HJ2
     go_wp2
     exact ⟨⟨s + 1, Z, vn, vg, us, by omega, by go_num, HJ4⟩, by simp only [intOf]; omega⟩
    ·have hti : (t : Int) < (mB : Int) := by omega
     obtain ⟨u, hu⟩ : ∃ u, u = s * mB + t := ⟨_, rfl⟩
     rw [← hu] at HJ2
     have HU := Lib.hid hu
     obtain ⟨NX, hNX⟩ : ∃ q, q = (lawOf u k FF GG).nx := ⟨_, rfl⟩
     obtain ⟨GS, hGS⟩ : ∃ q, q = (lawOf u k FF GG).gd := ⟨_, rfl⟩
     rw [← hNX, ← hGS] at HJ2
     have HNG := Lib.hid (And.intro hNX hGS)
     clear hu hNX hGS
     go_wp2
     go_loopw [12, 13] (fun v12 i wr => ∃ c : Nat, c ≤ k ∧ i = .int .i64 c ∧ Hid (RJ bs g9 Z wr v12 vn vg (jrow c FF u) us NX GS ∧ Below bs w2 wr)) (fun _ i _ => k - (intOf i).toNat)
     case atStart => exact ⟨0, Nat.zero_le _, rfl, HJ2⟩
     case round =>
      clear HJ2 xb
      obtain ⟨c, hc, rfl, HJ3⟩ := hrel
      obtain ⟨wq, rfl⟩ : ∃ q, q = wr := ⟨_, rfl⟩
      have HXq := Lib.hid (HX.out wq HJ3.out.2)
      have H65 := Lib.hid (HK5.out wq HJ3.out.2)
      by_cases hck : c < k
      ·as_aux_lemma =>
        have hci : (c : Int) < (k : Int) := by omega
        obtain ⟨a12, c12, e12, -⟩ := own_form HJ3.out.1.o10
        rw [jrow_len] at e12
        subst e12
        go_wp2_with (first | (refine wpList_load_blk rfl 29 _ rfl _ rfl HXq.out.1.blk Try.underlying29 rfl size29 rfl ?_) | (go_at_call 65; refine H65.out.mono ?_; rintro e wv ⟨rfl, hbv⟩; refine cutme ?_))
        refine ⟨?_⟩
        have hJv := HJ3.out.1.quiet hbv
        have hBv := btr HJ3.out.2 hbv (Nat.le_of_eq HBS.out)
        have HXv := Lib.hid (HX.out w2 (by rw [HBS.out]; exact Below.refl _ _))
        have hsl : s < la.nx.length := by rw [← HM.out.1]; exact hsn
        have htl : t < lb.nx.length := by rw [← HM.out.2.1]; exact htn
        have hcl : c < la.k := by rw [← HM.out.2.2.1]; exact hck
        have hcl2 : c < lb.k := by rw [← HM.out.2.2.2]; exact hck
        obtain ⟨b1, o1, b2, o2, q1, r1, e1, hb1, hc1, hb2, hc2⟩ := HXv.out.1.ent HOK.out.1.fit hsl hcl
        obtain ⟨b3, o3, b4, o4, q3, r3, e3, hb3, hc3, hb4, hc4⟩ := HXv.out.2.ent HOK.out.2.1.fit htl hcl2
        rw [← HM.out.1] at e1
        rw [← HM.out.2.1] at e3
        injection e1 with e1 _ e1c
        injection e3 with e3 _ e3c
        subst e1 e1c e3 e3c
        rw [← HM.out.2.2.1] at hc1
        rw [← HM.out.2.2.2] at hc3
        obtain ⟨n1, hn1, hl1⟩ := (HOK.out.1.fit.cl (s := (s : Int)) ⟨by omega, by omega⟩ hcl).nat
        obtain ⟨n2, hn2, hl2⟩ := (HOK.out.2.1.fit.cl (s := (t : Int)) ⟨by omega, by omega⟩ hcl2).nat
        rw [← HM.out.1] at hl1
        rw [← HM.out.2.1] at hl2
        rw [hn1] at hc2
        rw [hn2] at hc4
        obtain ⟨P, hP⟩ : ∃ P, P = n1 * mB := ⟨_, rfl⟩
        have hmul : (n1 : Int) * (mB : Int) = (P : Int) := by rw [hP, Int.natCast_mul]
        have hP16 : P ≤ 1600 := by rw [hP]; exact Nat.mul_le_mul (show n1 ≤ 40 by omega) hB40.2
        have hw1 := jwr1 hP16
        have hw2 := jwr2 hP16 (Nat.le_trans (Nat.le_of_lt hl2) hB40.2)
        have HVAL : Hid ((P : Int) + (n2 : Int) = FF u c) := Lib.hid (by
         rw [HFF.out.1, HU.out]
         unfold pairF
         rw [← HM.out.2.1, (pair_div htn).1, (pair_div htn).2, hn1, hn2, hmul])
        rw [← HBS.out] at hb1 hb2 hb3 hb4
        have HE1 := Lib.hid (And.intro hb1 hc1)
        have HE2 := Lib.hid (And.intro hb2 hc2)
        have HE3 := Lib.hid (And.intro hb3 hc3)
        have HE4 := Lib.hid (And.intro hb4 hc4)
        have HJV := Lib.hid (And.intro hJv hBv)
        clear hJv hBv hb1 hc1 hb2 hc2 hb3 hc3 hb4 hc4 hn1 hn2 hP hbv hsl htl hcl hcl2 HXq H65 HJ3
        go_wp2
        refine wp_region_x (R := fun U => Below bs w2 U) (S := fun _ => True) (z := 999) rfl ?_
        change wpAnyX _ _ _ _ _ _ _ _ _ _ wv.drew
        have Hq0 := Lib.hid (show Below wv.heap.size wv wv.drew from (Below.refl _ _).drew)
        obtain ⟨wq0, hwq⟩ : ∃ q, q = wv.drew := ⟨_, rfl⟩
        rw [← hwq] at Hq0 ⊢
        clear hwq
        have hR0 := btr HJV.out.2 Hq0.out (Nat.le_of_eq HBS.out)
        refine wpX_kp (i := 0) (oi := ⟨some 43, _, _, _, _, none⟩) (v := ?_) rfl (fun _ _ _ h => h) ?_ ⟨(by first | exact hR2 | exact hR1 | exact hR0), fun _ => trivial⟩ ?_
        rotate_left
        ·intro U hU
         go_simp
         all_goals with_reducible rfl
        simp only [putE]
        refine wpX_kp (i := 1) (oi := ⟨some 44, _, _, _, _, none⟩) (v := ?_) rfl (fun _ _ _ h => h) ?_ ⟨(by first | exact hR2 | exact hR1 | exact hR0), fun _ => trivial⟩ ?_
        rotate_left
        ·intro U hU
         go_simp
         all_goals with_reducible rfl
        simp only [putE]
        refine wpX_kp (i := 2) (oi := ⟨some 45, _, _, _, _, none⟩) (v := ?_) rfl (fun _ _ _ h => h) ?_ ⟨(by first | exact hR2 | exact hR1 | exact hR0), fun _ => trivial⟩ ?_
        rotate_left
        ·intro U hU
         have u0 := cell_blk (i := 0) (HX.out U hU).1.blk
         simp only [List.getElem?_toArray, List.getElem?_cons_zero] at u0
         go_simp
         all_goals with_reducible rfl
        simp only [putE]
        refine wpX_kp (i := 3) (oi := ⟨some 46, _, _, _, _, none⟩) (v := ?_) rfl (fun _ _ _ h => h) ?_ ⟨(by first | exact hR2 | exact hR1 | exact hR0), fun _ => trivial⟩ ?_
        rotate_left
        ·intro U hU
         go_simp
         all_goals with_reducible rfl
        simp only [putE]
        refine wpX_kp (i := 4) (oi := ⟨some 47, _, _, _, _, none⟩) (v := ?_) rfl (fun _ _ _ h => h) ?_ ⟨(by first | exact hR2 | exact hR1 | exact hR0), fun _ => trivial⟩ ?_
        rotate_left
        ·intro U hU
         go_simp
         all_goals with_reducible rfl
        simp only [putE]
        refine wpX_kp (i := 5) (oi := ⟨some 48, _, _, _, _, none⟩) (v := ?_) rfl (fun _ _ _ h => h) ?_ ⟨(by first | exact hR2 | exact hR1 | exact hR0), fun _ => trivial⟩ ?_
        rotate_left
        ·intro U hU
         have u0 := (hU.cell (p := ⟨b1, o1 + s, none⟩) HE1.out.1).trans HE1.out.2
         go_simp
         all_goals with_reducible rfl
        simp only [putE]
        refine wpX_kp (i := 6) (oi := ⟨some 49, _, _, _, _, none⟩) (v := ?_) rfl (fun _ _ _ h => h) ?_ ⟨(by first | exact hR2 | exact hR1 | exact hR0), fun _ => trivial⟩ ?_
        rotate_left
        ·intro U hU
         go_simp
         all_goals with_reducible rfl
        simp only [putE]
        refine wpX_kp (i := 7) (oi := ⟨some 50, _, _, _, _, none⟩) (v := ?_) rfl (fun _ _ _ h => h) ?_ ⟨(by first | exact hR2 | exact hR1 | exact hR0), fun _ => trivial⟩ ?_
        rotate_left
        ·intro U hU
         go_simp
         all_goals with_reducible rfl
        simp only [putE]
        refine wpX_kp (i := 8) (oi := ⟨some 51, _, _, _, _, none⟩) (v := ?_) rfl (fun _ _ _ h => h) ?_ ⟨(by first | exact hR2 | exact hR1 | exact hR0), fun _ => trivial⟩ ?_
        rotate_left
        ·intro U hU
         have u0 := (hU.cell (p := ⟨b2, o2 + c, none⟩) HE2.out.1).trans HE2.out.2
         go_simp
         all_goals with_reducible rfl
        simp only [putE]
        refine wpX_kp (i := 9) (oi := ⟨some 52, _, _, _, _, none⟩) (v := ?_) rfl (fun _ _ _ h => h) ?_ ⟨(by first | exact hR2 | exact hR1 | exact hR0), fun _ => trivial⟩ ?_
        rotate_left
        ·intro U hU
         go_simp
         all_goals with_reducible rfl
        simp only [putE]
        refine wpX_kp (i := 10) (oi := ⟨some 53, _, _, _, _, none⟩) (v := ?_) rfl (fun _ _ _ h => h) ?_ ⟨(by first | exact hR2 | exact hR1 | exact hR0), fun _ => trivial⟩ ?_
        rotate_left
        ·intro U hU
         have u0 := cell_blk (i := 0) (HX.out U hU).2.blk
         simp only [List.getElem?_toArray, List.getElem?_cons_zero] at u0
         go_simp
         all_goals with_reducible rfl
        simp only [putE]
        refine wpX_kp (i := 11) (oi := ⟨some 54, _, _, _, _, none⟩) (v := ?_) rfl (fun _ _ _ h => h) ?_ ⟨(by first | exact hR2 | exact hR1 | exact hR0), fun _ => trivial⟩ ?_
        rotate_left
        ·intro U hU
         go_simp
         all_goals with_reducible rfl
        simp only [putE]
        refine wpX_kp (i := 12) (oi := ⟨some 55, _, _, _, _, none⟩) (v := ?_) rfl (fun _ _ _ h => h) ?_ ⟨(by first | exact hR2 | exact hR1 | exact hR0), fun _ => trivial⟩ ?_
        rotate_left
        ·intro U hU
         go_simp
         all_goals with_reducible rfl
        simp only [putE]
        refine wpX_kp (i := 13) (oi := ⟨some 56, _, _, _, _, none⟩) (v := ?_) rfl (fun _ _ _ h => h) ?_ ⟨(by first | exact hR2 | exact hR1 | exact hR0), fun _ => trivial⟩ ?_
        rotate_left
        ·intro U hU
         go_simp
         all_goals with_reducible rfl
        simp only [putE]
        refine wpX_kp (i := 14) (oi := ⟨some 57, _, _, _, _, none⟩) (v := ?_) rfl (fun _ _ _ h => h) ?_ ⟨(by first | exact hR2 | exact hR1 | exact hR0), fun _ => trivial⟩ ?_
        rotate_left
        ·intro U hU
         have u0 := cell_blk (i := 0) (HX.out U hU).2.blk
         simp only [List.getElem?_toArray, List.getElem?_cons_zero] at u0
         go_simp
         all_goals with_reducible rfl
        simp only [putE]
        refine wpX_kp (i := 15) (oi := ⟨some 58, _, _, _, _, none⟩) (v := ?_) rfl (fun _ _ _ h => h) ?_ ⟨(by first | exact hR2 | exact hR1 | exact hR0), fun _ => trivial⟩ ?_
        rotate_left
        ·intro U hU
         go_simp
         all_goals with_reducible rfl
        simp only [putE]
        refine wpX_kp (i := 16) (oi := ⟨some 59, _, _, _, _, none⟩) (v := ?_) rfl (fun _ _ _ h => h) ?_ ⟨(by first | exact hR2 | exact hR1 | exact hR0), fun _ => trivial⟩ ?_
        rotate_left
        ·intro U hU
         go_simp
         all_goals with_reducible rfl
        simp only [putE]
        refine wpX_kp (i := 17) (oi := ⟨some 60, _, _, _, _, none⟩) (v := ?_) rfl (fun _ _ _ h => h) ?_ ⟨(by first | exact hR2 | exact hR1 | exact hR0), fun _ => trivial⟩ ?_
        rotate_left
        ·intro U hU
         have u0 := (hU.cell (p := ⟨b3, o3 + t, none⟩) HE3.out.1).trans HE3.out.2
         go_simp
         all_goals with_reducible rfl
        simp only [putE]
        refine wpX_kp (i := 18) (oi := ⟨some 61, _, _, _, _, none⟩) (v := ?_) rfl (fun _ _ _ h => h) ?_ ⟨(by first | exact hR2 | exact hR1 | exact hR0), fun _ => trivial⟩ ?_
        rotate_left
        ·intro U hU
         go_simp
         all_goals with_reducible rfl
        simp only [putE]
        refine wpX_kp (i := 19) (oi := ⟨some 62, _, _, _, _, none⟩) (v := ?_) rfl (fun _ _ _ h => h) ?_ ⟨(by first | exact hR2 | exact hR1 | exact hR0), fun _ => trivial⟩ ?_
        rotate_left
        ·intro U hU
         go_simp
         all_goals with_reducible rfl
        simp only [putE]
        refine wpX_kp (i := 20) (oi := ⟨some 63, _, _, _, _, none⟩) (v := ?_) rfl (fun _ _ _ h => h) ?_ ⟨(by first | exact hR2 | exact hR1 | exact hR0), fun _ => trivial⟩ ?_
        rotate_left
        ·intro U hU
         have u0 := (hU.cell (p := ⟨b4, o4 + c, none⟩) HE4.out.1).trans HE4.out.2
         go_simp
         all_goals with_reducible rfl
        simp only [putE]
        refine wpX_kp (i := 21) (oi := ⟨some 64, _, _, _, _, none⟩) (v := ?_) rfl (fun _ _ _ h => h) ?_ ⟨(by first | exact hR2 | exact hR1 | exact hR0), fun _ => trivial⟩ ?_
        rotate_left
        ·intro U hU
         go_simp
         all_goals with_reducible rfl
        simp only [putE]
        refine wpAnyX_one (i := 22) (o := ⟨some 65, _, _, _, _, none⟩) (by kernel_rfl) rfl (by rfl) (fun K1 hK1 => ?_)
        have HK1 := Lib.hid hK1; clear hK1
        have hRa := Hq0.out.alloc Hq0.out.size (.cells #[.int .i64 ((P : Int) + (n2 : Int))] 3)
        have hR1 := btr HJV.out.2 hRa (Nat.le_of_eq HBS.out)
        go_simp
        refine HK1.out _ _ ⟨hR1, fun _ => trivial⟩ ?_
        clear HK1
        try simp only [putE]
        refine wpAnyX_one (i := 23) (o := ⟨some 66, _, _, _, _, none⟩) (by kernel_rfl) rfl (by rfl) (fun K1 hK1 => ?_)
        have HK1 := Lib.hid hK1; clear hK1
        have hbz := hR1.size
        rw [← HBS.out] at hbz
        have hJq := HJV.out.1.quiet hRa
        refine oper_app (.tmp 43) (.tmp 65) 40 3 rfl Try.underlying40 info3 rfl (by decide) (xs := (jrow c FF u).map (Value.int .i64)) (by rw [List.length_map]; exact hJq.o10) (by rw [List.length_map, jrow_len]; omega) rfl rfl (heap_newI rfl) rfl hbz ?_
        intro v' w9 q9 gr9 e9
        rw [List.length_map] at q9
        have hJ9 := hJq.app10 q9 gr9 e9
        have hR2 := below_ow2 HBS.out hR1 hJq.o10 gr9
        rw [HVAL.out, ← jrow_succ] at hJ9
        have HJ9 := Lib.hid (And.intro hJ9 hR2)
        refine HK1.out _ _ ⟨hR2, fun _ => trivial⟩ ?_
        clear HK1 hJq hbz q9 gr9 e9 hJ9 hRa
        try simp only [putE]
        refine wpX_kp (i := 24) (oi := ⟨some 12, _, _, _, _, none⟩) (v := ?_) rfl (fun _ _ _ h => h) ?_ ⟨(by first | exact hR2 | exact hR1 | exact hR0), fun _ => trivial⟩ ?_
        rotate_left
        ·intro U hU
         go_simp
         all_goals with_reducible rfl
        simp only [putE]
        refine wpAnyX_done (by kernel_rfl) ?_ _
        clear hR0 hR1 hR2
        go_wp2
        exact ⟨⟨c + 1, by omega, by go_num, HJ9⟩, by simp only [intOf]; omega⟩
      ·have hck2 : c = k := by omega
       have hci : ¬ (c : Int) < (k : Int) := by omega
       go_wp2_with (first | (refine wpList_load_blk rfl 29 _ rfl _ rfl HXq.out.1.blk Try.underlying29 rfl size29 rfl ?_) | (go_at_call 65; refine H65.out.mono ?_; rintro e wv ⟨rfl, hbv⟩; refine cutme ?_))
       refine ⟨?_⟩
       have hJv := HJ3.out.1.quiet hbv
       have hBv := btr HJ3.out.2 hbv (Nat.le_of_eq HBS.out)
       rw [hck2] at hJv
       obtain ⟨a12, c12, e12, -⟩ := own_form hJv.o10
       rw [jrow_len] at e12
       obtain ⟨an', cn', en', -⟩ := own_form hJv.on
       obtain ⟨ag', cg', eg', -⟩ := own_form hJv.og
       have hul : us.length = u := by rw [hJv.rn.1, HNG.out.1, (jlaw_len u k FF GG).1]
       have hgl : GS.length = u := by rw [HNG.out.2, (jlaw_len u k FF GG).2]
       rw [hul] at en'
       rw [hgl] at eg'
       subst e12 en' eg'
       have y0 := cell_blk (i := 0) hJv.box
       simp only [List.getElem?_toArray, List.getElem?_cons_zero] at y0
       have hu16 : u ≤ 1600 := by
        have h1 := pair_bd hsn htn
        have h2 := Nat.mul_le_mul hA40.2 hB40.2
        rw [HU.out]; omega
       have HJW := Lib.hid (And.intro hJv hBv)
       have HUL := Lib.hid (And.intro hul hgl)
       clear hJv hBv hul hgl hbv HXq H65 HJ3 hck2 hci
       go_wp2_with (at_builtin; refine cutme ?_)
       refine ⟨?_⟩
       clear y0
       obtain ⟨hJv, hBv⟩ := HJW.out
       have hba := (Below.refl wv.heap.size wv).alloc (Nat.le_refl _) (.cells #[.slice a12 k c12] 40)
       have hJa := hJv.quiet hba
       have hBa := btr hBv hba (Nat.le_of_eq HBS.out)
       have hbz := hBa.size
       rw [← HBS.out] at hbz
       refine wpList_app rfl (.tmp 68) (.tmp 70) 22 40 rfl Try.underlying22 info40 rfl (by decide) (xs := us) hJa.on (by rw [HUL.out.1]; omega) rfl rfl (heap_newI rfl) rfl hbz ?_
       intro vn' w9 q9 gr9 e9
       obtain ⟨hN, hb8⟩ := hJv.rowN (by rw [jrow_len]; omega) hba q9 gr9
       have hB9 := below_ow2 HBS.out hBa hJa.on gr9
       obtain ⟨an2, cn2', e2, -⟩ := own_form q9
       rw [HUL.out.1] at e2
       subst e2
       have y0 := cell_blk (i := 0) hb8
       have f0 := free_blk (i := 0) hb8
       simp only [List.getElem?_toArray, List.getElem?_cons_zero] at y0
       have HJN := Lib.hid (And.intro hN (hB9.setCell (p := ⟨g9, 0, none⟩) hbsg (.slice an2 (u + 1) cn2')))
       clear hJv hBv hba hJa hBa hbz q9 gr9 e9 hN hb8 hB9 HJW
       go_wp2
       obtain ⟨wz, hwz⟩ : ∃ q, q = w9.setCell ⟨g9, 0, none⟩ (.slice an2 (u + 1) cn2') := ⟨_, rfl⟩
       rw [← hwz] at HJN ⊢
       clear hwz y0 f0
       have hX2 := HX.out w2 (by rw [HBS.out]; exact Below.refl _ _)
       obtain ⟨bA, oA, cA, qA, hbA, hcA⟩ := hX2.1.gdF HOK.out.1.fit (show s < la.nx.length by rw [← HM.out.1]; exact hsn)
       obtain ⟨bB, oB, cB, qB, hbB, hcB⟩ := hX2.2.gdF HOK.out.2.1.fit (show t < lb.nx.length by rw [← HM.out.2.1]; exact htn)
       rw [← HM.out.1] at qA
       rw [← HM.out.2.1] at qB
       injection qA with qA1 _ qA3
       injection qB with qB1 _ qB3
       subst qA1 qA3 qB1 qB3
       rw [← HBS.out] at hbA hbB
       obtain ⟨ga, hga⟩ : ∃ q, q = la.good (s : Int) := ⟨_, rfl⟩
       obtain ⟨gb, hgb⟩ : ∃ q, q = lb.good (t : Int) := ⟨_, rfl⟩
       rw [← hga] at hcA
       rw [← hgb] at hcB
       have HGV : Hid (GG u = f ga gb) := Lib.hid (by
        rw [HFF.out.2, HU.out]
        unfold pairG
        rw [← HM.out.2.1, (pair_div htn).1, (pair_div htn).2, hga, hgb])
       have HGA := Lib.hid (And.intro hbA hcA)
       have HGB := Lib.hid (And.intro hbB hcB)
       clear hga hgb hbA hcA hbB hcB hX2
       obtain ⟨HJV⟩ : Nonempty (Hid (RJ bs g9 (fun i => Z i ∨ (Value.slice a12 k c12).ownBlock = some i) wz (.slice none 0 0) (.slice an2 (u + 1) cn2') (.slice ag' u cg') [] (us ++ [.slice a12 k c12]) (NX ++ [jrow k FF u]) GS ∧ Below bs w2 wz)) := ⟨HJN⟩
       clear HJN
       have FIN := Lib.hid (show ∀ (b : Bool) (W : World) (vn vg : Value), GG u = b → (RJ bs g9 (fun i => Z i ∨ (Value.slice a12 k c12).ownBlock = some i) W (.slice none 0 0) vn vg [] (us ++ [.slice a12 k c12]) (NX ++ [jrow k FF u]) (GS ++ [b]) ∧ Below bs w2 W) → (RJ bs g9 (fun i => Z i ∨ (Value.slice a12 k c12).ownBlock = some i) W (.slice none 0 0) vn vg [] (us ++ [.slice a12 k c12]) (lawOf (s * mB + (t + 1)) k FF GG).nx (lawOf (s * mB + (t + 1)) k FF GG).gd ∧ Below bs w2 W) from fun b W vn vg hb h => by
        have e : s * mB + (t + 1) = u + 1 := by rw [HU.out]; rfl
        rw [e, jlaw_nx, jlaw_gd, ← HNG.out.1, ← HNG.out.2, hb]
        exact h)
       cases ga with
       | true =>
        cases gb with
        | true => as_aux_lemma =>
         refine wp_region_x (R := fun U => Below bs w2 U) (S := fun U => U.heap[g9]? = some (.cells #[.slice an2 (u + 1) cn2', .slice ag' u cg'] 29 (0, 0))) (z := 35) rfl ?_
         change wpAnyX _ _ _ _ _ _ _ _ _ _ wz.drew
         have Hq0 := Lib.hid (show Below wz.heap.size wz wz.drew from (Below.refl _ _).drew)
         obtain ⟨wq0, hwq⟩ : ∃ q, q = wz.drew := ⟨_, rfl⟩
         rw [← hwq] at Hq0 ⊢
         clear hwq
         have hR0 := btr HJV.out.2 Hq0.out (Nat.le_of_eq HBS.out)
         have hS0 := blk_keep HJV.out.1.box Hq0.out
         refine wpX_kp (i := 0) (oi := ⟨some 73, _, _, _, _, none⟩) (v := ?_) rfl (fun _ _ _ h => h) ?_ ⟨hR0, fun _ => hS0⟩ ?_
         rotate_left
         ·intro U hU
          go_simp
          all_goals with_reducible rfl
         simp only [putE]
         refine wpAnyX_take (i := 1) (oi := ⟨some 74, _, _, _, _, none⟩) (v := ?_) rfl (by kernel_rfl) (by kernel_rfl) (by kernel_rfl) (fun _ _ _ h => h) (Or.inl ⟨by rfl, ?_⟩) ⟨hR0, fun _ => hS0⟩ ?_
         rotate_left
         ·intro U hU
          have u0 := cell_blk (i := 1) hU.2
          simp only [List.getElem?_toArray, List.getElem?_cons_zero, List.getElem?_cons_succ] at u0
          go_simp
          all_goals with_reducible rfl
         simp only [putE]
         refine wpX_kp (i := 2) (oi := ⟨some 75, _, _, _, _, none⟩) (v := ?_) rfl (fun _ _ _ h => h) ?_ ⟨hR0, fun _ => hS0⟩ ?_
         rotate_left
         ·intro U hU
          go_simp
          all_goals with_reducible rfl
         simp only [putE]
         refine wpX_kp (i := 3) (oi := ⟨some 76, _, _, _, _, none⟩) (v := ?_) rfl (fun _ _ _ h => h) ?_ ⟨hR0, fun _ => hS0⟩ ?_
         rotate_left
         ·intro U hU
          have u0 := cell_blk (i := 1) (HX.out U hU).1.blk
          simp only [List.getElem?_toArray, List.getElem?_cons_zero, List.getElem?_cons_succ] at u0
          go_simp
          all_goals with_reducible rfl
         simp only [putE]
         refine wpX_kp (i := 4) (oi := ⟨some 77, _, _, _, _, none⟩) (v := ?_) rfl (fun _ _ _ h => h) ?_ ⟨hR0, fun _ => hS0⟩ ?_
         rotate_left
         ·intro U hU
          go_simp
          all_goals with_reducible rfl
         simp only [putE]
         refine wpX_kp (i := 5) (oi := ⟨some 78, _, _, _, _, none⟩) (v := ?_) rfl (fun _ _ _ h => h) ?_ ⟨hR0, fun _ => hS0⟩ ?_
         rotate_left
         ·intro U hU
          go_simp
          all_goals with_reducible rfl
         simp only [putE]
         refine wpX_kp (i := 6) (oi := ⟨some 79, _, _, _, _, none⟩) (v := ?_) rfl (fun _ _ _ h => h) ?_ ⟨hR0, fun _ => hS0⟩ ?_
         rotate_left
         ·intro U hU
          have u0 := (hU.cell (p := ⟨bA, oA + s, none⟩) HGA.out.1).trans HGA.out.2
          go_simp
          all_goals with_reducible rfl
         simp only [putE]
         refine wpX_kp (i := 7) (oi := ⟨some 80, _, _, _, _, none⟩) (v := ?_) rfl (fun _ _ _ h => h) ?_ ⟨hR0, fun _ => hS0⟩ ?_
         rotate_left
         ·intro U hU
          go_simp
          all_goals with_reducible rfl
         simp only [putE]
         refine wpX_kp (i := 8) (oi := ⟨some 81, _, _, _, _, some (7, true)⟩) (v := ?_) rfl (fun _ _ _ h => h) ?_ ⟨hR0, fun _ => hS0⟩ ?_
         rotate_left
         ·intro U hU
          go_simp
          all_goals with_reducible rfl
         simp only [putE]
         refine wpX_kp (i := 9) (oi := ⟨some 82, _, _, _, _, some (7, true)⟩) (v := ?_) rfl (fun _ _ _ h => h) ?_ ⟨hR0, fun _ => hS0⟩ ?_
         rotate_left
         ·intro U hU
          have u0 := cell_blk (i := 1) (HX.out U hU).2.blk
          simp only [List.getElem?_toArray, List.getElem?_cons_zero, List.getElem?_cons_succ] at u0
          go_simp
          all_goals with_reducible rfl
         simp only [putE]
         refine wpX_kp (i := 10) (oi := ⟨some 83, _, _, _, _, some (7, true)⟩) (v := ?_) rfl (fun _ _ _ h => h) ?_ ⟨hR0, fun _ => hS0⟩ ?_
         rotate_left
         ·intro U hU
          go_simp
          all_goals with_reducible rfl
         simp only [putE]
         refine wpX_kp (i := 11) (oi := ⟨some 84, _, _, _, _, some (7, true)⟩) (v := ?_) rfl (fun _ _ _ h => h) ?_ ⟨hR0, fun _ => hS0⟩ ?_
         rotate_left
         ·intro U hU
          go_simp
          all_goals with_reducible rfl
         simp only [putE]
         refine wpX_kp (i := 12) (oi := ⟨some 85, _, _, _, _, some (7, true)⟩) (v := ?_) rfl (fun _ _ _ h => h) ?_ ⟨hR0, fun _ => hS0⟩ ?_
         rotate_left
         ·intro U hU
          have u0 := (hU.cell (p := ⟨bB, oB + t, none⟩) HGB.out.1).trans HGB.out.2
          go_simp
          all_goals with_reducible rfl
         simp only [putE]
         refine wpX_kp (i := 13) (oi := ⟨some 86, _, _, _, _, none⟩) (v := ?_) rfl (fun _ _ _ h => h) ?_ ⟨hR0, fun _ => hS0⟩ ?_
         rotate_left
         ·intro U hU
          go_simp
          all_goals with_reducible rfl
         simp only [putE]
         refine wpX_kp (i := 14) (oi := ⟨some 87, _, _, _, _, none⟩) (v := ?_) rfl (fun _ _ _ h => h) ?_ ⟨hR0, fun _ => hS0⟩ ?_
         rotate_left
         ·intro U hU
          go_simp
          all_goals with_reducible rfl
         simp only [putE]
         refine wpAnyX_keep (i := 15) (oi := ⟨some 88, _, _, _, _, some (14, false)⟩) (v := undef) rfl (by kernel_rfl) (by kernel_rfl) (by kernel_rfl) (fun _ _ _ h => h) (Or.inr ⟨by rfl, rfl⟩) ⟨hR0, fun _ => hS0⟩ ?_
         simp only [putE]
         refine wpAnyX_keep (i := 16) (oi := ⟨some 89, _, _, _, _, some (14, false)⟩) (v := undef) rfl (by kernel_rfl) (by kernel_rfl) (by kernel_rfl) (fun _ _ _ h => h) (Or.inr ⟨by rfl, rfl⟩) ⟨hR0, fun _ => hS0⟩ ?_
         simp only [putE]
         refine wpAnyX_keep (i := 17) (oi := ⟨some 90, _, _, _, _, some (14, false)⟩) (v := undef) rfl (by kernel_rfl) (by kernel_rfl) (by kernel_rfl) (fun _ _ _ h => h) (Or.inr ⟨by rfl, rfl⟩) ⟨hR0, fun _ => hS0⟩ ?_
         simp only [putE]
         refine wpAnyX_keep (i := 18) (oi := ⟨some 91, _, _, _, _, some (17, true)⟩) (v := undef) rfl (by kernel_rfl) (by kernel_rfl) (by kernel_rfl) (fun _ _ _ h => h) (Or.inr ⟨by rfl, rfl⟩) ⟨hR0, fun _ => hS0⟩ ?_
         simp only [putE]
         refine wpAnyX_keep (i := 19) (oi := ⟨some 92, _, _, _, _, some (17, true)⟩) (v := undef) rfl (by kernel_rfl) (by kernel_rfl) (by kernel_rfl) (fun _ _ _ h => h) (Or.inr ⟨by rfl, rfl⟩) ⟨hR0, fun _ => hS0⟩ ?_
         simp only [putE]
         refine wpAnyX_keep (i := 20) (oi := ⟨some 93, _, _, _, _, some (17, true)⟩) (v := undef) rfl (by kernel_rfl) (by kernel_rfl) (by kernel_rfl) (fun _ _ _ h => h) (Or.inr ⟨by rfl, rfl⟩) ⟨hR0, fun _ => hS0⟩ ?_
         simp only [putE]
         refine wpAnyX_keep (i := 21) (oi := ⟨some 94, _, _, _, _, some (17, true)⟩) (v := undef) rfl (by kernel_rfl) (by kernel_rfl) (by kernel_rfl) (fun _ _ _ h => h) (Or.inr ⟨by rfl, rfl⟩) ⟨hR0, fun _ => hS0⟩ ?_
         simp only [putE]
         refine wpAnyX_keep (i := 22) (oi := ⟨some 95, _, _, _, _, some (17, true)⟩) (v := undef) rfl (by kernel_rfl) (by kernel_rfl) (by kernel_rfl) (fun _ _ _ h => h) (Or.inr ⟨by rfl, rfl⟩) ⟨hR0, fun _ => hS0⟩ ?_
         simp only [putE]
         refine wpAnyX_keep (i := 23) (oi := ⟨some 96, _, _, _, _, some (17, true)⟩) (v := undef) rfl (by kernel_rfl) (by kernel_rfl) (by kernel_rfl) (fun _ _ _ h => h) (Or.inr ⟨by rfl, rfl⟩) ⟨hR0, fun _ => hS0⟩ ?_
         simp only [putE]
         refine wpAnyX_keep (i := 24) (oi := ⟨some 97, _, _, _, _, some (23, false)⟩) (v := undef) rfl (by kernel_rfl) (by kernel_rfl) (by kernel_rfl) (fun _ _ _ h => h) (Or.inr ⟨by rfl, rfl⟩) ⟨hR0, fun _ => hS0⟩ ?_
         simp only [putE]
         refine wpAnyX_keep (i := 25) (oi := ⟨some 98, _, _, _, _, some (23, false)⟩) (v := undef) rfl (by kernel_rfl) (by kernel_rfl) (by kernel_rfl) (fun _ _ _ h => h) (Or.inr ⟨by rfl, rfl⟩) ⟨hR0, fun _ => hS0⟩ ?_
         simp only [putE]
         refine wpAnyX_keep (i := 26) (oi := ⟨some 99, _, _, _, _, some (23, false)⟩) (v := undef) rfl (by kernel_rfl) (by kernel_rfl) (by kernel_rfl) (fun _ _ _ h => h) (Or.inr ⟨by rfl, rfl⟩) ⟨hR0, fun _ => hS0⟩ ?_
         simp only [putE]
         refine wpAnyX_keep (i := 27) (oi := ⟨some 100, _, _, _, _, some (23, false)⟩) (v := undef) rfl (by kernel_rfl) (by kernel_rfl) (by kernel_rfl) (fun _ _ _ h => h) (Or.inr ⟨by rfl, rfl⟩) ⟨hR0, fun _ => hS0⟩ ?_
         simp only [putE]
         refine wpAnyX_keep (i := 28) (oi := ⟨some 101, _, _, _, _, some (23, false)⟩) (v := undef) rfl (by kernel_rfl) (by kernel_rfl) (by kernel_rfl) (fun _ _ _ h => h) (Or.inr ⟨by rfl, rfl⟩) ⟨hR0, fun _ => hS0⟩ ?_
         simp only [putE]
         refine wpAnyX_keep (i := 29) (oi := ⟨some 102, _, _, _, _, some (17, true)⟩) (v := undef) rfl (by kernel_rfl) (by kernel_rfl) (by kernel_rfl) (fun _ _ _ h => h) (Or.inr ⟨by rfl, rfl⟩) ⟨hR0, fun _ => hS0⟩ ?_
         simp only [putE]
         refine wpAnyX_keep (i := 30) (oi := ⟨some 103, _, _, _, _, some (14, false)⟩) (v := undef) rfl (by kernel_rfl) (by kernel_rfl) (by kernel_rfl) (fun _ _ _ h => h) (Or.inr ⟨by rfl, rfl⟩) ⟨hR0, fun _ => hS0⟩ ?_
         simp only [putE]
         refine wpX_kp (i := 31) (oi := ⟨some 104, _, _, _, _, none⟩) (v := ?_) rfl (fun _ _ _ h => h) ?_ ⟨hR0, fun _ => hS0⟩ ?_
         rotate_left
         ·intro U hU
          go_simp
          all_goals with_reducible rfl
         simp only [putE]
         refine wpAnyX_one (i := 32) (o := ⟨some 105, _, _, _, _, none⟩) (by kernel_rfl) rfl (by rfl) (fun K1 hK1 => ?_)
         have HK1 := Lib.hid hK1; clear hK1
         have hRa := Hq0.out.alloc Hq0.out.size (.cells #[.bool true] 4)
         have hR1 := btr HJV.out.2 hRa (Nat.le_of_eq HBS.out)
         have hS1 := blk_keep HJV.out.1.box hRa
         go_simp
         refine HK1.out _ _ ⟨hR1, fun _ => hS1⟩ ?_
         clear HK1
         try simp only [putE]
         refine wpAnyX_one (i := 33) (o := ⟨some 106, _, _, _, _, none⟩) (by kernel_rfl) rfl (by rfl) (fun K1 hK1 => ?_)
         have HK1 := Lib.hid hK1; clear hK1
         have hbz := hR1.size
         rw [← HBS.out] at hbz
         have hJq := HJV.out.1.quiet hRa
         refine oper_app (.tmp 74) (.tmp 105) 23 4 rfl Try.underlying23 info4 rfl (by decide) (xs := GS.map Value.bool) (by rw [List.length_map]; exact hJq.og) (by rw [List.length_map, HUL.out.2]; omega) rfl rfl (heap_newI rfl) rfl hbz ?_
         intro v' w8 q9 gr9 e9
         rw [List.length_map] at q9
         obtain ⟨hJ9, hS2⟩ := HJV.out.1.addG hRa q9 gr9
         have hR2 := below_ow2 HBS.out hR1 hJq.og gr9
         obtain ⟨a9, c9, e9', -⟩ := own_form q9
         rw [HUL.out.2] at e9'
         subst e9'
         have hR3 := hR2.setCell (p := ⟨g9, 1, none⟩) hbsg (.slice a9 (u + 1) c9)
         have HJ9 := Lib.hid (And.intro hJ9 hR3)
         refine HK1.out _ _ ⟨hR2, fun _ => hS2⟩ ?_
         clear HK1 hbz q9 gr9 e9 hJ9 hRa hJq
         try simp only [putE]
         refine wpX_kp (i := 34) (oi := ⟨some 107, _, _, _, _, none⟩) (v := ?_) rfl (fun _ _ _ h => h) ?_ ⟨hR2, fun _ => hS2⟩ ?_
         rotate_left
         ·intro U hU
          go_simp
          all_goals with_reducible rfl
         simp only [putE]
         have y1 := cell_blk (i := 1) hS2
         have f1 := free_blk (i := 1) hS2
         simp only [List.getElem?_toArray, List.getElem?_cons_zero, List.getElem?_cons_succ] at y1
         refine wpAnyX_one (i := 35) (o := ⟨none, _, _, _, _, none⟩) (by kernel_rfl) rfl (by rfl) (fun K1 hK1 => ?_)
         have HK1 := Lib.hid hK1; clear hK1
         go_simp
         refine HK1.out _ _ ⟨hR3, fun h => by simp at h⟩ ?_
         clear HK1 K1
         try simp only [putE]
         refine wpAnyX_done (by kernel_rfl) ?_ _
         clear y1 f1 hS2 hS1 hS0 hR0 hR1 hR2 hR3
         have HF := Lib.hid (FIN.out true _ _ _ (by rw [HGV.out, hf]; simp) HJ9.out)
         clear HJ9
         go_wp2
         exact ⟨⟨t + 1, _, _, _, _, by omega, by go_num, HF⟩, by simp only [intOf]; omega⟩
        | false =>
         cases bt with
         | true => as_aux_lemma =>
          refine wp_region_x (R := fun U => Below bs w2 U) (S := fun U => U.heap[g9]? = some (.cells #[.slice an2 (u + 1) cn2', .slice ag' u cg'] 29 (0, 0))) (z := 35) rfl ?_
          change wpAnyX _ _ _ _ _ _ _ _ _ _ wz.drew
          have Hq0 := Lib.hid (show Below wz.heap.size wz wz.drew from (Below.refl _ _).drew)
          obtain ⟨wq0, hwq⟩ : ∃ q, q = wz.drew := ⟨_, rfl⟩
          rw [← hwq] at Hq0 ⊢
          clear hwq
          have hR0 := btr HJV.out.2 Hq0.out (Nat.le_of_eq HBS.out)
          have hS0 := blk_keep HJV.out.1.box Hq0.out
          refine wpX_kp (i := 0) (oi := ⟨some 73, _, _, _, _, none⟩) (v := ?_) rfl (fun _ _ _ h => h) ?_ ⟨hR0, fun _ => hS0⟩ ?_
          rotate_left
          ·intro U hU
           go_simp
           all_goals with_reducible rfl
          simp only [putE]
          refine wpAnyX_take (i := 1) (oi := ⟨some 74, _, _, _, _, none⟩) (v := ?_) rfl (by kernel_rfl) (by kernel_rfl) (by kernel_rfl) (fun _ _ _ h => h) (Or.inl ⟨by rfl, ?_⟩) ⟨hR0, fun _ => hS0⟩ ?_
          rotate_left
          ·intro U hU
           have u0 := cell_blk (i := 1) hU.2
           simp only [List.getElem?_toArray, List.getElem?_cons_zero, List.getElem?_cons_succ] at u0
           go_simp
           all_goals with_reducible rfl
          simp only [putE]
          refine wpX_kp (i := 2) (oi := ⟨some 75, _, _, _, _, none⟩) (v := ?_) rfl (fun _ _ _ h => h) ?_ ⟨hR0, fun _ => hS0⟩ ?_
          rotate_left
          ·intro U hU
           go_simp
           all_goals with_reducible rfl
          simp only [putE]
          refine wpX_kp (i := 3) (oi := ⟨some 76, _, _, _, _, none⟩) (v := ?_) rfl (fun _ _ _ h => h) ?_ ⟨hR0, fun _ => hS0⟩ ?_
          rotate_left
          ·intro U hU
           have u0 := cell_blk (i := 1) (HX.out U hU).1.blk
           simp only [List.getElem?_toArray, List.getElem?_cons_zero, List.getElem?_cons_succ] at u0
           go_simp
           all_goals with_reducible rfl
          simp only [putE]
          refine wpX_kp (i := 4) (oi := ⟨some 77, _, _, _, _, none⟩) (v := ?_) rfl (fun _ _ _ h => h) ?_ ⟨hR0, fun _ => hS0⟩ ?_
          rotate_left
          ·intro U hU
           go_simp
           all_goals with_reducible rfl
          simp only [putE]
          refine wpX_kp (i := 5) (oi := ⟨some 78, _, _, _, _, none⟩) (v := ?_) rfl (fun _ _ _ h => h) ?_ ⟨hR0, fun _ => hS0⟩ ?_
          rotate_left
          ·intro U hU
           go_simp
           all_goals with_reducible rfl
          simp only [putE]
          refine wpX_kp (i := 6) (oi := ⟨some 79, _, _, _, _, none⟩) (v := ?_) rfl (fun _ _ _ h => h) ?_ ⟨hR0, fun _ => hS0⟩ ?_
          rotate_left
          ·intro U hU
           have u0 := (hU.cell (p := ⟨bA, oA + s, none⟩) HGA.out.1).trans HGA.out.2
           go_simp
           all_goals with_reducible rfl
          simp only [putE]
          refine wpX_kp (i := 7) (oi := ⟨some 80, _, _, _, _, none⟩) (v := ?_) rfl (fun _ _ _ h => h) ?_ ⟨hR0, fun _ => hS0⟩ ?_
          rotate_left
          ·intro U hU
           go_simp
           all_goals with_reducible rfl
          simp only [putE]
          refine wpX_kp (i := 8) (oi := ⟨some 81, _, _, _, _, some (7, true)⟩) (v := ?_) rfl (fun _ _ _ h => h) ?_ ⟨hR0, fun _ => hS0⟩ ?_
          rotate_left
          ·intro U hU
           go_simp
           all_goals with_reducible rfl
          simp only [putE]
          refine wpX_kp (i := 9) (oi := ⟨some 82, _, _, _, _, some (7, true)⟩) (v := ?_) rfl (fun _ _ _ h => h) ?_ ⟨hR0, fun _ => hS0⟩ ?_
          rotate_left
          ·intro U hU
           have u0 := cell_blk (i := 1) (HX.out U hU).2.blk
           simp only [List.getElem?_toArray, List.getElem?_cons_zero, List.getElem?_cons_succ] at u0
           go_simp
           all_goals with_reducible rfl
          simp only [putE]
          refine wpX_kp (i := 10) (oi := ⟨some 83, _, _, _, _, some (7, true)⟩) (v := ?_) rfl (fun _ _ _ h => h) ?_ ⟨hR0, fun _ => hS0⟩ ?_
          rotate_left
          ·intro U hU
           go_simp
           all_goals with_reducible rfl
          simp only [putE]
          refine wpX_kp (i := 11) (oi := ⟨some 84, _, _, _, _, some (7, true)⟩) (v := ?_) rfl (fun _ _ _ h => h) ?_ ⟨hR0, fun _ => hS0⟩ ?_
          rotate_left
          ·intro U hU
           go_simp
           all_goals with_reducible rfl
          simp only [putE]
          refine wpX_kp (i := 12) (oi := ⟨some 85, _, _, _, _, some (7, true)⟩) (v := ?_) rfl (fun _ _ _ h => h) ?_ ⟨hR0, fun _ => hS0⟩ ?_
          rotate_left
          ·intro U hU
           have u0 := (hU.cell (p := ⟨bB, oB + t, none⟩) HGB.out.1).trans HGB.out.2
           go_simp
           all_goals with_reducible rfl
          simp only [putE]
          refine wpX_kp (i := 13) (oi := ⟨some 86, _, _, _, _, none⟩) (v := ?_) rfl (fun _ _ _ h => h) ?_ ⟨hR0, fun _ => hS0⟩ ?_
          rotate_left
          ·intro U hU
           go_simp
           all_goals with_reducible rfl
          simp only [putE]
          refine wpX_kp (i := 14) (oi := ⟨some 87, _, _, _, _, none⟩) (v := ?_) rfl (fun _ _ _ h => h) ?_ ⟨hR0, fun _ => hS0⟩ ?_
          rotate_left
          ·intro U hU
           go_simp
           all_goals with_reducible rfl
          simp only [putE]
          refine wpX_kp (i := 15) (oi := ⟨some 88, _, _, _, _, some (14, false)⟩) (v := ?_) rfl (fun _ _ _ h => h) ?_ ⟨hR0, fun _ => hS0⟩ ?_
          rotate_left
          ·intro U hU
           go_simp
           all_goals with_reducible rfl
          simp only [putE]
          refine wpX_kp (i := 16) (oi := ⟨some 89, _, _, _, _, some (14, false)⟩) (v := ?_) rfl (fun _ _ _ h => h) ?_ ⟨hR0, fun _ => hS0⟩ ?_
          rotate_left
          ·intro U hU
           go_simp
           all_goals with_reducible rfl
          simp only [putE]
          refine wpX_kp (i := 17) (oi := ⟨some 90, _, _, _, _, some (14, false)⟩) (v := ?_) rfl (fun _ _ _ h => h) ?_ ⟨hR0, fun _ => hS0⟩ ?_
          rotate_left
          ·intro U hU
           go_simp
           all_goals with_reducible rfl
          simp only [putE]
          refine wpAnyX_keep (i := 18) (oi := ⟨some 91, _, _, _, _, some (17, true)⟩) (v := undef) rfl (by kernel_rfl) (by kernel_rfl) (by kernel_rfl) (fun _ _ _ h => h) (Or.inr ⟨by rfl, rfl⟩) ⟨hR0, fun _ => hS0⟩ ?_
          simp only [putE]
          refine wpAnyX_keep (i := 19) (oi := ⟨some 92, _, _, _, _, some (17, true)⟩) (v := undef) rfl (by kernel_rfl) (by kernel_rfl) (by kernel_rfl) (fun _ _ _ h => h) (Or.inr ⟨by rfl, rfl⟩) ⟨hR0, fun _ => hS0⟩ ?_
          simp only [putE]
          refine wpAnyX_keep (i := 20) (oi := ⟨some 93, _, _, _, _, some (17, true)⟩) (v := undef) rfl (by kernel_rfl) (by kernel_rfl) (by kernel_rfl) (fun _ _ _ h => h) (Or.inr ⟨by rfl, rfl⟩) ⟨hR0, fun _ => hS0⟩ ?_
          simp only [putE]
          refine wpAnyX_keep (i := 21) (oi := ⟨some 94, _, _, _, _, some (17, true)⟩) (v := undef) rfl (by kernel_rfl) (by kernel_rfl) (by kernel_rfl) (fun _ _ _ h => h) (Or.inr ⟨by rfl, rfl⟩) ⟨hR0, fun _ => hS0⟩ ?_
          simp only [putE]
          refine wpAnyX_keep (i := 22) (oi := ⟨some 95, _, _, _, _, some (17, true)⟩) (v := undef) rfl (by kernel_rfl) (by kernel_rfl) (by kernel_rfl) (fun _ _ _ h => h) (Or.inr ⟨by rfl, rfl⟩) ⟨hR0, fun _ => hS0⟩ ?_
          simp only [putE]
          refine wpAnyX_keep (i := 23) (oi := ⟨some 96, _, _, _, _, some (17, true)⟩) (v := undef) rfl (by kernel_rfl) (by kernel_rfl) (by kernel_rfl) (fun _ _ _ h => h) (Or.inr ⟨by rfl, rfl⟩) ⟨hR0, fun _ => hS0⟩ ?_
          simp only [putE]
          refine wpAnyX_keep (i := 24) (oi := ⟨some 97, _, _, _, _, some (23, false)⟩) (v := undef) rfl (by kernel_rfl) (by kernel_rfl) (by kernel_rfl) (fun _ _ _ h => h) (Or.inr ⟨by rfl, rfl⟩) ⟨hR0, fun _ => hS0⟩ ?_
          simp only [putE]
          refine wpAnyX_keep (i := 25) (oi := ⟨some 98, _, _, _, _, some (23, false)⟩) (v := undef) rfl (by kernel_rfl) (by kernel_rfl) (by kernel_rfl) (fun _ _ _ h => h) (Or.inr ⟨by rfl, rfl⟩) ⟨hR0, fun _ => hS0⟩ ?_
          simp only [putE]
          refine wpAnyX_keep (i := 26) (oi := ⟨some 99, _, _, _, _, some (23, false)⟩) (v := undef) rfl (by kernel_rfl) (by kernel_rfl) (by kernel_rfl) (fun _ _ _ h => h) (Or.inr ⟨by rfl, rfl⟩) ⟨hR0, fun _ => hS0⟩ ?_
          simp only [putE]
          refine wpAnyX_keep (i := 27) (oi := ⟨some 100, _, _, _, _, some (23, false)⟩) (v := undef) rfl (by kernel_rfl) (by kernel_rfl) (by kernel_rfl) (fun _ _ _ h => h) (Or.inr ⟨by rfl, rfl⟩) ⟨hR0, fun _ => hS0⟩ ?_
          simp only [putE]
          refine wpAnyX_keep (i := 28) (oi := ⟨some 101, _, _, _, _, some (23, false)⟩) (v := undef) rfl (by kernel_rfl) (by kernel_rfl) (by kernel_rfl) (fun _ _ _ h => h) (Or.inr ⟨by rfl, rfl⟩) ⟨hR0, fun _ => hS0⟩ ?_
          simp only [putE]
          refine wpAnyX_keep (i := 29) (oi := ⟨some 102, _, _, _, _, some (17, true)⟩) (v := undef) rfl (by kernel_rfl) (by kernel_rfl) (by kernel_rfl) (fun _ _ _ h => h) (Or.inr ⟨by rfl, rfl⟩) ⟨hR0, fun _ => hS0⟩ ?_
          simp only [putE]
          refine wpX_kp (i := 30) (oi := ⟨some 103, _, _, _, _, some (14, false)⟩) (v := ?_) rfl (fun _ _ _ h => h) ?_ ⟨hR0, fun _ => hS0⟩ ?_
          rotate_left
          ·intro U hU
           go_simp
           all_goals with_reducible rfl
          simp only [putE]
          refine wpX_kp (i := 31) (oi := ⟨some 104, _, _, _, _, none⟩) (v := ?_) rfl (fun _ _ _ h => h) ?_ ⟨hR0, fun _ => hS0⟩ ?_
          rotate_left
          ·intro U hU
           go_simp
           all_goals with_reducible rfl
          simp only [putE]
          refine wpAnyX_one (i := 32) (o := ⟨some 105, _, _, _, _, none⟩) (by kernel_rfl) rfl (by rfl) (fun K1 hK1 => ?_)
          have HK1 := Lib.hid hK1; clear hK1
          have hRa := Hq0.out.alloc Hq0.out.size (.cells #[.bool false] 4)
          have hR1 := btr HJV.out.2 hRa (Nat.le_of_eq HBS.out)
          have hS1 := blk_keep HJV.out.1.box hRa
          go_simp
          refine HK1.out _ _ ⟨hR1, fun _ => hS1⟩ ?_
          clear HK1
          try simp only [putE]
          refine wpAnyX_one (i := 33) (o := ⟨some 106, _, _, _, _, none⟩) (by kernel_rfl) rfl (by rfl) (fun K1 hK1 => ?_)
          have HK1 := Lib.hid hK1; clear hK1
          have hbz := hR1.size
          rw [← HBS.out] at hbz
          have hJq := HJV.out.1.quiet hRa
          refine oper_app (.tmp 74) (.tmp 105) 23 4 rfl Try.underlying23 info4 rfl (by decide) (xs := GS.map Value.bool) (by rw [List.length_map]; exact hJq.og) (by rw [List.length_map, HUL.out.2]; omega) rfl rfl (heap_newI rfl) rfl hbz ?_
          intro v' w8 q9 gr9 e9
          rw [List.length_map] at q9
          obtain ⟨hJ9, hS2⟩ := HJV.out.1.addG hRa q9 gr9
          have hR2 := below_ow2 HBS.out hR1 hJq.og gr9
          obtain ⟨a9, c9, e9', -⟩ := own_form q9
          rw [HUL.out.2] at e9'
          subst e9'
          have hR3 := hR2.setCell (p := ⟨g9, 1, none⟩) hbsg (.slice a9 (u + 1) c9)
          have HJ9 := Lib.hid (And.intro hJ9 hR3)
          refine HK1.out _ _ ⟨hR2, fun _ => hS2⟩ ?_
          clear HK1 hbz q9 gr9 e9 hJ9 hRa hJq
          try simp only [putE]
          refine wpX_kp (i := 34) (oi := ⟨some 107, _, _, _, _, none⟩) (v := ?_) rfl (fun _ _ _ h => h) ?_ ⟨hR2, fun _ => hS2⟩ ?_
          rotate_left
          ·intro U hU
           go_simp
           all_goals with_reducible rfl
          simp only [putE]
          have y1 := cell_blk (i := 1) hS2
          have f1 := free_blk (i := 1) hS2
          simp only [List.getElem?_toArray, List.getElem?_cons_zero, List.getElem?_cons_succ] at y1
          refine wpAnyX_one (i := 35) (o := ⟨none, _, _, _, _, none⟩) (by kernel_rfl) rfl (by rfl) (fun K1 hK1 => ?_)
          have HK1 := Lib.hid hK1; clear hK1
          go_simp
          refine HK1.out _ _ ⟨hR3, fun h => by simp at h⟩ ?_
          clear HK1 K1
          try simp only [putE]
          refine wpAnyX_done (by kernel_rfl) ?_ _
          clear y1 f1 hS2 hS1 hS0 hR0 hR1 hR2 hR3
          have HF := Lib.hid (FIN.out false _ _ _ (by rw [HGV.out, hf]; simp) HJ9.out)
          clear HJ9
          go_wp2
          exact ⟨⟨t + 1, _, _, _, _, by omega, by go_num, HF⟩, by simp only [intOf]; omega⟩
         | false => as_aux_lemma =>
          refine wp_region_x (R := fun U => Below bs w2 U) (S := fun U => U.heap[g9]? = some (.cells #[.slice an2 (u + 1) cn2', .slice ag' u cg'] 29 (0, 0))) (z := 35) rfl ?_
          change wpAnyX _ _ _ _ _ _ _ _ _ _ wz.drew
          have Hq0 := Lib.hid (show Below wz.heap.size wz wz.drew from (Below.refl _ _).drew)
          obtain ⟨wq0, hwq⟩ : ∃ q, q = wz.drew := ⟨_, rfl⟩
          rw [← hwq] at Hq0 ⊢
          clear hwq
          have hR0 := btr HJV.out.2 Hq0.out (Nat.le_of_eq HBS.out)
          have hS0 := blk_keep HJV.out.1.box Hq0.out
          refine wpX_kp (i := 0) (oi := ⟨some 73, _, _, _, _, none⟩) (v := ?_) rfl (fun _ _ _ h => h) ?_ ⟨hR0, fun _ => hS0⟩ ?_
          rotate_left
          ·intro U hU
           go_simp
           all_goals with_reducible rfl
          simp only [putE]
          refine wpAnyX_take (i := 1) (oi := ⟨some 74, _, _, _, _, none⟩) (v := ?_) rfl (by kernel_rfl) (by kernel_rfl) (by kernel_rfl) (fun _ _ _ h => h) (Or.inl ⟨by rfl, ?_⟩) ⟨hR0, fun _ => hS0⟩ ?_
          rotate_left
          ·intro U hU
           have u0 := cell_blk (i := 1) hU.2
           simp only [List.getElem?_toArray, List.getElem?_cons_zero, List.getElem?_cons_succ] at u0
           go_simp
           all_goals with_reducible rfl
          simp only [putE]
          refine wpX_kp (i := 2) (oi := ⟨some 75, _, _, _, _, none⟩) (v := ?_) rfl (fun _ _ _ h => h) ?_ ⟨hR0, fun _ => hS0⟩ ?_
          rotate_left
          ·intro U hU
           go_simp
           all_goals with_reducible rfl
          simp only [putE]
          refine wpX_kp (i := 3) (oi := ⟨some 76, _, _, _, _, none⟩) (v := ?_) rfl (fun _ _ _ h => h) ?_ ⟨hR0, fun _ => hS0⟩ ?_
          rotate_left
          ·intro U hU
           have u0 := cell_blk (i := 1) (HX.out U hU).1.blk
           simp only [List.getElem?_toArray, List.getElem?_cons_zero, List.getElem?_cons_succ] at u0
           go_simp
           all_goals with_reducible rfl
          simp only [putE]
          refine wpX_kp (i := 4) (oi := ⟨some 77, _, _, _, _, none⟩) (v := ?_) rfl (fun _ _ _ h => h) ?_ ⟨hR0, fun _ => hS0⟩ ?_
          rotate_left
          ·intro U hU
           go_simp
           all_goals with_reducible rfl
          simp only [putE]
          refine wpX_kp (i := 5) (oi := ⟨some 78, _, _, _, _, none⟩) (v := ?_) rfl (fun _ _ _ h => h) ?_ ⟨hR0, fun _ => hS0⟩ ?_
          rotate_left
          ·intro U hU
           go_simp
           all_goals with_reducible rfl
          simp only [putE]
          refine wpX_kp (i := 6) (oi := ⟨some 79, _, _, _, _, none⟩) (v := ?_) rfl (fun _ _ _ h => h) ?_ ⟨hR0, fun _ => hS0⟩ ?_
          rotate_left
          ·intro U hU
           have u0 := (hU.cell (p := ⟨bA, oA + s, none⟩) HGA.out.1).trans HGA.out.2
           go_simp
           all_goals with_reducible rfl
          simp only [putE]
          refine wpX_kp (i := 7) (oi := ⟨some 80, _, _, _, _, none⟩) (v := ?_) rfl (fun _ _ _ h => h) ?_ ⟨hR0, fun _ => hS0⟩ ?_
          rotate_left
          ·intro U hU
           go_simp
           all_goals with_reducible rfl
          simp only [putE]
          refine wpX_kp (i := 8) (oi := ⟨some 81, _, _, _, _, some (7, true)⟩) (v := ?_) rfl (fun _ _ _ h => h) ?_ ⟨hR0, fun _ => hS0⟩ ?_
          rotate_left
          ·intro U hU
           go_simp
           all_goals with_reducible rfl
          simp only [putE]
          refine wpX_kp (i := 9) (oi := ⟨some 82, _, _, _, _, some (7, true)⟩) (v := ?_) rfl (fun _ _ _ h => h) ?_ ⟨hR0, fun _ => hS0⟩ ?_
          rotate_left
          ·intro U hU
           have u0 := cell_blk (i := 1) (HX.out U hU).2.blk
           simp only [List.getElem?_toArray, List.getElem?_cons_zero, List.getElem?_cons_succ] at u0
           go_simp
           all_goals with_reducible rfl
          simp only [putE]
          refine wpX_kp (i := 10) (oi := ⟨some 83, _, _, _, _, some (7, true)⟩) (v := ?_) rfl (fun _ _ _ h => h) ?_ ⟨hR0, fun _ => hS0⟩ ?_
          rotate_left
          ·intro U hU
           go_simp
           all_goals with_reducible rfl
          simp only [putE]
          refine wpX_kp (i := 11) (oi := ⟨some 84, _, _, _, _, some (7, true)⟩) (v := ?_) rfl (fun _ _ _ h => h) ?_ ⟨hR0, fun _ => hS0⟩ ?_
          rotate_left
          ·intro U hU
           go_simp
           all_goals with_reducible rfl
          simp only [putE]
          refine wpX_kp (i := 12) (oi := ⟨some 85, _, _, _, _, some (7, true)⟩) (v := ?_) rfl (fun _ _ _ h => h) ?_ ⟨hR0, fun _ => hS0⟩ ?_
          rotate_left
          ·intro U hU
           have u0 := (hU.cell (p := ⟨bB, oB + t, none⟩) HGB.out.1).trans HGB.out.2
           go_simp
           all_goals with_reducible rfl
          simp only [putE]
          refine wpX_kp (i := 13) (oi := ⟨some 86, _, _, _, _, none⟩) (v := ?_) rfl (fun _ _ _ h => h) ?_ ⟨hR0, fun _ => hS0⟩ ?_
          rotate_left
          ·intro U hU
           go_simp
           all_goals with_reducible rfl
          simp only [putE]
          refine wpX_kp (i := 14) (oi := ⟨some 87, _, _, _, _, none⟩) (v := ?_) rfl (fun _ _ _ h => h) ?_ ⟨hR0, fun _ => hS0⟩ ?_
          rotate_left
          ·intro U hU
           go_simp
           all_goals with_reducible rfl
          simp only [putE]
          refine wpX_kp (i := 15) (oi := ⟨some 88, _, _, _, _, some (14, false)⟩) (v := ?_) rfl (fun _ _ _ h => h) ?_ ⟨hR0, fun _ => hS0⟩ ?_
          rotate_left
          ·intro U hU
           go_simp
           all_goals with_reducible rfl
          simp only [putE]
          refine wpX_kp (i := 16) (oi := ⟨some 89, _, _, _, _, some (14, false)⟩) (v := ?_) rfl (fun _ _ _ h => h) ?_ ⟨hR0, fun _ => hS0⟩ ?_
          rotate_left
          ·intro U hU
           go_simp
           all_goals with_reducible rfl
          simp only [putE]
          refine wpX_kp (i := 17) (oi := ⟨some 90, _, _, _, _, some (14, false)⟩) (v := ?_) rfl (fun _ _ _ h => h) ?_ ⟨hR0, fun _ => hS0⟩ ?_
          rotate_left
          ·intro U hU
           go_simp
           all_goals with_reducible rfl
          simp only [putE]
          refine wpX_kp (i := 18) (oi := ⟨some 91, _, _, _, _, some (17, true)⟩) (v := ?_) rfl (fun _ _ _ h => h) ?_ ⟨hR0, fun _ => hS0⟩ ?_
          rotate_left
          ·intro U hU
           go_simp
           all_goals with_reducible rfl
          simp only [putE]
          refine wpX_kp (i := 19) (oi := ⟨some 92, _, _, _, _, some (17, true)⟩) (v := ?_) rfl (fun _ _ _ h => h) ?_ ⟨hR0, fun _ => hS0⟩ ?_
          rotate_left
          ·intro U hU
           have u0 := cell_blk (i := 1) (HX.out U hU).1.blk
           simp only [List.getElem?_toArray, List.getElem?_cons_zero, List.getElem?_cons_succ] at u0
           go_simp
           all_goals with_reducible rfl
          simp only [putE]
          refine wpX_kp (i := 20) (oi := ⟨some 93, _, _, _, _, some (17, true)⟩) (v := ?_) rfl (fun _ _ _ h => h) ?_ ⟨hR0, fun _ => hS0⟩ ?_
          rotate_left
          ·intro U hU
           go_simp
           all_goals with_reducible rfl
          simp only [putE]
          refine wpX_kp (i := 21) (oi := ⟨some 94, _, _, _, _, some (17, true)⟩) (v := ?_) rfl (fun _ _ _ h => h) ?_ ⟨hR0, fun _ => hS0⟩ ?_
          rotate_left
          ·intro U hU
           go_simp
           all_goals with_reducible rfl
          simp only [putE]
          refine wpX_kp (i := 22) (oi := ⟨some 95, _, _, _, _, some (17, true)⟩) (v := ?_) rfl (fun _ _ _ h => h) ?_ ⟨hR0, fun _ => hS0⟩ ?_
          rotate_left
          ·intro U hU
           have u0 := (hU.cell (p := ⟨bA, oA + s, none⟩) HGA.out.1).trans HGA.out.2
           go_simp
           all_goals with_reducible rfl
          simp only [putE]
          refine wpX_kp (i := 23) (oi := ⟨some 96, _, _, _, _, some (17, true)⟩) (v := ?_) rfl (fun _ _ _ h => h) ?_ ⟨hR0, fun _ => hS0⟩ ?_
          rotate_left
          ·intro U hU
           go_simp
           all_goals with_reducible rfl
          simp only [putE]
          refine wpAnyX_keep (i := 24) (oi := ⟨some 97, _, _, _, _, some (23, false)⟩) (v := undef) rfl (by kernel_rfl) (by kernel_rfl) (by kernel_rfl) (fun _ _ _ h => h) (Or.inr ⟨by rfl, rfl⟩) ⟨hR0, fun _ => hS0⟩ ?_
          simp only [putE]
          refine wpAnyX_keep (i := 25) (oi := ⟨some 98, _, _, _, _, some (23, false)⟩) (v := undef) rfl (by kernel_rfl) (by kernel_rfl) (by kernel_rfl) (fun _ _ _ h => h) (Or.inr ⟨by rfl, rfl⟩) ⟨hR0, fun _ => hS0⟩ ?_
          simp only [putE]
          refine wpAnyX_keep (i := 26) (oi := ⟨some 99, _, _, _, _, some (23, false)⟩) (v := undef) rfl (by kernel_rfl) (by kernel_rfl) (by kernel_rfl) (fun _ _ _ h => h) (Or.inr ⟨by rfl, rfl⟩) ⟨hR0, fun _ => hS0⟩ ?_
          simp only [putE]
          refine wpAnyX_keep (i := 27) (oi := ⟨some 100, _, _, _, _, some (23, false)⟩) (v := undef) rfl (by kernel_rfl) (by kernel_rfl) (by kernel_rfl) (fun _ _ _ h => h) (Or.inr ⟨by rfl, rfl⟩) ⟨hR0, fun _ => hS0⟩ ?_
          simp only [putE]
          refine wpAnyX_keep (i := 28) (oi := ⟨some 101, _, _, _, _, some (23, false)⟩) (v := undef) rfl (by kernel_rfl) (by kernel_rfl) (by kernel_rfl) (fun _ _ _ h => h) (Or.inr ⟨by rfl, rfl⟩) ⟨hR0, fun _ => hS0⟩ ?_
          simp only [putE]
          refine wpX_kp (i := 29) (oi := ⟨some 102, _, _, _, _, some (17, true)⟩) (v := ?_) rfl (fun _ _ _ h => h) ?_ ⟨hR0, fun _ => hS0⟩ ?_
          rotate_left
          ·intro U hU
           go_simp
           all_goals with_reducible rfl
          simp only [putE]
          refine wpX_kp (i := 30) (oi := ⟨some 103, _, _, _, _, some (14, false)⟩) (v := ?_) rfl (fun _ _ _ h => h) ?_ ⟨hR0, fun _ => hS0⟩ ?_
          rotate_left
          ·intro U hU
           go_simp
           all_goals with_reducible rfl
          simp only [putE]
          refine wpX_kp (i := 31) (oi := ⟨some 104, _, _, _, _, none⟩) (v := ?_) rfl (fun _ _ _ h => h) ?_ ⟨hR0, fun _ => hS0⟩ ?_
          rotate_left
          ·intro U hU
           go_simp
           all_goals with_reducible rfl
          simp only [putE]
          refine wpAnyX_one (i := 32) (o := ⟨some 105, _, _, _, _, none⟩) (by kernel_rfl) rfl (by rfl) (fun K1 hK1 => ?_)
          have HK1 := Lib.hid hK1; clear hK1
          have hRa := Hq0.out.alloc Hq0.out.size (.cells #[.bool true] 4)
          have hR1 := btr HJV.out.2 hRa (Nat.le_of_eq HBS.out)
          have hS1 := blk_keep HJV.out.1.box hRa
          go_simp
          refine HK1.out _ _ ⟨hR1, fun _ => hS1⟩ ?_
          clear HK1
          try simp only [putE]
          refine wpAnyX_one (i := 33) (o := ⟨some 106, _, _, _, _, none⟩) (by kernel_rfl) rfl (by rfl) (fun K1 hK1 => ?_)
          have HK1 := Lib.hid hK1; clear hK1
          have hbz := hR1.size
          rw [← HBS.out] at hbz
          have hJq := HJV.out.1.quiet hRa
          refine oper_app (.tmp 74) (.tmp 105) 23 4 rfl Try.underlying23 info4 rfl (by decide) (xs := GS.map Value.bool) (by rw [List.length_map]; exact hJq.og) (by rw [List.length_map, HUL.out.2]; omega) rfl rfl (heap_newI rfl) rfl hbz ?_
          intro v' w8 q9 gr9 e9
          rw [List.length_map] at q9
          obtain ⟨hJ9, hS2⟩ := HJV.out.1.addG hRa q9 gr9
          have hR2 := below_ow2 HBS.out hR1 hJq.og gr9
          obtain ⟨a9, c9, e9', -⟩ := own_form q9
          rw [HUL.out.2] at e9'
          subst e9'
          have hR3 := hR2.setCell (p := ⟨g9, 1, none⟩) hbsg (.slice a9 (u + 1) c9)
          have HJ9 := Lib.hid (And.intro hJ9 hR3)
          refine HK1.out _ _ ⟨hR2, fun _ => hS2⟩ ?_
          clear HK1 hbz q9 gr9 e9 hJ9 hRa hJq
          try simp only [putE]
          refine wpX_kp (i := 34) (oi := ⟨some 107, _, _, _, _, none⟩) (v := ?_) rfl (fun _ _ _ h => h) ?_ ⟨hR2, fun _ => hS2⟩ ?_
          rotate_left
          ·intro U hU
           go_simp
           all_goals with_reducible rfl
          simp only [putE]
          have y1 := cell_blk (i := 1) hS2
          have f1 := free_blk (i := 1) hS2
          simp only [List.getElem?_toArray, List.getElem?_cons_zero, List.getElem?_cons_succ] at y1
          refine wpAnyX_one (i := 35) (o := ⟨none, _, _, _, _, none⟩) (by kernel_rfl) rfl (by rfl) (fun K1 hK1 => ?_)
          have HK1 := Lib.hid hK1; clear hK1
          go_simp
          refine HK1.out _ _ ⟨hR3, fun h => by simp at h⟩ ?_
          clear HK1 K1
          try simp only [putE]
          refine wpAnyX_done (by kernel_rfl) ?_ _
          clear y1 f1 hS2 hS1 hS0 hR0 hR1 hR2 hR3
          have HF := Lib.hid (FIN.out true _ _ _ (by rw [HGV.out, hf]; simp) HJ9.out)
          clear HJ9
          go_wp2
          exact ⟨⟨t + 1, _, _, _, _, by omega, by go_num, HF⟩, by simp only [intOf]; omega⟩
       | false =>
        cases bt with
        | true => as_aux_lemma =>
         refine wp_region_x (R := fun U => Below bs w2 U) (S := fun U => U.heap[g9]? = some (.cells #[.slice an2 (u + 1) cn2', .slice ag' u cg'] 29 (0, 0))) (z := 35) rfl ?_
         change wpAnyX _ _ _ _ _ _ _ _ _ _ wz.drew
         have Hq0 := Lib.hid (show Below wz.heap.size wz wz.drew from (Below.refl _ _).drew)
         obtain ⟨wq0, hwq⟩ : ∃ q, q = wz.drew := ⟨_, rfl⟩
         rw [← hwq] at Hq0 ⊢
         clear hwq
         have hR0 := btr HJV.out.2 Hq0.out (Nat.le_of_eq HBS.out)
         have hS0 := blk_keep HJV.out.1.box Hq0.out
         refine wpX_kp (i := 0) (oi := ⟨some 73, _, _, _, _, none⟩) (v := ?_) rfl (fun _ _ _ h => h) ?_ ⟨hR0, fun _ => hS0⟩ ?_
         rotate_left
         ·intro U hU
          go_simp
          all_goals with_reducible rfl
         simp only [putE]
         refine wpAnyX_take (i := 1) (oi := ⟨some 74, _, _, _, _, none⟩) (v := ?_) rfl (by kernel_rfl) (by kernel_rfl) (by kernel_rfl) (fun _ _ _ h => h) (Or.inl ⟨by rfl, ?_⟩) ⟨hR0, fun _ => hS0⟩ ?_
         rotate_left
         ·intro U hU
          have u0 := cell_blk (i := 1) hU.2
          simp only [List.getElem?_toArray, List.getElem?_cons_zero, List.getElem?_cons_succ] at u0
          go_simp
          all_goals with_reducible rfl
         simp only [putE]
         refine wpX_kp (i := 2) (oi := ⟨some 75, _, _, _, _, none⟩) (v := ?_) rfl (fun _ _ _ h => h) ?_ ⟨hR0, fun _ => hS0⟩ ?_
         rotate_left
         ·intro U hU
          go_simp
          all_goals with_reducible rfl
         simp only [putE]
         refine wpX_kp (i := 3) (oi := ⟨some 76, _, _, _, _, none⟩) (v := ?_) rfl (fun _ _ _ h => h) ?_ ⟨hR0, fun _ => hS0⟩ ?_
         rotate_left
         ·intro U hU
          have u0 := cell_blk (i := 1) (HX.out U hU).1.blk
          simp only [List.getElem?_toArray, List.getElem?_cons_zero, List.getElem?_cons_succ] at u0
          go_simp
          all_goals with_reducible rfl
         simp only [putE]
         refine wpX_kp (i := 4) (oi := ⟨some 77, _, _, _, _, none⟩) (v := ?_) rfl (fun _ _ _ h => h) ?_ ⟨hR0, fun _ => hS0⟩ ?_
         rotate_left
         ·intro U hU
          go_simp
          all_goals with_reducible rfl
         simp only [putE]
         refine wpX_kp (i := 5) (oi := ⟨some 78, _, _, _, _, none⟩) (v := ?_) rfl (fun _ _ _ h => h) ?_ ⟨hR0, fun _ => hS0⟩ ?_
         rotate_left
         ·intro U hU
          go_simp
          all_goals with_reducible rfl
         simp only [putE]
         refine wpX_kp (i := 6) (oi := ⟨some 79, _, _, _, _, none⟩) (v := ?_) rfl (fun _ _ _ h => h) ?_ ⟨hR0, fun _ => hS0⟩ ?_
         rotate_left
         ·intro U hU
          have u0 := (hU.cell (p := ⟨bA, oA + s, none⟩) HGA.out.1).trans HGA.out.2
          go_simp
          all_goals with_reducible rfl
         simp only [putE]
         refine wpX_kp (i := 7) (oi := ⟨some 80, _, _, _, _, none⟩) (v := ?_) rfl (fun _ _ _ h => h) ?_ ⟨hR0, fun _ => hS0⟩ ?_
         rotate_left
         ·intro U hU
          go_simp
          all_goals with_reducible rfl
         simp only [putE]
         refine wpAnyX_keep (i := 8) (oi := ⟨some 81, _, _, _, _, some (7, true)⟩) (v := undef) rfl (by kernel_rfl) (by kernel_rfl) (by kernel_rfl) (fun _ _ _ h => h) (Or.inr ⟨by rfl, rfl⟩) ⟨hR0, fun _ => hS0⟩ ?_
         simp only [putE]
         refine wpAnyX_keep (i := 9) (oi := ⟨some 82, _, _, _, _, some (7, true)⟩) (v := undef) rfl (by kernel_rfl) (by kernel_rfl) (by kernel_rfl) (fun _ _ _ h => h) (Or.inr ⟨by rfl, rfl⟩) ⟨hR0, fun _ => hS0⟩ ?_
         simp only [putE]
         refine wpAnyX_keep (i := 10) (oi := ⟨some 83, _, _, _, _, some (7, true)⟩) (v := undef) rfl (by kernel_rfl) (by kernel_rfl) (by kernel_rfl) (fun _ _ _ h => h) (Or.inr ⟨by rfl, rfl⟩) ⟨hR0, fun _ => hS0⟩ ?_
         simp only [putE]
         refine wpAnyX_keep (i := 11) (oi := ⟨some 84, _, _, _, _, some (7, true)⟩) (v := undef) rfl (by kernel_rfl) (by kernel_rfl) (by kernel_rfl) (fun _ _ _ h => h) (Or.inr ⟨by rfl, rfl⟩) ⟨hR0, fun _ => hS0⟩ ?_
         simp only [putE]
         refine wpAnyX_keep (i := 12) (oi := ⟨some 85, _, _, _, _, some (7, true)⟩) (v := undef) rfl (by kernel_rfl) (by kernel_rfl) (by kernel_rfl) (fun _ _ _ h => h) (Or.inr ⟨by rfl, rfl⟩) ⟨hR0, fun _ => hS0⟩ ?_
         simp only [putE]
         refine wpX_kp (i := 13) (oi := ⟨some 86, _, _, _, _, none⟩) (v := ?_) rfl (fun _ _ _ h => h) ?_ ⟨hR0, fun _ => hS0⟩ ?_
         rotate_left
         ·intro U hU
          go_simp
          all_goals with_reducible rfl
         simp only [putE]
         refine wpX_kp (i := 14) (oi := ⟨some 87, _, _, _, _, none⟩) (v := ?_) rfl (fun _ _ _ h => h) ?_ ⟨hR0, fun _ => hS0⟩ ?_
         rotate_left
         ·intro U hU
          go_simp
          all_goals with_reducible rfl
         simp only [putE]
         refine wpX_kp (i := 15) (oi := ⟨some 88, _, _, _, _, some (14, false)⟩) (v := ?_) rfl (fun _ _ _ h => h) ?_ ⟨hR0, fun _ => hS0⟩ ?_
         rotate_left
         ·intro U hU
          go_simp
          all_goals with_reducible rfl
         simp only [putE]
         refine wpX_kp (i := 16) (oi := ⟨some 89, _, _, _, _, some (14, false)⟩) (v := ?_) rfl (fun _ _ _ h => h) ?_ ⟨hR0, fun _ => hS0⟩ ?_
         rotate_left
         ·intro U hU
          go_simp
          all_goals with_reducible rfl
         simp only [putE]
         refine wpX_kp (i := 17) (oi := ⟨some 90, _, _, _, _, some (14, false)⟩) (v := ?_) rfl (fun _ _ _ h => h) ?_ ⟨hR0, fun _ => hS0⟩ ?_
         rotate_left
         ·intro U hU
          go_simp
          all_goals with_reducible rfl
         simp only [putE]
         refine wpAnyX_keep (i := 18) (oi := ⟨some 91, _, _, _, _, some (17, true)⟩) (v := undef) rfl (by kernel_rfl) (by kernel_rfl) (by kernel_rfl) (fun _ _ _ h => h) (Or.inr ⟨by rfl, rfl⟩) ⟨hR0, fun _ => hS0⟩ ?_
         simp only [putE]
         refine wpAnyX_keep (i := 19) (oi := ⟨some 92, _, _, _, _, some (17, true)⟩) (v := undef) rfl (by kernel_rfl) (by kernel_rfl) (by kernel_rfl) (fun _ _ _ h => h) (Or.inr ⟨by rfl, rfl⟩) ⟨hR0, fun _ => hS0⟩ ?_
         simp only [putE]
         refine wpAnyX_keep (i := 20) (oi := ⟨some 93, _, _, _, _, some (17, true)⟩) (v := undef) rfl (by kernel_rfl) (by kernel_rfl) (by kernel_rfl) (fun _ _ _ h => h) (Or.inr ⟨by rfl, rfl⟩) ⟨hR0, fun _ => hS0⟩ ?_
         simp only [putE]
         refine wpAnyX_keep (i := 21) (oi := ⟨some 94, _, _, _, _, some (17, true)⟩) (v := undef) rfl (by kernel_rfl) (by kernel_rfl) (by kernel_rfl) (fun _ _ _ h => h) (Or.inr ⟨by rfl, rfl⟩) ⟨hR0, fun _ => hS0⟩ ?_
         simp only [putE]
         refine wpAnyX_keep (i := 22) (oi := ⟨some 95, _, _, _, _, some (17, true)⟩) (v := undef) rfl (by kernel_rfl) (by kernel_rfl) (by kernel_rfl) (fun _ _ _ h => h) (Or.inr ⟨by rfl, rfl⟩) ⟨hR0, fun _ => hS0⟩ ?_
         simp only [putE]
         refine wpAnyX_keep (i := 23) (oi := ⟨some 96, _, _, _, _, some (17, true)⟩) (v := undef) rfl (by kernel_rfl) (by kernel_rfl) (by kernel_rfl) (fun _ _ _ h => h) (Or.inr ⟨by rfl, rfl⟩) ⟨hR0, fun _ => hS0⟩ ?_
         simp only [putE]
         refine wpAnyX_keep (i := 24) (oi := ⟨some 97, _, _, _, _, some (23, false)⟩) (v := undef) rfl (by kernel_rfl) (by kernel_rfl) (by kernel_rfl) (fun _ _ _ h => h) (Or.inr ⟨by rfl, rfl⟩) ⟨hR0, fun _ => hS0⟩ ?_
         simp only [putE]
         refine wpAnyX_keep (i := 25) (oi := ⟨some 98, _, _, _, _, some (23, false)⟩) (v := undef) rfl (by kernel_rfl) (by kernel_rfl) (by kernel_rfl) (fun _ _ _ h => h) (Or.inr ⟨by rfl, rfl⟩) ⟨hR0, fun _ => hS0⟩ ?_
         simp only [putE]
         refine wpAnyX_keep (i := 26) (oi := ⟨some 99, _, _, _, _, some (23, false)⟩) (v := undef) rfl (by kernel_rfl) (by kernel_rfl) (by kernel_rfl) (fun _ _ _ h => h) (Or.inr ⟨by rfl, rfl⟩) ⟨hR0, fun _ => hS0⟩ ?_
         simp only [putE]
         refine wpAnyX_keep (i := 27) (oi := ⟨some 100, _, _, _, _, some (23, false)⟩) (v := undef) rfl (by kernel_rfl) (by kernel_rfl) (by kernel_rfl) (fun _ _ _ h => h) (Or.inr ⟨by rfl, rfl⟩) ⟨hR0, fun _ => hS0⟩ ?_
         simp only [putE]
         refine wpAnyX_keep (i := 28) (oi := ⟨some 101, _, _, _, _, some (23, false)⟩) (v := undef) rfl (by kernel_rfl) (by kernel_rfl) (by kernel_rfl) (fun _ _ _ h => h) (Or.inr ⟨by rfl, rfl⟩) ⟨hR0, fun _ => hS0⟩ ?_
         simp only [putE]
         refine wpAnyX_keep (i := 29) (oi := ⟨some 102, _, _, _, _, some (17, true)⟩) (v := undef) rfl (by kernel_rfl) (by kernel_rfl) (by kernel_rfl) (fun _ _ _ h => h) (Or.inr ⟨by rfl, rfl⟩) ⟨hR0, fun _ => hS0⟩ ?_
         simp only [putE]
         refine wpX_kp (i := 30) (oi := ⟨some 103, _, _, _, _, some (14, false)⟩) (v := ?_) rfl (fun _ _ _ h => h) ?_ ⟨hR0, fun _ => hS0⟩ ?_
         rotate_left
         ·intro U hU
          go_simp
          all_goals with_reducible rfl
         simp only [putE]
         refine wpX_kp (i := 31) (oi := ⟨some 104, _, _, _, _, none⟩) (v := ?_) rfl (fun _ _ _ h => h) ?_ ⟨hR0, fun _ => hS0⟩ ?_
         rotate_left
         ·intro U hU
          go_simp
          all_goals with_reducible rfl
         simp only [putE]
         refine wpAnyX_one (i := 32) (o := ⟨some 105, _, _, _, _, none⟩) (by kernel_rfl) rfl (by rfl) (fun K1 hK1 => ?_)
         have HK1 := Lib.hid hK1; clear hK1
         have hRa := Hq0.out.alloc Hq0.out.size (.cells #[.bool false] 4)
         have hR1 := btr HJV.out.2 hRa (Nat.le_of_eq HBS.out)
         have hS1 := blk_keep HJV.out.1.box hRa
         go_simp
         refine HK1.out _ _ ⟨hR1, fun _ => hS1⟩ ?_
         clear HK1
         try simp only [putE]
         refine wpAnyX_one (i := 33) (o := ⟨some 106, _, _, _, _, none⟩) (by kernel_rfl) rfl (by rfl) (fun K1 hK1 => ?_)
         have HK1 := Lib.hid hK1; clear hK1
         have hbz := hR1.size
         rw [← HBS.out] at hbz
         have hJq := HJV.out.1.quiet hRa
         refine oper_app (.tmp 74) (.tmp 105) 23 4 rfl Try.underlying23 info4 rfl (by decide) (xs := GS.map Value.bool) (by rw [List.length_map]; exact hJq.og) (by rw [List.length_map, HUL.out.2]; omega) rfl rfl (heap_newI rfl) rfl hbz ?_
         intro v' w8 q9 gr9 e9
         rw [List.length_map] at q9
         obtain ⟨hJ9, hS2⟩ := HJV.out.1.addG hRa q9 gr9
         have hR2 := below_ow2 HBS.out hR1 hJq.og gr9
         obtain ⟨a9, c9, e9', -⟩ := own_form q9
         rw [HUL.out.2] at e9'
         subst e9'
         have hR3 := hR2.setCell (p := ⟨g9, 1, none⟩) hbsg (.slice a9 (u + 1) c9)
         have HJ9 := Lib.hid (And.intro hJ9 hR3)
         refine HK1.out _ _ ⟨hR2, fun _ => hS2⟩ ?_
         clear HK1 hbz q9 gr9 e9 hJ9 hRa hJq
         try simp only [putE]
         refine wpX_kp (i := 34) (oi := ⟨some 107, _, _, _, _, none⟩) (v := ?_) rfl (fun _ _ _ h => h) ?_ ⟨hR2, fun _ => hS2⟩ ?_
         rotate_left
         ·intro U hU
          go_simp
          all_goals with_reducible rfl
         simp only [putE]
         have y1 := cell_blk (i := 1) hS2
         have f1 := free_blk (i := 1) hS2
         simp only [List.getElem?_toArray, List.getElem?_cons_zero, List.getElem?_cons_succ] at y1
         refine wpAnyX_one (i := 35) (o := ⟨none, _, _, _, _, none⟩) (by kernel_rfl) rfl (by rfl) (fun K1 hK1 => ?_)
         have HK1 := Lib.hid hK1; clear hK1
         go_simp
         refine HK1.out _ _ ⟨hR3, fun h => by simp at h⟩ ?_
         clear HK1 K1
         try simp only [putE]
         refine wpAnyX_done (by kernel_rfl) ?_ _
         clear y1 f1 hS2 hS1 hS0 hR0 hR1 hR2 hR3
         have HF := Lib.hid (FIN.out false _ _ _ (by rw [HGV.out, hf]; simp) HJ9.out)
         clear HJ9
         go_wp2
         exact ⟨⟨t + 1, _, _, _, _, by omega, by go_num, HF⟩, by simp only [intOf]; omega⟩
        | false => as_aux_lemma =>
         refine wp_region_x (R := fun U => Below bs w2 U) (S := fun U => U.heap[g9]? = some (.cells #[.slice an2 (u + 1) cn2', .slice ag' u cg'] 29 (0, 0))) (z := 35) rfl ?_
         change wpAnyX _ _ _ _ _ _ _ _ _ _ wz.drew
         have Hq0 := Lib.hid (show Below wz.heap.size wz wz.drew from (Below.refl _ _).drew)
         obtain ⟨wq0, hwq⟩ : ∃ q, q = wz.drew := ⟨_, rfl⟩
         rw [← hwq] at Hq0 ⊢
         clear hwq
         have hR0 := btr HJV.out.2 Hq0.out (Nat.le_of_eq HBS.out)
         have hS0 := blk_keep HJV.out.1.box Hq0.out
         refine wpX_kp (i := 0) (oi := ⟨some 73, _, _, _, _, none⟩) (v := ?_) rfl (fun _ _ _ h => h) ?_ ⟨hR0, fun _ => hS0⟩ ?_
         rotate_left
         ·intro U hU
          go_simp
          all_goals with_reducible rfl
         simp only [putE]
         refine wpAnyX_take (i := 1) (oi := ⟨some 74, _, _, _, _, none⟩) (v := ?_) rfl (by kernel_rfl) (by kernel_rfl) (by kernel_rfl) (fun _ _ _ h => h) (Or.inl ⟨by rfl, ?_⟩) ⟨hR0, fun _ => hS0⟩ ?_
         rotate_left
         ·intro U hU
          have u0 := cell_blk (i := 1) hU.2
          simp only [List.getElem?_toArray, List.getElem?_cons_zero, List.getElem?_cons_succ] at u0
          go_simp
          all_goals with_reducible rfl
         simp only [putE]
         refine wpX_kp (i := 2) (oi := ⟨some 75, _, _, _, _, none⟩) (v := ?_) rfl (fun _ _ _ h => h) ?_ ⟨hR0, fun _ => hS0⟩ ?_
         rotate_left
         ·intro U hU
          go_simp
          all_goals with_reducible rfl
         simp only [putE]
         refine wpX_kp (i := 3) (oi := ⟨some 76, _, _, _, _, none⟩) (v := ?_) rfl (fun _ _ _ h => h) ?_ ⟨hR0, fun _ => hS0⟩ ?_
         rotate_left
         ·intro U hU
          have u0 := cell_blk (i := 1) (HX.out U hU).1.blk
          simp only [List.getElem?_toArray, List.getElem?_cons_zero, List.getElem?_cons_succ] at u0
          go_simp
          all_goals with_reducible rfl
         simp only [putE]
         refine wpX_kp (i := 4) (oi := ⟨some 77, _, _, _, _, none⟩) (v := ?_) rfl (fun _ _ _ h => h) ?_ ⟨hR0, fun _ => hS0⟩ ?_
         rotate_left
         ·intro U hU
          go_simp
          all_goals with_reducible rfl
         simp only [putE]
         refine wpX_kp (i := 5) (oi := ⟨some 78, _, _, _, _, none⟩) (v := ?_) rfl (fun _ _ _ h => h) ?_ ⟨hR0, fun _ => hS0⟩ ?_
         rotate_left
         ·intro U hU
          go_simp
          all_goals with_reducible rfl
         simp only [putE]
         refine wpX_kp (i := 6) (oi := ⟨some 79, _, _, _, _, none⟩) (v := ?_) rfl (fun _ _ _ h => h) ?_ ⟨hR0, fun _ => hS0⟩ ?_
         rotate_left
         ·intro U hU
          have u0 := (hU.cell (p := ⟨bA, oA + s, none⟩) HGA.out.1).trans HGA.out.2
          go_simp
          all_goals with_reducible rfl
         simp only [putE]
         refine wpX_kp (i := 7) (oi := ⟨some 80, _, _, _, _, none⟩) (v := ?_) rfl (fun _ _ _ h => h) ?_ ⟨hR0, fun _ => hS0⟩ ?_
         rotate_left
         ·intro U hU
          go_simp
          all_goals with_reducible rfl
         simp only [putE]
         refine wpAnyX_keep (i := 8) (oi := ⟨some 81, _, _, _, _, some (7, true)⟩) (v := undef) rfl (by kernel_rfl) (by kernel_rfl) (by kernel_rfl) (fun _ _ _ h => h) (Or.inr ⟨by rfl, rfl⟩) ⟨hR0, fun _ => hS0⟩ ?_
         simp only [putE]
         refine wpAnyX_keep (i := 9) (oi := ⟨some 82, _, _, _, _, some (7, true)⟩) (v := undef) rfl (by kernel_rfl) (by kernel_rfl) (by kernel_rfl) (fun _ _ _ h => h) (Or.inr ⟨by rfl, rfl⟩) ⟨hR0, fun _ => hS0⟩ ?_
         simp only [putE]
         refine wpAnyX_keep (i := 10) (oi := ⟨some 83, _, _, _, _, some (7, true)⟩) (v := undef) rfl (by kernel_rfl) (by kernel_rfl) (by kernel_rfl) (fun _ _ _ h => h) (Or.inr ⟨by rfl, rfl⟩) ⟨hR0, fun _ => hS0⟩ ?_
         simp only [putE]
         refine wpAnyX_keep (i := 11) (oi := ⟨some 84, _, _, _, _, some (7, true)⟩) (v := undef) rfl (by kernel_rfl) (by kernel_rfl) (by kernel_rfl) (fun _ _ _ h => h) (Or.inr ⟨by rfl, rfl⟩) ⟨hR0, fun _ => hS0⟩ ?_
         simp only [putE]
         refine wpAnyX_keep (i := 12) (oi := ⟨some 85, _, _, _, _, some (7, true)⟩) (v := undef) rfl (by kernel_rfl) (by kernel_rfl) (by kernel_rfl) (fun _ _ _ h => h) (Or.inr ⟨by rfl, rfl⟩) ⟨hR0, fun _ => hS0⟩ ?_
         simp only [putE]
         refine wpX_kp (i := 13) (oi := ⟨some 86, _, _, _, _, none⟩) (v := ?_) rfl (fun _ _ _ h => h) ?_ ⟨hR0, fun _ => hS0⟩ ?_
         rotate_left
         ·intro U hU
          go_simp
          all_goals with_reducible rfl
         simp only [putE]
         refine wpX_kp (i := 14) (oi := ⟨some 87, _, _, _, _, none⟩) (v := ?_) rfl (fun _ _ _ h => h) ?_ ⟨hR0, fun _ => hS0⟩ ?_
         rotate_left
         ·intro U hU
          go_simp
          all_goals with_reducible rfl
         simp only [putE]
         refine wpX_kp (i := 15) (oi := ⟨some 88, _, _, _, _, some (14, false)⟩) (v := ?_) rfl (fun _ _ _ h => h) ?_ ⟨hR0, fun _ => hS0⟩ ?_
         rotate_left
         ·intro U hU
          go_simp
          all_goals with_reducible rfl
         simp only [putE]
         refine wpX_kp (i := 16) (oi := ⟨some 89, _, _, _, _, some (14, false)⟩) (v := ?_) rfl (fun _ _ _ h => h) ?_ ⟨hR0, fun _ => hS0⟩ ?_
         rotate_left
         ·intro U hU
          go_simp
          all_goals with_reducible rfl
         simp only [putE]
         refine wpX_kp (i := 17) (oi := ⟨some 90, _, _, _, _, some (14, false)⟩) (v := ?_) rfl (fun _ _ _ h => h) ?_ ⟨hR0, fun _ => hS0⟩ ?_
         rotate_left
         ·intro U hU
          go_simp
          all_goals with_reducible rfl
         simp only [putE]
         refine wpX_kp (i := 18) (oi := ⟨some 91, _, _, _, _, some (17, true)⟩) (v := ?_) rfl (fun _ _ _ h => h) ?_ ⟨hR0, fun _ => hS0⟩ ?_
         rotate_left
         ·intro U hU
          go_simp
          all_goals with_reducible rfl
         simp only [putE]
         refine wpX_kp (i := 19) (oi := ⟨some 92, _, _, _, _, some (17, true)⟩) (v := ?_) rfl (fun _ _ _ h => h) ?_ ⟨hR0, fun _ => hS0⟩ ?_
         rotate_left
         ·intro U hU
          have u0 := cell_blk (i := 1) (HX.out U hU).1.blk
          simp only [List.getElem?_toArray, List.getElem?_cons_zero, List.getElem?_cons_succ] at u0
          go_simp
          all_goals with_reducible rfl
         simp only [putE]
         refine wpX_kp (i := 20) (oi := ⟨some 93, _, _, _, _, some (17, true)⟩) (v := ?_) rfl (fun _ _ _ h => h) ?_ ⟨hR0, fun _ => hS0⟩ ?_
         rotate_left
         ·intro U hU
          go_simp
          all_goals with_reducible rfl
         simp only [putE]
         refine wpX_kp (i := 21) (oi := ⟨some 94, _, _, _, _, some (17, true)⟩) (v := ?_) rfl (fun _ _ _ h => h) ?_ ⟨hR0, fun _ => hS0⟩ ?_
         rotate_left
         ·intro U hU
          go_simp
          all_goals with_reducible rfl
         simp only [putE]
         refine wpX_kp (i := 22) (oi := ⟨some 95, _, _, _, _, some (17, true)⟩) (v := ?_) rfl (fun _ _ _ h => h) ?_ ⟨hR0, fun _ => hS0⟩ ?_
         rotate_left
         ·intro U hU
          have u0 := (hU.cell (p := ⟨bA, oA + s, none⟩) HGA.out.1).trans HGA.out.2
          go_simp
          all_goals with_reducible rfl
         simp only [putE]
         refine wpX_kp (i := 23) (oi := ⟨some 96, _, _, _, _, some (17, true)⟩) (v := ?_) rfl (fun _ _ _ h => h) ?_ ⟨hR0, fun _ => hS0⟩ ?_
         rotate_left
         ·intro U hU
          go_simp
          all_goals with_reducible rfl
         simp only [putE]
         refine wpX_kp (i := 24) (oi := ⟨some 97, _, _, _, _, some (23, false)⟩) (v := ?_) rfl (fun _ _ _ h => h) ?_ ⟨hR0, fun _ => hS0⟩ ?_
         rotate_left
         ·intro U hU
          go_simp
          all_goals with_reducible rfl
         simp only [putE]
         refine wpX_kp (i := 25) (oi := ⟨some 98, _, _, _, _, some (23, false)⟩) (v := ?_) rfl (fun _ _ _ h => h) ?_ ⟨hR0, fun _ => hS0⟩ ?_
         rotate_left
         ·intro U hU
          have u0 := cell_blk (i := 1) (HX.out U hU).2.blk
          simp only [List.getElem?_toArray, List.getElem?_cons_zero, List.getElem?_cons_succ] at u0
          go_simp
          all_goals with_reducible rfl
         simp only [putE]
         refine wpX_kp (i := 26) (oi := ⟨some 99, _, _, _, _, some (23, false)⟩) (v := ?_) rfl (fun _ _ _ h => h) ?_ ⟨hR0, fun _ => hS0⟩ ?_
         rotate_left
         ·intro U hU
          go_simp
          all_goals with_reducible rfl
         simp only [putE]
         refine wpX_kp (i := 27) (oi := ⟨some 100, _, _, _, _, some (23, false)⟩) (v := ?_) rfl (fun _ _ _ h => h) ?_ ⟨hR0, fun _ => hS0⟩ ?_
         rotate_left
         ·intro U hU
          go_simp
          all_goals with_reducible rfl
         simp only [putE]
         refine wpX_kp (i := 28) (oi := ⟨some 101, _, _, _, _, some (23, false)⟩) (v := ?_) rfl (fun _ _ _ h => h) ?_ ⟨hR0, fun _ => hS0⟩ ?_
         rotate_left
         ·intro U hU
          have u0 := (hU.cell (p := ⟨bB, oB + t, none⟩) HGB.out.1).trans HGB.out.2
          go_simp
          all_goals with_reducible rfl
         simp only [putE]
         refine wpX_kp (i := 29) (oi := ⟨some 102, _, _, _, _, some (17, true)⟩) (v := ?_) rfl (fun _ _ _ h => h) ?_ ⟨hR0, fun _ => hS0⟩ ?_
         rotate_left
         ·intro U hU
          go_simp
          all_goals with_reducible rfl
         simp only [putE]
         refine wpX_kp (i := 30) (oi := ⟨some 103, _, _, _, _, some (14, false)⟩) (v := ?_) rfl (fun _ _ _ h => h) ?_ ⟨hR0, fun _ => hS0⟩ ?_
         rotate_left
         ·intro U hU
          go_simp
          all_goals with_reducible rfl
         simp only [putE]
         refine wpX_kp (i := 31) (oi := ⟨some 104, _, _, _, _, none⟩) (v := ?_) rfl (fun _ _ _ h => h) ?_ ⟨hR0, fun _ => hS0⟩ ?_
         rotate_left
         ·intro U hU
          go_simp
          all_goals with_reducible rfl
         simp only [putE]
         refine wpAnyX_one (i := 32) (o := ⟨some 105, _, _, _, _, none⟩) (by kernel_rfl) rfl (by rfl) (fun K1 hK1 => ?_)
         have HK1 := Lib.hid hK1; clear hK1
         have hRa := Hq0.out.alloc Hq0.out.size (.cells #[.bool gb] 4)
         have hR1 := btr HJV.out.2 hRa (Nat.le_of_eq HBS.out)
         have hS1 := blk_keep HJV.out.1.box hRa
         go_simp
         refine HK1.out _ _ ⟨hR1, fun _ => hS1⟩ ?_
         clear HK1
         try simp only [putE]
         refine wpAnyX_one (i := 33) (o := ⟨some 106, _, _, _, _, none⟩) (by kernel_rfl) rfl (by rfl) (fun K1 hK1 => ?_)
         have HK1 := Lib.hid hK1; clear hK1
         have hbz := hR1.size
         rw [← HBS.out] at hbz
         have hJq := HJV.out.1.quiet hRa
         refine oper_app (.tmp 74) (.tmp 105) 23 4 rfl Try.underlying23 info4 rfl (by decide) (xs := GS.map Value.bool) (by rw [List.length_map]; exact hJq.og) (by rw [List.length_map, HUL.out.2]; omega) rfl rfl (heap_newI rfl) rfl hbz ?_
         intro v' w8 q9 gr9 e9
         rw [List.length_map] at q9
         obtain ⟨hJ9, hS2⟩ := HJV.out.1.addG hRa q9 gr9
         have hR2 := below_ow2 HBS.out hR1 hJq.og gr9
         obtain ⟨a9, c9, e9', -⟩ := own_form q9
         rw [HUL.out.2] at e9'
         subst e9'
         have hR3 := hR2.setCell (p := ⟨g9, 1, none⟩) hbsg (.slice a9 (u + 1) c9)
         have HJ9 := Lib.hid (And.intro hJ9 hR3)
         refine HK1.out _ _ ⟨hR2, fun _ => hS2⟩ ?_
         clear HK1 hbz q9 gr9 e9 hJ9 hRa hJq
         try simp only [putE]
         refine wpX_kp (i := 34) (oi := ⟨some 107, _, _, _, _, none⟩) (v := ?_) rfl (fun _ _ _ h => h) ?_ ⟨hR2, fun _ => hS2⟩ ?_
         rotate_left
         ·intro U hU
          go_simp
          all_goals with_reducible rfl
         simp only [putE]
         have y1 := cell_blk (i := 1) hS2
         have f1 := free_blk (i := 1) hS2
         simp only [List.getElem?_toArray, List.getElem?_cons_zero, List.getElem?_cons_succ] at y1
         refine wpAnyX_one (i := 35) (o := ⟨none, _, _, _, _, none⟩) (by kernel_rfl) rfl (by rfl) (fun K1 hK1 => ?_)
         have HK1 := Lib.hid hK1; clear hK1
         go_simp
         refine HK1.out _ _ ⟨hR3, fun h => by simp at h⟩ ?_
         clear HK1 K1
         try simp only [putE]
         refine wpAnyX_done (by kernel_rfl) ?_ _
         clear y1 f1 hS2 hS1 hS0 hR0 hR1 hR2 hR3
         have HF := Lib.hid (FIN.out gb _ _ _ (by rw [HGV.out, hf]; simp) HJ9.out)
         clear HJ9
         go_wp2
         exact ⟨⟨t + 1, _, _, _, _, by omega, by go_num, HF⟩, by simp only [intOf]; omega⟩
end Ytnjgglnpmhjmiaa
end Go.Proofs
