/- Laws of rotation: Tell. -/
import Derived.Test.YtnjgglnpmhjmiaaPlA
open Go Go.RowKit Go.YtnjgglnpmhjmiaaIt
open Rest
namespace Go.Proofs
namespace Ytnjgglnpmhjmiaa
noncomputable def tellT (l : Lw) : Tab := theT l.k (Fut (sysL l) 0)
/-- The list that tells two states apart. -/
noncomputable def endO (t : Lw) (i j : Nat) : List Nat := (firstO (diffS t t ((i : Int), (j : Int)))).getD []
noncomputable def rowD (t : Lw) (i d : Nat) : List (List Nat) := (List.range d).map fun e => endO t i (i + 1 + e)
noncomputable def endsK (t : Lw) (n k : Nat) : List (List Nat) := (List.range k).flatMap fun i => rowD t i (n - 1 - i)
noncomputable def tellS (l : Lw) : List (List Nat) := if chkL l = 0 then (tellT l).st else []
noncomputable def tellD (l : Lw) : List (List Nat) := if chkL l = 0 then endsK (tabL (tellT l)) (tellT l).st.length (tellT l).st.length else []
theorem rowD_succ (t : Lw) (i d : Nat) : rowD t i (d + 1) = rowD t i d ++ [endO t i (i + 1 + d)] := by simp [rowD, List.range_succ]
theorem endsK_succ (t : Lw) (n k : Nat) : endsK t n (k + 1) = endsK t n k ++ rowD t k (n - 1 - k) := by simp [endsK, List.range_succ]
theorem SlI.keepN {w w' : World} {v : Value} {xs : List Int} (h : SlI w v xs) (hs : w.heap.size ≤ w'.heap.size) (hk : 0 < xs.length → ∀ g off n c, v = .slice (some ⟨g, off, none⟩) n c → g < w.heap.size → w'.heap[g]? = w.heap[g]?) : SlI w' v xs := by
 obtain ⟨ad, cap, hv, hm, hp, hc⟩ := h
 refine ⟨ad, cap, hv, hm, hp, fun h0 => ?_⟩
 obtain ⟨b, off, ha, hlt, hcell⟩ := hc h0
 exact ⟨b, off, ha, Nat.lt_of_lt_of_le hlt hs, fun i hi => (World.cell?_of_block (w := w) (a := ⟨b, off + i, none⟩) (hk h0 b off _ _ (by rw [hv, ha]) hlt)).trans (hcell i hi)⟩
/-- Lists in a slice of the call's own. -/
def EndR (W : World) (base : Nat) (ve : Value) (ds : List (List Nat)) : Prop := ∃ vs : List Value, vs.length = ds.length ∧ W.ownsRow base 40 1 ve vs.length vs ∧ (∀ u ∈ vs, u.oneCell' = true) ∧
 ∀ i (h : i < vs.length) (h' : i < ds.length), SlI W vs[i] (nI ds[i]) ∧ (0 < ds[i].length → ∀ g off n c, vs[i] = .slice (some ⟨g, off, none⟩) n c → ve.ownBlock ≠ some g)
theorem EndR.nil (W : World) (base : Nat) : EndR W base (.slice none 0 0) [] := ⟨[], rfl, ⟨rfl, .inl ⟨rfl, rfl⟩⟩, by simp, fun i h => by simp at h⟩
theorem EndR.below {W W' : World} {base : Nat} {ve : Value} {ds : List (List Nat)} (h : EndR W base ve ds) (hb : Below W.heap.size W W') : EndR W' base ve ds := by
 obtain ⟨vs, h1, h2, h0, h3⟩ := h
 exact ⟨vs, h1, row_below h2 hb, h0, fun i hi hi' => ⟨(h3 i hi hi').1.below hb (Nat.le_refl _), (h3 i hi hi').2⟩⟩
theorem EndR.slII {W : World} {base : Nat} {ve : Value} {ds : List (List Nat)} (h : EndR W base ve ds) (hl : ds.length ≤ 10000) : SlII W ve (ds.map nI) := by
 obtain ⟨vs, h1, h2, h0, h3⟩ := h
 refine ⟨vs, slV_own h2 rfl (by omega), by simp [h1], fun i hi hi' => ?_⟩
 have := (h3 i hi (by simpa using hi')).1
 simpa using this
theorem EndR.len {W : World} {base : Nat} {ve : Value} {ds : List (List Nat)} (h : EndR W base ve ds) : ∃ ad c, ve = .slice ad ds.length c := by
 obtain ⟨vs, h1, h2, -⟩ := h
 obtain ⟨ad, c, e⟩ := form_of h2
 exact ⟨ad, c, by rw [e, h1]⟩
/-- One list more. -/
theorem EndR.push {o : Oper} {a : Act} {K : Act → World → Prop} {Q : Exit → Act → World → Prop} (s x : Operand) (ho : o.op = .call { callee := .builtin .append, args := #[s, x], argTypes := #[22, 22] })
  {W : World} {base : Nat} {ve v1 : Value} {ds : List (List Nat)} {d : List Nat} (h : EndR W base ve ds) (hl : ds.length ≤ 9000) (hv : SlI W v1 (nI d)) (hn : 0 < d.length → ∀ g off n c, v1 = .slice (some ⟨g, off, none⟩) n c → ve.ownBlock ≠ some g) (hbase : base ≤ W.heap.size)
  (hs : a.eval s = ve) (hx : a.eval x = .slice (some ⟨W.heap.size, 0, none⟩) 1 1)
  (hK : ∀ v' w', EndR w' base v' (ds ++ [d]) → (∀ i, i < W.heap.size → ve.ownBlock ≠ some i → w'.heap[i]? = W.heap[i]?) → w'.os = W.os ∧ w'.tape = W.tape ∧ w'.output = W.output ∧ W.heap.size ≤ w'.heap.size → K (a.put o.dst v') w') : o.wp Try.prog a (W.alloc (.cells #[v1] 40)) K Q := by
 obtain ⟨vs, h1, h2, h0, h3⟩ := h
 obtain ⟨ad1, c1, e1⟩ := slI_form hv
 have hone : v1.oneCell' = true := by rw [e1]; rfl
 refine oper_app s x 22 40 ho Try.underlying22 info40 rfl (by decide) (own_alloc h2 _) (by omega) hs hx (heap_newI rfl) hone (by rw [World.size_alloc]; omega) ?_
 intro v' w' r1 r2 r3
 have hsz : W.heap.size + 1 ≤ w'.heap.size := by have := r2.size; rwa [World.size_alloc] at this
 have hblk : ∀ i, i < W.heap.size → ve.ownBlock ≠ some i → w'.heap[i]? = W.heap[i]? := fun i hi hne => (r2.block i (by rw [World.size_alloc]; omega) (fun e => hne e.symm)).trans (heap_oldI hi)
 refine hK v' w' ⟨vs ++ [v1], by simp [h1], by rw [List.length_append]; exact r1, fun u hu => ?_, fun i hi hi' => ?_⟩ hblk ⟨r2.os, r2.tape, r2.output, by omega⟩
 ·rcases List.mem_append.1 hu with hu | hu
  ·exact h0 u hu
  ·rw [List.mem_singleton.1 hu]; exact hone
 ·have hv' : ∀ g, g < W.heap.size → ve.ownBlock ≠ some g → v'.ownBlock ≠ some g := fun g hg hne e => by
   rcases r3 with r3 | r3
   ·rw [r3] at e; exact hne e
   ·rw [r3, World.size_alloc] at e
    injection e with e
    omega
  have hlt : ∀ {v : Value} {xs : List Int} {g off n c : Nat}, SlI W v xs → 0 < xs.length → v = .slice (some ⟨g, off, none⟩) n c → g < W.heap.size := fun hv h0 e => by
   obtain ⟨ad, cap, e2, -, -, hc⟩ := hv
   obtain ⟨b, off, rfl, hb, -⟩ := hc h0
   rw [e2] at e
   injection e with e _ _
   injection e with e
   injection e with e _ _
   omega
  by_cases hik : i < vs.length
  ·have e2 : (vs ++ [v1])[i] = vs[i] := List.getElem_append_left hik
   have e3 : (ds ++ [d])[i] = ds[i]'(by omega) := List.getElem_append_left (by omega)
   rw [e2, e3]
   obtain ⟨q1, q2⟩ := h3 i hik (by omega)
   refine ⟨q1.keepN (by omega) fun hp g off n c e hg => hblk g hg (q2 (by simpa using hp) g off n c e), fun hp g off n c e => hv' g (hlt q1 (by simpa using hp) e) (q2 hp g off n c e)⟩
  ·have hie : i = vs.length := by simp at hi; omega
   subst hie
   have e2 : (vs ++ [v1])[vs.length] = v1 := by rw [List.getElem_append_right (by omega)]; simp
   have e3 : (ds ++ [d])[vs.length] = d := by rw [List.getElem_append_right (by omega)]; simp [h1]
   rw [e2, e3]
   exact ⟨hv.keepN (by omega) fun hp g off n c e hg => hblk g hg (hn (by simpa using hp) g off n c e), fun hp g off n c e => hv' g (hlt hv (by simpa using hp) e) (hn hp g off n c e)⟩
theorem endsK_len (t : Lw) (n : Nat) : ∀ k, (endsK t n k).length ≤ k * n
 | 0 => by simp [endsK]
 | k + 1 => by
  have ih := endsK_len t n k
  have h2 : (rowD t k (n - 1 - k)).length = n - 1 - k := by simp [rowD]
  rw [endsK_succ, List.length_append, Nat.succ_mul]
  omega
set_option maxRecDepth 100000 in
set_option maxHeartbeats 4000000 in
theorem tell31_any {v : Value} {l : Lw} {w : World} (h : LawA w v l) : Calls Try.prog 31 #[v] w fun e w' => ∃ vs ve, e = .returned (.tuple #[vs, ve, .int .i64 (chkL l)]) ∧ SlII w' vs ((tellS l).map nI) ∧ SlII w' ve ((tellD l).map nI) ∧ Below w.heap.size w w' := by
 have H0 := Lib.hid h
 obtain ⟨vn, vg, rfl, hn, hg⟩ := h
 have H52 := Lib.hid (fun W (hW : Below w.heap.size w W) => check_any (H0.out.below hW (Nat.le_refl _)))
 have b1 : (w.alloc (.cells #[vn, vg] 25)).heap[w.heap.size]? = some (.cells #[vn, vg] 25 (0, 0)) := heap_newI rfl
 have hB : Below w.heap.size w (w.alloc (.cells #[vn, vg] 25)) := (Below.refl _ _).alloc (Nat.le_refl _) _
 clear hn hg
 go_enter Try.func31, Try.ntmps31
 refine wp_seq_k (fun K hK => ?_)
 have HK := Lib.hid hK; clear hK
 go_wp2
 refine HK.out _ _ ?_; clear HK
 obtain ⟨w2, hw2⟩ : ∃ q, q = w.alloc (.cells #[vn, vg] 25) := ⟨_, rfl⟩
 rw [← hw2] at b1 hB ⊢
 clear hw2
 obtain ⟨g1, hg1⟩ : ∃ q, q = w.heap.size := ⟨_, rfl⟩
 rw [← hg1] at b1
 rw [← hg1]
 have HH := Lib.hid (And.intro b1 (And.intro hB hg1))
 have HB1 := Lib.hid b1
 have HC := Lib.hid (H52.out w2 hB)
 clear b1 hB hg1
 obtain ⟨E, hE⟩ : ∃ E, E = chkL l := ⟨_, rfl⟩
 rw [← hE] at HC ⊢
 have HE := Lib.hid hE
 clear hE
 by_cases h0 : E = 0
 case neg =>
  have hb0 : (E != 0) = true := by simpa using h0
  have hb0' : (E == 0) = false := by simpa using h0
  have e1 : tellS l = [] := by unfold tellS; rw [if_neg (by rw [← HE.out]; exact h0)]
  have e2 : tellD l = [] := by unfold tellD; rw [if_neg (by rw [← HE.out]; exact h0)]
  rw [e1, e2]
  clear h0 e1 e2
  go_wp2_with (first | (refine wpList_load_blk rfl 25 _ rfl _ rfl HB1.out Try.underlying25 rfl size25 rfl ?_) | (go_at_call 52; refine HC.out.mono ?_; rintro e w3 ⟨rfl, hb3⟩; have HB3 := Lib.hid hb3; clear hb3))
  obtain ⟨c1, hB, hg1⟩ := HH.out
  exact bodyPost_ret (results_tmp3 rfl _ _ _) rfl ⟨_, _, rfl, (EndR.nil _ 0).slII (by simp), (EndR.nil _ 0).slII (by simp), by rw [hg1]; exact btr hB HB3.out (Nat.le_refl _)⟩
 have HOK := Lib.hid (chkL_ok (l := l) (by rw [← HE.out]; exact h0))
 subst h0
 obtain ⟨L, hL, hlen, -⟩ := HOK.out.walk
 have H74 : Hid (∀ W g vn vg, LawX W g 25 l vn vg → Calls Try.prog 74 #[.agg (sysV (sysL l) 91 92 #[.pointer (some ⟨g, 0, none⟩)] #[.pointer (some ⟨g, 0, none⟩)])] W fun e w' => ∃ vn vg vst, e = .returned (.tuple #[.agg #[vn, vg], vst]) ∧ Below W.heap.size W w' ∧ TabN W w' vn vg vst (tellT l) ∧ LeastT l.k (Fut (sysL l) 0) (tellT l)) := Lib.hid (by
  intro W g vn vg hX
  refine (least_any (hX.sys HOK.out) (Nat.le_refl _) enter91 enter92 hL (by omega) W (Below.refl _ _)).mono ?_
  rintro e w' ⟨vn, vg, vst, T, hT, rfl, hb, hN⟩
  have e : tellT l = T := theT_eq hT
  rw [e]
  exact ⟨_, _, _, rfl, hb, hN, hT⟩)
 have e1 : tellS l = (tellT l).st := by unfold tellS; rw [if_pos HE.out.symm]
 have e2 : tellD l = endsK (tabL (tellT l)) (tellT l).st.length (tellT l).st.length := by unfold tellD; rw [if_pos HE.out.symm]
 rw [e1, e2]
 clear hL hlen e1 e2
 obtain ⟨T, hT⟩ : ∃ T, T = tellT l := ⟨_, rfl⟩
 rw [← hT] at H74 ⊢
 clear hT
 have H66 := Lib.hid (fun W (hW : Below w.heap.size w W) => system_any (H0.out.below hW (Nat.le_refl _)) HOK.out.ne)
 refine wp_seq_k (fun K hK => ?_)
 have HK := Lib.hid hK; clear hK
 go_wp2_with (first | (refine wpList_load_blk rfl 25 _ rfl _ rfl HB1.out Try.underlying25 rfl size25 rfl ?_) | (go_at_call 52; refine HC.out.mono ?_; rintro e w3 ⟨rfl, hb3⟩; have HB3 := Lib.hid hb3; clear hb3))
 refine HK.out _ _ ?_; clear HK
 obtain ⟨c1, hB, hg1⟩ := HH.out
 have d1 := blk_keep c1 HB3.out
 have HB4 := Lib.hid (btr hB HB3.out (by omega))
 have HG1 := Lib.hid hg1
 have HD1 := Lib.hid d1
 clear c1 hB hg1 d1 HB3 HC HH HB1
 refine wp_seq_k (fun K hK => ?_)
 have HK := Lib.hid hK; clear hK
 go_wp2_with (first | (refine wpList_load_blk rfl 25 _ rfl _ rfl HD1.out Try.underlying25 rfl size25 rfl ?_) | (go_at_call 66; refine (H66.out _ HB4.out).mono ?_; rintro e w4 ⟨g, un, ug, rfl, hX, hgg, hb4⟩; have H6 := Lib.hid (H74.out w4 g un ug hX); have HX4 := Lib.hid (And.intro hgg hb4); clear hX hgg hb4) | (go_at_call 74; refine H6.out.mono ?_; rintro e w5 ⟨tn, tg, ts, rfl, hb5, hN, hLT⟩; have H5 := Lib.hid (And.intro hb5 (And.intro hN hLT)); clear hb5 hN hLT) | (refine wpList_store_blk rfl 25 _ _ rfl _ rfl rfl (heap_newI rfl) size25 rfl rfl (H5.out.2.1.law (Nat.le_refl _) (fun _ _ _ => rfl)).one ?_))
 refine HK.out _ _ ?_; clear HK
 obtain ⟨hb5, hN, hLT⟩ := H5.out
 obtain ⟨hgg, hb4⟩ := HX4.out
 obtain ⟨W, hW⟩ : ∃ q, q = (w5.alloc (.cells #[.slice none 0 0, .slice none 0 0] 25)).putObj w5.heap.size (.cells #[tn, tg] 25) := ⟨_, rfl⟩
 have hbW : Below w5.heap.size w5 W := by rw [hW]; exact below_putObj ((Below.refl _ _).alloc (Nat.le_refl _) _) (Nat.le_refl _)
 have bW : W.heap[w5.heap.size]? = some (.cells #[tn, tg] 25 (0, 0)) := by rw [hW]; exact World.putObj_heap_same (by rw [World.size_alloc]; omega)
 rw [← hW]
 have hTW : SlII W tn (T.nx.map nI) ∧ SlV W tg (T.gd.map Value.bool) ∧ SlII W ts (T.st.map nI) := hN W hbW.size fun i _ h2 => hbW.block i h2
 obtain ⟨g6, hg6⟩ : ∃ q, q = w5.heap.size := ⟨_, rfl⟩
 rw [← hg6] at bW ⊢
 obtain ⟨sa, sc, rfl, -⟩ := slII_form hTW.2.2
 obtain ⟨hto, htk, htl⟩ := leastL_ok HOK.out hLT
 have hBW : Below w.heap.size w W := btr (btr (btr HB4.out hb4 (Nat.le_refl _)) hb5 (Nat.le_refl _)) hbW (Nat.le_refl _)
 have hXT : LawX W g6 25 (tabL T) tn tg := ⟨bW, hTW.1, hTW.2.1⟩
 have hn40 : T.st.length ≤ 40 := by have := HOK.out.n40; omega
 have hnx : T.nx.length = T.st.length := (least_ok hLT).nx
 rw [List.length_map]
 have HF := Lib.hid (And.intro hXT (And.intro hTW.2.2 (And.intro hto (And.intro hBW hnx))))
 have HG1' := HG1
 clear hW hbW bW hTW hg6 hto htk htl hBW hXT hnx hb5 hN hLT hgg hb4 H5 H6 HX4 H74 H66 HD1
 have H70 : Hid (∀ U, Below W.heap.size W U → ∀ i j : Nat, Calls Try.prog 70 #[.agg #[tn, tg], .agg #[tn, tg], .agg #[.int .i64 (i : Nat), .int .i64 (j : Nat)], .func (.func 71) #[] #[]] U fun e w' => ∃ g4 g5 g7, e = .returned (.agg (sysVP (diffS (tabL T) (tabL T) ((i : Int), (j : Int))) 94 95 #[.pointer (some ⟨g4, 0, none⟩), .pointer (some ⟨g5, 0, none⟩)] #[.pointer (some ⟨g7, 0, none⟩), .pointer (some ⟨g4, 0, none⟩), .pointer (some ⟨g5, 0, none⟩)])) ∧ JointM w' U.heap.size g4 g5 g7 71 (tabL T) (tabL T) ∧ Below U.heap.size U w') := Lib.hid fun U hU i j =>
  joint70_any (fG := 71) (f := fun a b => a != b) (st := ((i : Int), (j : Int))) (HF.out.1.below hU).law (HF.out.1.below hU).law HF.out.2.2.1
 have H72 : Hid (∀ i j : Nat, i < T.st.length → j < T.st.length → ∀ U B g4 g5 g7, JointM U B g4 g5 g7 71 (tabL T) (tabL T) → Calls Try.prog 72 #[.agg (sysVP (diffS (tabL T) (tabL T) ((i : Int), (j : Int))) 94 95 #[.pointer (some ⟨g4, 0, none⟩), .pointer (some ⟨g5, 0, none⟩)] #[.pointer (some ⟨g7, 0, none⟩), .pointer (some ⟨g4, 0, none⟩), .pointer (some ⟨g5, 0, none⟩)])] U fun e w' => ∃ va n1 vc b, e = .returned (.tuple #[.slice va n1 vc, .bool b]) ∧ SlI w' (.slice va n1 vc) (nI (endO (tabL T) i j)) ∧ (∀ g off n c, Value.slice va n1 vc = .slice (some ⟨g, off, none⟩) n c → U.heap.size ≤ g) ∧ Below U.heap.size U w') := Lib.hid fun i j hi hj U B g4 g5 g7 hJ => by
  have hlen : (tabL T).nx.length = T.st.length := by simp [tabL, HF.out.2.2.2.2]
  refine (joint_first apart71 HF.out.2.2.1 HF.out.2.2.1 rfl (st := ((i : Int), (j : Int))) ⟨⟨by simp, by simp only [hlen]; omega⟩, ⟨by simp, by simp only [hlen]; omega⟩⟩ U B g4 g5 g7 hJ).mono ?_
  rintro e w' ⟨v, rfl, h1, h2, h3⟩
  obtain ⟨va, vc, rfl⟩ := slI_form h1
  exact ⟨_, _, _, _, rfl, h1, h2, h3⟩
 obtain ⟨n, hn⟩ : ∃ n, n = T.st.length := ⟨_, rfl⟩
 rw [← hn] at H72 hn40 ⊢
 have HN := Lib.hid hn
 clear hn
 refine wp_seq_k (fun K hK => ?_)
 have HK := Lib.hid hK; clear hK
 go_wp2
 obtain ⟨t, ht⟩ : ∃ t, t = tabL T := ⟨_, rfl⟩
 have HTT := Lib.hid ht
 rw [← ht] at H70 H72
 clear ht
 have HX6 : Hid (∀ U, Below W.heap.size W U → U.heap[g6]? = some (.cells #[tn, tg] 25 (0, 0))) := Lib.hid fun U hU => (HF.out.1.below hU).blk
 go_loopw [3, 24] (fun ve i wr => ∃ k : Nat, k ≤ n ∧ i = .int .i64 k ∧ Hid (EndR wr W.heap.size ve (endsK t n k)) ∧ Below W.heap.size W wr) (fun _ i _ => n - (intOf i).toNat)
 case atStart => exact ⟨0, Nat.zero_le _, rfl, Lib.hid (EndR.nil _ _), Below.refl _ _⟩
 case round =>
  obtain ⟨k, hk, rfl, HR, hbr⟩ := hrel
  obtain ⟨wo, rfl⟩ : ∃ q, q = wr := ⟨_, rfl⟩
  obtain ⟨av, cv, rfl⟩ := HR.out.len
  obtain ⟨nl, hnl⟩ : ∃ q, q = (endsK t n k).length := ⟨_, rfl⟩
  rw [← hnl] at HR ⊢
  clear hnl
  by_cases hkn : k < n
  ·have hki : (k : Int) < (n : Int) := by omega
   go_wp2
   go_loopw [3, 8] (fun ve j wr => ∃ d : Nat, d ≤ n - 1 - k ∧ j = .int .i64 ((k + 1 + d : Nat) : Int) ∧ Hid (EndR wr W.heap.size ve (endsK t n k ++ rowD t k d)) ∧ Below W.heap.size W wr) (fun _ j _ => n - (intOf j).toNat)
   case atStart => exact ⟨0, Nat.zero_le _, by go_num, Lib.hid (by simpa [rowD] using HR.out), hbr⟩
   case round =>
    clear hbr
    obtain ⟨d, hd, rfl, HQ, hbq⟩ := hrel
    obtain ⟨wq, rfl⟩ : ∃ q, q = wr := ⟨_, rfl⟩
    obtain ⟨aq, cq, rfl⟩ := HQ.out.len
    obtain ⟨nq, hnq⟩ : ∃ q, q = (endsK t n k ++ rowD t k d).length := ⟨_, rfl⟩
    rw [← hnq] at HQ ⊢
    have HNQ := Lib.hid hnq
    clear hnq
    obtain ⟨j, hj⟩ : ∃ j, j = k + 1 + d := ⟨_, rfl⟩
    rw [← hj]
    have HJ := Lib.hid hj
    by_cases hdn : d < n - 1 - k
    ·have hjn : j < n := by omega
     have hji : (j : Int) < (n : Int) := by omega
     clear hj
     have x6 := HX6.out wq hbq
     have HBQ := Lib.hid hbq
     clear hbq
     go_wp2_with (first | (refine wpList_load_blk rfl 25 (.tmp 6) rfl _ rfl x6 Try.underlying25 rfl size25 rfl ?_) | (go_at_call 70; refine (H70.out wq HBQ.out k j).mono ?_; rintro e w8 ⟨q4, q5, q7, rfl, hJ, hb8⟩; have H6 := Lib.hid (H72.out k j hkn hjn w8 _ _ _ _ hJ); have HB8 := Lib.hid hb8; clear hJ hb8) | (go_at_call 72; refine H6.out.mono ?_; rintro e w9 ⟨va1, n1, vc1, b1, rfl, hv1, hf1, hb9⟩; have H9 := Lib.hid (And.intro hv1 (And.intro hf1 hb9)); clear hv1 hf1 hb9) | (at_builtin; refine cutme ?_))
     refine ⟨?_⟩
     refine wpList_plain rfl fun K1 hK1 => ?_
     have HK1' := Lib.hid hK1; clear hK1
     obtain ⟨hv1, hf1, hb9⟩ := H9.out
     have hB9 : Below wq.heap.size wq w9 := btr HB8.out hb9 (Nat.le_refl _)
     have hzq := HBQ.out.size
     have hz8 := HB8.out.size
     have hz9 := hb9.size
     have hll : (endsK t n k ++ rowD t k d).length ≤ 9000 := by
      have h1 := endsK_len t n k
      have h2 : (rowD t k d).length = d := by simp [rowD]
      have h3 := Nat.mul_le_mul (show k ≤ 40 by omega) (show n ≤ 40 by omega)
      rw [List.length_append]
      omega
     have hR9 := HQ.out.below hB9
     refine EndR.push (.tmp 45) (.tmp 47) rfl (d := endO t k j) hR9 hll hv1 (fun _ g off n c e1 e2 => ?_) (by omega) rfl rfl ?_
     ·have h1 := hf1 g off n c e1
      obtain ⟨vs, -, q2, -⟩ := HQ.out
      have h2 := (own_lt q2 e2).2.1
      omega
     intro v10 w10 hR10 hk10 ho10
     refine HK1'.out _ _ ?_; clear HK1'
     have hown : ∀ i, i < W.heap.size → (Value.slice aq nq cq).ownBlock ≠ some i := fun i hi e => by
      obtain ⟨vs, -, q2, -⟩ := HQ.out
      have := (own_lt q2 e).1
      omega
     have hB10 : Below W.heap.size W w10 := by
      have h9 : Below W.heap.size W w9 := btr HBQ.out hB9 (Nat.le_refl _)
      exact ⟨ho10.1.trans h9.os, ho10.2.1.trans h9.tape, ho10.2.2.1.trans h9.output, by omega, fun i hi => (hk10 i (by omega) (hown i hi)).trans (h9.block i hi)⟩
     have hR11 : EndR w10 W.heap.size v10 (endsK t n k ++ rowD t k (d + 1)) := by rw [rowD_succ, ← List.append_assoc, ← HJ.out]; exact hR10
     have HR11 := Lib.hid hR11
     have HB10 := Lib.hid hB10
     obtain ⟨a11, c11, e11⟩ := hR10.len
     subst e11
     obtain ⟨n11, hn11⟩ : ∃ q, q = (endsK t n k ++ rowD t k d ++ [endO t k j]).length := ⟨_, rfl⟩
     rw [← hn11] at HR11 ⊢
     have hJ11 : Hid ((j : Int) + 1 = ((k + 1 + (d + 1) : Nat) : Int)) := Lib.hid (by have := HJ.out; omega)
     clear hn11 hR10 hk10 ho10 hown hB10 hR11 hv1 hf1 hb9 hB9 hll hR9
     go_wp2
     refine ⟨⟨d + 1, by omega, by have := hJ11.out; go_num, HR11, HB10.out⟩, ?_⟩
     have := HJ.out
     simp only [intOf]; omega
    ·have hde : d = n - 1 - k := by omega
     have hji : ¬ (j : Int) < (n : Int) := by omega
     have HRK := Lib.hid (show EndR wq W.heap.size (.slice aq nq cq) (endsK t n (k + 1)) by rw [endsK_succ, ← hde]; exact HQ.out)
     have HBQ := Lib.hid hbq
     clear hj hde hbq
     go_wp2
     refine ⟨⟨k + 1, by omega, by go_num, HRK, HBQ.out⟩, ?_⟩
     simp only [intOf]; omega
  ·have hki : ¬ (k : Int) < (n : Int) := by omega
   have hke : k = n := by omega
   subst hke
   have HBR := Lib.hid hbr
   clear hbr
   go_wp2
   refine HK.out _ _ ?_
   clear HK
   go_wp2
   obtain ⟨hXT, hTW, hto, hBW, hnx⟩ := HF.out
   have hTW' : SlII W (.slice sa k sc) (T.st.map nI) := by
    have h := hTW
    rw [List.length_map, ← HN.out] at h
    exact h
   have hlen := endsK_len t k k
   have h3 := Nat.mul_le_mul hn40 hn40
   refine bodyPost_ret (results_tmp3 rfl _ _ _) rfl ⟨_, _, rfl, hTW'.below HBR.out (Nat.le_refl _), ?_, by rw [HG1.out]; exact btr hBW HBR.out (Nat.le_refl _)⟩
   rw [← HTT.out]
   exact HR.out.slII (by omega)
end Ytnjgglnpmhjmiaa
end Go.Proofs

