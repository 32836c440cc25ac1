/- Pans: Holds: whether numbers are a cycle, and its period. -/
import Derived.Test.YteileadcmekkoaaQ16
open Go Go.RowKit Go.YteileadcmekkoaaIt
namespace Go.Proofs
namespace Yteileadcmekkoaa
open PanPlain (Ed Path Cyc frm)
/-- What is wrong with the numbers of waits. -/
def idxE (n : Nat) (c : List Int) : Nat → Int
  | 0 => 0
  | k + 1 => if idxE n c k ≠ 0 then idxE n c k else if btw 0 (at0 c k) ((n : Int) - 1) = false then 5 else if ((c.take k).any fun y => at0 c k == y) = true then 6 else 0
theorem idxE_stop {n : Nat} {c : List Int} {k : Nat} (h : idxE n c k ≠ 0) : ∀ m, k ≤ m → idxE n c m = idxE n c k := by
  intro m hm
  induction m with
  | zero => have : k = 0 := by omega
            rw [this]
  | succ m ih =>
    rcases (show k ≤ m ∨ k = m + 1 by omega) with h1 | h1
    · have h2 := ih h1
      show (if idxE n c m ≠ 0 then idxE n c m else _) = _
      rw [if_pos (by rw [h2]; exact h), h2]
    · rw [h1]
theorem idxE_zero {n : Nat} {c : List Int} : ∀ {k : Nat}, idxE n c k = 0 → ∀ j, j < k → btw 0 (at0 c j) ((n : Int) - 1) = true ∧ ((c.take j).any fun y => at0 c j == y) = false
  | 0, _, j, hj => by omega
  | k + 1, h, j, hj => by
    by_cases h0 : idxE n c k = 0
    · unfold idxE at h
      rw [if_neg (by simpa using h0)] at h
      rcases (show j < k ∨ j = k by omega) with h1 | rfl
      · exact idxE_zero h0 j h1
      · cases hb : btw 0 (at0 c j) ((n : Int) - 1) with
        | false => rw [if_pos hb] at h; omega
        | true =>
          rw [if_neg (by rw [hb]; simp)] at h
          cases ha : ((c.take j).any fun y => at0 c j == y) with
          | false => exact ⟨rfl, rfl⟩
          | true => rw [if_pos ha] at h; omega
    · unfold idxE at h
      rw [if_pos h0] at h
      exact absurd h h0
/-- The steps that waits lead from and to, as numbers. -/
def fN (ws : List Wa) (i : Nat) : Nat := (at_ ws i).f.toNat
def tN (ws : List Wa) (i : Nat) : Nat := (at_ ws i).t.toNat
/-- Waits, each of which leads to where the next one begins, with different steps. -/
structure ShC (ws : List Wa) (l : List Nat) : Prop where
  ne : l ≠ []
  link : ∀ k, k < l.length → tN ws (l.getD k 0) = fN ws (l.getD ((k + 1) % l.length) 0)
  nd : (l.map (fN ws)).Nodup
theorem frm_fN {ws : List Wa} {a b : Int} {i : Nat} (h : i < ws.length) : frm (eds ws a b) i = fN ws i := PanPlain.frm_eq (eds_get h)
theorem frm_map {ws : List Wa} {a b : Int} {l : List Nat} (h : ∀ i ∈ l, i < ws.length) : l.map (frm (eds ws a b)) = l.map (fN ws) := List.map_congr_left fun i hi => frm_fN (h i hi)
theorem path_of {ws : List Wa} (a b : Int) : ∀ {l : List Nat} {i : Nat}, (∀ j ∈ i :: l, j < ws.length) → (∀ k, k + 1 < (i :: l).length → tN ws ((i :: l).getD k 0) = fN ws ((i :: l).getD (k + 1) 0)) → Path (eds ws a b) (fN ws i) (tN ws ((i :: l).getD l.length 0)) (i :: l)
  | [], i, hl, _ => by
    have h := eds_get (num := a) (den := b) (hl i (by simp))
    exact @Path.cons _ _ _ _ _ h (.nil _)
  | j :: l, i, hl, hk => by
    have h := eds_get (num := a) (den := b) (hl i (by simp))
    have ih := path_of a b (l := l) (i := j) (fun x hx => hl x (by simp at hx ⊢; exact .inr hx)) (fun k hk2 => by have := hk (k + 1) (by simpa using hk2); simpa using this)
    have h0 := hk 0 (by simp)
    simp only [List.getD_cons_zero, List.getD_cons_succ] at h0
    have h2 : Path (eds ws a b) (tN ws i) (tN ws ((i :: j :: l).getD (j :: l).length 0)) (j :: l) := by
      rw [h0]; simpa using ih
    exact @Path.cons _ _ _ _ _ h h2
theorem path_nil {es : List Ed} {u v : Nat} (h : Path es u v []) : u = v := by cases h; rfl
theorem path_link {ws : List Wa} {a b : Int} {u v : Nat} {l : List Nat} (h : Path (eds ws a b) u v l) : (∀ k, k + 1 < l.length → tN ws (l.getD k 0) = fN ws (l.getD (k + 1) 0)) ∧ (∀ i l', l = i :: l' → u = fN ws i ∧ v = tN ws (l.getD l'.length 0)) := by
  induction h with
  | nil u => exact ⟨fun k hk => by simp at hk, fun i l' h => by cases h⟩
  | cons he hp ih =>
    rename_i i v e l
    obtain ⟨hi, rfl⟩ := eds_some he
    refine ⟨fun k hk => ?_, fun i' l' h => ?_⟩
    · cases k with
      | zero =>
        cases l with
        | nil => simp at hk
        | cons j l2 =>
          simp only [List.getD_cons_zero, List.getD_cons_succ]
          exact (ih.2 j l2 rfl).1
      | succ k =>
        simp only [List.getD_cons_succ]
        exact ih.1 k (by simpa using hk)
    · cases h
      refine ⟨rfl, ?_⟩
      cases l with
      | nil => exact (path_nil hp).symm
      | cons j l2 =>
        have := (ih.2 j l2 rfl).2
        simpa using this
theorem ShC.cyc {ws : List Wa} {l : List Nat} (h : ShC ws l) (hl : ∀ i ∈ l, i < ws.length) (a b : Int) : ∃ u, Cyc (eds ws a b) u l := by
  cases l with
  | nil => exact absurd rfl h.ne
  | cons i l =>
    have hp := path_of a b hl (fun k hk => by rw [h.link k (by omega), Nat.mod_eq_of_lt hk])
    have h0 := h.link l.length (by simp)
    rw [List.length_cons, Nat.mod_self, List.getD_cons_zero] at h0
    rw [h0] at hp
    exact ⟨fN ws i, h.ne, hp, by rw [frm_map hl]; exact h.nd⟩
theorem ShC.of {ws : List Wa} {l : List Nat} {u : Nat} {a b : Int} (h : Cyc (eds ws a b) u l) : ShC ws l := by
  have hl := path_lt h.path
  obtain ⟨h1, h2⟩ := path_link h.path
  refine ⟨h.ne, fun k hk => ?_, by rw [← frm_map (a := a) (b := b) hl]; exact h.nd⟩
  cases l with
  | nil => simp at hk
  | cons i l' =>
    obtain ⟨e1, e2⟩ := h2 i l' rfl
    by_cases hk1 : k + 1 < (i :: l').length
    · rw [Nat.mod_eq_of_lt hk1]; exact h1 k hk1
    · have hke : k = l'.length := by simp at hk hk1; omega
      subst hke
      rw [List.length_cons, Nat.mod_self, List.getD_cons_zero, ← e2, e1]
open Classical in
/-- What is wrong with a cycle. -/
noncomputable def holdsE (n : Int) (ws : List Wa) (c : List Int) : Int :=
  if chkE n ws ≠ 0 then chkE n ws else if c = [] then 4 else if idxE ws.length c c.length ≠ 0 then idxE ws.length c c.length else if ShC ws (c.map Int.toNat) then 0 else 3
noncomputable def perV (n : Int) (ws : List Wa) (c : List Int) : Nat × Nat :=
  if holdsE n ws c ≠ 0 then (0, 0) else ((hiS ws (c.map Int.toNat)).toNat / Nat.gcd (hiS ws (c.map Int.toNat)).toNat (bkS ws (c.map Int.toNat)).toNat, (bkS ws (c.map Int.toNat)).toNat / Nat.gcd (hiS ws (c.map Int.toNat)).toNat (bkS ws (c.map Int.toNat)).toNat)
theorem holds_ok {n : Int} {ws : List Wa} {c : List Int} (h : holdsE n ws c = 0) : ∃ (m : Nat) (l : List Nat), n = m ∧ Val m ws ∧ NS ws ∧ c = (l.map fun (i : Nat) => (i : Int)) ∧ l = c.map Int.toNat ∧ (∀ i ∈ l, i < ws.length) ∧ ShC ws l ∧ l.Nodup := by
  unfold holdsE at h
  by_cases h0 : chkE n ws = 0
  · rw [if_neg (by simpa using h0)] at h
    by_cases h1 : c = []
    · rw [if_pos h1] at h; omega
    · rw [if_neg h1] at h
      by_cases h2 : idxE ws.length c c.length = 0
      · rw [if_neg (by simpa using h2)] at h
        by_cases h3 : ShC ws (c.map Int.toNat)
        · obtain ⟨m, e, hv, hs⟩ := chk_ok h0
          have hz := idxE_zero h2
          have hin : ∀ x ∈ c, 0 ≤ x ∧ x < ws.length := fun x hx => by
            obtain ⟨j, hj, rfl⟩ := List.getElem_of_mem hx
            have := btw_true.1 (hz j hj).1
            rw [at0_lt hj] at this; omega
          refine ⟨m, c.map Int.toNat, e, hv, hs, ?_, rfl, ?_, h3, ?_⟩
          · rw [List.map_map]
            conv => lhs; rw [← List.map_id c]
            exact List.map_congr_left fun x hx => by have := hin x hx; simp only [id, Function.comp]; omega
          · intro i hi
            rw [List.mem_map] at hi
            obtain ⟨x, hx, rfl⟩ := hi
            have := hin x hx; omega
          · have h4 := h3.nd
            exact (List.pairwise_map.1 h4).imp fun hne e => hne (by rw [e])
        · rw [if_neg h3] at h; omega
      · rw [if_pos h2] at h; exact absurd h h2
  · rw [if_pos h0] at h; exact absurd h h0
theorem SlI.take {w : World} {ad : Option Addr} {n cap : Nat} {xs : List Int} (h : SlI w (.slice ad n cap) xs) {k : Nat} (hk : k ≤ xs.length) : SlI w (.slice ad k cap) (xs.take k) := by
  obtain ⟨ad', cap', e, h1, h2, h3⟩ := h
  injection e with e1 e2 e3
  subst e1 e3
  have hl : (xs.take k).length = k := by rw [List.length_take]; omega
  refine ⟨ad, cap, by rw [hl], by omega, by omega, fun h0 => ?_⟩
  obtain ⟨b, off, e4, hb, hc⟩ := h3 (by omega)
  refine ⟨b, off, e4, hb, fun i hi => ?_⟩
  rw [hc i (by omega)]
  unfold at0
  rw [List.getD_eq_getElem?_getD, List.getD_eq_getElem?_getD, List.getElem?_take_of_lt (by omega)]
/-- The step that the wait ahead of number k leads to. -/
def prevT (ws : List Wa) (l : List Nat) : Nat → Nat
  | 0 => tN ws (l.getD (l.length - 1) 0)
  | k + 1 => tN ws (l.getD k 0)
structure ShI (ws : List Wa) (l : List Nat) (k : Nat) : Prop where
  link : ∀ j, j < k → prevT ws l j = fN ws (l.getD j 0)
  nd : ((l.take k).map (fN ws)).Nodup
theorem ShI.start (ws : List Wa) (l : List Nat) : ShI ws l 0 := ⟨fun j hj => by omega, by simp⟩
theorem take_succ_getD {l : List Nat} {k : Nat} (h : k < l.length) : l.take (k + 1) = l.take k ++ [l.getD k 0] := by
  rw [List.take_succ_eq_append_getElem h]; simp [h]
theorem ShI.step {ws : List Wa} {l : List Nat} {k : Nat} (h : ShI ws l k) (hk : k < l.length) (h1 : prevT ws l k = fN ws (l.getD k 0)) (h2 : fN ws (l.getD k 0) ∉ (l.take k).map (fN ws)) : ShI ws l (k + 1) where
  link j hj := by
    rcases (show j < k ∨ j = k by omega) with h3 | rfl
    · exact h.link j h3
    · exact h1
  nd := by
    rw [take_succ_getD hk, List.map_append, List.nodup_append]
    refine ⟨h.nd, by simp, fun a ha b hb => ?_⟩
    simp only [List.map_cons, List.map_nil, List.mem_singleton] at hb
    subst hb
    rintro rfl
    exact h2 ha
theorem ShI.done {ws : List Wa} {l : List Nat} (h : ShI ws l l.length) (hne : l ≠ []) : ShC ws l := by
  have hl : 0 < l.length := List.length_pos_iff.2 hne
  refine ⟨hne, fun k hk => ?_, by have := h.nd; rwa [List.take_length] at this⟩
  by_cases h1 : k + 1 < l.length
  · rw [Nat.mod_eq_of_lt h1]; exact h.link (k + 1) h1
  · have : k = l.length - 1 := by omega
    subst this
    have h2 := h.link 0 hl
    rw [show l.length - 1 + 1 = l.length by omega, Nat.mod_self]
    exact h2
theorem ShC.prev {ws : List Wa} {l : List Nat} (h : ShC ws l) {k : Nat} (hk : k < l.length) : prevT ws l k = fN ws (l.getD k 0) := by
  cases k with
  | zero =>
    have := h.link (l.length - 1) (by omega)
    rw [show l.length - 1 + 1 = l.length by omega, Nat.mod_self] at this
    exact this
  | succ k =>
    have := h.link k (by omega)
    rw [Nat.mod_eq_of_lt hk] at this
    exact this
theorem ShC.fresh {ws : List Wa} {l : List Nat} (h : ShC ws l) {k : Nat} (hk : k < l.length) : fN ws (l.getD k 0) ∉ (l.take k).map (fN ws) := by
  intro hm
  have h1 : ((l.take (k + 1)).map (fN ws)).Nodup := by
    have := h.nd
    rw [← List.take_append_drop (k + 1) l, List.map_append, List.nodup_append] at this
    exact this.1
  rw [take_succ_getD hk, List.map_append, List.nodup_append] at h1
  exact h1.2.2 _ hm _ (by simp) rfl
def rowB (s : List Nat) : List Value := (List.range 10).map fun v => .bool (decide (v ∈ s))
theorem rowB_get {i : Nat} (s : List Nat) (h : i < 10) : (rowB s)[i]? = some (.bool (decide (i ∈ s))) := by simp [rowB, h]
theorem rowB_set (s : List Nat) (t : Nat) : (rowB s).toArray.setIfInBounds t (.bool true) = (rowB (s ++ [t])).toArray := by
  apply Array.toList_inj.1
  apply List.ext_getElem?
  intro i
  rw [Array.toList_setIfInBounds, List.getElem?_set]
  have hl : (rowB s).length = 10 := by simp [rowB]
  by_cases hi : i < 10
  · rw [rowB_get _ hi]
    by_cases ht : t = i
    · subst ht; rw [if_pos rfl, if_pos (by rw [hl]; exact hi), rowB_get _ hi]; simp
    · have : i ≠ t := fun e => ht e.symm
      rw [if_neg ht, rowB_get _ hi]; simp [this]
  · have e1 : (rowB s)[i]? = none := List.getElem?_eq_none (by rw [hl]; omega)
    have e2 : (rowB (s ++ [t]))[i]? = none := List.getElem?_eq_none (by simp [rowB]; omega)
    rw [e2]
    by_cases ht : t = i
    · subst ht; simp [hl, hi]
    · simp [ht, e1]
theorem rowB_nil : rowB [] = List.replicate 10 (.bool false) := by
  rfl
set_option maxRecDepth 100000 in
set_option maxHeartbeats 4000000 in
theorem holds_any (n : Int) (v vc : Value) (ws : List Wa) (c : List Int) (w : World) (hv : SlA w v ws) (hvc : SlI w vc c) :
    Calls Try.prog 26 #[.agg #[.int .i64 n, v], vc] w fun e w' => e = .returned (.tuple #[.agg #[.int .i64 ((perV n ws c).1 : Nat), .int .i64 ((perV n ws c).2 : Nat)], .int .i64 (holdsE n ws c)]) ∧ Below w.heap.size w w' := by
  have HV := Lib.hid (And.intro hv hvc)
  obtain ⟨ad, cap, rfl, -, -, -⟩ := hv
  obtain ⟨ac, cc, rfl, hmc, hcc, -⟩ := hvc
  obtain ⟨R, hR⟩ : ∃ R, R = holdsE n ws c := ⟨_, rfl⟩
  obtain ⟨PV, hPV⟩ : ∃ PV, PV = perV n ws c := ⟨_, rfl⟩
  rw [← hR, ← hPV]
  have hP0 : R ≠ 0 → PV = (0, 0) := fun h => by rw [hPV]; unfold perV; rw [if_pos (by rw [← hR]; exact h)]
  have HR := Lib.hid (And.intro hR (And.intro hPV hP0))
  clear hR hPV hP0
  go_enter Try.func26, Try.ntmps26
  refine wp_seq_k (fun K hK => ?_)
  have HK := Lib.hid hK; clear hK
  go_wp2
  refine HK.out _ _ ?_; clear HK K
  generalize hw1 : World.alloc _ _ = w1
  obtain ⟨b1, b2, hB, hs1⟩ := blk2 hw1
  clear hw1
  have h22 := check_any n _ ws w1 (HV.out.1.below hB (Nat.le_refl _))
  obtain ⟨E, hE⟩ : ∃ E, E = chkE n ws := ⟨_, rfl⟩
  rw [← hE] at h22
  have HE := Lib.hid hE
  clear hE
  by_cases h0 : ¬ E = 0
  · have hne : (E != 0) = true := by simpa using h0
    have hRe : R = E := by rw [HR.out.1]; unfold holdsE; rw [if_pos (by rw [← HE.out]; exact h0), HE.out]
    have hP := HR.out.2.2 (by rw [hRe]; exact h0)
    rw [hP]
    subst hRe
    have H22 := Lib.hid h22
    clear h22 h0 hP HR HE
    go_wp2_with (first | (refine wpList_load_blk rfl 24 _ rfl _ rfl b1 Try.underlying24 rfl size24 rfl ?_) | (go_at_call 22; refine H22.out.mono ?_; rintro e w2 ⟨rfl, hb2⟩; have b22 := blk_keep b2 hb2; have hB2 := btr hB hb2 (Nat.le_refl _)) | (refine wpList_store_blk rfl 26 _ _ rfl _ rfl rfl b22 size26 rfl rfl (by simp [Value.oneCell']) ?_))
    exact bodyPost_ret (results_agg_tmp rfl _ _ (w.heap.size + 1) rfl (World.putObj_heap_same (lt_blk b22)) Try.underlying26 rfl size26 rfl) rfl ⟨rfl, below_putObj hB2 (by omega)⟩
  · replace h0 : E = 0 := Classical.byContradiction h0
    obtain ⟨m, rfl, hV, hns⟩ := chk_ok (HE.out.symm.trans h0)
    have hRv : R = if c = [] then 4 else if idxE ws.length c c.length ≠ 0 then idxE ws.length c c.length else R := by
      have h1 := HR.out.1
      unfold holdsE at h1
      rw [if_neg (by rw [← HE.out]; simpa using h0)] at h1
      by_cases h2 : c = []
      · rw [if_pos h2] at h1 ⊢; exact h1
      · rw [if_neg h2] at h1 ⊢
        by_cases h3 : idxE ws.length c c.length = 0
        · rw [if_neg (by simpa using h3)]
        · rw [if_pos h3] at h1 ⊢; exact h1
    have HRV := Lib.hid hRv
    subst h0
    clear hRv
    refine wp_seq_k (fun K hK => ?_)
    have HK := Lib.hid hK; clear hK
    go_wp2_with (first | (refine wpList_load_blk rfl 24 _ rfl _ rfl b1 Try.underlying24 rfl size24 rfl ?_) | (go_at_call 22; refine h22.mono ?_; rintro e w2 ⟨rfl, hb2⟩))
    refine HK.out _ _ ?_; clear HK K h22
    replace b1 := blk_keep b1 hb2
    replace b2 := blk_keep b2 hb2
    replace hB := btr hB hb2 (Nat.le_refl _)
    clear hb2
    by_cases hcn : c = []
    · have hR4 : R = 4 := by rw [HRV.out, if_pos hcn]
      have hP := HR.out.2.2 (by omega)
      subst hcn hR4
      rw [hP]
      clear HRV HR hP
      go_wp2_with (first | (refine wpList_store_blk rfl 26 _ _ rfl _ rfl rfl b2 size26 rfl rfl (by simp [Value.oneCell']) ?_))
      exact bodyPost_ret (results_agg_tmp rfl _ _ (w.heap.size + 1) rfl (World.putObj_heap_same (lt_blk b2)) Try.underlying26 rfl size26 rfl) rfl ⟨rfl, below_putObj hB (by omega)⟩
    · have hlp : 0 < c.length := List.length_pos_iff.2 hcn
      have hlz : ((c.length : Int) == 0) = false := by simp; exact hcn
      have HRV2 := Lib.hid (show R = if idxE ws.length c c.length ≠ 0 then idxE ws.length c c.length else R from by have := HRV.out; rw [if_neg hcn] at this; exact this)
      clear HRV
      refine wp_seq_k (fun K hK => ?_)
      have HK := Lib.hid hK; clear hK
      go_wp2
      refine HK.out _ _ ?_; clear HK K
      refine wp_seq_k (fun K hK => ?_)
      have HK := Lib.hid hK; clear hK
      have hln := hV.len
      go_wp2
      go_loopw [26] (fun i wr => ∃ k : Nat, i = .int .i64 k ∧ k ≤ c.length ∧ idxE ws.length c k = 0 ∧ wr.heap[w.heap.size]? = some (.cells #[.int .i64 m, .slice ad ws.length cap] 24 (0, 0)) ∧ wr.heap[w.heap.size + 1]? = some (.cells #[.int .i64 0, .int .i64 0] 26 (0, 0)) ∧ Below w.heap.size w wr) (fun i _ => c.length - (intOf i).toNat)
      case atStart => exact ⟨0, rfl, Nat.zero_le _, rfl, b1, b2, hB⟩
      case round =>
        clear b1 b2 hB
        obtain ⟨k, rfl, hk, hno, b1, b2, hB⟩ := hrel
        by_cases hkl : k < c.length
        · have hst : idxE ws.length c (k + 1) = if btw 0 (at0 c k) ((ws.length : Int) - 1) = false then 5 else if ((c.take k).any fun y => at0 c k == y) = true then 6 else 0 := by
            show (if idxE ws.length c k ≠ 0 then idxE ws.length c k else _) = _
            rw [if_neg (by simpa using hno)]
          have hstop : idxE ws.length c (k + 1) ≠ 0 → R = idxE ws.length c (k + 1) := fun h => by
            have h1 := idxE_stop h c.length (by omega)
            rw [HRV2.out, h1, if_pos h]
          obtain ⟨a2, c2, ha2, -, -, hcc2⟩ := HV.out.2
          obtain ⟨bc, oc, rfl, hlc, hcell⟩ := hcc2 hlp
          injection ha2 with ha3 ha4 ha5
          subst ha3
          have d0 := (hB.cell (p := ⟨bc, oc + k, none⟩) hlc).trans (hcell k hkl)
          have hltc : bc < wr.heap.size := Nat.lt_of_lt_of_le hlc hB.size
          have h64 := cont64_any (.slice (some ⟨bc, oc, none⟩) k cc) (c.take k) (at0 c k) wr ((HV.out.2.below hB (Nat.le_refl _)).take hk)
          have h58 := between_any 0 (at0 c k) ((ws.length : Int) - 1) wr
          obtain ⟨q1, hq1⟩ : ∃ q, q = btw 0 (at0 c k) ((ws.length : Int) - 1) := ⟨_, rfl⟩
          obtain ⟨q2, hq2⟩ : ∃ q, q = (c.take k).any fun y => at0 c k == y := ⟨_, rfl⟩
          rw [← hq1] at h58 hst
          rw [← hq2] at h64 hst
          have H64 := Lib.hid h64
          have H58 := Lib.hid h58
          have HST := Lib.hid (And.intro hst hstop)
          clear hq1 hq2 h64 h58 hst hstop hcell hcc2 ha4 ha5 hno
          generalize at0 c k = x at *
          have e0 := cell_blk (i := 1) b1
          simp only [List.getElem?_toArray, List.getElem?_cons_zero, List.getElem?_cons_succ] at e0
          have z1 := lt_blk b1
          cases q1
          · have hR5 : R = 5 := by rw [HST.out.2 (by rw [HST.out.1]; simp), HST.out.1]; simp
            have hP := HR.out.2.2 (by omega)
            clear HRV2 HR HST
            subst hR5 hP
            go_wp2_with (first | (go_at_call 58; refine H58.out.mono ?_; rintro e w3 ⟨rfl, hw3⟩; subst hw3) | (refine wpList_store_blk rfl 26 _ _ rfl _ rfl rfl b2 size26 rfl rfl (by simp [Value.oneCell']) ?_))
            exact bodyPost_ret (results_agg_tmp rfl _ _ (w.heap.size + 1) rfl (World.putObj_heap_same (lt_blk b2)) Try.underlying26 rfl size26 rfl) rfl ⟨rfl, below_putObj hB (by omega)⟩
          · cases q2
            · have hz : idxE ws.length c (k + 1) = 0 := by rw [HST.out.1]; simp
              have HZ := Lib.hid hz
              clear hz HST
              go_wp2_with (first | (go_at_call 58; refine H58.out.mono ?_; rintro e w3 ⟨rfl, hw3⟩; subst hw3) | (go_at_call 64; refine H64.out.mono ?_; rintro e w4 ⟨rfl, hb4⟩))
              go_roundw
              case rel => exact ⟨k + 1, by go_num, by omega, HZ.out, blk_keep b1 hb4, blk_keep b2 hb4, btr hB hb4 (Nat.le_refl _)⟩
              case measure => simp [intOf]; omega
            · have hR6 : R = 6 := by rw [HST.out.2 (by rw [HST.out.1]; simp), HST.out.1]; simp
              have hP := HR.out.2.2 (by omega)
              clear HRV2 HR HST
              subst hR6 hP
              go_wp2_with (first | (go_at_call 58; refine H58.out.mono ?_; rintro e w3 ⟨rfl, hw3⟩; subst hw3) | (go_at_call 64; refine H64.out.mono ?_; rintro e w4 ⟨rfl, hb4⟩; have b24 := blk_keep b2 hb4) | (refine wpList_store_blk rfl 26 _ _ rfl _ rfl rfl b24 size26 rfl rfl (by simp [Value.oneCell']) ?_))
              exact bodyPost_ret (results_agg_tmp rfl _ _ (w.heap.size + 1) rfl (World.putObj_heap_same (lt_blk b24)) Try.underlying26 rfl size26 rfl) rfl ⟨rfl, below_putObj (btr hB hb4 (Nat.le_refl _)) (by omega)⟩
        · have hke : k = c.length := by omega
          have HNO := Lib.hid (show idxE ws.length c c.length = 0 by rw [← hke]; exact hno)
          clear hno hke HRV2
          go_wp2
          refine HK.out _ _ ?_; clear HK
          have hRS : (ShC ws (c.map Int.toNat) → R = 0) ∧ (¬ ShC ws (c.map Int.toNat) → R = 3) := by
            have h1 := HR.out.1
            unfold holdsE at h1
            rw [if_neg (by rw [← HE.out]; simp), if_neg hcn, if_neg (by rw [HNO.out]; simp)] at h1
            exact ⟨fun h => by rw [h1, if_pos h], fun h => by rw [h1, if_neg h]⟩
          have hz := idxE_zero HNO.out
          obtain ⟨l, hcl, hll⟩ : ∃ l : List Nat, c = (l.map fun (i : Nat) => (i : Int)) ∧ c.map Int.toNat = l := by
            refine ⟨c.map Int.toNat, ?_, rfl⟩
            rw [List.map_map]
            conv => lhs; rw [← List.map_id c]
            refine List.map_congr_left fun x hx => ?_
            obtain ⟨j, hj, rfl⟩ := List.getElem_of_mem hx
            have := btw_true.1 (hz j hj).1
            rw [at0_lt hj] at this
            simp only [id, Function.comp]; omega
          have hin : ∀ j, j < l.length → l.getD j 0 < ws.length := fun j hj => by
            have h1 := btw_true.1 (hz j (by rw [hcl, List.length_map]; exact hj)).1
            rw [hcl] at h1
            unfold at0 at h1
            simp [hj] at h1
            simp [hj]; omega
          have hpv : ∀ p q : Nat, R = 0 → hiS ws l = p → bkS ws l = q → PV = (p / Nat.gcd p q, q / Nat.gcd p q) := fun p q hr hp hq => by
            rw [HR.out.2.1]; unfold perV
            rw [if_neg (by rw [← HR.out.1, hr]; simp), hll, hp, hq]; rfl
          rw [hll] at hRS
          have hp3 := fun h => HR.out.2.2 h
          have hlen : c.length = l.length := by rw [hcl, List.length_map]
          have HPV := Lib.hid (And.intro hRS (And.intro hpv hp3))
          have HIN := Lib.hid hin
          have hmemin : ∀ i ∈ l, i < ws.length := fun i hi => by
            obtain ⟨j, hj, rfl⟩ := List.getElem_of_mem hi
            have := hin j hj
            simpa [hj] using this
          have HMI := Lib.hid hmemin
          clear hRS hpv hp3 hin hmemin hz hll HR HNO
          have HLN := Lib.hid hlen
          have HCL := Lib.hid (And.intro hcl (show SlI wr (.slice ac c.length cc) (l.map fun (i : Nat) => (i : Int)) from hcl ▸ HV.out.2.below hB (Nat.le_refl _)))
          obtain ⟨a2, c2, ha2, -, -, hcc2⟩ := HCL.out.2
          obtain ⟨bc, oc, rfl, hlc, hcell⟩ := hcc2 (by rw [List.length_map, ← HLN.out]; exact hlp)
          rw [List.length_map] at hcell
          injection ha2 with ha3 ha4 ha5
          subst ha3
          obtain ⟨a3, c3, ha6, -, -, hcw⟩ := HV.out.1
          have hwl : 0 < ws.length := by have := HIN.out 0 (by rw [← HLN.out]; exact hlp); omega
          obtain ⟨bw, ow, rfl, hlw, hwcell⟩ := hcw hwl
          injection ha6 with ha7 ha8 ha9
          subst ha7
          have HWC := Lib.hid hwcell
          have HCC := Lib.hid hcell
          clear hcl hlen ha4 ha5 ha8 ha9 hcw hcc2 hwcell hcell
          obtain ⟨N, hN15⟩ : ∃ N, N = c.length := ⟨_, rfl⟩
          rw [← hN15] at hlp hlz HLN hcc hmc HCL ⊢
          obtain ⟨M, hM⟩ : ∃ M, N = M + 1 := ⟨N - 1, by omega⟩
          subst hM
          have hat : ∀ j, j < M + 1 → at0 (l.map fun (i : Nat) => (i : Int)) j = ((l.getD j 0 : Nat) : Int) := fun j hj => by
            have hj2 : j < l.length := by rw [← HLN.out]; exact hj
            unfold at0; simp [hj2]
          have hcellc : ∀ j, j < M + 1 → wr.cell? ⟨bc, oc + j, none⟩ = some (.int .i64 (l.getD j 0 : Nat)) := fun j hj => by
            rw [HCC.out j (by rw [← HLN.out]; exact hj), hat j hj]
          have hcellw : ∀ i, i < ws.length → _ := fun i hi => a_cells HWC.out (n := i) hi rfl
          have HC2 := Lib.hid hcellc
          have HW2 := Lib.hid hcellw
          have HVA := Lib.hid hV
          clear hat hcellc hcellw HWC HCC hV HCL hN15
          refine wp_seq_k (fun K hK => ?_)
          have HK := Lib.hid hK; clear hK
          go_wp2
          refine HK.out _ _ ?_; clear HK
          have hE : Below wr.heap.size wr (wr.alloc (Obj.cells (rowB []).toArray 107)) := (Below.refl _ _).alloc (Nat.le_refl _) _
          have b9 : (wr.alloc (Obj.cells (rowB []).toArray 107)).heap[wr.heap.size]? = some (.cells (rowB []).toArray 107 (0, 0)) := heap_newI rfl
          change Code.wp _ _ _ _ (wr.alloc (Obj.cells (rowB []).toArray 107))
          have HB2O := Lib.hid b2
          replace b1 := blk_keep b1 hE
          replace b2 := blk_keep b2 hE
          have hB0 := hB
          have hszr := hB.size
          have hb2l := lt_blk HB2O.out
          replace hB := btr hB hE (Nat.le_refl _)
          have HC3 := Lib.hid (show ∀ j, j < M + 1 → (wr.alloc (Obj.cells (rowB []).toArray 107)).cell? ⟨bc, oc + j, none⟩ = some (.int .i64 (l.getD j 0 : Nat)) from fun j hj => (hE.cell (p := ⟨bc, oc + j, none⟩) hlc).trans (HC2.out j hj))
          have HB1 := Lib.hid (show wr.heap.size < (wr.alloc (Obj.cells (rowB []).toArray 107)).heap.size by rw [World.size_alloc]; omega)
          obtain ⟨ba, hba⟩ : ∃ ba, ba = wr.heap.size := ⟨_, rfl⟩
          rw [← hba] at b9 hlc hszr hb2l HB1 ⊢
          generalize World.alloc wr _ = wb at *
          have HBA := Lib.hid hba
          clear hE hB0 HC2 hba HB2O
          have e1 := cell_blk (i := 1) b1
          simp only [List.getElem?_toArray, List.getElem?_cons_zero, List.getElem?_cons_succ] at e1
          have z1 := lt_blk b1
          have d0 := HC3.out M (by omega)
          have hi0 := HIN.out M (by rw [← HLN.out]; omega)
          have r1 := (hB.cell (p := ⟨bw, ow + (l.getD M 0) * 5 + 1, none⟩) hlw).trans (HW2.out _ hi0).2.1
          have hwM : IntKind.i64.wrap (M : Int) = M := by rw [IntKind.wrap_i64]; omega
          have hlt1 : bw < wb.heap.size := Nat.lt_of_lt_of_le hlw hB.size
          have hlt2 : bc < wb.heap.size := Nat.lt_trans hlc HB1.out
          refine wp_seq_k (fun K hK => ?_)
          have HK := Lib.hid hK; clear hK
          have ht0 : (at_ ws (l.getD M 0)).t = (prevT ws l 0 : Nat) := by
            have h1 := (HVA.out.ok _ hi0).2.1
            have h2 : l.length - 1 = M := by have := HLN.out; omega
            have e : prevT ws l 0 = (at_ ws (l.getD M 0)).t.toNat := by show tN ws (l.getD (l.length - 1) 0) = _; rw [h2]; rfl
            rw [e, Int.toNat_of_nonneg h1.1]
          rw [ht0] at r1
          generalize l.getD M 0 = x0 at d0 hi0 r1
          clear ht0
          obtain ⟨p0, hp0⟩ : ∃ p0, p0 = prevT ws l 0 := ⟨_, rfl⟩
          rw [← hp0] at r1
          have HP0 := Lib.hid hp0
          clear hp0
          go_wp2
          refine wp_region_quiet_lit (by kernel_rfl) (by kernel_rfl) ?_
          repeat (go_big_quiet_step (fail))
          refine wpQuiet_nil ?_
          rintro W' ⟨q, rfl⟩
          refine HK.out _ _ ?_; clear HK
          have hBq := below_drewN hB q
          replace b1 : (wb.drewN q).heap[w.heap.size]? = _ := b1
          replace b2 : (wb.drewN q).heap[w.heap.size + 1]? = _ := b2
          replace b9 : (wb.drewN q).heap[ba]? = _ := b9
          have HBC := Lib.hid (show bc ≠ ba by omega)
          replace hlc : bc < (wb.drewN q).heap.size := hlt2
          have HC4 := Lib.hid (show ∀ j, j < M + 1 → (wb.drewN q).cell? ⟨bc, oc + j, none⟩ = some (.int .i64 (l.getD j 0 : Nat)) from HC3.out)
          generalize World.drewN wb q = wd at *
          clear hB e1 z1 d0 r1 hlt1 hlt2 HC3 HB1
          obtain ⟨N, hN⟩ : ∃ N, N = M + 1 := ⟨_, rfl⟩
          rw [← hN] at HC4 HLN hcc hmc hlp ⊢
          have HNM := Lib.hid hN
          clear hN
          refine wp_seq_k (fun K hK => ?_)
          have HK := Lib.hid hK; clear hK
          have HB1 := Lib.hid b1
          have HB2 := Lib.hid b2
          have HSZ := Lib.hid (show ba < wd.heap.size ∧ w.heap.size + 1 < ba ∧ bw < w.heap.size from ⟨lt_blk b9, by omega, hlw⟩)
          go_wp2
          go_loopw [10, 61] (fun p i wx => ∃ k : Nat, k ≤ N ∧ p = .int .i64 (prevT ws l k : Nat) ∧ i = .int .i64 k ∧ ShI ws l k ∧ wx.heap[ba]? = some (.cells (rowB ((l.take k).map (fN ws))).toArray 107 (0, 0)) ∧ (∀ b, b < wd.heap.size → b ≠ ba → wx.heap[b]? = wd.heap[b]?) ∧ Below w.heap.size w wx ∧ wd.heap.size ≤ wx.heap.size) (fun _ i _ => N - (intOf i).toNat)
          case atStart => exact ⟨0, Nat.zero_le _, by rw [← HP0.out], rfl, ShI.start ws l, b9, fun _ _ _ => rfl, hBq, Nat.le_refl _⟩
          case round =>
            clear b9 hBq b1 b2
            obtain ⟨k, hk, rfl, rfl, hSh, b9, hsame, hBx, hszx⟩ := hrel
            by_cases hkM2 : k < N
            · have hkM := hkM2
              have hkl2 : k < l.length := by rw [← HLN.out]; exact hkM
              have hi0 := HIN.out k hkl2
              have hva := HVA.out.ok _ hi0
              have HSH := Lib.hid (And.intro hSh hsame)
              have d0 := (World.cell?_of_block (a := ⟨bc, oc + k, none⟩) (hsame bc hlc HBC.out)).trans (HC4.out k hkM)
              have hx : ∀ q, q < 5 → wr.cell? ⟨bw, ow + l.getD k 0 * 5 + q, none⟩ = w.cell? ⟨bw, ow + l.getD k 0 * 5 + q, none⟩ := fun q _ => hBx.cell (p := ⟨bw, ow + l.getD k 0 * 5 + q, none⟩) hlw
              obtain ⟨q0, q1, q2, q3, q4⟩ := HW2.out _ hi0
              have r0 := (hBx.cell (p := ⟨bw, ow + l.getD k 0 * 5, none⟩) hlw).trans q0
              have r1 := (hBx.cell (p := ⟨bw, ow + l.getD k 0 * 5 + 1, none⟩) hlw).trans q1
              have r2 := (hBx.cell (p := ⟨bw, ow + l.getD k 0 * 5 + 2, none⟩) hlw).trans q2
              have r3 := (hBx.cell (p := ⟨bw, ow + l.getD k 0 * 5 + 3, none⟩) hlw).trans q3
              have r4 := (hBx.cell (p := ⟨bw, ow + l.getD k 0 * 5 + 4, none⟩) hlw).trans q4
              have hfn : (at_ ws (l.getD k 0)).f = (fN ws (l.getD k 0) : Nat) := by unfold fN; rw [Int.toNat_of_nonneg hva.1.1]
              have htn : (at_ ws (l.getD k 0)).t = (prevT ws l (k + 1) : Nat) := by show _ = ((tN ws (l.getD k 0) : Nat) : Int); unfold tN; rw [Int.toNat_of_nonneg hva.2.1.1]
              have hf10 : fN ws (l.getD k 0) < 10 := by have := HVA.out.n1; have := hva.1; omega
              rw [hfn] at r0
              rw [htn] at r1
              have hstep := hSh.step hkl2
              have hno1 := fun (h : ShC ws l) => h.prev hkl2
              have hno2 := fun (h : ShC ws l) => h.fresh hkl2
              have htk : ((l.take (k + 1)).map (fN ws)) = (l.take k).map (fN ws) ++ [fN ws (l.getD k 0)] := by rw [take_succ_getD hkl2, List.map_append]; rfl
              have b1x := (hsame _ (lt_blk HB1.out) (by have := HSZ.out; omega)).trans HB1.out
              have e1 := cell_blk (i := 1) b1x
              simp only [List.getElem?_toArray, List.getElem?_cons_zero, List.getElem?_cons_succ] at e1
              have HTK2 := Lib.hid hsame
              have HTK := Lib.hid (And.intro hstep (And.intro hno1 (And.intro hno2 htk)))
              clear hstep hno1 hno2 htk hsame hSh q0 q1 q2 q3 q4 hfn htn hva hx
              have c9 := cell_blk (i := fN ws (l.getD k 0)) b9
              rw [List.getElem?_toArray, rowB_get _ hf10] at c9
              have f9 := free_blk (i := fN ws (l.getD k 0)) b9
              generalize fN ws (l.getD k 0) = fx at *
              generalize l.getD k 0 = x0 at *
              generalize (at_ ws x0).lo = xl at *
              generalize (at_ ws x0).hi = xh at *
              generalize (at_ ws x0).b = xb at *
              obtain ⟨pk, hpk⟩ : ∃ pk, pk = prevT ws l k := ⟨_, rfl⟩
              obtain ⟨pn, hpn⟩ : ∃ pn, pn = prevT ws l (k + 1) := ⟨_, rfl⟩
              rw [← hpn] at r1
              rw [← hpk] at HTK ⊢
              have HPN := Lib.hid hpn
              clear hpk hpn
              obtain ⟨mb, hmb⟩ : ∃ mb, mb = decide (fx ∈ (l.take k).map (fN ws)) := ⟨_, rfl⟩
              rw [← hmb] at c9
              have HMB := Lib.hid hmb
              clear hmb
              have zx := lt_blk b9
              have z1 := lt_blk b1x
              have zw : bw < wr.heap.size := Nat.lt_of_lt_of_le hlw hBx.size
              have zc : bc < wr.heap.size := Nat.lt_of_lt_of_le hlc hszx
              have hE : Below wr.heap.size wr (wr.alloc (Obj.cells #[Value.int IntKind.i64 fx, Value.int IntKind.i64 pn, Value.int IntKind.i64 xl, Value.int IntKind.i64 xh, Value.int IntKind.i64 xb] 82)) := (Below.refl _ _).alloc (Nat.le_refl _) _
              have hB2 := btr hBx hE (Nat.le_refl _)
              have HSM := Lib.hid (And.intro hB2 hE)
              by_cases hne : pk = fx
              · subst hne
                have hnb : ((pk : Int) != (pk : Int)) = false := by simp
                cases mb
                · have hnew := HTK.out.1 rfl (fun h => by have := HMB.out; rw [decide_eq_true h] at this; cases this)
                  have HNEW := Lib.hid hnew
                  clear hnew
                  refine wp_seq_k (fun K hK => ?_)
                  have HK := Lib.hid hK; clear hK
                  go_wp2
                  refine HK.out _ _ ?_; clear HK
                  refine wp_seq_k (fun K hK => ?_)
                  have HK := Lib.hid hK; clear hK
                  go_wp2
                  refine HK.out _ _ ?_; clear HK
                  refine wp_seq_k (fun K hK => ?_)
                  have HK4 := Lib.hid hK; clear hK
                  refine wp_block ?_
                  refine wp_seq_k (fun K hK => ?_)
                  have HK := Lib.hid hK; clear hK
                  go_wp2
                  refine HK.out _ _ ?_; clear HK
                  refine wp_seq_k (fun K hK => ?_)
                  have HK := Lib.hid hK; clear hK
                  go_wp2
                  refine HK.out _ _ ?_; clear HK
                  refine wp_seq_k (fun K hK => ?_)
                  have HK5 := Lib.hid hK; clear hK
                  refine wp_seq_k (fun K hK => ?_)
                  have HK := Lib.hid hK; clear hK
                  go_wp2
                  refine HK.out _ _ ?_; clear HK
                  refine wp_cond_false rfl ?_
                  refine wp_skip ?_
                  refine HK5.out _ _ ?_; clear HK5
                  have b7 : (wr.alloc (Obj.cells #[Value.int IntKind.i64 pk, Value.int IntKind.i64 pn, Value.int IntKind.i64 xl, Value.int IntKind.i64 xh, Value.int IntKind.i64 xb] 82)).heap[wr.heap.size]? = some (.cells #[Value.int IntKind.i64 pk, Value.int IntKind.i64 pn, Value.int IntKind.i64 xl, Value.int IntKind.i64 xh, Value.int IntKind.i64 xb] 82 (0, 0)) := heap_newI rfl
                  have b9E := blk_keep b9 hE
                  have hsE : ∀ b, b < wr.heap.size → (wr.alloc (Obj.cells #[Value.int IntKind.i64 pk, Value.int IntKind.i64 pn, Value.int IntKind.i64 xl, Value.int IntKind.i64 xh, Value.int IntKind.i64 xb] 82)).heap[b]? = wr.heap[b]? := fun b hb => heap_oldI hb
                  have hszE := hE.size
                  generalize World.alloc wr _ = wE at *
                  have d0' := cell_blk (i := 0) b7
                  have d1' := cell_blk (i := 1) b7
                  have c9' := cell_blk (i := pk) b9E
                  have f9' := free_blk (i := pk) b9E
                  rw [List.getElem?_toArray, rowB_get _ hf10] at c9'
                  simp only [List.getElem?_toArray, List.getElem?_cons_zero, List.getElem?_cons_succ] at d0' d1'
                  have hi10 : (pk : Int) < 10 := by omega
                  have hi00 : (0 : Int) ≤ (pk : Int) := by omega
                  have z7 := lt_blk b7
                  have z9 := lt_blk b9E
                  have hne79 : wr.heap.size ≠ ba := by omega
                  have hS0 : (World.drew wE).cell? ⟨wr.heap.size, 0, none⟩ = some (.int .i64 (pk : Nat)) ∧ (World.drew wE).cell? ⟨wr.heap.size, 1, none⟩ = some (.int .i64 (pn : Nat)) := ⟨d0', d1'⟩
                  have hS1 : ((World.drew wE).setCell ⟨ba, pk, none⟩ (.bool true)).cell? ⟨wr.heap.size, 0, none⟩ = some (.int .i64 (pk : Nat)) ∧ ((World.drew wE).setCell ⟨ba, pk, none⟩ (.bool true)).cell? ⟨wr.heap.size, 1, none⟩ = some (.int .i64 (pn : Nat)) := by
                    refine ⟨?_, ?_⟩
                    · exact (World.cell?_of_block (w := World.drew wE) (a := ⟨wr.heap.size, 0, none⟩) (heap_set_other hne79)).trans d0'
                    · exact (World.cell?_of_block (w := World.drew wE) (a := ⟨wr.heap.size, 1, none⟩) (heap_set_other hne79)).trans d1'
                  refine wp_region_held (S := fun U => U.cell? ⟨wr.heap.size, 0, none⟩ = some (.int .i64 (pk : Nat)) ∧ U.cell? ⟨wr.heap.size, 1, none⟩ = some (.int .i64 (pn : Nat))) (by kernel_rfl) ?_
                  change wpAnyH _ _ _ _ _ _ _ _ (World.drew wE)
                  refine wpAnyH_take (i := 0) (oi := { dst := some 81, op := _, type := _, pos := _, after := _, guard := none }) (v := ?_) rfl (by kernel_rfl) (by kernel_rfl) (by kernel_rfl) (fun _ _ _ h => h) (Or.inl ⟨by rfl, ?_⟩) hS0 ?_
                  rotate_left
                  · intro U hU
                    obtain ⟨hU0, hU1⟩ := hU
                    go_simp
                    all_goals with_reducible rfl
                  simp only [Act.put, List.setIfInBounds_toArray, List.set_cons_zero, List.set_cons_succ]
                  refine wpAnyH_take (i := 1) (oi := { dst := some 82, op := _, type := _, pos := _, after := _, guard := none }) (v := ?_) rfl (by kernel_rfl) (by kernel_rfl) (by kernel_rfl) (fun _ _ _ h => h) (Or.inl ⟨by rfl, ?_⟩) hS0 ?_
                  rotate_left
                  · intro U hU
                    obtain ⟨hU0, hU1⟩ := hU
                    go_simp
                    all_goals with_reducible rfl
                  simp only [Act.put, List.setIfInBounds_toArray, List.set_cons_zero, List.set_cons_succ]
                  refine wpAnyH_take (i := 2) (oi := { dst := some 83, op := _, type := _, pos := _, after := _, guard := none }) (v := ?_) rfl (by kernel_rfl) (by kernel_rfl) (by kernel_rfl) (fun _ _ _ h => h) (Or.inl ⟨by rfl, ?_⟩) hS0 ?_
                  rotate_left
                  · intro U hU
                    obtain ⟨hU0, hU1⟩ := hU
                    go_simp
                    all_goals with_reducible rfl
                  simp only [Act.put, List.setIfInBounds_toArray, List.set_cons_zero, List.set_cons_succ]
                  refine wpAnyH_take (i := 3) (oi := { dst := some 84, op := _, type := _, pos := _, after := _, guard := none }) (v := ?_) rfl (by kernel_rfl) (by kernel_rfl) (by kernel_rfl) (fun _ _ _ h => h) (Or.inl ⟨by rfl, ?_⟩) hS0 ?_
                  rotate_left
                  · intro U hU
                    obtain ⟨hU0, hU1⟩ := hU
                    go_simp
                    all_goals with_reducible rfl
                  simp only [Act.put, List.setIfInBounds_toArray, List.set_cons_zero, List.set_cons_succ]
                  refine wpAnyH_take (i := 4) (oi := { dst := some 85, op := _, type := _, pos := _, after := _, guard := none }) (v := ?_) rfl (by kernel_rfl) (by kernel_rfl) (by kernel_rfl) (fun _ _ _ h => h) (Or.inl ⟨by rfl, ?_⟩) hS0 ?_
                  rotate_left
                  · intro U hU
                    obtain ⟨hU0, hU1⟩ := hU
                    go_simp
                    all_goals with_reducible rfl
                  simp only [Act.put, List.setIfInBounds_toArray, List.set_cons_zero, List.set_cons_succ]
                  refine wpAnyH_one (i := 5) (o := { dst := none, op := _, type := _, pos := _, after := _, guard := none }) (by kernel_rfl) rfl (by rfl) (fun K1 hK1 => ?_)
                  have HK1 := Lib.hid hK1; clear hK1
                  go_simp
                  refine HK1.out _ _ hS1 ?_
                  clear HK1 K1
                  refine wpAnyH_one (i := 6) (o := { dst := some 10, op := _, type := _, pos := _, after := _, guard := none }) (by kernel_rfl) rfl (by rfl) (fun K1 hK1 => ?_)
                  have HK1 := Lib.hid hK1; clear hK1
                  go_simp
                  refine HK1.out _ _ hS1 ?_
                  clear HK1 K1
                  refine wpAnyH_done (by kernel_rfl) ?_ _
                  simp +zetaDelta only [Exit.then, Exit.inBlock]
                  refine HK4.out _ _ ?_; clear HK4
                  have b9F : (wE.setCell ⟨ba, pk, none⟩ (.bool true)).drew.heap[ba]? = some (.cells (rowB ((l.take (k + 1)).map (fN ws))).toArray 107 (0, 0)) := by
                    rw [HTK.out.2.2.2, ← rowB_set]; exact heap_set_blk (W := wE) b9E
                  have hsF : ∀ b, b < wd.heap.size → b ≠ ba → (wE.setCell ⟨ba, pk, none⟩ (.bool true)).drew.heap[b]? = wd.heap[b]? := fun b h1 h2 => (heap_set_other h2).trans ((hsE b (Nat.lt_of_lt_of_le h1 hszx)).trans (HSH.out.2 b h1 h2))
                  have hBF : Below w.heap.size w (wE.setCell ⟨ba, pk, none⟩ (.bool true)).drew := (hB2.setCell (p := ⟨ba, pk, none⟩) (show w.heap.size ≤ ba by have := HSZ.out; omega) _).drew
                  have hszF : wd.heap.size ≤ (wE.setCell ⟨ba, pk, none⟩ (.bool true)).drew.heap.size := by show _ ≤ (wE.setCell ⟨ba, pk, none⟩ (.bool true)).heap.size; rw [World.size_setCell]; exact Nat.le_trans hszx hszE
                  go_wp2
                  go_roundw
                  case rel => exact ⟨k + 1, by omega, by rw [HPN.out], by go_num, HNEW.out, b9F, hsF, hBF, hszF⟩
                  case measure => simp [intOf]; omega
                · have hmem : pk ∈ (l.take k).map (fN ws) := of_decide_eq_true HMB.out.symm
                  have hR3 : R = 3 := HPV.out.1.2 (fun h => HTK.out.2.2.1 h hmem)
                  have hP := HPV.out.2.2 (by omega)
                  clear hmem
                  have b2x := (HTK2.out _ (lt_blk HB2.out) (by have := HSZ.out; omega)).trans HB2.out
                  have e20 := cell_blk (i := 0) b2x
                  have e21 := cell_blk (i := 1) b2x
                  have f20 := free_blk (i := 0) b2x
                  have f21 := free_blk (i := 1) b2x
                  simp only [List.getElem?_toArray, List.getElem?_cons_zero, List.getElem?_cons_succ] at e20 e21
                  have z2 := lt_blk b2x
                  clear HPV HTK HMB
                  subst hR3 hP
                  refine wp_seq_k (fun K hK => ?_)
                  have HK := Lib.hid hK; clear hK
                  go_wp2
                  refine HK.out _ _ ?_; clear HK
                  refine wp_seq_k (fun K hK => ?_)
                  have HK := Lib.hid hK; clear hK
                  go_wp2
                  refine HK.out _ _ ?_; clear HK
                  refine wp_seq_k (fun K hK => ?_)
                  have HK4 := Lib.hid hK; clear hK
                  refine wp_block ?_
                  refine wp_seq_k (fun K hK => ?_)
                  have HK := Lib.hid hK; clear hK
                  go_wp2
                  refine HK.out _ _ ?_; clear HK
                  refine wp_seq_k (fun K hK => ?_)
                  have HK := Lib.hid hK; clear hK
                  go_wp2
                  refine HK.out _ _ ?_; clear HK
                  refine wp_seq_k (fun K hK => ?_)
                  have HK5 := Lib.hid hK; clear hK
                  refine wp_seq_k (fun K hK => ?_)
                  have HK := Lib.hid hK; clear hK
                  go_wp2
                  refine HK.out _ _ ?_; clear HK
                  refine wp_cond_true rfl ?_
                  refine wp_seq_k (fun K hK => ?_)
                  have HK := Lib.hid hK; clear hK
                  go_wp2
                  refine HK.out _ _ ?_; clear HK
                  refine wp_ret ?_
                  simp +zetaDelta only [Exit.then, Exit.inBlock]
                  exact bodyPost_ret (results_agg_tmp rfl _ _ (w.heap.size + 1) rfl ((heap_oldI (by simp only [World.size_setCell]; exact z2)).trans ((heap_set_blk ((heap_set_blk b2x).trans rfl)).trans rfl)) Try.underlying26 rfl size26 rfl) rfl ⟨rfl, ((hBx.setCell (p := ⟨w.heap.size + 1, 0, none⟩) (show w.heap.size ≤ w.heap.size + 1 by omega) _).setCell (p := ⟨w.heap.size + 1, 1, none⟩) (show w.heap.size ≤ w.heap.size + 1 by omega) _).alloc (by simp only [World.size_setCell]; exact hBx.size) _⟩
              · have hnb : ((fx : Int) != (pk : Int)) = true := by rw [bne_iff_ne]; omega
                have hR3 : R = 3 := HPV.out.1.2 (fun h => hne (HTK.out.2.1 h))
                have hP := HPV.out.2.2 (by omega)
                clear hne
                have b2x := (HTK2.out _ (lt_blk HB2.out) (by have := HSZ.out; omega)).trans HB2.out
                have e20 := cell_blk (i := 0) b2x
                have e21 := cell_blk (i := 1) b2x
                have f20 := free_blk (i := 0) b2x
                have f21 := free_blk (i := 1) b2x
                simp only [List.getElem?_toArray, List.getElem?_cons_zero, List.getElem?_cons_succ] at e20 e21
                have z2 := lt_blk b2x
                clear HPV HTK HMB
                subst hR3 hP
                refine wp_seq_k (fun K hK => ?_)
                have HK := Lib.hid hK; clear hK
                go_wp2
                refine HK.out _ _ ?_; clear HK
                refine wp_seq_k (fun K hK => ?_)
                have HK := Lib.hid hK; clear hK
                go_wp2
                refine HK.out _ _ ?_; clear HK
                refine wp_seq_k (fun K hK => ?_)
                have HK4 := Lib.hid hK; clear hK
                refine wp_block ?_
                refine wp_seq_k (fun K hK => ?_)
                have HK := Lib.hid hK; clear hK
                go_wp2
                refine HK.out _ _ ?_; clear HK
                refine wp_seq_k (fun K hK => ?_)
                have HK := Lib.hid hK; clear hK
                go_wp2
                refine HK.out _ _ ?_; clear HK
                refine wp_seq_k (fun K hK => ?_)
                have HK5 := Lib.hid hK; clear hK
                refine wp_seq_k (fun K hK => ?_)
                have HK := Lib.hid hK; clear hK
                go_wp2
                refine HK.out _ _ ?_; clear HK
                refine wp_cond_true rfl ?_
                refine wp_seq_k (fun K hK => ?_)
                have HK := Lib.hid hK; clear hK
                go_wp2
                refine HK.out _ _ ?_; clear HK
                refine wp_ret ?_
                simp +zetaDelta only [Exit.then, Exit.inBlock]
                exact bodyPost_ret (results_agg_tmp rfl _ _ (w.heap.size + 1) rfl ((heap_oldI (by simp only [World.size_setCell]; exact z2)).trans ((heap_set_blk ((heap_set_blk b2x).trans rfl)).trans rfl)) Try.underlying26 rfl size26 rfl) rfl ⟨rfl, ((hBx.setCell (p := ⟨w.heap.size + 1, 0, none⟩) (show w.heap.size ≤ w.heap.size + 1 by omega) _).setCell (p := ⟨w.heap.size + 1, 1, none⟩) (show w.heap.size ≤ w.heap.size + 1 by omega) _).alloc (by simp only [World.size_setCell]; exact hBx.size) _⟩
            · have hkM : k = N := by omega
              have hSC : ShC ws l := (show ShI ws l l.length by rw [← HLN.out, ← hkM]; exact hSh).done (by intro e; have := HLN.out; rw [e, List.length_nil] at this; omega)
              have hR0 : R = 0 := HPV.out.1.1 hSC
              have hcyc := hSC.cyc HMI.out 0 1
              have hb1 : 1 ≤ bkS ws l := by obtain ⟨u, hu⟩ := hcyc; exact cyc_bk HVA.out hns hu
              have b1x := (hsame _ (lt_blk HB1.out) (by have := HSZ.out; omega)).trans HB1.out
              have b2x := (hsame _ (lt_blk HB2.out) (by have := HSZ.out; omega)).trans HB2.out
              have hl100 : l.length ≤ 100 := by
                have h1 := nodup_len hSC.nd (fun v hv => by
                  rw [List.mem_map] at hv
                  obtain ⟨i, hi, rfl⟩ := hv
                  have h2 := (HVA.out.ok i (HMI.out i hi)).1
                  show (at_ ws i).f.toNat < m
                  omega)
                rw [List.length_map] at h1
                have := HVA.out.n1
                omega
              have hslc : SlI wr (.slice (some ⟨bc, oc, none⟩) (N) cc) (l.map fun (i : Nat) => (i : Int)) := by
                refine ⟨some ⟨bc, oc, none⟩, cc, by rw [List.length_map, HLN.out], by rw [List.length_map]; omega, by rw [List.length_map, ← HLN.out]; exact hcc, fun _ => ⟨bc, oc, rfl, Nat.lt_of_lt_of_le hlc hszx, fun i hi => ?_⟩⟩
                rw [List.length_map] at hi
                rw [(World.cell?_of_block (a := ⟨bc, oc + i, none⟩) (hsame bc hlc HBC.out)).trans (HC4.out i (by rw [HLN.out]; exact hi))]
                unfold at0; simp [hi]
              have h65 := period_any m (.slice (some ⟨bw, ow, none⟩) ws.length cap) (.slice (some ⟨bc, oc, none⟩) (N) cc) ws l wr (HV.out.1.below hBx (Nat.le_refl _)) hslc HVA.out.bnd HMI.out hl100 hb1
              have H65 := Lib.hid h65
              have HPVV := Lib.hid (fun p q => HPV.out.2.1 p q hR0)
              subst hR0
              clear h65 hslc hcyc hb1 hl100 hkM hSC HPV
              go_wp2
              refine HK.out _ _ ?_; clear HK
              refine wp_seq_k (fun K hK => ?_)
              have HK6 := Lib.hid hK; clear hK
              go_wp2_with (first | (refine wpList_load_blk rfl 24 _ rfl _ rfl b1x Try.underlying24 rfl size24 rfl ?_) | (go_at_call 65; refine H65.out.mono ?_; rintro e w7 ⟨p, q, hp, hq, rfl, hb7⟩; have HPVE := Lib.hid (HPVV.out p q hp hq); clear hp hq; have b27 := blk_keep b2x hb7; have hB7 := btr hBx hb7 (Nat.le_refl _)) | (refine wpList_store_blk rfl 26 _ _ rfl _ rfl rfl b27 size26 rfl rfl (by simp [Value.oneCell']) ?_))
              refine HK6.out _ _ ?_; clear HK6
              refine wp_ret ?_
              exact bodyPost_ret (results_agg_tmp rfl _ _ (w.heap.size + 1) rfl (World.putObj_heap_same (lt_blk b27)) Try.underlying26 rfl size26 rfl) rfl ⟨by rw [HPVE.out]; rfl, below_putObj hB7 (by omega)⟩
end Yteileadcmekkoaa
end Go.Proofs
