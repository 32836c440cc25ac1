/- Laws of rotation, plainly: least tables by what they allow. -/
import Derived.Test.YtnjgglnpmhjmiaaRf1
import Derived.Test.YtnjgglnpmhjmiaaPlA
open Go Go.RowKit Go.YtnjgglnpmhjmiaaIt
open Rest
namespace Go.Proofs
namespace Ytnjgglnpmhjmiaa
theorem stop_ex {α : Type} (x : RSys α) (sts : List α) : ∃ r, Stop x sts r := by
  apply Classical.byContradiction
  intro h
  have h2 : ∀ r, 1 ≤ r → cntN x sts r + 1 ≤ cntN x sts (r + 1) := fun r hr => by
    have h1 : cntN x sts r ≤ cntN x sts (r + 1) := cnt_mono _ _ _
    have hne : cntN x sts (r + 1) ≠ cntN x sts r := fun e => h ⟨r + 1, by omega, e⟩
    omega
  have h3 : ∀ n, n ≤ cntN x sts (n + 1) := fun n => by
    induction n with
    | zero => exact Nat.zero_le _
    | succ n ih => have := h2 (n + 1) (by omega); omega
  have h4 := h3 (sts.length + 1)
  have h5 : cntN x sts (sts.length + 1 + 1) ≤ sts.length := cnt_le _ _ _
  omega
theorem fit_least {l : Lw} (h : l.Fit) : LeastT l.k (Fut (sysL l) 0) (theT l.k (Fut (sysL l) 0)) := by
  obtain ⟨r, hr⟩ := stop_ex (sysL l) (stsL l)
  obtain ⟨L, hL, -⟩ := mrgL_walk h r
  have h2 := mrgL_least h hr hL
  rw [theT_eq h2]
  exact h2
/-- What a law allows after its first state. -/
def Wl (l : Lw) : List Nat → Bool := Fut (sysL l) 0
theorem cn_fut (k : Nat) (g : List Nat → Bool) (w : List Nat) : Fut (Cn k g) g w = (decide (∀ c ∈ w, c < k) && g w) := by
  show (decide (∀ c ∈ w, c < k) && (Cn k g).run g w []) = _
  rw [cn_run]
  simp only [List.append_nil]
theorem tab_fut {k : Nat} {g : List Nat → Bool} {T : Tab} (h : LeastT k g T) (h1 : 1 ≤ k) (h4 : k ≤ 4) (hn : T.st.length ≤ 40) : ∀ w, Wl (tabL T) w = (decide (∀ c ∈ w, c < k) && g w) := by
  have hk := ((least_ok h).law h1 h4 hn).2
  have hok := ((least_ok h).law h1 h4 hn).1
  obtain ⟨L, hL, hT⟩ := h
  intro w
  letI := Classical.typeDecidableEq (List Nat → Bool)
  have hlen : (tabL T).nx.length = L.length := by rw [hT]; simp [tabL, tabOf]
  have hm := hL.pos
  obtain ⟨M, hM⟩ := hm
  have h0 : 0 < L.length := by rw [hM]; simp
  have hat : ∀ (i : Nat) (hi : i < L.length) (c : Nat), c < k → (tabL T).at (i : Int) c = ((idx L ((Cn k g).nx L[i].1 c) : Nat) : Int) := fun i hi c hc => by
    unfold Lw.at
    have : (tabL T).nx = (tabOf (Cn k g) L).nx.map nI := by rw [hT]; rfl
    rw [this]
    simp [tabOf, hi, Cn, hc, nI]
  have hgd : ∀ (i : Nat) (hi : i < L.length), (tabL T).good (i : Int) = L[i].1 [] := fun i hi => by
    unfold Lw.good
    have : (tabL T).gd = (tabOf (Cn k g) L).gd := by rw [hT]; rfl
    rw [this]
    simp [tabOf, hi, Cn]
  have hr := fut_rel (x := sysL (tabL T)) (y := Cn k g) (fun s f => ∃ (i : Nat) (hi : i < L.length), s = (i : Int) ∧ L[i].1 = f) hk
    (fun s f ⟨i, hi, e1, e2⟩ => by rw [e1]; show (tabL T).good (i : Int) = f []; rw [hgd i hi, e2])
    (fun s f c ⟨i, hi, e1, e2⟩ hc => by
      have hc2 : c < k := by rw [← hk]; exact hc
      have hcl := hL.closed (s := L[i].1) (List.mem_map.2 ⟨_, List.getElem_mem hi, rfl⟩) hc2
      have hlt := List.idxOf_lt_length_of_mem hcl
      have hlt2 : idx L ((Cn k g).nx L[i].1 c) < L.length := by simpa [idx] using hlt
      refine ⟨idx L ((Cn k g).nx L[i].1 c), hlt2, ?_, ?_⟩
      · rw [e1]; exact hat i hi c hc2
      · have h5 := List.getElem_idxOf hlt
        rw [← e2]
        rw [List.getElem_map] at h5
        exact h5)
    w 0 g ⟨0, h0, rfl, by simp only [hM, List.getElem_cons_zero]; rfl⟩
  rw [← cn_fut k g w]
  exact hr
/-- A law with two crops and at most so many states. -/
structure Tw (l : Lw) (n : Nat) : Prop where
  ok : l.Ok
  k2 : l.k = 2
  len : l.nx.length ≤ n
theorem leastL_tw {l : Lw} {n : Nat} (h : Tw l n) : Tw (leastL l) n ∧ ∀ w, Wl (leastL l) w = Wl l w := by
  have h1 := fit_least h.ok.fit
  obtain ⟨h2, h3, h4⟩ := leastL_ok h.ok h1
  have h5 := h.ok.n40
  have h6 := h.len
  have h7 := (least_ok h1).nx
  refine ⟨⟨h2, h3.trans h.k2, by show (tabL (theT l.k (Fut (sysL l) 0))).nx.length ≤ n; simp only [tabL, List.length_map]; omega⟩, fun w => ?_⟩
  show Wl (tabL (theT l.k (Fut (sysL l) 0))) w = Wl l w
  rw [tab_fut h1 h.ok.k1 h.ok.k4 (by omega) w]
  show (_ && Fut (sysL l) 0 w) = Fut (sysL l) 0 w
  unfold Fut
  rw [← Bool.and_assoc, show (sysL l).k = l.k from rfl, Bool.and_self]
theorem leastL_ext {l m : Lw} {n n' : Nat} (h : Tw l n) (h' : Tw m n') (e : ∀ w, Wd 2 w → Wl l w = Wl m w) : leastL l = leastL m := by
  unfold leastL
  rw [h.k2, h'.k2]
  have : Fut (sysL l) 0 = Fut (sysL m) 0 := funext fun w => by
    by_cases hw : Wd 2 w
    · exact e w hw
    · rw [fut_bad (by show ¬ Wd l.k w; rw [h.k2]; exact hw), fut_bad (by show ¬ Wd m.k w; rw [h'.k2]; exact hw)]
  rw [this]
theorem least_least {l : Lw} {n : Nat} (h : Tw l n) : leastL (leastL l) = leastL l := leastL_ext (leastL_tw h).1 h fun w _ => (leastL_tw h).2 w
theorem notL_eq {l : Lw} (h : l.Ok) : notL l = leastL (flipL l) := by
  unfold notL leastL
  rw [flip_fut h]
  rfl
theorem flip_tw {l : Lw} {n : Nat} (h : Tw l n) : Tw (flipL l) n := ⟨flip_ok h.ok, h.k2, h.len⟩
theorem run_nst {l : Lw} (w : List Nat) (s : Int) : (notS l).run s w = (sysL l).run s w := rfl
theorem notL_tw {l : Lw} {n : Nat} (h : Tw l n) : Tw (notL l) n ∧ ∀ w, Wd 2 w → Wl (notL l) w = !Wl l w := by
  rw [notL_eq h.ok]
  refine ⟨(leastL_tw (flip_tw h)).1, fun w hw => ?_⟩
  rw [(leastL_tw (flip_tw h)).2 w]
  show Fut (sysL (flipL l)) 0 w = !Fut (sysL l) 0 w
  rw [flip_fut h.ok, fut_ok (x := notS l) (by show Wd l.k w; rw [h.k2]; exact hw), fut_ok (x := sysL l) (by show Wd l.k w; rw [h.k2]; exact hw)]
  rfl
/-- Two laws together, of pairs of states. -/
def pairL (a b : Lw) (f : Bool → Bool → Bool) : Lw := lawOf (a.nx.length * b.nx.length) a.k (pairF a b) (pairG a b f)
theorem joint_run {a b : Lw} {f : Bool → Bool → Bool} : ∀ (w : List Nat) (s t : Int), (jointS a b (0, 0) f).run (s, t) w = ((sysL a).run s w, (sysL b).run t w)
  | [], _, _ => rfl
  | c :: w, s, t => joint_run w (a.at s c) (b.at t c)
theorem pairL_tw {a b : Lw} {n m : Nat} (ha : Tw a n) (hb : Tw b m) (hnm : n * m ≤ 40) (f : Bool → Bool → Bool) : Tw (pairL a b f) (n * m) ∧ Fut (sysL (pairL a b f)) 0 = Fut (jointS a b (0, 0) f) (0, 0) ∧ ∀ w, Wd 2 w → Wl (pairL a b f) w = f (Wl a w) (Wl b w) := by
  have hk : a.k = b.k := ha.k2.trans hb.k2.symm
  have h1 := Nat.mul_le_mul ha.len hb.len
  have h2 : 1 ≤ a.nx.length * b.nx.length := Nat.mul_pos ha.ok.n1 hb.ok.n1
  have hfit : (pairL a b f).Fit := lawOf_fit h2 (by omega) ha.ok.k1 ha.ok.k4 fun u c hu hc => pairF_bd ha.ok hb.ok hk hu hc
  have hl : (pairL a b f).nx.length = a.nx.length * b.nx.length := by simp [pairL, lawOf]
  have hkk : (pairL a b f).k = a.k := lawOf_k _ _ h2
  have hf := pair_fut ha.ok hb.ok hk f
  refine ⟨⟨⟨hfit.n1, by omega, hfit.k1, hfit.k4, hfit.gd, hfit.row, hfit.ent⟩, hkk.trans ha.k2, by omega⟩, hf, fun w hw => ?_⟩
  show Fut (sysL (pairL a b f)) 0 w = f (Fut (sysL a) 0 w) (Fut (sysL b) 0 w)
  have hf' : Fut (sysL (pairL a b f)) 0 = Fut (jointS a b (0, 0) f) (0, 0) := hf
  rw [hf', fut_ok (x := jointS a b (0, 0) f) (by show Wd a.k w; rw [ha.k2]; exact hw), fut_ok (x := sysL a) (by show Wd a.k w; rw [ha.k2]; exact hw), fut_ok (x := sysL b) (by show Wd b.k w; rw [hb.k2]; exact hw), joint_run]
  rfl
theorem joinT_eq {a b : Lw} {n m : Nat} (ha : Tw a n) (hb : Tw b m) (hnm : n * m ≤ 40) (f : Bool → Bool → Bool) : tabL (joinT a b f) = leastL (pairL a b f) := by
  obtain ⟨h1, h2, -⟩ := pairL_tw ha hb hnm f
  unfold joinT leastL
  rw [h2, h1.k2, ha.k2]
theorem joinT_tw {a b : Lw} {n m : Nat} (ha : Tw a n) (hb : Tw b m) (hnm : n * m ≤ 40) (f : Bool → Bool → Bool) : Tw (tabL (joinT a b f)) (n * m) ∧ (∀ w, Wd 2 w → Wl (tabL (joinT a b f)) w = f (Wl a w) (Wl b w)) ∧ joinE a b f = 0 := by
  obtain ⟨h1, h2, h3⟩ := pairL_tw ha hb hnm f
  have h4 := leastL_tw h1
  rw [← joinT_eq ha hb hnm f] at h4
  refine ⟨h4.1, fun w hw => (h4.2 w).trans (h3 w hw), ?_⟩
  have hc : chk2E a b = 0 := by unfold chk2E; rw [if_pos (ok_chkL ha.ok), if_pos (ok_chkL hb.ok), if_pos (ha.k2.trans hb.k2.symm)]
  have h5 := h4.1.len
  simp only [tabL, List.length_map] at h5
  unfold joinE
  rw [if_pos hc, if_neg (by omega)]
/-- Laws that allow nothing, and all. -/
def lawE : Lw := ⟨[[0, 0]], [true]⟩
theorem lawN_tw : Tw lawN 1 ∧ ∀ w, Wd 2 w → Wl lawN w = false := by
  refine ⟨⟨chkL_ok (by decide +kernel), rfl, Nat.le_refl _⟩, fun w hw => ?_⟩
  have h := fut_bisim (x := sysL lawN) (y := (⟨2, 0, fun _ _ => 0, fun _ => false⟩ : RSys Int)) [(0, 0)] rfl (by decide +kernel) w 0 0 (by decide)
  show Fut (sysL lawN) 0 w = false
  rw [h, fut_ok (x := (⟨2, 0, fun _ _ => 0, fun _ => false⟩ : RSys Int)) hw]
theorem lawE_tw : Tw lawE 1 ∧ ∀ w, Wd 2 w → Wl lawE w = true := by
  refine ⟨⟨chkL_ok (by decide +kernel), rfl, Nat.le_refl _⟩, fun w hw => ?_⟩
  have h := fut_bisim (x := sysL lawE) (y := (⟨2, 0, fun _ _ => 0, fun _ => true⟩ : RSys Int)) [(0, 0)] rfl (by decide +kernel) w 0 0 (by decide)
  show Fut (sysL lawE) 0 w = true
  rw [h, fut_ok (x := (⟨2, 0, fun _ _ => 0, fun _ => true⟩ : RSys Int)) hw]
theorem leastE : LeastT 2 (Fut (sysL lawE) 0) (tabOf (sysL lawE) [(0, [])]) := least_words (x := sysL lawE) (L := [(0, [])]) wordsC ⟨by decide +kernel⟩ (by decide +kernel)
theorem tabE : tabL (tabOf (sysL lawE) [(0, [])]) = lawE := sameL_iff.1 (by decide +kernel)
theorem least_N : leastL lawN = lawN := by
  unfold leastL
  rw [show lawN.k = 2 from rfl, theT_eq leastN]
  exact tabN'
theorem least_E : leastL lawE = lawE := by
  unfold leastL
  rw [show lawE.k = 2 from rfl, theT_eq leastE]
  exact tabE
/-- What a law's states say of lists of numbers. -/
def toW (ys : List Int) : List Nat := ys.map Int.toNat
theorem run_toW (l : Lw) : ∀ (ys : List Int) (s : Int), runI l s ys = (sysL l).run s (toW ys)
  | [], _ => rfl
  | c :: ys, s => run_toW l ys (l.at s c.toNat)
theorem toW_wd {ys : List Int} (h : ∀ c ∈ ys, 0 ≤ c ∧ c < 2) : Wd 2 (toW ys) := fun c hc => by
  obtain ⟨x, hx, rfl⟩ := List.mem_map.1 hc
  have := h x hx
  omega
theorem toW_app (a b : List Int) : toW (a ++ b) = toW a ++ toW b := List.map_append
theorem end_one {l : Lw} {n : Nat} (hl : Tw l n) {ys : List Int} (h : ∀ c ∈ ys, 0 ≤ c ∧ c < 2) : l.good (endI l [ys]) = Wl l (toW ys) := by
  show l.good (runI l 0 ys) = _
  rw [run_toW]
  exact (fut_ok (x := sysL l) (by show Wd l.k _; rw [hl.k2]; exact toW_wd h)).symm
theorem end_two {l : Lw} {n : Nat} (hl : Tw l n) {ys zs : List Int} (h : ∀ c ∈ ys, 0 ≤ c ∧ c < 2) (h' : ∀ c ∈ zs, 0 ≤ c ∧ c < 2) : l.good (endI l [ys, zs]) = Wl l (toW ys ++ toW zs) := by
  show l.good (runI l (runI l 0 ys) zs) = _
  rw [run_toW, run_toW, ← RSys.run_app]
  exact (fut_ok (x := sysL l) (by show Wd l.k _; rw [hl.k2]; exact wd_app.2 ⟨toW_wd h, toW_wd h'⟩)).symm
/-- What the joined laws are. -/
theorem not_not {a : Lw} {n : Nat} (ha : Tw a n) : notL (notL a) = leastL a := by
  have h1 := notL_tw ha
  rw [notL_eq h1.1.ok]
  have h2 := notL_tw h1.1
  rw [notL_eq h1.1.ok] at h2
  exact leastL_ext (flip_tw h1.1) ha fun w hw => by
    have := h2.2 w hw
    rw [(leastL_tw (flip_tw h1.1)).2 w] at this
    rw [this, h1.2 w hw, Bool.not_not]
theorem join_ext {a b c d : Lw} {n m n' m' : Nat} {f g : Bool → Bool → Bool} (ha : Tw a n) (hb : Tw b m) (hnm : n * m ≤ 40) (hc : Tw c n') (hd : Tw d m') (hnm' : n' * m' ≤ 40) (h : ∀ w, Wd 2 w → f (Wl a w) (Wl b w) = g (Wl c w) (Wl d w)) : tabL (joinT a b f) = tabL (joinT c d g) := by
  rw [joinT_eq ha hb hnm, joinT_eq hc hd hnm']
  exact leastL_ext (pairL_tw ha hb hnm f).1 (pairL_tw hc hd hnm' g).1 fun w hw => by rw [(pairL_tw ha hb hnm f).2.2 w hw, (pairL_tw hc hd hnm' g).2.2 w hw, h w hw]
theorem join_law {a b c : Lw} {n m n' : Nat} {f : Bool → Bool → Bool} (ha : Tw a n) (hb : Tw b m) (hnm : n * m ≤ 40) (hc : Tw c n') (h : ∀ w, Wd 2 w → f (Wl a w) (Wl b w) = Wl c w) : tabL (joinT a b f) = leastL c := by
  rw [joinT_eq ha hb hnm]
  exact leastL_ext (pairL_tw ha hb hnm f).1 hc fun w hw => by rw [(pairL_tw ha hb hnm f).2.2 w hw, h w hw]
theorem not_join {a b c d : Lw} {n m n' m' : Nat} {f g : Bool → Bool → Bool} (ha : Tw a n) (hb : Tw b m) (hnm : n * m ≤ 40) (hc : Tw c n') (hd : Tw d m') (hnm' : n' * m' ≤ 40) (h : ∀ w, Wd 2 w → (!f (Wl a w) (Wl b w)) = g (Wl c w) (Wl d w)) : notL (tabL (joinT a b f)) = tabL (joinT c d g) := by
  have h1 := joinT_tw ha hb hnm f
  have h2 := notL_tw h1.1
  rw [joinT_eq hc hd hnm', notL_eq h1.1.ok]
  rw [notL_eq h1.1.ok] at h2
  refine leastL_ext (flip_tw h1.1) (pairL_tw hc hd hnm' g).1 fun w hw => ?_
  have := h2.2 w hw
  rw [(leastL_tw (flip_tw h1.1)).2 w] at this
  rw [this, h1.2.1 w hw, (pairL_tw hc hd hnm' g).2.2 w hw, h w hw]
end Ytnjgglnpmhjmiaa
end Go.Proofs
