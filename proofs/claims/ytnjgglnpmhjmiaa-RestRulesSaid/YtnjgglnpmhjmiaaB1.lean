/- Laws of rotation: the states of two laws together. -/
import Derived.Test.YtnjgglnpmhjmiaaP6
open Go Go.RowKit Go.YtnjgglnpmhjmiaaIt
open Rest
namespace Go.Proofs
namespace Ytnjgglnpmhjmiaa
/-- The states of two laws together. -/
def jointS (a b : Lw) (st : P2) (f : Bool → Bool → Bool) : RSys P2 := ⟨a.k, st, fun p c => (a.at p.1 c, b.at p.2 c), fun p => f (a.good p.1) (b.good p.2)⟩
def okJ (a b : Lw) (p : P2) : Prop := a.st p.1 ∧ b.st p.2
theorem LawX.rows {w : World} {g : Nat} {l : Lw} {vn vg : Value} (ho : l.Ok) (h : LawX w g 25 l vn vg) {m c : Nat} (hm : m < l.nx.length) (hc : c < l.k) : ∃ b off cn b2 off2 rl cc, vn = .slice (some ⟨b, off, none⟩) l.nx.length cn ∧ w.cell? ⟨b, off + m, none⟩ = some (.slice (some ⟨b2, off2, none⟩) rl cc) ∧ c < rl ∧ w.cell? ⟨b2, off2 + c, none⟩ = some (.int .i64 (l.at (m : Int) c)) ∧ b < w.heap.size ∧ b2 < w.heap.size := by
 obtain ⟨an, cn, rfl, hcn⟩ := slII_form h.nx
 obtain ⟨h2, e⟩ := ho.at_eq hm hc
 obtain ⟨b, off, a, cc, rfl, hb, hcell, hrow⟩ := h.nx.row hm
 obtain ⟨ad', cap', e', -, -, hcc⟩ := hrow
 injection e' with e1 e2 e3
 subst e1
 obtain ⟨b2, off2, rfl, hb2, hcell2⟩ := hcc (by omega)
 have c1 := hcell2 c h2
 rw [at0_lt h2, ← e] at c1
 exact ⟨b, off, cn, b2, off2, _, cc, rfl, hcell, h2, c1, hb, hb2⟩
theorem LawX.gds {w : World} {g : Nat} {l : Lw} {vn vg : Value} (ho : l.Ok) (h : LawX w g 25 l vn vg) {m : Nat} (hm : m < l.nx.length) : ∃ b off cg, vg = .slice (some ⟨b, off, none⟩) l.gd.length cg ∧ m < l.gd.length ∧ w.cell? ⟨b, off + m, none⟩ = some (.bool (l.good (m : Int))) ∧ b < w.heap.size := by
 have hg := h.gd
 obtain ⟨ag, cg, rfl, -⟩ := id hg
 have hml : m < l.gd.length := by rw [ho.gd]; exact hm
 obtain ⟨b, off, rfl, hb, hcell⟩ := slV_bool hg hml
 have e : l.good (m : Int) = l.gd[m] := by
  unfold Lw.good
  rw [show (m : Int).toNat = m from rfl, List.getD_eq_getElem?_getD, List.getElem?_eq_getElem hml, Option.getD_some]
 rw [← e] at hcell
 exact ⟨b, off, cg, by rw [List.length_map], hml, hcell, hb⟩
set_option maxRecDepth 100000 in
set_option maxHeartbeats 4000000 in
theorem next94_any {g4 g5 : Nat} {la lb : Lw} {an ag bn bg : Value} {w : World} (hoa : la.Ok) (hob : lb.Ok) (hk : la.k = lb.k) (ha : LawX w g4 25 la an ag) (hb : LawX w g5 25 lb bn bg) {p : P2} {c : Nat} (hp : okJ la lb p) (hc : c < la.k) :
  Calls Try.prog 94 (#[encP p, .int .i64 c] ++ #[.pointer (some ⟨g4, 0, none⟩), .pointer (some ⟨g5, 0, none⟩)]) w fun e w' => e = .returned (encP (la.at p.1 c, lb.at p.2 c)) ∧ Below w.heap.size w w' := by
 obtain ⟨p1, p2⟩ := p
 obtain ⟨h1, h2⟩ := hp
 simp only at h1 h2 ⊢
 obtain ⟨m1, rfl, hm1⟩ := h1.nat
 obtain ⟨m2, rfl, hm2⟩ := h2.nat
 obtain ⟨b1, o1, cn1, b2, o2, rl1, cc1, rfl, x1, l1, y1, z1, z2⟩ := ha.rows hoa hm1 hc
 obtain ⟨b3, o3, cn2, b4, o4, rl2, cc2, rfl, x2, l2, y2, z3, z4⟩ := hb.rows hob hm2 (hk ▸ hc)
 obtain ⟨r1, hr1⟩ : ∃ q, q = la.at (m1 : Int) c := ⟨_, rfl⟩
 obtain ⟨r2, hr2⟩ : ∃ q, q = lb.at (m2 : Int) c := ⟨_, rfl⟩
 rw [← hr1] at y1 ⊢
 rw [← hr2] at y2 ⊢
 have hi1 : (m1 : Int) < (la.nx.length : Int) := by omega
 have hi2 : (m2 : Int) < (lb.nx.length : Int) := by omega
 have hj1 : (c : Int) < (rl1 : Int) := by omega
 have hj2 : (c : Int) < (rl2 : Int) := by omega
 have a0 := cell_blk (i := 0) ha.blk
 have b0 := cell_blk (i := 0) hb.blk
 simp only [List.getElem?_toArray, List.getElem?_cons_zero] at a0 b0
 have lg4 := lt_blk ha.blk
 have lg5 := lt_blk hb.blk
 clear hr1 hr2 h1 h2 ha hb hoa hob hk hc hm1 hm2 l1 l2
 go_enter Try.func94, Try.ntmps94
 refine wp_noP ?_
 refine wp_seq_k (fun K hK => ?_)
 have HK := Lib.hid hK; clear hK
 go_wp2
 refine HK.out _ _ ?_; clear HK
 obtain ⟨e4, e6, hB, hz⟩ := blk2 (w := w) (a := .cells #[.int .i64 m1, .int .i64 m2] 104) (b := .cells #[.int .i64 0, .int .i64 0] 104) rfl
 obtain ⟨w2, hw2⟩ : ∃ q, q = (w.alloc (.cells #[.int .i64 m1, .int .i64 m2] 104)).alloc (.cells #[.int .i64 0, .int .i64 0] 104) := ⟨_, rfl⟩
 rw [← hw2] at e4 e6 hB hz ⊢
 obtain ⟨wd, hwd⟩ : ∃ q, q = w2.drew := ⟨_, rfl⟩
 have hBd : Below w.heap.size w wd := by rw [hwd]; exact hB.drew
 have e4' : wd.heap[w.heap.size]? = some (.cells #[.int .i64 m1, .int .i64 m2] 104 (0, 0)) := by rw [hwd]; exact e4
 have e6' : wd.heap[w.heap.size + 1]? = some (.cells #[.int .i64 0, .int .i64 0] 104 (0, 0)) := by rw [hwd]; exact e6
 replace x1 := (hBd.cell (p := ⟨b1, o1 + m1, none⟩) z1).trans x1
 replace y1 := (hBd.cell (p := ⟨b2, o2 + c, none⟩) z2).trans y1
 replace x2 := (hBd.cell (p := ⟨b3, o3 + m2, none⟩) z3).trans x2
 replace y2 := (hBd.cell (p := ⟨b4, o4 + c, none⟩) z4).trans y2
 replace a0 := (hBd.cell (p := ⟨g4, 0, none⟩) lg4).trans a0
 replace b0 := (hBd.cell (p := ⟨g5, 0, none⟩) lg5).trans b0
 have f0 := cell_blk (i := 0) e4'
 have f1 := cell_blk (i := 1) e4'
 simp only [List.getElem?_toArray, List.getElem?_cons_zero, List.getElem?_cons_succ] at f0 f1
 have HWD := Lib.hid hwd
 have HF := Lib.hid (And.intro hBd e6')
 clear hw2 e4 e6 hB hz hwd hBd e4' e6' z1 z2 z3 z4 lg4 lg5
 refine wp_seq_k (fun K hK => ?_)
 have HK2 := Lib.hid hK; clear hK
 refine wp_region_x (R := fun _ => True) (S := fun U => U = wd) (z := 19) rfl ?_
 change wpAnyX _ _ _ _ _ _ _ _ _ _ w2.drew
 rw [← HWD.out]
 refine wpX_kp (i := 0) (oi := ⟨some 7, _, _, _, _, none⟩) (v := ?_) rfl (fun _ _ _ h => h) ?_ ⟨trivial, fun _ => rfl⟩ ?_
 rotate_left
 ·intro U hU
  go_simp
  all_goals with_reducible rfl
 simp only [putE]
 refine wpAnyX_take (i := 1) (oi := ⟨some 8, _, _, _, _, none⟩) (v := ?_) rfl (by kernel_rfl) (by kernel_rfl) (by kernel_rfl) (fun _ _ _ h => h) (Or.inl ⟨by rfl, ?_⟩) ⟨trivial, fun _ => rfl⟩ ?_
 rotate_left
 ·intro U hU
  rw [hU.2]
  go_simp
  all_goals with_reducible rfl
 simp only [putE]
 refine wpX_kp (i := 2) (oi := ⟨some 9, _, _, _, _, none⟩) (v := ?_) rfl (fun _ _ _ h => h) ?_ ⟨trivial, fun _ => rfl⟩ ?_
 rotate_left
 ·intro U hU
  go_simp
  all_goals with_reducible rfl
 simp only [putE]
 refine wpAnyX_take (i := 3) (oi := ⟨some 10, _, _, _, _, none⟩) (v := ?_) rfl (by kernel_rfl) (by kernel_rfl) (by kernel_rfl) (fun _ _ _ h => h) (Or.inl ⟨by rfl, ?_⟩) ⟨trivial, fun _ => rfl⟩ ?_
 rotate_left
 ·intro U hU
  rw [hU.2]
  go_simp
  all_goals with_reducible rfl
 simp only [putE]
 refine wpX_kp (i := 4) (oi := ⟨some 11, _, _, _, _, none⟩) (v := ?_) rfl (fun _ _ _ h => h) ?_ ⟨trivial, fun _ => rfl⟩ ?_
 rotate_left
 ·intro U hU
  go_simp
  all_goals with_reducible rfl
 simp only [putE]
 refine wpAnyX_take (i := 5) (oi := ⟨some 12, _, _, _, _, none⟩) (v := ?_) rfl (by kernel_rfl) (by kernel_rfl) (by kernel_rfl) (fun _ _ _ h => h) (Or.inl ⟨by rfl, ?_⟩) ⟨trivial, fun _ => rfl⟩ ?_
 rotate_left
 ·intro U hU
  rw [hU.2]
  go_simp
  all_goals with_reducible rfl
 simp only [putE]
 refine wpX_kp (i := 6) (oi := ⟨some 13, _, _, _, _, none⟩) (v := ?_) rfl (fun _ _ _ h => h) ?_ ⟨trivial, fun _ => rfl⟩ ?_
 rotate_left
 ·intro U hU
  go_simp
  all_goals with_reducible rfl
 simp only [putE]
 refine wpX_kp (i := 7) (oi := ⟨some 14, _, _, _, _, none⟩) (v := ?_) rfl (fun _ _ _ h => h) ?_ ⟨trivial, fun _ => rfl⟩ ?_
 rotate_left
 ·intro U hU
  go_simp
  all_goals with_reducible rfl
 simp only [putE]
 refine wpAnyX_take (i := 8) (oi := ⟨some 15, _, _, _, _, none⟩) (v := ?_) rfl (by kernel_rfl) (by kernel_rfl) (by kernel_rfl) (fun _ _ _ h => h) (Or.inl ⟨by rfl, ?_⟩) ⟨trivial, fun _ => rfl⟩ ?_
 rotate_left
 ·intro U hU
  rw [hU.2]
  go_simp
  all_goals with_reducible rfl
 simp only [putE]
 refine wpX_kp (i := 9) (oi := ⟨some 16, _, _, _, _, none⟩) (v := ?_) rfl (fun _ _ _ h => h) ?_ ⟨trivial, fun _ => rfl⟩ ?_
 rotate_left
 ·intro U hU
  go_simp
  all_goals with_reducible rfl
 simp only [putE]
 refine wpAnyX_take (i := 10) (oi := ⟨some 17, _, _, _, _, none⟩) (v := ?_) rfl (by kernel_rfl) (by kernel_rfl) (by kernel_rfl) (fun _ _ _ h => h) (Or.inl ⟨by rfl, ?_⟩) ⟨trivial, fun _ => rfl⟩ ?_
 rotate_left
 ·intro U hU
  rw [hU.2]
  go_simp
  all_goals with_reducible rfl
 simp only [putE]
 refine wpX_kp (i := 11) (oi := ⟨some 18, _, _, _, _, none⟩) (v := ?_) rfl (fun _ _ _ h => h) ?_ ⟨trivial, fun _ => rfl⟩ ?_
 rotate_left
 ·intro U hU
  go_simp
  all_goals with_reducible rfl
 simp only [putE]
 refine wpAnyX_take (i := 12) (oi := ⟨some 19, _, _, _, _, none⟩) (v := ?_) rfl (by kernel_rfl) (by kernel_rfl) (by kernel_rfl) (fun _ _ _ h => h) (Or.inl ⟨by rfl, ?_⟩) ⟨trivial, fun _ => rfl⟩ ?_
 rotate_left
 ·intro U hU
  rw [hU.2]
  go_simp
  all_goals with_reducible rfl
 simp only [putE]
 refine wpX_kp (i := 13) (oi := ⟨some 20, _, _, _, _, none⟩) (v := ?_) rfl (fun _ _ _ h => h) ?_ ⟨trivial, fun _ => rfl⟩ ?_
 rotate_left
 ·intro U hU
  go_simp
  all_goals with_reducible rfl
 simp only [putE]
 refine wpAnyX_take (i := 14) (oi := ⟨some 21, _, _, _, _, none⟩) (v := ?_) rfl (by kernel_rfl) (by kernel_rfl) (by kernel_rfl) (fun _ _ _ h => h) (Or.inl ⟨by rfl, ?_⟩) ⟨trivial, fun _ => rfl⟩ ?_
 rotate_left
 ·intro U hU
  rw [hU.2]
  go_simp
  all_goals with_reducible rfl
 simp only [putE]
 refine wpX_kp (i := 15) (oi := ⟨some 22, _, _, _, _, none⟩) (v := ?_) rfl (fun _ _ _ h => h) ?_ ⟨trivial, fun _ => rfl⟩ ?_
 rotate_left
 ·intro U hU
  go_simp
  all_goals with_reducible rfl
 simp only [putE]
 refine wpX_kp (i := 16) (oi := ⟨some 23, _, _, _, _, none⟩) (v := ?_) rfl (fun _ _ _ h => h) ?_ ⟨trivial, fun _ => rfl⟩ ?_
 rotate_left
 ·intro U hU
  go_simp
  all_goals with_reducible rfl
 simp only [putE]
 refine wpAnyX_take (i := 17) (oi := ⟨some 24, _, _, _, _, none⟩) (v := ?_) rfl (by kernel_rfl) (by kernel_rfl) (by kernel_rfl) (fun _ _ _ h => h) (Or.inl ⟨by rfl, ?_⟩) ⟨trivial, fun _ => rfl⟩ ?_
 rotate_left
 ·intro U hU
  rw [hU.2]
  go_simp
  all_goals with_reducible rfl
 simp only [putE]
 refine wpX_kp (i := 18) (oi := ⟨some 25, _, _, _, _, none⟩) (v := ?_) rfl (fun _ _ _ h => h) ?_ ⟨trivial, fun _ => rfl⟩ ?_
 rotate_left
 ·intro U hU
  go_simp
  all_goals with_reducible rfl
 simp only [putE]
 refine wpAnyX_one (i := 19) (o := ⟨none, _, _, _, _, none⟩) (by kernel_rfl) rfl (by rfl) (fun K1 hK1 => ?_)
 have HK1' := Lib.hid hK1; clear hK1
 refine oper_store_blk 104 (.tmp 6) (.tmp 25) rfl (w.heap.size + 1) rfl rfl HF.out.2 size104 rfl rfl (by simp [Value.oneCell']) ?_
 refine HK1'.out _ _ ⟨trivial, fun h => by simp at h⟩ ?_
 clear HK1'
 try simp only [Act.put]
 refine wpAnyX_done (by kernel_rfl) ?_ _
 refine HK2.out _ _ ?_; clear HK2
 go_wp2
 obtain ⟨hBd, e6'⟩ := HF.out
 exact noP_ret (bodyPost_ret (results_blk rfl _ _ _ rfl (World.putObj_heap_same (lt_blk e6')) Try.underlying104 rfl size104 rfl) rfl ⟨rfl, below_putObj hBd (by omega)⟩)
/-- A function of two truths. -/
structure BoolF (fG : Nat) (f : Bool → Bool → Bool) : Prop where
 ent : ∀ args w, (callFunc fG args).run Try.prog w = .ok (.enter fG args) w
 call : ∀ a b w, Calls Try.prog fG #[.bool a, .bool b] w fun e w' => e = .returned (.bool (f a b)) ∧ Below w.heap.size w w'
set_option maxRecDepth 100000 in
set_option maxHeartbeats 4000000 in
theorem good95_any {g4 g5 g7 fG : Nat} {la lb : Lw} {an ag bn bg : Value} {f : Bool → Bool → Bool} {w : World} (hoa : la.Ok) (hob : lb.Ok) (hF : BoolF fG f) (ha : LawX w g4 25 la an ag) (hb : LawX w g5 25 lb bn bg) (h7 : w.heap[g7]? = some (.cells #[.func (.func fG) #[] #[]] 110 (0, 0))) {p : P2} (hp : okJ la lb p) :
  Calls Try.prog 95 (#[encP p] ++ #[.pointer (some ⟨g7, 0, none⟩), .pointer (some ⟨g4, 0, none⟩), .pointer (some ⟨g5, 0, none⟩)]) w fun e w' => e = .returned (.bool (f (la.good p.1) (lb.good p.2))) ∧ Below w.heap.size w w' := by
 obtain ⟨p1, p2⟩ := p
 obtain ⟨h1, h2⟩ := hp
 simp only at h1 h2 ⊢
 obtain ⟨m1, rfl, hm1⟩ := h1.nat
 obtain ⟨m2, rfl, hm2⟩ := h2.nat
 obtain ⟨b1, o1, cn1, rfl, l1, x1, z1⟩ := ha.gds hoa hm1
 obtain ⟨b2, o2, cn2, rfl, l2, x2, z2⟩ := hb.gds hob hm2
 obtain ⟨r1, hr1⟩ : ∃ q, q = la.good (m1 : Int) := ⟨_, rfl⟩
 obtain ⟨r2, hr2⟩ : ∃ q, q = lb.good (m2 : Int) := ⟨_, rfl⟩
 rw [← hr1] at x1 ⊢
 rw [← hr2] at x2 ⊢
 have hi1 : (m1 : Int) < (la.gd.length : Int) := by omega
 have hi2 : (m2 : Int) < (lb.gd.length : Int) := by omega
 have a0 := cell_blk (i := 1) ha.blk
 have b0 := cell_blk (i := 1) hb.blk
 have c7 := cell_blk (i := 0) h7
 simp only [List.getElem?_toArray, List.getElem?_cons_zero, List.getElem?_cons_succ] at a0 b0 c7
 have lg4 := lt_blk ha.blk
 have lg5 := lt_blk hb.blk
 have lg7 := lt_blk h7
 have HBF := Lib.hid hF
 have eG := hF.ent
 clear hr1 hr2 h1 h2 ha hb hoa hob h7 hm1 hm2 l1 l2 hF
 go_enter Try.func95, Try.ntmps95
 refine wp_noP ?_
 refine wp_seq_k (fun K hK => ?_)
 have HK := Lib.hid hK; clear hK
 go_wp2
 refine HK.out _ _ ?_; clear HK
 obtain ⟨e4, hB, hz⟩ := blk1 (w := w) (a := .cells #[.int .i64 m1, .int .i64 m2] 104) rfl
 obtain ⟨w2, hw2⟩ : ∃ q, q = w.alloc (.cells #[.int .i64 m1, .int .i64 m2] 104) := ⟨_, rfl⟩
 rw [← hw2] at e4 hB hz ⊢
 obtain ⟨wd, hwd⟩ : ∃ q, q = w2.drew := ⟨_, rfl⟩
 have hBd : Below w.heap.size w wd := by rw [hwd]; exact hB.drew
 have e4' : wd.heap[w.heap.size]? = some (.cells #[.int .i64 m1, .int .i64 m2] 104 (0, 0)) := by rw [hwd]; exact e4
 have hzd := hBd.size
 have lg6 := lt_blk e4'
 replace x1 := (hBd.cell (p := ⟨b1, o1 + m1, none⟩) z1).trans x1
 replace x2 := (hBd.cell (p := ⟨b2, o2 + m2, none⟩) z2).trans x2
 replace a0 := (hBd.cell (p := ⟨g4, 1, none⟩) lg4).trans a0
 replace b0 := (hBd.cell (p := ⟨g5, 1, none⟩) lg5).trans b0
 replace c7 := (hBd.cell (p := ⟨g7, 0, none⟩) lg7).trans c7
 replace z1 : b1 < wd.heap.size := by omega
 replace z2 : b2 < wd.heap.size := by omega
 replace lg4 : g4 < wd.heap.size := by omega
 replace lg5 : g5 < wd.heap.size := by omega
 replace lg7 : g7 < wd.heap.size := by omega
 have f0 := cell_blk (i := 0) e4'
 have f1 := cell_blk (i := 1) e4'
 simp only [List.getElem?_toArray, List.getElem?_cons_zero, List.getElem?_cons_succ] at f0 f1
 have HWD := Lib.hid hwd
 have HBd := Lib.hid hBd
 clear hw2 e4 hB hz hwd hBd e4' hzd
 have hRd : Below wd.heap.size wd wd := Below.refl _ _
 refine wp_seq_k (fun K hK => ?_)
 have HK2 := Lib.hid hK; clear hK
 refine wp_region_x (R := fun U => Below wd.heap.size wd U) (S := fun _ => True) (z := 999) rfl ?_
 change wpAnyX _ _ _ _ _ _ _ _ _ _ w2.drew
 rw [← HWD.out]
 refine wpX_kp (i := 0) (oi := ⟨some 6, _, _, _, _, none⟩) (v := ?_) rfl (fun _ _ _ h => h) ?_ ⟨(by assumption), fun _ => trivial⟩ ?_
 rotate_left
 ·intro U hU
  have uc7 := (hU.cell (p := ⟨g7, 0, none⟩) lg7).trans c7
  go_simp
  all_goals with_reducible rfl
 simp only [putE]
 refine wpX_kp (i := 1) (oi := ⟨some 7, _, _, _, _, none⟩) (v := ?_) rfl (fun _ _ _ h => h) ?_ ⟨(by assumption), fun _ => trivial⟩ ?_
 rotate_left
 ·intro U hU
  go_simp
  all_goals with_reducible rfl
 simp only [putE]
 refine wpX_kp (i := 2) (oi := ⟨some 8, _, _, _, _, none⟩) (v := ?_) rfl (fun _ _ _ h => h) ?_ ⟨(by assumption), fun _ => trivial⟩ ?_
 rotate_left
 ·intro U hU
  have ua0 := (hU.cell (p := ⟨g4, 1, none⟩) lg4).trans a0
  go_simp
  all_goals with_reducible rfl
 simp only [putE]
 refine wpX_kp (i := 3) (oi := ⟨some 9, _, _, _, _, none⟩) (v := ?_) rfl (fun _ _ _ h => h) ?_ ⟨(by assumption), fun _ => trivial⟩ ?_
 rotate_left
 ·intro U hU
  go_simp
  all_goals with_reducible rfl
 simp only [putE]
 refine wpX_kp (i := 4) (oi := ⟨some 10, _, _, _, _, none⟩) (v := ?_) rfl (fun _ _ _ h => h) ?_ ⟨(by assumption), fun _ => trivial⟩ ?_
 rotate_left
 ·intro U hU
  have uf0 := (hU.cell (p := ⟨w.heap.size, 0, none⟩) lg6).trans f0
  go_simp
  all_goals with_reducible rfl
 simp only [putE]
 refine wpX_kp (i := 5) (oi := ⟨some 11, _, _, _, _, none⟩) (v := ?_) rfl (fun _ _ _ h => h) ?_ ⟨(by assumption), fun _ => trivial⟩ ?_
 rotate_left
 ·intro U hU
  go_simp
  all_goals with_reducible rfl
 simp only [putE]
 refine wpX_kp (i := 6) (oi := ⟨some 12, _, _, _, _, none⟩) (v := ?_) rfl (fun _ _ _ h => h) ?_ ⟨(by assumption), fun _ => trivial⟩ ?_
 rotate_left
 ·intro U hU
  have ux1 := (hU.cell (p := ⟨b1, o1 + m1, none⟩) z1).trans x1
  go_simp
  all_goals with_reducible rfl
 simp only [putE]
 refine wpX_kp (i := 7) (oi := ⟨some 13, _, _, _, _, none⟩) (v := ?_) rfl (fun _ _ _ h => h) ?_ ⟨(by assumption), fun _ => trivial⟩ ?_
 rotate_left
 ·intro U hU
  go_simp
  all_goals with_reducible rfl
 simp only [putE]
 refine wpX_kp (i := 8) (oi := ⟨some 14, _, _, _, _, none⟩) (v := ?_) rfl (fun _ _ _ h => h) ?_ ⟨(by assumption), fun _ => trivial⟩ ?_
 rotate_left
 ·intro U hU
  have ub0 := (hU.cell (p := ⟨g5, 1, none⟩) lg5).trans b0
  go_simp
  all_goals with_reducible rfl
 simp only [putE]
 refine wpX_kp (i := 9) (oi := ⟨some 15, _, _, _, _, none⟩) (v := ?_) rfl (fun _ _ _ h => h) ?_ ⟨(by assumption), fun _ => trivial⟩ ?_
 rotate_left
 ·intro U hU
  go_simp
  all_goals with_reducible rfl
 simp only [putE]
 refine wpX_kp (i := 10) (oi := ⟨some 16, _, _, _, _, none⟩) (v := ?_) rfl (fun _ _ _ h => h) ?_ ⟨(by assumption), fun _ => trivial⟩ ?_
 rotate_left
 ·intro U hU
  have uf1 := (hU.cell (p := ⟨w.heap.size, 1, none⟩) lg6).trans f1
  go_simp
  all_goals with_reducible rfl
 simp only [putE]
 refine wpX_kp (i := 11) (oi := ⟨some 17, _, _, _, _, none⟩) (v := ?_) rfl (fun _ _ _ h => h) ?_ ⟨(by assumption), fun _ => trivial⟩ ?_
 rotate_left
 ·intro U hU
  go_simp
  all_goals with_reducible rfl
 simp only [putE]
 refine wpX_kp (i := 12) (oi := ⟨some 18, _, _, _, _, none⟩) (v := ?_) rfl (fun _ _ _ h => h) ?_ ⟨(by assumption), fun _ => trivial⟩ ?_
 rotate_left
 ·intro U hU
  have ux2 := (hU.cell (p := ⟨b2, o2 + m2, none⟩) z2).trans x2
  go_simp
  all_goals with_reducible rfl
 simp only [putE]
 refine wpAnyX_one (i := 13) (o := ⟨some 19, _, _, _, _, none⟩) (by kernel_rfl) rfl (by rfl) (fun K1 hK1 => ?_)
 have HK1' := Lib.hid hK1; clear hK1
 refine oper_callg (c := .tmp 6) (xs := #[.tmp 12, .tmp 18]) (ts := _) rfl rfl eG rfl (R := fun v w' => v = .bool (f r1 r2) ∧ Below wd.heap.size wd w') ((HBF.out.call r1 r2 wd).mono (by rintro e w' ⟨rfl, h⟩; exact ⟨_, rfl, rfl, h⟩)) ?_
 rintro vn' wr1 ⟨rfl, hr1'⟩
 refine HK1'.out _ _ ⟨hr1', fun _ => trivial⟩ ?_
 clear HK1'
 try simp only [putE]
 refine wpX_kp (i := 14) (oi := ⟨some 5, _, _, _, _, none⟩) (v := ?_) rfl (fun _ _ _ h => h) ?_ ⟨hr1', fun _ => trivial⟩ ?_
 rotate_left
 ·intro U hU
  go_simp
  all_goals with_reducible rfl
 simp only [putE]
 refine wpAnyX_done (by kernel_rfl) ?_ _
 refine HK2.out _ _ ?_; clear HK2
 go_wp2
 exact noP_ret (bodyPost_ret (results_tmp rfl _ _ _) rfl ⟨rfl, HBd.out.trans (hr1'.mono HBd.out.size)⟩)
theorem enter94 : ∀ args w, (callFunc 94 args).run Try.prog w = .ok (.enter 94 args) w := enters_of Try.func94 (by kernel_rfl) rfl
theorem enter95 : ∀ args w, (callFunc 95 args).run Try.prog w = .ok (.enter 95 args) w := enters_of Try.func95 (by kernel_rfl) rfl
theorem LawX.joint {W : World} {g4 g5 g7 fG : Nat} {la lb : Lw} {an ag bn bg : Value} {f : Bool → Bool → Bool} (hoa : la.Ok) (hob : lb.Ok) (hk : la.k = lb.k) (hF : BoolF fG f) (ha : LawX W g4 25 la an ag) (hb : LawX W g5 25 lb bn bg) (h7 : W.heap[g7]? = some (.cells #[.func (.func fG) #[] #[]] 110 (0, 0))) {st : P2} (hst : okJ la lb st) :
  SysP (jointS la lb st f) (okJ la lb) 94 95 #[.pointer (some ⟨g4, 0, none⟩), .pointer (some ⟨g5, 0, none⟩)] #[.pointer (some ⟨g7, 0, none⟩), .pointer (some ⟨g4, 0, none⟩), .pointer (some ⟨g5, 0, none⟩)] W.heap.size W :=
 ⟨hoa.k1, hoa.k4, hst, fun s c hs hc => ⟨hoa.cl hs.1 hc, hob.cl hs.2 (hk ▸ hc)⟩, fun s hs => by
  have h1 := hs.1.1; have h2 := hs.1.2; have h3 := hs.2.1; have h4 := hs.2.2; have := hoa.n40; have := hob.n40
  omega, fun U hU s c hs hc => next94_any hoa hob hk (ha.below hU) (hb.below hU) hs hc, fun U hU s hs => good95_any hoa hob hF (ha.below hU) (hb.below hU) (blk_keep h7 hU) hs⟩
theorem joint_walk {la lb : Lw} (hoa : la.Ok) (hob : lb.Ok) (hk : la.k = lb.k) (f : Bool → Bool → Bool) {st : P2} (hst : okJ la lb st) : ∃ L, Walk (jointS la lb st f) L ∧ L.length ≤ 1600 ∧ ∀ p ∈ L, okJ la lb p.1 := by
 have hm1 : ∀ (l : Lw) s, s ∈ nI (List.range l.nx.length) ↔ l.st s := fun l s => by
  simp only [List.mem_map, List.mem_range]
  exact ⟨fun ⟨i, hi, e⟩ => by subst e; exact ⟨by omega, by omega⟩, fun hs => ⟨s.toNat, by have := hs.1; have := hs.2; omega, by have := hs.1; omega⟩⟩
 have hmem : ∀ s : P2, s ∈ (nI (List.range la.nx.length)).flatMap (fun x => (nI (List.range lb.nx.length)).map fun y => (x, y)) ↔ okJ la lb s := fun s => by
  rw [List.mem_flatMap]
  constructor
  ·rintro ⟨x, hx, h⟩
   obtain ⟨y, hy, rfl⟩ := List.mem_map.1 h
   exact ⟨(hm1 _ _).1 hx, (hm1 _ _).1 hy⟩
  ·rintro ⟨h1, h2⟩
   exact ⟨s.1, (hm1 _ _).2 h1, List.mem_map.2 ⟨s.2, (hm1 _ _).2 h2, rfl⟩⟩
 obtain ⟨L, h1, h2, h3⟩ := walk_exists (jointS la lb st f) _ ((hmem _).2 hst) (fun s hs c hc => (hmem _).2 ⟨hoa.cl ((hmem s).1 hs).1 hc, hob.cl ((hmem s).1 hs).2 (hk ▸ hc)⟩)
 refine ⟨L, h1, Nat.le_trans h2 ?_, fun p hp => (hmem _).1 (h3 p hp)⟩
 have e : ((nI (List.range la.nx.length)).flatMap (fun x => (nI (List.range lb.nx.length)).map fun y => (x, y))).length = la.nx.length * lb.nx.length := by
  rw [flat_length (sz := lb.nx.length) (fun x => by simp)]
  simp
 rw [e]
 exact Nat.mul_le_mul hoa.n40 hob.n40
end Ytnjgglnpmhjmiaa
end Go.Proofs

