/- Orders: all orders that keep a state. -/
import Derived.Test.YtndmjginmomfiaaW10
import Derived.Test.YtndmjginmomfiaaGenC
open Go Go.RowKit Go.YtndmjginmomfiaaIt
namespace Go.Proofs
namespace Ytndmjginmomfiaa
def ordE (y : Yd) (s m d : Int) : Int := if stE y s m = 0 then (if btw 1 d 1000 = true then 0 else 2) else stE y s m
/-- The orders that keep a state for a day more than d. -/
def ordK (y : Yd) (d s m : Nat) : List Int := (ordL y).filter (leadsB y (lay y d) s m)
def ordKN (y : Yd) (d s m k : Nat) : List Int := ((ordL y).take k).filter (leadsB y (lay y d) s m)
theorem ordL_len (y : Yd) : (ordL y).length = ordC y := by simp [ordL]
theorem ordKN_succ {y : Yd} {d s m k : Nat} (h : k < (ordL y).length) : ordKN y d s m (k + 1) = ordKN y d s m k ++ if leadsB y (lay y d) s m (ordL y)[k] then [(ordL y)[k]] else [] := by
  unfold ordKN
  rw [List.take_succ_eq_append_getElem h, List.filter_append]
  by_cases hs : leadsB y (lay y d) s m (ordL y)[k] = true <;> simp [hs]
theorem ordKN_len (y : Yd) (d s m k : Nat) : (ordKN y d s m k).length ≤ k := by
  unfold ordKN
  refine Nat.le_trans (List.length_filter_le _ _) ?_
  rw [List.length_take]; omega
structure OrI (w3 : World) (y : Yd) (v : Value) (d s m bi base : Nat) (j : Nat) (V : World) : Prop where
  it : V.heap[bi]? = some (.cells (encY y v) 24 (0, 0))
  out : ∃ u, V.heap[w3.heap.size]? = some (.cells #[u] 28 (0, 0)) ∧ V.ownsRow base 3 1 u (ordKN y d s m j).length ((ordKN y d s m j).map (.int .i64))
  be : Below w3.heap.size w3 V
  sz : base ≤ V.heap.size
theorem OrI.stb {w3 : World} {y : Yd} {v : Value} {d s m : Nat} {bi base j B : Nat} (h : w3.heap.size ≤ B) : Stb B (OrI w3 y v d s m bi base j) := fun W W' g' k =>
  ⟨Stb.cells (B := B) W W' g' k.it, (Stb.ex (B := B) fun _ => Stb.cells.and Stb.row) W W' g' k.out, Stb.below h (Nat.le_refl _) W W' g' k.be, Nat.le_trans k.sz g'.size⟩
theorem info3 : (Try.prog.info? 3).map (fun i => (i.zero, i.size, i.bytes)) = some (some (.int .i64 0), 1, 8) := by kernel_rfl
theorem Gm.below {W W' : World} {g : Nat} {y : Yd} {v vl : Value} {ls : List (List Nat)} {B : Nat} (h : Gm W g y v vl ls) (hb : Below B W W') (hB : W.heap.size ≤ B) : Gm W' g y v vl ls :=
  ⟨blk_below h.blk hb (Nat.lt_of_lt_of_le (lt_blk h.blk) hB), h.ly.below hb hB⟩
set_option maxRecDepth 100000 in
set_option maxHeartbeats 4000000 in
theorem ordersX_any (y : Yd) (v : Value) (s m d : Int) (w : World) (hw : SlW w v y.ws) :
    Calls Try.prog 25 #[.agg (encY y v), .int .i64 s, .int .i64 m, .int .i64 d] w fun e w' => Below w.heap.size w w' ∧
      ((ordE y s m d ≠ 0 ∧ e = .returned (.tuple #[.slice none 0 0, .int .i64 (ordE y s m d)])) ∨
       (ordE y s m d = 0 ∧ ∃ u, e = .returned (.tuple #[u, .int .i64 0]) ∧ SlI w' u (ordK y (d - 1).toNat s.toNat m.toNat))) := by
  have hy4 : (encY y v).size = 4 := rfl
  have hst := fun W hW => state_any y v s m W (hw.below (w' := W) hW (Nat.le_refl _))
  have HST := Lib.hid hst
  clear hst
  refine calls_of_wpM Try.func25 rfl ?_
  simp only [Try.ntmps25, List.size_toArray, List.length_cons, List.length_nil, Nat.reduceAdd, Nat.reduceSub, Array.replicate_succ, Array.replicate_zero, List.push_toArray, List.append_toArray, List.nil_append, List.cons_append]
  refine wpIn_seq_k (fun K hK => ?_)
  have HK := Lib.hid hK; clear hK
  gi_wp2
  refine HK.out _ _ ?_; clear HK K
  generalize hw1 : World.alloc _ _ = w1
  obtain ⟨b1, b2, b3, b4, hB, hs1⟩ := blk4 hw1
  clear hw1
  have c2 := cell_blk (i := 0) b2
  have c3 := cell_blk (i := 0) b3
  have c4 := cell_blk (i := 0) b4
  simp only [List.getElem?_toArray, List.getElem?_cons_zero] at c2 c3 c4
  have h43 := HST.out w1 hB
  have hse : ordE y s m d = if stE y s m = 0 then (if btw 1 d 1000 = true then 0 else 2) else stE y s m := rfl
  obtain ⟨E, hE⟩ : ∃ E, E = ordE y s m d := ⟨_, rfl⟩
  rw [← hE] at hse ⊢
  have HSE := Lib.hid hse
  clear hse hE
  refine wpIn_seq_k (fun K hK => ?_)
  have HK := Lib.hid hK; clear hK
  gi_wp2_with (first | (refine wpListIn_load_blk rfl 24 _ rfl _ rfl b1 Try.underlying24 rfl size24 hy4 ?_) | (gi_at_call 43; refine callsTo h43 ?_; rintro e w2 ⟨hb2, hcs⟩; rcases hcs with ⟨hne, rfl⟩ | ⟨he, g, vl, kg, rfl, hg, hk⟩))
  all_goals refine HK.out _ _ ?_; clear HK K
  · have h0b : (stE y s m != 0) = true := bne_iff_ne.2 hne
    have HR := Lib.hid (show E = stE y s m by rw [HSE.out, if_neg hne])
    have HNE := Lib.hid hne
    clear hne
    generalize stE y s m = S at *
    gi_wp2
    exact ⟨_, results_tmp2 rfl _ _ _, (hB.trans (hb2.mono (by omega))).alloc (by have := hb2.size; have := hB.size; omega) _, .inl ⟨by rw [HR.out]; exact HNE.out, by rw [HR.out]; rfl⟩⟩
  have HSF := HSE.out
  rw [if_pos he] at HSF
  obtain ⟨ok, hs0, hm0⟩ := stE_ok.1 he
  obtain ⟨sn, rfl⟩ := Int.eq_ofNat_of_zero_le hs0.1
  obtain ⟨mn, rfl⟩ := Int.eq_ofNat_of_zero_le hm0.1
  replace HSE := Lib.hid HSF
  clear HSF he h43 HST
  generalize hw3 : World.alloc _ _ = w3
  obtain ⟨bg, hb3, hs3⟩ := blk1 hw3
  clear hw3
  have hs2 := hb2.size
  have p5 := blk_keep (blk_keep b2 hb2) hb3
  have p6 := blk_keep (blk_keep b3 hb2) hb3
  have p7 := blk_keep (blk_keep b4 hb2) hb3
  have hB3 : Below w.heap.size w w3 := (hB.trans (hb2.mono (by omega))).trans (hb3.mono (by omega))
  have hg3 := hg.below hb3 (Nat.le_refl _)
  have hws3 := hw.below hB3 (Nat.le_refl _)
  generalize w2.heap.size = bG at *
  clear b1 b2 b3 b4 hb2 hb3 hg c2 c3 c4 hB
  have c7 := cell_blk (i := 0) p7
  simp only [List.getElem?_toArray, List.getElem?_cons_zero] at c7
  cases e1 : btw 1 d 1000
  · have HR := Lib.hid (show E = 2 by rw [HSE.out, e1]; rfl)
    gi_wp2_with (gi_at_call 45; (with_reducible refine callsTo (between_any _ _ _ _) ?_); rintro e w' ⟨rfl, rfl⟩)
    exact ⟨_, results_tmp2 rfl _ _ _, hB3, .inl ⟨by rw [HR.out]; decide, by rw [HR.out]; rfl⟩⟩
  have HE := Lib.hid (show E = 0 by rw [HSE.out, e1]; rfl)
  have hd := btw_true.1 e1
  refine wpIn_seq_k (fun K hK => ?_)
  have HK := Lib.hid hK; clear hK
  gi_wp2_with (gi_at_call 45; (with_reducible refine callsTo (between_any _ _ _ _) ?_); rintro e w' ⟨rfl, rfl⟩)
  refine HK.out _ _ ?_; clear HK K
  refine wpIn_seq_k (fun K hK => ?_)
  have HK := Lib.hid hK; clear hK
  gi_wp2
  refine HK.out _ _ ?_; clear HK K
  generalize hw4 : World.alloc _ _ = w4
  obtain ⟨bo, hb4, hs4⟩ := blk1 hw4
  clear hw4 c7
  have hGW := lt_blk bg
  have hwG : w.heap.size + 4 ≤ bG := by omega
  have G3 := hg3
  have P5 := p5
  have P6 := p6
  have P7 := p7
  have PG := bg
  replace bg := blk_keep bg hb4
  replace hg3 := hg3.below hb4 (Nat.le_refl _)
  have ct := cell_blk (i := 0) bg
  have c0 := cell_blk (i := 0) hg3.blk
  have c1 := cell_blk (i := 1) hg3.blk
  have c2 := cell_blk (i := 2) hg3.blk
  have c3 := cell_blk (i := 3) hg3.blk
  simp only [List.getElem?_toArray, List.getElem?_cons_zero, List.getElem?_cons_succ] at ct c0 c1 c2 c3
  have horc := fun W => orders_any y v W
  simp only [encY] at horc
  refine wpIn_seq_k (fun K hK => ?_)
  have HK := Lib.hid hK; clear hK
  refine wpIn_seq_k (fun K2 hK2 => ?_)
  have HK2 := Lib.hid hK2; clear hK2
  gi_wp2_with (gi_at_call 54; refine callsTo (horc _) ?_; rintro e w5 ⟨rfl, hke, hb5⟩)
  refine HK2.out _ _ ?_; clear HK2 K2
  have hs5 := hb5.size
  have h45 : w4.heap.size < w5.heap.size := lt_blk hke
  obtain ⟨dn, hdn⟩ : ∃ dn : Nat, dn = (d - 1).toNat := ⟨_, rfl⟩
  have hI0 : OrI w3 y v dn sn mn w4.heap.size w5.heap.size 0 w5 :=
    ⟨hke, ⟨_, blk_keep bo hb5, World.ownsRow_nil _ _ _ _⟩, hb4.trans (hb5.mono (by omega)), Nat.le_refl _⟩
  clear ct c0 c1 c2 c3 horc bg p5 p6 p7 hg3 bo hke hb5 hb4
  have hit := ord_iter (fun _ => False) w4.heap.size v y ok
  refine wpIn_block ?_
  refine wpIn_range (gf := 73) (lb := #[.pointer (some ⟨w4.heap.size, 0, none⟩)]) ?hg ?eg hit ?hps
    (OrI w3 y v dn sn mn w4.heap.size w5.heap.size) (fun _ _ => False) ?hK ?sI ?sIx ?h0 ?round ?done ?stop
  case hg => rfl
  case eg => exact (enters_of Try.func73 (by kernel_rfl) rfl)
  case hps => intro z hz; simp [ordY] at hz; obtain ⟨i, _, rfl⟩ := hz; rfl
  case hK => exact fun k V h => h.it
  case sI => exact fun k => OrI.stb (by omega)
  case sIx => exact fun _ => Stb.pure
  case h0 => exact hI0
  case stop => exact fun _ _ h => h.elim
  case round =>
    rintro j hj l2 V hI
    have hj' : j < (ordL y).length := by simpa [ordY] using hj
    have hjc : j < ordC y := by rw [← ordL_len]; exact hj'
    have h41 := ordC_41 ok
    have hyk : (ordY y)[j] = #[.int .i64 (ordL y)[j]] := by simp [ordY]
    have hov : (ordL y)[j] = (j : Int) * y.lots := by simp [ordL]
    have hob := ord_bound ok (k := j) (by omega)
    rw [← hov] at hob
    have hks := ordKN_succ (d := dn) (s := sn) (m := mn) hj'
    have hkl := ordKN_len y dn sn mn j
    rw [hyk]
    generalize (ordL y)[j] = o at *
    have HKS := Lib.hid hks
    have HI := Lib.hid hI
    have hwd : IntKind.i64.wrap (d - 1) = (dn : Int) := by rw [IntWalk.i64_in _ (by omega), hdn]; omega
    have hd9 : dn ≤ 1000 := by omega
    have hsn60 : (sn : Int) ≤ 60 := by have := ok.room1; omega
    clear hyk hks hov hI hI0 hit hj hj' hdn HK
    simp only [List.zip_toArray, List.zip_cons_cons, List.zip_nil_right, List.foldl_toArray', List.size_toArray, List.length_cons, List.length_nil, List.foldl_cons, List.foldl_nil, List.setIfInBounds_toArray, List.set_cons_succ, List.set_cons_zero]
    gi_wp2
    refine ⟨Kx.refl _ _ _, OrI w3 y v dn sn mn w4.heap.size w5.heap.size j, OrI.stb (by omega), HI.out, ?_⟩
    clear HI
    rintro V2 - hI
    have hgm := G3.below hI.be (Nat.le_refl _)
    have hwv := hws3.below hI.be (Nat.le_refl _)
    have hpg := blk_keep PG hI.be
    have hp5 := blk_keep P5 hI.be
    have hp6 := blk_keep P6 hI.be
    have hp7 := blk_keep P7 hI.be
    have c0 := cell_blk (i := 0) hgm.blk
    have c1 := cell_blk (i := 1) hgm.blk
    have c2 := cell_blk (i := 2) hgm.blk
    have c3 := cell_blk (i := 3) hgm.blk
    have ct := cell_blk (i := 0) hpg
    have d5 := cell_blk (i := 0) hp5
    have d6 := cell_blk (i := 0) hp6
    have d7 := cell_blk (i := 0) hp7
    simp only [List.getElem?_toArray, List.getElem?_cons_zero, List.getElem?_cons_succ] at c0 c1 c2 c3 ct d5 d6 d7
    have lg := lt_blk hgm.blk
    have lt := lt_blk hpg
    have l5 := lt_blk hp5
    have l6 := lt_blk hp6
    have l7 := lt_blk hp7
    have e0 := fun (x : Ab V2.heap.size V2) => (x.ok.cell (p := ⟨g, 0, none⟩) lg).trans c0
    have e1 := fun (x : Ab V2.heap.size V2) => (x.ok.cell (p := ⟨g, 1, none⟩) lg).trans c1
    have e2 := fun (x : Ab V2.heap.size V2) => (x.ok.cell (p := ⟨g, 2, none⟩) lg).trans c2
    have e3 := fun (x : Ab V2.heap.size V2) => (x.ok.cell (p := ⟨g, 3, none⟩) lg).trans c3
    have et := fun (x : Ab V2.heap.size V2) => (x.ok.cell (p := ⟨bG, 0, none⟩) lt).trans ct
    have e5 := fun (x : Ab V2.heap.size V2) => (x.ok.cell (p := ⟨w.heap.size + 1, 0, none⟩) l5).trans d5
    have e6 := fun (x : Ab V2.heap.size V2) => (x.ok.cell (p := ⟨w.heap.size + 1 + 1, 0, none⟩) l6).trans d6
    have e7 := fun (x : Ab V2.heap.size V2) => (x.ok.cell (p := ⟨w.heap.size + 1 + 1 + 1, 0, none⟩) l7).trans d7
    have hkc := fun (x : Ab V2.heap.size V2) => kept_any y v vl g kg dn x.val ok (hgm.below x.ok (Nat.le_refl _)) hk (by omega)
    have hlc := fun (x : Ab V2.heap.size V2) => leads_any y v (lay y dn) sn mn o x.val ok (lay_lw ok dn) (by omega) (by omega) hob (hwv.below x.ok (Nat.le_refl _))
    simp only [encY] at hlc
    generalize leadsB y (lay y dn) sn mn o = lb at *
    refine wpIn_block ?_
    refine wpIn_seq ?_
    refine wpIn_region_ab V2.heap.size V2 (by kernel_rfl) (by kernel_rfl) (by kernel_rfl) (fun ⟨_, _, h⟩ => h) (Below.refl _ _) ?_
    unfold AbC
    repeat go_big_quiet_step (first | (go_at_call 56; exact Calls.ab _ (Nat.le_refl _) (hkc _)) | (go_at_call 55; exact Calls.ab _ (Nat.le_refl _) (hlc _)))
    refine wpQuiet_nil ?_
    rintro W' ⟨z, rfl⟩
    have hz := z.ok
    obtain ⟨V1, hV1⟩ : ∃ V1, V1 = z.val := ⟨_, rfl⟩
    rw [← hV1] at hz ⊢
    have hJ : OrI w3 y v dn sn mn w4.heap.size w5.heap.size j V1 := OrI.stb (B := V2.heap.size) hI.be.size V2 V1 (Gr.below hz) hI
    clear e0 e1 e2 e3 et e5 e6 e7 c0 c1 c2 c3 ct d5 d6 d7 lg lt l5 l6 l7 hkc hlc hV1 z hI hgm hwv hpg hp5 hp6 hp7
    cases lb
    · simp only [Bool.false_eq_true, if_false, List.append_nil] at HKS
      refine wpIn_cond (t := false) rfl ?_
      simp only [Bool.false_eq_true, if_false]
      gi_wp2
      obtain ⟨h1, h8, h9, h10⟩ := hJ
      exact ⟨Kx.below hz, h1, by rw [HKS.out]; exact h8, h9, h10⟩
    · simp only [if_true] at HKS
      refine wpIn_cond (t := true) rfl ?_
      simp only [if_true]
      obtain ⟨i3, hi3, hz1, hz2, hz3⟩ := info_parts info3
      obtain ⟨h1, ⟨u, h8, hr⟩, h9, h10⟩ := hJ
      have c9 := cell_blk (i := 0) h8
      simp only [List.getElem?_toArray, List.getElem?_cons_zero] at c9
      have hbW := lt_blk h8
      gi_wp2_with (gi_at_builtin; (refine wpListIn_append_own _ rfl _ _ 28 rfl w5.heap.size 3 i3 (.int .i64 0) 1 8 Try.underlying28 hi3 hz1 hz2 hz3 rfl (by decide) _ _ _ rfl (hr.alloc _) ⟨V1.heap.size, 0, none⟩ 1 1 [.int .i64 o] rfl rfl (cell_new1 rfl) (by simp [Value.oneCell']) (Nat.le_trans (by omega : (ordKN y dn sn mn j).length + 1 ≤ 50) (by decide)) (by omega) (by rw [World.size_alloc]; omega) ?_; intro v' w6 r1 r2 _; obtain ⟨g', cap', rfl⟩ := Joins.ownsRow_form r1 (Nat.succ_pos _); have ap := appended h8 hr (by omega) (by omega) r1 r2; have z1 := ap.cell; have z2 := ap.free))
      refine ⟨(Kx.below hz).trans (ap.kx _ _ (fun h => h) (fun h => h)), (ap.others _ (by omega) (by omega)).trans h1, ⟨_, ap.blk, ?_⟩, ap.below _ _ (Nat.le_refl _) h9, Nat.le_trans h10 ap.size⟩
      · have hr := ap.row
        rw [HKS.out, List.map_append, List.length_append]
        exact hr
  case done =>
    rintro V hI hD
    refine HK.out _ _ ?_
    obtain ⟨h1, ⟨u, h8, hr⟩, h9, h10⟩ := hI
    have c9 := cell_blk (i := 0) h8
    simp only [List.getElem?_toArray, List.getElem?_cons_zero] at c9
    clear hit
    have hlD := lt_blk hD
    gi_wp2
    refine leave_mark rfl hD (results_tmp2 rfl _ _ _) ⟨below_putObj (hB3.trans (h9.mono hB3.size)) (by have := hB3.size; omega), .inr ⟨HE.out, u, rfl, ?_⟩⟩
    have hr := Stb.row (B := w5.heap.size) V _ (Gr.putObj (.deferred none) (Nat.le_refl _) hD rfl) hr
    have hgl := ordKN_len y dn sn mn (ordY y).length
    have hol : (ordY y).length = (ordL y).length := by simp [ordY]
    have hoc := ordL_len y
    have h41 := ordC_41 ok
    have hoe : ordKN y dn sn mn (ordY y).length = ordK y dn sn mn := by unfold ordKN ordK; rw [hol, List.take_length]
    rw [hoe] at hr hgl
    rw [← hdn]
    have hx : (ordK y dn sn mn).length ≤ 17592186044416 := by omega
    exact slI_own hr rfl hx
end Ytndmjginmomfiaa
end Go.Proofs
