/- Break: what breaks an order. -/
import Derived.Test.YtndmjginmomfiaaW12
open Go Go.RowKit Go.YtndmjginmomfiaaIt
namespace Go.Proofs
namespace Ytndmjginmomfiaa
/-- The first number crushed (counted from the least) that leaves a stock which a layer lacks. -/
def brkAt (x : Nat) (lo hi : Int) : Option Nat := (List.range (hi - lo + 1).toNat).find? (fun (k : Nat) => !hasN x (hi - k) (hi - k))
def brkV (y : Yd) (l : List Nat) (s : Int) (m' : Nat) (o : Int) : Option (Nat × Int) := (brkAt (l.getD m' 0) (come y s m' o - (y.at_ m').hi) (come y s m' o - (y.at_ m').lo)).map fun k => (m', (y.at_ m').lo + k)
def brk (y : Yd) (l : List Nat) (s : Int) (m : Nat) (o : Int) : Option (Nat × Int) := (folL y m).findSome? fun m' => brkV y l s m' o
def brE (y : Yd) (s m o d : Int) : Int :=
  if stE y s m = 0 then (if btw 1 d 1000 = true then (if btw 0 o y.most = true ∧ o % y.lots = 0 then (if brk y (lay y (d - 1).toNat) s m.toNat o = none then 5 else 0) else 21) else 2) else stE y s m
def brM (y : Yd) (s m o d : Int) : Int := if brE y s m o d = 0 then ((((brk y (lay y (d - 1).toNat) s m.toNat o).getD (0, 0)).1 : Nat) : Int) else (0 : Int)
def brC (y : Yd) (s m o d : Int) : Int := if brE y s m o d = 0 then ((brk y (lay y (d - 1).toNat) s m.toNat o).getD (0, 0)).2 else 0
theorem results_three {P : Program} {fn : Func} {p q r : Tmp} {t1 t2 t3 : TypeId} (h : fn.results = #[.cell p t1, .cell q t2, .cell r t3]) (tmps : Array Value) (w : World) (b1 b2 b3 : Nat) {v1 v2 v3 : Value} {d1 d2 d3 : TypeDesc}
    (hp1 : tmps.getD p undef = .pointer (some ⟨b1, 0, none⟩)) (hp2 : tmps.getD q undef = .pointer (some ⟨b2, 0, none⟩)) (hp3 : tmps.getD r undef = .pointer (some ⟨b3, 0, none⟩))
    (hc1 : w.cell? ⟨b1, 0, none⟩ = some v1) (hc2 : w.cell? ⟨b2, 0, none⟩ = some v2) (hc3 : w.cell? ⟨b3, 0, none⟩ = some v3)
    (hu1 : P.underlying t1 = some d1) (hd1 : (match d1 with | .struct _ | .array _ _ => true | _ => false) = false)
    (hu2 : P.underlying t2 = some d2) (hd2 : (match d2 with | .struct _ | .array _ _ => true | _ => false) = false)
    (hu3 : P.underlying t3 = some d3) (hd3 : (match d3 with | .struct _ | .array _ _ => true | _ => false) = false) :
    (results fn tmps).run P w = .ok (.tuple #[v1, v2, v3]) w := by
  have hp1' : tmps[p]?.getD undef = .pointer (some ⟨b1, 0, none⟩) := by simpa using hp1
  have hp2' : tmps[q]?.getD undef = .pointer (some ⟨b2, 0, none⟩) := by simpa using hp2
  have hp3' : tmps[r]?.getD undef = .pointer (some ⟨b3, 0, none⟩) := by simpa using hp3
  simp [results, h, hp1', hp2', hp3', asAddr, run_loadVar_one hc1 hu1 hd1, run_loadVar_one hc2 hu2 hd2, run_loadVar_one hc3 hu3 hd3]
theorem Gm.set {V : World} {g c : Nat} {y : Yd} {v vl : Value} {ls : List (List Nat)} {z : Int} {t : TypeId} {fr : Nat × Nat} (h : Gm V g y v vl ls) (hc : V.heap[c]? = some (.cells #[.int .i64 z] t fr)) (x : Value) : Gm (V.setCell ⟨c, 0, none⟩ x) g y v vl ls := by
  refine ⟨(heap_set_other (fun e => by subst e; have := h.blk.symm.trans hc; simp at this)).trans h.blk, ?_⟩
  obtain ⟨ad, cap, hv, hm, hp, hcc⟩ := h.ly
  refine ⟨ad, cap, hv, hm, hp, fun h0 => ?_⟩
  obtain ⟨b, off, ha, hlt, hcell⟩ := hcc h0
  refine ⟨b, off, ha, by rw [World.size_setCell]; exact hlt, fun i hi f u hu => ?_⟩
  have h1 := hcell i hi f u hu
  have hne : b ≠ c := fun e => by
    subst e
    rw [cell_blk hc] at h1
    have hu' : ∃ n : Nat, u = .int .u64 n := by
      have := List.mem_of_getElem? hu
      simp only [encLy, List.mem_map] at this
      obtain ⟨a, _, rfl⟩ := this
      exact ⟨_, rfl⟩
    obtain ⟨n, rfl⟩ := hu'
    cases hj : (off + i * 4 + f) <;> simp [hj] at h1
  exact (World.cell?_of_block (a := ⟨b, off + i * 4 + f, none⟩) (heap_set_other hne)).trans h1
/-- The three cells of the results. -/
structure Rs3 (w V : World) (x y e : Int) : Prop where
  p2 : V.heap[w.heap.size + 1]? = some (.cells #[.int .i64 x] 3 (0, 0))
  p3 : V.heap[w.heap.size + 1 + 1]? = some (.cells #[.int .i64 y] 3 (0, 0))
  p4 : V.heap[w.heap.size + 1 + 1 + 1]? = some (.cells #[.int .i64 e] 33 (0, 0))
  be : Below w.heap.size w V
theorem Rs3.put {w V : World} {x y e : Int} (h : Rs3 w V x y e) (x' y' e' : Int) : Rs3 w (((V.setCell ⟨w.heap.size + 1, 0, none⟩ (.int .i64 x')).setCell ⟨w.heap.size + 1 + 1, 0, none⟩ (.int .i64 y')).setCell ⟨w.heap.size + 1 + 1 + 1, 0, none⟩ (.int .i64 e')) x' y' e' := by
  refine ⟨?_, ?_, ?_, ((h.be.setCell (by simp <;> omega) _).setCell (by simp <;> omega) _).setCell (by simp <;> omega) _⟩
  · rw [heap_set_other (by omega), heap_set_other (by omega), heap_set_blk h.p2]
    rfl
  · rw [heap_set_other (by omega), heap_set_blk ((heap_set_other (by omega)).trans h.p3)]; rfl
  · rw [heap_set_blk ((heap_set_other (by omega)).trans ((heap_set_other (by omega)).trans h.p4))]; rfl
theorem Rs3.drew {w V : World} {x y e : Int} (h : Rs3 w V x y e) : Rs3 w V.drew x y e := ⟨h.p2, h.p3, h.p4, h.be.drew⟩
theorem Rs3.below {w V V' : World} {x y e : Int} (h : Rs3 w V x y e) (hb : Below V.heap.size V V') : Rs3 w V' x y e := ⟨blk_keep h.p2 hb, blk_keep h.p3 hb, blk_keep h.p4 hb, h.be.trans (hb.mono h.be.size)⟩
theorem Rs3.stb {w : World} {x y e : Int} {B : Nat} (hB : w.heap.size ≤ B) : Stb B (fun V => Rs3 w V x y e) := fun W W' g k =>
  ⟨Stb.cells (B := B) W W' g k.p2, Stb.cells (B := B) W W' g k.p3, Stb.cells (B := B) W W' g k.p4, Stb.below hB (Nat.le_refl _) W W' g k.be⟩
theorem Rs3.mark {w V : World} {x y e : Int} (h : Rs3 w V x y e) {D : Nat} {o : Obj} (hD : w.heap.size + 3 < D) : Rs3 w (V.putObj D o) x y e :=
  ⟨(World.putObj_heap_other (by omega)).trans h.p2, (World.putObj_heap_other (by omega)).trans h.p3, (World.putObj_heap_other (by omega)).trans h.p4, below_putObj h.be (by omega)⟩
theorem Rs3.results {w V : World} {x y e : Int} (h : Rs3 w V x y e) {tmps : Array Value} (h1 : tmps.getD 10 undef = .pointer (some ⟨w.heap.size + 1, 0, none⟩)) (h2 : tmps.getD 11 undef = .pointer (some ⟨w.heap.size + 1 + 1, 0, none⟩)) (h3 : tmps.getD 12 undef = .pointer (some ⟨w.heap.size + 1 + 1 + 1, 0, none⟩)) :
    (results Try.f28 tmps).run Try.prog V = .ok (.tuple #[.int .i64 x, .int .i64 y, .int .i64 e]) V :=
  results_three rfl _ _ _ _ _ h1 h2 h3 (by rw [cell_blk h.p2]; rfl) (by rw [cell_blk h.p3]; rfl) (by rw [cell_blk h.p4]; rfl) Try.underlying3 rfl Try.underlying3 rfl Try.underlying33 rfl
/-- What holds behind a round. -/
structure BrI (w : World) (y : Yd) (v : Value) (l : List Nat) (s : Int) (m : Nat) (o : Int) (kL bi : Nat) (k : Nat) (V : World) : Prop where
  i1 : V.heap[bi]? = some (.cells (encY y v) 24 (0, 0))
  i2 : V.heap[bi + 1]? = some (.cells #[.int .i64 s] 3 (0, 0))
  i3 : V.heap[bi + 3]? = some (.cells #[.int .i64 o] 3 (0, 0))
  i4 : V.heap[bi + 2]? = some (.cells #[.int .i64 m] 3 (0, 0))
  ly : V.heap[kL]? = some (.cells (encL l) 110 (0, 0))
  yd : V.heap[w.heap.size]? = some (.cells (encY y v) 24 (0, 0))
  rs : Rs3 w V 0 0 0
  no : ((folL y m).take k).findSome? (fun m' => brkV y l s m' o) = none
theorem BrI.stb {w : World} {y : Yd} {v : Value} {l : List Nat} {s : Int} {m : Nat} {o : Int} {kL bi k B : Nat} (hB : w.heap.size ≤ B) : Stb B (BrI w y v l s m o kL bi k) := fun W W' g h =>
  ⟨Stb.cells (B := B) W W' g h.i1, Stb.cells (B := B) W W' g h.i2, Stb.cells (B := B) W W' g h.i3, Stb.cells (B := B) W W' g h.i4, Stb.cells (B := B) W W' g h.ly, Stb.cells (B := B) W W' g h.yd, Rs3.stb hB W W' g h.rs, h.no⟩
theorem BrI.below {w : World} {y : Yd} {v : Value} {l : List Nat} {s : Int} {m : Nat} {o : Int} {kL bi k : Nat} {V V' : World} (h : BrI w y v l s m o kL bi k V) (hb : Below V.heap.size V V') : BrI w y v l s m o kL bi k V' :=
  ⟨blk_keep h.i1 hb, blk_keep h.i2 hb, blk_keep h.i3 hb, blk_keep h.i4 hb, blk_keep h.ly hb, blk_keep h.yd hb, h.rs.below hb, h.no⟩
set_option maxRecDepth 100000 in
set_option maxHeartbeats 4000000 in
theorem break_any (y : Yd) (v : Value) (s m o d : Int) (w : World) (hw : SlW w v y.ws) :
    Calls Try.prog 28 #[.agg (encY y v), .int .i64 s, .int .i64 m, .int .i64 o, .int .i64 d] w fun e w' => Below w.heap.size w w' ∧
      e = .returned (.tuple #[.int .i64 (brM y s m o d), .int .i64 (brC y s m o d), .int .i64 (brE y s m o d)]) := by
  have hy4 : (encY y v).size = 4 := rfl
  have hst := fun W hW => state_any y v s m W (hw.below (w' := W) hW (Nat.le_refl _))
  have HST := Lib.hid hst
  clear hst
  refine calls_of_wpM Try.func28 rfl ?_
  simp only [Try.ntmps28, List.size_toArray, List.length_cons, List.length_nil, Nat.reduceAdd, Nat.reduceSub, Array.replicate_succ, Array.replicate_zero, List.push_toArray, List.append_toArray, List.nil_append, List.cons_append]
  refine wpIn_seq_k (fun K hK => ?_)
  have HK := Lib.hid hK; clear hK
  gi_wp2
  refine HK.out _ _ ?_; clear HK K
  generalize hw1 : World.alloc _ _ = w1
  obtain ⟨b1, b2, b3, b4, hB, hs1⟩ := blk4 hw1
  clear hw1
  have hse : brE y s m o d = if stE y s m = 0 then (if btw 1 d 1000 = true then (if btw 0 o y.most = true ∧ o % y.lots = 0 then (if brk y (lay y (d - 1).toNat) s m.toNat o = none then 5 else 0) else 21) else 2) else stE y s m := rfl
  have hbm : brM y s m o d = if brE y s m o d = 0 then ((((brk y (lay y (d - 1).toNat) s m.toNat o).getD (0, 0)).1 : Nat) : Int) else (0 : Int) := rfl
  have hbc : brC y s m o d = if brE y s m o d = 0 then ((brk y (lay y (d - 1).toNat) s m.toNat o).getD (0, 0)).2 else 0 := rfl
  generalize brM y s m o d = RM at *
  generalize brC y s m o d = RC at *
  generalize brE y s m o d = RE at *
  have HSE := Lib.hid (And.intro hse (And.intro hbm hbc))
  clear hse hbm hbc
  have h43 := HST.out w1 hB
  have c4 := cell_blk (i := 0) b4
  have f4 := free_blk (i := 0) b4
  simp only [List.getElem?_toArray, List.getElem?_cons_zero] at c4
  have hlb := lt_blk b4
  have h20 : World.cell? w1 ⟨w.heap.size + 1, 0, none⟩ = World.cell? w1 ⟨w.heap.size + 1, 0, none⟩ := rfl
  clear h20
  refine wpIn_seq_k (fun K hK => ?_)
  have HK := Lib.hid hK; clear hK
  gi_wp2_with (first | (refine wpListIn_load_blk rfl 24 _ rfl _ rfl b1 Try.underlying24 rfl size24 hy4 ?_) | (gi_at_call 43; refine callsTo h43 ?_; rintro e w2 ⟨hb2, hcs⟩; have c4' := (hb2.cell (p := ⟨w.heap.size + 1 + 1 + 1, 0, none⟩) hlb).trans c4; have f4' := (hb2.frozen (p := ⟨w.heap.size + 1 + 1 + 1, 0, none⟩) hlb).trans f4; rcases hcs with ⟨hne, rfl⟩ | ⟨he, g, vl, kg, rfl, hg, hk⟩))
  all_goals refine HK.out _ _ ?_; clear HK K
  · have h0b : (stE y s m != 0) = true := bne_iff_ne.2 hne
    obtain ⟨h1, h2, h3⟩ := HSE.out
    rw [if_neg hne] at h1
    rw [h1, if_neg hne] at h2 h3
    have HN := Lib.hid (And.intro h1 (And.intro h2 h3))
    have hr3 : Rs3 w (w2.setCell ⟨w.heap.size + 1 + 1 + 1, 0, none⟩ (.int .i64 (stE y s m))) 0 0 (stE y s m) :=
      ⟨(heap_set_other (by omega)).trans (blk_keep b2 hb2), (heap_set_other (by omega)).trans (blk_keep b3 hb2), (by rw [heap_set_blk (blk_keep b4 hb2)]; rfl), (hB.trans (hb2.mono (by omega))).setCell (by simp <;> omega) _⟩
    clear h1 h2 h3 hne b1 b2 b3 b4 c4 f4 c4' f4' hb2 h43 HST HSE
    generalize World.setCell w2 _ _ = w3 at *
    generalize stE y s m = S at *
    have c2 := cell_blk (i := 0) hr3.p2
    have f2 := free_blk (i := 0) hr3.p2
    have c3 := cell_blk (i := 0) hr3.p3
    have f3 := free_blk (i := 0) hr3.p3
    have c4 := cell_blk (i := 0) hr3.p4
    have f4 := free_blk (i := 0) hr3.p4
    simp only [List.getElem?_toArray, List.getElem?_cons_zero] at c2 c3 c4
    gi_wp2
    refine wpIn_of_wp ?_
    go_region
    all_goals
      rename_i hkk
      refine hkk _ _ ?_
      clear hkk
      have hr4 := (hr3.put 0 0 S).drew
      clear c2 f2 c3 f3 c4 f4
      gi_wp2
      exact ⟨_, hr4.results rfl rfl rfl, hr4.be, by rw [HN.out.1, HN.out.2.1, HN.out.2.2]⟩
  have HSF := HSE.out.1
  rw [if_pos he] at HSF
  obtain ⟨ok, hs0, hm0⟩ := stE_ok.1 he
  obtain ⟨sn, rfl⟩ := Int.eq_ofNat_of_zero_le hs0.1
  obtain ⟨mn, rfl⟩ := Int.eq_ofNat_of_zero_le hm0.1
  replace HSE := Lib.hid (And.intro HSF HSE.out.2)
  rw [he] at *
  have hr3 : Rs3 w (w2.setCell ⟨w.heap.size + 1 + 1 + 1, 0, none⟩ (.int .i64 0)) 0 0 0 :=
    ⟨(heap_set_other (by omega)).trans (blk_keep b2 hb2), (heap_set_other (by omega)).trans (blk_keep b3 hb2), (by rw [heap_set_blk (blk_keep b4 hb2)]; rfl), (hB.trans (hb2.mono (by omega))).setCell (by simp <;> omega) _⟩
  have hb5 := (heap_set_other (v := .int .i64 0) (b' := w.heap.size + 1 + 1 + 1) (i := 0) (by omega)).trans (blk_keep b1 hb2)
  have hg3 := hg.set (blk_keep b4 hb2) (.int .i64 0)
  have hsz : (w2.setCell ⟨w.heap.size + 1 + 1 + 1, 0, none⟩ (.int .i64 0)).heap.size = w2.heap.size := by simp
  have hs2 := hb2.size
  clear HSF he h43 HST b1 b2 b3 b4 c4 f4 c4' f4' hb2 hg hB
  generalize World.setCell w2 _ _ = w3 at *
  have hw3 := hw.below hr3.be (Nat.le_refl _)
  have c2 := cell_blk (i := 0) hr3.p2
  have f2 := free_blk (i := 0) hr3.p2
  have c3 := cell_blk (i := 0) hr3.p3
  have f3 := free_blk (i := 0) hr3.p3
  have c4 := cell_blk (i := 0) hr3.p4
  have f4 := free_blk (i := 0) hr3.p4
  simp only [List.getElem?_toArray, List.getElem?_cons_zero] at c2 c3 c4
  cases e1 : btw 1 d 1000
  · obtain ⟨h1, h2, h3⟩ := HSE.out
    rw [e1] at h1
    simp only [Bool.false_eq_true, if_false] at h1
    rw [h1] at h2 h3
    have HN := Lib.hid (And.intro h1 (And.intro h2 h3))
    clear h1 h2 h3 HSE
    gi_wp2_with (gi_at_call 45; (with_reducible refine callsTo (between_any _ _ _ _) ?_); rintro e w' ⟨rfl, rfl⟩)
    have hr4 := hr3.put 0 0 2
    exact ⟨_, hr4.results rfl rfl rfl, hr4.be, by rw [HN.out.1, HN.out.2.1, HN.out.2.2]; rfl⟩
  have d1 := cell_blk (i := 1) hb5
  have d2 := cell_blk (i := 2) hb5
  simp only [encY, List.getElem?_toArray, List.getElem?_cons_zero, List.getElem?_cons_succ] at d1 d2
  have hlt := lt_blk hb5
  have hl1 := ok.lots0
  have hl0 : ¬ y.lots = 0 := by omega
  have hdr := btw_true.1 e1
  have BAD : ¬ (btw 0 o y.most = true ∧ o % y.lots = 0) → RE = 21 ∧ RM = 0 ∧ RC = 0 := by
    intro hn
    obtain ⟨h1, h2, h3⟩ := HSE.out
    rw [e1, if_pos rfl, if_neg hn] at h1
    rw [h1] at h2 h3
    exact ⟨h1, h2, h3⟩
  cases e2 : btw 0 o y.most
  · have HN := Lib.hid (BAD (by simp [e2]))
    clear BAD
    gi_wp2_with (first | (gi_at_call 45; (with_reducible refine callsTo (between_any _ _ _ _) ?_); rintro e w' ⟨rfl, rfl⟩))
    have hr4 := hr3.put 0 0 21
    exact ⟨_, hr4.results rfl rfl rfl, hr4.be, by rw [HN.out.1, HN.out.2.1, HN.out.2.2]⟩
  have ho := btw_true.1 e2
  have htm : o.tmod y.lots = o % y.lots := Int.tmod_eq_emod_of_nonneg ho.1
  by_cases e3 : o % y.lots = 0
  rotate_left
  · have HN := Lib.hid (BAD (by simp [e3]))
    have e3b : (o % y.lots != 0) = true := bne_iff_ne.2 e3
    clear BAD e3
    gi_wp2_with (first | (gi_at_call 45; (with_reducible refine callsTo (between_any _ _ _ _) ?_); rintro e w' ⟨rfl, rfl⟩))
    have hr4 := hr3.put 0 0 21
    exact ⟨_, hr4.results rfl rfl rfl, hr4.be, by rw [HN.out.1, HN.out.2.1, HN.out.2.2]⟩
  have e3b : (o % y.lots != 0) = false := by rw [e3]; rfl
  have HG := Lib.hid (show RE = (if brk y (lay y (d - 1).toNat) sn mn o = none then 5 else 0) by
    have := HSE.out.1
    rw [e1, if_pos rfl, if_pos ⟨e2, e3⟩] at this
    exact this)
  obtain ⟨dn, hdn⟩ : ∃ dn : Nat, dn = (d - 1).toNat := ⟨_, rfl⟩
  have hwd : d - 1 = (dn : Int) := by omega
  have hd9 : dn ≤ 1000 := by omega
  have hRM := HSE.out.2
  rw [← hdn] at HG hRM
  have HM := Lib.hid hRM
  clear BAD e3 HSE hRM hdn
  refine wpIn_seq_k (fun K hK => ?_)
  have HK := Lib.hid hK; clear hK
  gi_wp2_with (first | (gi_at_call 45; (with_reducible refine callsTo (between_any _ _ _ _) ?_); rintro e w' ⟨rfl, rfl⟩))
  refine HK.out _ _ ?_; clear HK K
  have hkp := kept_any y v vl g kg dn w3 ok hg3 hk hd9
  refine wpIn_seq_k (fun K hK => ?_)
  have HK := Lib.hid hK; clear hK
  have hle : (encL (lay y dn)).size = 4 := by rw [encL_size, lay_len]
  gi_wp2_with (first | (refine wpListIn_store_blk rfl 110 _ _ rfl _ rfl rfl (heap_newI rfl) size110 hle rfl (encL_one _) ?_) | (gi_at_call 56; refine callsTo hkp ?_; rintro e w4 ⟨rfl, hb4⟩))
  refine HK.out _ _ ?_; clear HK K
  have hb4' : Below w3.heap.size w3 (w4.alloc (.cells #[.int .u64 0, .int .u64 0, .int .u64 0, .int .u64 0] 110)) := hb4.alloc hb4.size _
  generalize hw5 : World.putObj _ _ _ = w5
  have hL5 : w5.heap[w4.heap.size]? = some (.cells (encL (lay y dn)) 110 (0, 0)) := by rw [← hw5]; exact World.putObj_heap_same (by rw [World.size_alloc]; omega)
  have hB5 : Below w3.heap.size w3 w5 := by rw [← hw5]; exact below_putObj hb4' hb4.size
  have h45 := lt_blk hL5
  have hs34 := hb4.size
  clear hw5 hb4' hb4 hle hkp
  have hr5 := hr3.below hB5
  have hy5 := blk_keep hb5 hB5
  have hg5 := hg3.below hB5 (Nat.le_refl _)
  have hw5 := hw.below hr5.be (Nat.le_refl _)
  have hB5' := hs34
  have hwz : w.heap.size ≤ w3.heap.size := hr3.be.size
  clear hr3 hb5 hg3 hw3 c2 f2 c3 f3 c4 f4 d1 d2 hlt hsz hs2 hlb hs1
  have c0 := cell_blk (i := 0) hg5.blk
  have c1 := cell_blk (i := 1) hg5.blk
  have c2 := cell_blk (i := 2) hg5.blk
  have c3 := cell_blk (i := 3) hg5.blk
  simp only [List.getElem?_toArray, List.getElem?_cons_zero, List.getElem?_cons_succ] at c0 c1 c2 c3
  have hfo := follows_any y v sn mn o w5 hw5
  simp only [encY] at hfo
  refine wpIn_seq_k (fun K hK => ?_)
  have HK := Lib.hid hK; clear hK
  refine wpIn_seq_k (fun K2 hK2 => ?_)
  have HK2 := Lib.hid hK2; clear hK2
  gi_wp2_with (gi_at_call 59; refine callsTo hfo ?_; rintro e w6 ⟨rfl, hke, hb6⟩)
  refine HK2.out _ _ ?_; clear HK2 K2
  have hs6 := hb6.size
  have h56 : w5.heap.size + 3 < w6.heap.size := lt_blk hke.od
  have hI0 : BrI w y v (lay y dn) sn mn o w4.heap.size w5.heap.size 0 w6 :=
    ⟨hke.yd, hke.st, hke.od, hke.we, blk_keep hL5 hb6, blk_keep hy5 hb6, hr5.below hb6, rfl⟩
  clear c0 c1 c2 c3 hfo hke hb6 hL5 hy5 hr5 hg5 hw5 hB5
  have hsb : 0 ≤ (sn : Int) ∧ (sn : Int) ≤ 60 := by have := ok.room1; omega
  have hob : 0 ≤ o ∧ o ≤ 80 := by have := ok.most1; omega
  have hml : mn < y.ws.length := by omega
  have hit := fol_iter (fun _ => False) w5.heap.size (w5.heap.size + 1) (w5.heap.size + 3) (w5.heap.size + 2) v y sn mn o ok hml hsb hob
  have hyl : (folY y sn mn o).length = (folL y mn).length := by simp [folY]
  refine wpIn_block ?_
  refine wpIn_range (gf := 74) (lb := #[.pointer (some ⟨w5.heap.size, 0, none⟩), .pointer (some ⟨w5.heap.size + 1, 0, none⟩), .pointer (some ⟨w5.heap.size + 3, 0, none⟩), .pointer (some ⟨w5.heap.size + 2, 0, none⟩)]) ?hg ?eg hit ?hps
    (BrI w y v (lay y dn) sn mn o w4.heap.size w5.heap.size)
    (fun c W => c = .ret ∧ ∃ r, brk y (lay y dn) sn mn o = some r ∧ Rs3 w W r.1 r.2 0) ?hK ?sI ?sIx ?h0 ?round ?done ?stop
  case hg => rfl
  case eg => exact (enters_of Try.func74 (by kernel_rfl) rfl)
  case hps => intro z hz; simp [folY] at hz; obtain ⟨i, _, rfl⟩ := hz; rfl
  case hK => exact fun k W h => ⟨h.i1, h.i2, h.i3, h.i4, hw.below h.rs.be (Nat.le_refl _)⟩
  case sI => exact fun k => BrI.stb (by omega)
  case sIx => exact fun c => Stb.pure.and (Stb.ex fun r => Stb.pure.and (Rs3.stb (by omega)))
  case h0 => exact hI0
  case stop =>
    rintro c W ⟨rfl, r, hbr, hrs⟩ hD
    refine wpIn_ret ?_
    have hp := hrs.be
    have hlD := lt_blk hD
    have hr7 : Rs3 w (W.putObj w6.heap.size (.deferred none)) r.1 r.2 0 := ⟨(World.putObj_heap_other (by omega)).trans hrs.p2, (World.putObj_heap_other (by omega)).trans hrs.p3, (World.putObj_heap_other (by omega)).trans hrs.p4, below_putObj hrs.be (by omega)⟩
    have h1 := HG.out
    rw [hbr] at h1
    simp only [reduceCtorEq, if_false] at h1
    obtain ⟨h2, h3⟩ := HM.out
    simp only [Int.toNat_natCast] at h2 h3
    rw [h1, hbr] at h2 h3
    refine leave_mark rfl hD (hr7.results rfl rfl rfl) ⟨hr7.be, ?_⟩
    rw [h1, h2, h3]
    rfl
  case done =>
    rintro W hI hD
    refine HK.out _ _ ?_
    have hbr : brk y (lay y dn) sn mn o = none := by have := hI.no; rwa [List.take_of_length_le (by rw [hyl]; exact Nat.le_refl _)] at this
    have h1 := HG.out
    rw [hbr, if_pos rfl] at h1
    obtain ⟨h2, h3⟩ := HM.out
    rw [h1] at h2 h3
    have HN := Lib.hid (And.intro h1 (And.intro h2 h3))
    have hrs := hI.rs
    have c2 := cell_blk (i := 0) hrs.p2
    have f2 := free_blk (i := 0) hrs.p2
    have c3 := cell_blk (i := 0) hrs.p3
    have f3 := free_blk (i := 0) hrs.p3
    have c4 := cell_blk (i := 0) hrs.p4
    have f4 := free_blk (i := 0) hrs.p4
    simp only [List.getElem?_toArray, List.getElem?_cons_zero] at c2 c3 c4
    clear h1 h2 h3 hbr hit hI
    gi_wp2
    have hp := hrs.be
    have hr6 := hrs.put 0 0 5
    have hr7 := hr6.mark (D := w6.heap.size) (o := .deferred none) (by omega)
    exact leave_mark rfl (by rw [heap_set_other (by omega), heap_set_other (by omega), heap_set_other (by omega)]; exact hD) (hr7.results rfl rfl rfl) ⟨hr7.be, by rw [HN.out.1, HN.out.2.1, HN.out.2.2]; rfl⟩
  case round =>
    rintro k hk l2 W hI
    have hk' : k < (folL y mn).length := by rw [← hyl]; exact hk
    have hyk : (folY y sn mn o)[k] = #[.int .i64 (((folL y mn)[k] : Nat) : Int), .agg #[.int .i64 (come y sn (folL y mn)[k] o - (y.at_ (folL y mn)[k]).hi), .int .i64 (come y sn (folL y mn)[k] o - (y.at_ (folL y mn)[k]).lo)]] := by simp [folY]
    have hml : (folL y mn)[k] < y.ws.length := fol_lt (List.getElem_mem hk')
    have hts : ((folL y mn).take (k + 1)).findSome? (fun m' => brkV y (lay y dn) sn m' o) = (((folL y mn).take k).findSome? (fun m' => brkV y (lay y dn) sn m' o)).or (brkV y (lay y dn) sn (folL y mn)[k] o) := by
      rw [List.take_succ_eq_append_getElem hk', List.findSome?_append]
      simp
    have hyes : ∀ r, ((folL y mn).take (k + 1)).findSome? (fun m' => brkV y (lay y dn) sn m' o) = some r → brk y (lay y dn) sn mn o = some r := fun r h => by
      unfold brk
      rw [← List.take_append_drop (k + 1) (folL y mn), List.findSome?_append, h]
      rfl
    rw [hI.no, Option.none_or] at hts
    rw [hyk]
    have hcb := come_bound ok hml hsb hob
    have hea := ok.each _ hml
    generalize (folL y mn)[k] = m' at *
    rw [hts] at hyes
    have HT := Lib.hid (And.intro hts hyes)
    have HI := Lib.hid hI
    clear hyk hts hyes hI hI0 hit HK
    simp only [List.zip_toArray, List.zip_cons_cons, List.zip_nil_right, List.foldl_toArray', List.size_toArray, List.length_cons, List.length_nil, List.foldl_cons, List.foldl_nil, List.setIfInBounds_toArray, List.set_cons_succ, List.set_cons_zero]
    gi_wp2
    obtain ⟨lo, hlo⟩ : ∃ lo, lo = come y sn m' o - (y.at_ m').hi := ⟨_, rfl⟩
    obtain ⟨hi, hhi⟩ : ∃ hi, hi = come y sn m' o - (y.at_ m').lo := ⟨_, rfl⟩
    have hbd : lo ≤ hi ∧ -1000 ≤ lo ∧ hi ≤ 1000 := by omega
    have hcr : (y.at_ m').lo = (y.at_ m').lo := rfl
    have hbk : brkV y (lay y dn) sn m' o = (brkAt ((lay y dn).getD m' 0) lo hi).map fun k => (m', (y.at_ m').lo + k) := by rw [hlo, hhi]; rfl
    rw [← hlo, ← hhi]
    rw [hbk] at HT
    have hc60 : 0 ≤ (y.at_ m').lo ∧ (y.at_ m').lo ≤ 60 := by omega
    clear hlo hhi hcb hea hbk hcr
    have hbe : Below W.heap.size W (W.alloc (.cells #[.int .i64 lo, .int .i64 hi] 56)) := (Below.refl _ _).alloc (Nat.le_refl _) _
    refine ⟨Kx.below hbe, fun V => BrI w y v (lay y dn) sn mn o w4.heap.size w5.heap.size k V ∧ V.heap[W.heap.size]? = some (.cells #[.int .i64 lo, .int .i64 hi] 56 (0, 0)), (BrI.stb (by omega)).and Stb.cells, ⟨HI.out.below hbe, heap_newI rfl⟩, ?_⟩
    have HIW := HI
    clear HI hbe
    rintro V - ⟨hI, q7⟩
    have hm4 : m' < 4 := by have := ok.n1; omega
    have hLw := lay_lw ok dn
    have hx := hLw.lt m'
    have c5 := (cell_blk (i := m') hI.ly).trans (encL_get (by rw [lay_len]; exact hm4))
    have l5 := lt_blk hI.ly
    have c7 := cell_blk (i := 0) q7
    have c7' := cell_blk (i := 1) q7
    have l7 := lt_blk q7
    simp only [List.getElem?_toArray, List.getElem?_cons_zero, List.getElem?_cons_succ] at c7 c7'
    generalize (lay y dn).getD m' 0 = x at *
    have hi0 : (0 : Int) ≤ (m' : Int) := by omega
    have hi4 : (m' : Int) < 4 := by omega
    refine wpIn_block ?_
    gi_wp2
    gi_loopw [17] (fun i wr => ∃ k : Nat, k ≤ (hi - lo + 1).toNat ∧ i = .int .i64 (hi - k) ∧ (∀ j : Nat, j < k → hasN x (hi - j) (hi - j) = true) ∧ Below V.heap.size V wr) (fun i _ => (intOf i - lo + 1).toNat)
    case atStart => exact ⟨0, Nat.zero_le _, by simp, fun j hj => by omega, Below.refl _ _⟩
    case round =>
      obtain ⟨n, hn, rfl, hbf, hb⟩ := hrel
      have d5 := (hb.cell (p := ⟨w4.heap.size, m', none⟩) l5).trans c5
      have d7 := (hb.cell (p := ⟨W.heap.size, 0, none⟩) l7).trans c7
      have hBF := Lib.hid hbf
      clear hbf
      by_cases hge : lo ≤ hi - n
      · have hha := has_any x (hi - n) (hi - n) wr hx (Int.le_refl _)
        generalize hlf : hi - (n : Int) = lf at *
        have HLF := Lib.hid hlf
        have hlb : -1000 ≤ lf ∧ lf ≤ 1000 := by omega
        clear hlf
        obtain ⟨bb, hbb⟩ : ∃ bb, bb = hasN x lf lf := ⟨_, rfl⟩
        rw [← hbb] at hha
        have HBB := Lib.hid hbb
        clear hbb
        refine wpIn_seq_k (fun K hK => ?_)
        have HK := Lib.hid hK; clear hK
        gi_wp2
        refine HK.out _ _ ?_; clear HK K
        cases bb
        · refine wpIn_seq_k (fun K hK => ?_)
          have HK := Lib.hid hK; clear hK
          refine wpIn_block ?_
          gi_wp2_with (gi_at_call 60; refine callsTo hha ?_; rintro e wq ⟨rfl, hbq⟩)
          rename_i hkk
          have hbv := hb.trans (hbq.mono hb.size)
          have hI2 := hI.below hbv
          have hat := at_lt hml
          obtain ⟨ad, cap, rfl, hmx, hcp, hc⟩ := hw
          obtain ⟨b, off, rfl, hlt, hcell⟩ := hc (by omega)
          obtain ⟨-, k1, -, -⟩ := wt_cells hcell (n := m') hml rfl
          rw [← hat] at k1
          have k1 := (hI2.rs.be.cell (p := ⟨b, off + m' * 4 + 1, none⟩) hlt).trans k1
          have d7' := ((hbv.cell (p := ⟨W.heap.size, 1, none⟩) l7).trans c7')
          have d3 := cell_blk (i := 3) hI2.yd
          simp only [encY, List.getElem?_toArray, List.getElem?_cons_zero, List.getElem?_cons_succ] at d3
          have c2 := cell_blk (i := 0) hI2.rs.p2
          have f2 := free_blk (i := 0) hI2.rs.p2
          have c3 := cell_blk (i := 0) hI2.rs.p3
          have f3 := free_blk (i := 0) hI2.rs.p3
          have c4 := cell_blk (i := 0) hI2.rs.p4
          have f4 := free_blk (i := 0) hI2.rs.p4
          simp only [List.getElem?_toArray, List.getElem?_cons_zero] at c2 c3 c4
          generalize hlc : (y.at_ m').lo = lc at *
          have hm' : (m' : Int) < (y.ws.length : Int) := by omega
          have h3W : w.heap.size + 1 + 1 + 1 < W.heap.size := lt_blk (HIW.out).rs.p4
          have hrq := hI2.rs
          clear hcell hc hat d5 d7 c5 c7 c7' hI hI2
          refine wpIn_region_held (S := fun U => U.cell? ⟨w.heap.size, 3, none⟩ = some (.slice (some ⟨b, off, none⟩) y.ws.length cap) ∧ U.cell? ⟨b, off + m' * 4 + 1, none⟩ = some (.int .i64 lc) ∧ U.cell? ⟨W.heap.size, 1, none⟩ = some (.int .i64 hi)) (by kernel_rfl) (by kernel_rfl) (fun ⟨_, _, h⟩ => h) ?_
          have hS : ∀ U : World, U.heap[w.heap.size]? = wq.heap[w.heap.size]? → U.heap[b]? = wq.heap[b]? → U.heap[W.heap.size]? = wq.heap[W.heap.size]? → U.cell? ⟨w.heap.size, 3, none⟩ = some (.slice (some ⟨b, off, none⟩) y.ws.length cap) ∧ U.cell? ⟨b, off + m' * 4 + 1, none⟩ = some (.int .i64 lc) ∧ U.cell? ⟨W.heap.size, 1, none⟩ = some (.int .i64 hi) := fun U h1 h2 h3 => ⟨(World.cell?_of_block h1).trans d3, (World.cell?_of_block h2).trans k1, (World.cell?_of_block h3).trans d7'⟩
          have hS0 := hS (World.drew wq) rfl rfl rfl
          change wpAnyH _ _ _ _ _ _ _ _ (World.drew wq)
          refine wpAnyH_take (i := 0) (v := ?_) rfl (by kernel_rfl) (by kernel_rfl) (by kernel_rfl) (fun _ _ _ h => h) (Or.inl ⟨by rfl, ?_⟩) hS0 ?_
          rotate_left
          · intro U hU
            obtain ⟨u1, u2, u3⟩ := hU
            go_simp
            all_goals with_reducible rfl
          simp only [Act.put, List.setIfInBounds_toArray]
          refine wpAnyH_take (i := 1) (v := ?_) rfl (by kernel_rfl) (by kernel_rfl) (by kernel_rfl) (fun _ _ _ h => h) (Or.inl ⟨by rfl, ?_⟩) hS0 ?_
          rotate_left
          · intro U hU
            obtain ⟨u1, u2, u3⟩ := hU
            go_simp
            all_goals with_reducible rfl
          simp only [Act.put]
          refine wpAnyH_take (i := 2) (v := ?_) rfl (by kernel_rfl) (by kernel_rfl) (by kernel_rfl) (fun _ _ _ h => h) (Or.inl ⟨by rfl, ?_⟩) hS0 ?_
          rotate_left
          · intro U hU
            obtain ⟨u1, u2, u3⟩ := hU
            go_simp
            all_goals with_reducible rfl
          simp only [Act.put]
          refine wpAnyH_take (i := 3) (v := ?_) rfl (by kernel_rfl) (by kernel_rfl) (by kernel_rfl) (fun _ _ _ h => h) (Or.inl ⟨by rfl, ?_⟩) hS0 ?_
          rotate_left
          · intro U hU
            obtain ⟨u1, u2, u3⟩ := hU
            go_simp
            all_goals with_reducible rfl
          simp only [Act.put]
          refine wpAnyH_take (i := 4) (v := ?_) rfl (by kernel_rfl) (by kernel_rfl) (by kernel_rfl) (fun _ _ _ h => h) (Or.inl ⟨by rfl, ?_⟩) hS0 ?_
          rotate_left
          · intro U hU
            obtain ⟨u1, u2, u3⟩ := hU
            go_simp
            all_goals with_reducible rfl
          simp only [Act.put]
          refine wpAnyH_take (i := 5) (v := ?_) rfl (by kernel_rfl) (by kernel_rfl) (by kernel_rfl) (fun _ _ _ h => h) (Or.inl ⟨by rfl, ?_⟩) hS0 ?_
          rotate_left
          · intro U hU
            obtain ⟨u1, u2, u3⟩ := hU
            go_simp
            all_goals with_reducible rfl
          simp only [Act.put]
          refine wpAnyH_take (i := 6) (v := ?_) rfl (by kernel_rfl) (by kernel_rfl) (by kernel_rfl) (fun _ _ _ h => h) (Or.inl ⟨by rfl, ?_⟩) hS0 ?_
          rotate_left
          · intro U hU
            obtain ⟨u1, u2, u3⟩ := hU
            go_simp
            all_goals with_reducible rfl
          simp only [Act.put]
          refine wpAnyH_take (i := 7) (v := ?_) rfl (by kernel_rfl) (by kernel_rfl) (by kernel_rfl) (fun _ _ _ h => h) (Or.inl ⟨by rfl, ?_⟩) hS0 ?_
          rotate_left
          · intro U hU
            obtain ⟨u1, u2, u3⟩ := hU
            go_simp
            all_goals with_reducible rfl
          simp only [Act.put]
          refine wpAnyH_take (i := 8) (v := ?_) rfl (by kernel_rfl) (by kernel_rfl) (by kernel_rfl) (fun _ _ _ h => h) (Or.inl ⟨by rfl, ?_⟩) hS0 ?_
          rotate_left
          · intro U hU
            obtain ⟨u1, u2, u3⟩ := hU
            go_simp
            all_goals with_reducible rfl
          simp only [Act.put]
          refine wpAnyH_take (i := 9) (v := ?_) rfl (by kernel_rfl) (by kernel_rfl) (by kernel_rfl) (fun _ _ _ h => h) (Or.inl ⟨by rfl, ?_⟩) hS0 ?_
          rotate_left
          · intro U hU
            obtain ⟨u1, u2, u3⟩ := hU
            go_simp
            all_goals with_reducible rfl
          simp only [Act.put]
          refine wpAnyH_take (i := 10) (v := ?_) rfl (by kernel_rfl) (by kernel_rfl) (by kernel_rfl) (fun _ _ _ h => h) (Or.inl ⟨by rfl, ?_⟩) hS0 ?_
          rotate_left
          · intro U hU
            obtain ⟨u1, u2, u3⟩ := hU
            go_simp
            all_goals with_reducible rfl
          simp only [Act.put]
          refine wpAnyH_take (i := 11) (v := ?_) rfl (by kernel_rfl) (by kernel_rfl) (by kernel_rfl) (fun _ _ _ h => h) (Or.inl ⟨by rfl, ?_⟩) hS0 ?_
          rotate_left
          · intro U hU
            obtain ⟨u1, u2, u3⟩ := hU
            go_simp
            all_goals with_reducible rfl
          simp only [Act.put]
          refine wpAnyH_take (i := 12) (v := ?_) rfl (by kernel_rfl) (by kernel_rfl) (by kernel_rfl) (fun _ _ _ h => h) (Or.inl ⟨by rfl, ?_⟩) hS0 ?_
          rotate_left
          · intro U hU
            obtain ⟨u1, u2, u3⟩ := hU
            go_simp
            all_goals with_reducible rfl
          simp only [Act.put]
          refine wpAnyH_one (i := 13) (by kernel_rfl) rfl (by rfl) (fun K hK => ?_)
          have HK := Lib.hid hK; clear hK
          go_simp
          refine HK.out _ _ (hS _ (heap_set_other (by omega)) (heap_set_other (by omega)) (heap_set_other (by omega))) ?_
          clear HK K
          refine wpAnyH_one (i := 14) (by kernel_rfl) rfl (by rfl) (fun K hK => ?_)
          have HK := Lib.hid hK; clear hK
          go_simp
          refine HK.out _ _ (hS _ ((heap_set_other (by omega)).trans (heap_set_other (by omega))) ((heap_set_other (by omega)).trans (heap_set_other (by omega))) ((heap_set_other (by omega)).trans (heap_set_other (by omega)))) ?_
          clear HK K
          refine wpAnyH_one (i := 15) (by kernel_rfl) rfl (by rfl) (fun K hK => ?_)
          have HK := Lib.hid hK; clear hK
          go_simp
          refine HK.out _ _ (hS _ ((heap_set_other (by omega)).trans ((heap_set_other (by omega)).trans (heap_set_other (by omega)))) ((heap_set_other (by omega)).trans ((heap_set_other (by omega)).trans (heap_set_other (by omega)))) ((heap_set_other (by omega)).trans ((heap_set_other (by omega)).trans (heap_set_other (by omega))))) ?_
          clear HK K
          refine wpAnyH_done (by kernel_rfl) ?_ _
          have hrf := (hrq.put m' (lc + n) 0).drew
          have hww : IntKind.i64.wrap (IntKind.i64.wrap (lc + hi) - lf) = lc + n := by
            rw [IntWalk.i64_in (lc + hi) (by omega), IntWalk.i64_in _ (by omega)]
            have := HLF.out
            omega
          have hat : brkAt x lo hi = some n := by
            unfold brkAt
            rw [List.find?_range_eq_some]
            have h0 := HLF.out
            refine ⟨by rw [h0, ← HBB.out]; rfl, List.mem_range.2 (by omega), fun j hj => by rw [hBF.out j hj]; rfl⟩
          obtain ⟨-, t2⟩ := HT.out
          have hbr := t2 (m', lc + n) (by rw [hat]; rfl)
          have hkx : Kx w6.heap.size (fun _ => False) V ((((wq.setCell ⟨w.heap.size + 1, 0, none⟩ (.int .i64 m')).setCell ⟨w.heap.size + 1 + 1, 0, none⟩ (.int .i64 (lc + n))).setCell ⟨w.heap.size + 1 + 1 + 1, 0, none⟩ (.int .i64 0)).drew) :=
            Kx.drew ((((Kx.below hbv).trans (Kx.setCell hrq.p2 (fun h => h))).trans (Kx.setCell ((heap_set_other (by omega)).trans hrq.p3) (fun h => h))).trans (Kx.setCell ((heap_set_other (by omega)).trans ((heap_set_other (by omega)).trans hrq.p4)) (fun h => h)))
          rw [hww]
          have HB := Lib.hid hbr
          refine hkk _ _ ?_
          clear hkk hbr hat t2 hww c2 f2 c3 f3 c4 f4 d3 k1 d7' hS hS0 hm'
          gi_wp2
          exact ⟨hkx, rfl, _, HB.out, hrf⟩
        · refine wpIn_seq_k (fun K hK => ?_)
          have HK := Lib.hid hK; clear hK
          refine wpIn_block ?_
          gi_wp2_with (gi_at_call 60; refine callsTo hha ?_; rintro e wq ⟨rfl, hbq⟩)
          refine HK.out _ _ ?_; clear HK K
          have hbv := hb.trans (hbq.mono hb.size)
          gi_wp2
          go_roundw
          case rel =>
            refine ⟨n + 1, by have := HLF.out; omega, by have := HLF.out; congr 1; push_cast; omega, fun j hj => ?_, hbv⟩
            by_cases h : j < n
            · exact hBF.out j h
            · have : j = n := by omega
              subst this
              rw [HLF.out]; exact HBB.out.symm
          case measure => simp [intOf]; omega
      · have hne : n = (hi - lo + 1).toNat := by omega
        have hno : brkAt x lo hi = none := by
          unfold brkAt
          rw [← hne, List.find?_eq_none]
          intro j hj
          rw [hBF.out j (List.mem_range.1 hj)]
          simp
        obtain ⟨t1, t2⟩ := HT.out
        rw [hno] at t1
        have HN := Lib.hid t1
        have hI2 := hI.below hb
        clear hno hne t1 t2 HT hI
        gi_wp2
        exact ⟨Kx.below hb, hI2.i1, hI2.i2, hI2.i3, hI2.i4, hI2.ly, hI2.yd, hI2.rs, HN.out⟩
end Ytndmjginmomfiaa
end Go.Proofs
