/- Laws of rotation: Not. -/
import Derived.Test.YtnjgglnpmhjmiaaA4
open Go Go.RowKit Go.YtnjgglnpmhjmiaaIt
open Rest
namespace Go.Proofs
namespace Ytnjgglnpmhjmiaa
/-- The states of a law, good the other way round. -/
def notS (l : Lw) : RSys Int := ⟨l.k, 0, l.at, fun s => !l.good s⟩
noncomputable def notL (l : Lw) : Lw := tabL (theT l.k (Fut (notS l) 0))
set_option maxRecDepth 100000 in
theorem not82_any {g g6 : Nat} {l : Lw} {vn vg : Value} {w : World} (ho : l.Ok) (h : LawX w g 25 l vn vg) (h6 : w.heap[g6]? = some (.cells #[.func (.func 92) #[] #[.pointer (some ⟨g, 0, none⟩)]] 94 (0, 0))) {s : Int} (hs : l.st s) : Calls Try.prog 82 (#[.int .i64 s] ++ #[.pointer (some ⟨g6, 0, none⟩)]) w fun e w' => e = .returned (.bool (!l.good s)) ∧ Below w.heap.size w w' := by
 have H := Lib.hid (good92_any ho h hs)
 have c0 := cell_blk (i := 0) h6
 simp only [List.getElem?_toArray, List.getElem?_cons_zero] at c0
 clear h h6 hs ho
 go_enter Try.func82, Try.ntmps82
 go_wp2_with (go_at_call 92; refine H.out.mono ?_; rintro e w2 ⟨rfl, hb⟩)
 go_ret
 exact ⟨rfl, hb⟩
theorem enter82 : ∀ args w, (callFunc 82 args).run Try.prog w = .ok (.enter 82 args) w := enters_of Try.func82 (by kernel_rfl) rfl
theorem LawX.not {W : World} {g g6 : Nat} {l : Lw} {vn vg : Value} (ho : l.Ok) (h : LawX W g 25 l vn vg) (h6 : W.heap[g6]? = some (.cells #[.func (.func 92) #[] #[.pointer (some ⟨g, 0, none⟩)]] 94 (0, 0))) : SysM (notS l) l.st 91 82 #[.pointer (some ⟨g, 0, none⟩)] #[.pointer (some ⟨g6, 0, none⟩)] W.heap.size W :=
 ⟨ho.k1, ho.k4, ho.st0, fun s c hs hc => ho.cl hs hc, fun s hs => by have := hs.1; have := hs.2; have := ho.n40; omega, fun U hU s c hs hc => next91_any ho (h.below hU) hs hc, fun U hU s hs => not82_any ho (h.below hU) (blk_keep h6 hU) hs⟩
theorem Lw.Ok.walkN {l : Lw} (h : l.Ok) : ∃ L, Walk (notS l) L ∧ L.length ≤ 40 ∧ ∀ p ∈ L, l.st p.1 := by
 have hmem : ∀ s, s ∈ nI (List.range l.nx.length) ↔ l.st s := fun s => by
  simp only [List.mem_map, List.mem_range]
  exact ⟨fun ⟨i, hi, e⟩ => by subst e; exact ⟨by omega, by omega⟩, fun hs => ⟨s.toNat, by have := hs.1; have := hs.2; omega, by have := hs.1; omega⟩⟩
 obtain ⟨L, h1, h2, h3⟩ := walk_exists (notS l) (nI (List.range l.nx.length)) ((hmem _).2 h.st0) (fun s hs c hc => (hmem _).2 (h.cl ((hmem s).1 hs) hc))
 refine ⟨L, h1, ?_, fun p hp => (hmem _).1 (h3 p hp)⟩
 rw [List.length_map, List.length_range] at h2
 exact Nat.le_trans h2 h.n40
set_option maxRecDepth 100000 in
set_option maxHeartbeats 2000000 in
theorem not43_any {v : Value} {l : Lw} {w : World} (h : LawA w v l) : Calls Try.prog 43 #[v] w fun e w' => ∃ vn vg, e = .returned (.tuple #[.agg #[vn, vg], .int .i64 (chkL l)]) ∧ LawA w' (.agg #[vn, vg]) (resL (notL l) (chkL l)) ∧ Below w.heap.size w w' := by
 have H0 := Lib.hid h
 obtain ⟨vn, vg, rfl, hn, hg⟩ := h
 have H52 := Lib.hid (fun W (hW : Below w.heap.size w W) => check_any (H0.out.below hW (Nat.le_refl _)))
 clear hn hg
 go_enter Try.func43, Try.ntmps43
 refine wp_seq_k (fun K hK => ?_)
 have HK := Lib.hid hK; clear hK
 go_wp2
 refine HK.out _ _ ?_; clear HK
 obtain ⟨b1, b2, hB, hz⟩ := blk2 (w := w) (a := .cells #[vn, vg] 25) (b := .cells #[.slice none 0 0, .slice none 0 0] 25) rfl
 obtain ⟨w2, hw2⟩ : ∃ q, q = (w.alloc (.cells #[vn, vg] 25)).alloc (.cells #[.slice none 0 0, .slice none 0 0] 25) := ⟨_, rfl⟩
 rw [← hw2] at b1 b2 hB hz ⊢
 clear hw2
 obtain ⟨g1, hg1⟩ : ∃ q, q = w.heap.size := ⟨_, rfl⟩
 obtain ⟨g2, hg2⟩ : ∃ q, q = w.heap.size + 1 := ⟨_, rfl⟩
 rw [← hg1] at b1
 rw [← hg2] at b2
 rw [← hg2, ← hg1]
 have HH := Lib.hid (And.intro b1 (And.intro b2 (And.intro hB (And.intro hg1 (And.intro hg2 hz)))))
 have HB1 := Lib.hid b1
 have HC := Lib.hid (H52.out w2 hB)
 clear b1 b2 hB hg1 hg2 hz
 obtain ⟨E, hE⟩ : ∃ E, E = chkL l := ⟨_, rfl⟩
 rw [← hE] at HC ⊢
 have HE := Lib.hid hE
 clear hE
 by_cases h0 : E = 0
 case neg =>
  have hb0 : (E != 0) = true := by simpa using h0
  have hb0' : (E == 0) = false := by simpa using h0
  have H0E := Lib.hid h0
  clear h0
  go_wp2_with (first | (refine wpList_load_blk rfl 25 _ rfl _ rfl HB1.out Try.underlying25 rfl size25 rfl ?_) | (go_at_call 52; refine HC.out.mono ?_; rintro e w3 ⟨rfl, hb3⟩; have b3 := blk_keep HH.out.2.1 hb3; have HB3 := Lib.hid hb3; clear hb3) | (refine wpList_store_blk rfl 25 _ _ rfl _ rfl rfl b3 size25 rfl rfl (by simp [Value.oneCell']) ?_))
  obtain ⟨c1, c2, hB, hg1, hg2, hz⟩ := HH.out
  refine bodyPost_ret (results_agg_tmp rfl _ _ g2 rfl (World.putObj_heap_same (lt_blk b3)) Try.underlying25 rfl size25 rfl) rfl ⟨_, _, rfl, ?_, ?_⟩
  ·unfold resL; rw [if_neg H0E.out]; exact lawA_nil _
  ·rw [hg1]; exact below_putObj (btr hB HB3.out (Nat.le_refl _)) (by omega)
 have hok : l.Ok := chkL_ok (by rw [← HE.out]; exact h0)
 have HOK := Lib.hid hok
 subst h0
 clear hok
 obtain ⟨L, hL, hlen, -⟩ := HOK.out.walkN
 have HL := Lib.hid (And.intro hL (show L.length ≤ 5000 by omega))
 clear hL hlen
 have H66 := Lib.hid (fun W (hW : Below w.heap.size w W) => system_any (H0.out.below hW (Nat.le_refl _)) HOK.out.ne)
 refine wp_seq_k (fun K hK => ?_)
 have HK := Lib.hid hK; clear hK
 go_wp2_with (first | (refine wpList_load_blk rfl 25 _ rfl _ rfl HB1.out Try.underlying25 rfl size25 rfl ?_) | (go_at_call 52; refine HC.out.mono ?_; rintro e w3 ⟨rfl, hb3⟩; have HB3 := Lib.hid hb3; clear hb3))
 refine HK.out _ _ ?_; clear HK
 obtain ⟨c1, c2, hB, hg1, hg2, hz⟩ := HH.out
 have d1 := blk_keep c1 HB3.out
 have d2 := blk_keep c2 HB3.out
 have HB4 := Lib.hid (btr hB HB3.out (by omega))
 have HD := Lib.hid (And.intro d1 (And.intro d2 (And.intro hg1 (And.intro hg2 hz))))
 have HD1 := Lib.hid d1
 clear c1 c2 hB hg1 hg2 hz d1 d2 HB3 HC HH HB1
 refine wp_seq_k (fun K hK => ?_)
 have HK := Lib.hid hK; clear hK
 go_wp2_with (first | (refine wpList_load_blk rfl 25 _ rfl _ rfl HD1.out Try.underlying25 rfl size25 rfl ?_) | (go_at_call 66; refine (H66.out _ HB4.out).mono ?_; rintro e w4 ⟨g, un, ug, rfl, hX, hgg, hb4⟩; have HX4 := Lib.hid (And.intro hX (And.intro hgg hb4)); clear hX hgg hb4) | (refine wpList_store_blk rfl 96 _ _ rfl _ rfl rfl (heap_newI rfl) size96 rfl rfl (by simp [Value.oneCell']) ?_))
 refine HK.out _ _ ?_; clear HK
 obtain ⟨hX, hgg, hb4⟩ := HX4.out
 obtain ⟨d1, d2, hg1, hg2, hz⟩ := HD.out
 obtain ⟨Wa, hWa⟩ : ∃ q, q = (w4.alloc (.cells #[.int .i64 0, .int .i64 0, .nilFunc, .nilFunc] 96)).putObj w4.heap.size (.cells (sysV (sysL l) 91 92 #[.pointer (some ⟨g, 0, none⟩)] #[.pointer (some ⟨g, 0, none⟩)]) 96) := ⟨_, rfl⟩
 have hba : Below w4.heap.size w4 Wa := by rw [hWa]; exact below_putObj ((Below.refl _ _).alloc (Nat.le_refl _) _) (Nat.le_refl _)
 have ba : Wa.heap[w4.heap.size]? = some (.cells (sysV (sysL l) 91 92 #[.pointer (some ⟨g, 0, none⟩)] #[.pointer (some ⟨g, 0, none⟩)]) 96 (0, 0)) := by rw [hWa]; exact World.putObj_heap_same (by rw [World.size_alloc]; omega)
 have hza : Wa.heap.size = w4.heap.size + 1 := by rw [hWa, World.putObj_size, World.size_alloc]
 rw [← hWa]
 obtain ⟨g5, hg5⟩ : ∃ q, q = w4.heap.size := ⟨_, rfl⟩
 rw [← hg5] at ba ⊢
 have ca := cell_blk (i := 3) ba
 simp only [List.getElem?_toArray, List.getElem?_cons_zero, List.getElem?_cons_succ] at ca
 have HA := Lib.hid (And.intro hX (And.intro hgg (And.intro hb4 (And.intro hba (And.intro ba (And.intro hza hg5))))))
 clear hWa hX hgg hb4 hba ba hza hg5 HX4 d1 d2 hg1 hg2 hz
 refine wp_seq_k (fun K hK => ?_)
 have HK := Lib.hid hK; clear hK
 go_wp2
 refine HK.out _ _ ?_; clear HK
 obtain ⟨hX, hgg, hb4, hba, ba, hza, hg5⟩ := HA.out
 obtain ⟨d1, d2, hg1, hg2, hz⟩ := HD.out
 obtain ⟨Wb, hWb⟩ : ∃ q, q = Wa.alloc (.cells #[.func (.func 92) #[] #[.pointer (some ⟨g, 0, none⟩)]] 94) := ⟨_, rfl⟩
 have hbb : Below Wa.heap.size Wa Wb := by rw [hWb]; exact (Below.refl _ _).alloc (Nat.le_refl _) _
 have bb6 : Wb.heap[Wa.heap.size]? = some (.cells #[.func (.func 92) #[] #[.pointer (some ⟨g, 0, none⟩)]] 94 (0, 0)) := by rw [hWb]; exact heap_newI rfl
 have bb5 := blk_keep ba hbb
 have hzb : Wb.heap.size = Wa.heap.size + 1 := by rw [hWb, World.size_alloc]
 rw [← hWb]
 obtain ⟨g6, hg6⟩ : ∃ q, q = Wa.heap.size := ⟨_, rfl⟩
 rw [← hg6] at bb6 ⊢
 have c5 := cell_blk (i := 3) bb5
 have f5 := free_blk (i := 3) bb5
 simp only [List.getElem?_toArray, List.getElem?_cons_zero, List.getElem?_cons_succ] at c5
 have HBb := Lib.hid (And.intro hbb (And.intro bb6 (And.intro bb5 (And.intro hzb hg6))))
 clear hWb hbb bb6 bb5 hzb hg6 hX hgg hb4 hba ba hza hg5 d1 d2 hg1 hg2 hz ca
 refine wp_seq_k (fun K hK => ?_)
 have HK := Lib.hid hK; clear hK
 go_wp2
 refine HK.out _ _ ?_; clear HK
 obtain ⟨hX, hgg, hb4, hba, ba, hza, hg5⟩ := HA.out
 obtain ⟨d1, d2, hg1, hg2, hz⟩ := HD.out
 obtain ⟨hbb, bb6, bb5, hzb, hg6⟩ := HBb.out
 obtain ⟨Wc, hWc⟩ : ∃ q, q = Wb.setCell ⟨g5, 3, none⟩ (.func (.func 82) #[] #[.pointer (some ⟨g6, 0, none⟩)]) := ⟨_, rfl⟩
 have e5 : Wc.heap[g5]? = some (.cells #[.int .i64 (l.k : Nat), .int .i64 0, .func (.func 91) #[] #[.pointer (some ⟨g, 0, none⟩)], .func (.func 82) #[] #[.pointer (some ⟨g6, 0, none⟩)]] 96 (0, 0)) := by
  rw [hWc]; exact heap_set_blk bb5
 have hbc : Below w4.heap.size w4 Wc := by
  rw [hWc]
  exact (hba.trans (hbb.mono (by omega))).setCell (p := ⟨g5, 3, none⟩) (by simp; omega) _
 have e6 : Wc.heap[g6]? = some (.cells #[.func (.func 92) #[] #[.pointer (some ⟨g, 0, none⟩)]] 94 (0, 0)) := by rw [hWc]; exact (heap_set_other (by omega)).trans bb6
 have hB5 : Below w.heap.size w Wc := btr (btr HB4.out hb4 (Nat.le_refl _)) hbc (Nat.le_refl _)
 have hXc := hX.below hbc
 have e2 := blk_keep (blk_keep d2 hb4) hbc
 rw [← hWc]
 have H74 := Lib.hid (least_any (hXc.not HOK.out e6) (Nat.le_refl _) enter91 enter82 HL.out.1 HL.out.2 Wc (Below.refl _ _))
 have HE5 := Lib.hid e5
 have HE := Lib.hid (And.intro hB5 (And.intro e2 (And.intro hg1 hg2)))
 clear hX hgg hb4 hba ba hza hg5 d1 d2 hg1 hg2 hz hbb bb6 bb5 hzb hg6 hWc e5 hbc e6 hB5 hXc e2 HBb HA HD c5 f5
 refine wp_seq_k (fun K hK => ?_)
 have HK := Lib.hid hK; clear hK
 go_wp2_with (first | (refine wpList_load_blk rfl 96 _ rfl _ rfl HE5.out Try.underlying96 rfl size96 rfl ?_) | (go_at_call 74; refine H74.out.mono ?_; rintro e w5 ⟨tn, tg, ts, T, hT, rfl, hb5, hN⟩; have H5 := Lib.hid (And.intro hT (And.intro hb5 hN)); clear hT hb5 hN) | (refine wpList_store_blk rfl 25 _ _ rfl _ rfl rfl (heap_newI rfl) size25 rfl rfl (H5.out.2.2.law (Nat.le_refl _) (fun _ _ _ => rfl)).one ?_))
 refine HK.out _ _ ?_; clear HK
 obtain ⟨hT, hb5, hN⟩ := H5.out
 obtain ⟨hB5, d2, hg1, hg2⟩ := HE.out
 obtain ⟨W, hW⟩ : ∃ q, q = (w5.alloc (.cells #[.slice none 0 0, .slice none 0 0] 25)).putObj w5.heap.size (.cells #[tn, tg] 25) := ⟨_, rfl⟩
 have hbW : Below w5.heap.size w5 W := by rw [hW]; exact below_putObj ((Below.refl _ _).alloc (Nat.le_refl _) _) (Nat.le_refl _)
 have bW : W.heap[w5.heap.size]? = some (.cells #[tn, tg] 25 (0, 0)) := by rw [hW]; exact World.putObj_heap_same (by rw [World.size_alloc]; omega)
 have e2 : W.heap[g2]? = some (.cells #[.slice none 0 0, .slice none 0 0] 25 (0, 0)) := blk_keep (blk_keep d2 hb5) hbW
 rw [← hW]
 obtain ⟨g7, hg7⟩ : ∃ q, q = w5.heap.size := ⟨_, rfl⟩
 rw [← hg7] at bW ⊢
 have hone := (hN.law (Nat.le_refl _) (fun _ _ _ => rfl)).one
 have hgz2 := lt_blk d2
 have hz5 := hb5.size
 have HF := Lib.hid (And.intro hbW (And.intro hg7 (And.intro hg1 (And.intro hg2 (And.intro hT (And.intro hb5 (And.intro hB5 (And.intro hN (And.intro hgz2 hz5)))))))))
 clear hW hbW hg7 hg1 hg2 hT hb5 hB5 hN hgz2 hz5 d2 H5 H74 HE
 go_wp2_with (first | (refine wpList_load_blk rfl 25 _ rfl _ rfl bW Try.underlying25 rfl size25 rfl ?_) | (refine wpList_store_blk rfl 25 _ _ rfl _ rfl rfl e2 size25 rfl rfl hone ?_))
 obtain ⟨hbW, hg7, hg1, hg2, hT, hb5, hB5, hN, hgz2, hz5⟩ := HF.out
 have hzW := hbW.size
 refine bodyPost_ret (results_agg_tmp rfl _ _ g2 rfl (World.putObj_heap_same (lt_blk e2)) Try.underlying25 rfl size25 rfl) rfl ⟨_, _, rfl, ?_, ?_⟩
 ·unfold resL notL
  rw [if_pos rfl, show theT l.k (Fut (notS l) 0) = T from theT_eq hT]
  refine hN.law (by rw [World.putObj_size]; exact hzW) fun i h1 h2 => (World.putObj_heap_other (by omega)).trans (hbW.block i h2)
 ·rw [hg1]; exact below_putObj (btr (btr hB5 hb5 (Nat.le_refl _)) hbW (Nat.le_refl _)) (by omega)
end Ytnjgglnpmhjmiaa
end Go.Proofs
/- Laws of rotation: rules. -/
open Go Go.RowKit Go.YtnjgglnpmhjmiaaIt
open Rest
namespace Go.Proofs
namespace Ytnjgglnpmhjmiaa
/-- A law that is all new. -/
def LawF (w w' : World) (v : Value) (l : Lw) : Prop := ∀ W', w'.heap.size ≤ W'.heap.size → (∀ i, w.heap.size ≤ i → i < w'.heap.size → W'.heap[i]? = w'.heap[i]?) → LawA W' v l
theorem LawF.now {w w' : World} {v : Value} {l : Lw} (h : LawF w w' v l) : LawA w' v l := h w' (Nat.le_refl _) fun _ _ _ => rfl
theorem LawF.nil (w w' : World) : LawF w w' (.agg #[.slice none 0 0, .slice none 0 0]) ⟨[], []⟩ := fun W _ _ => lawA_nil W
/-- It remains so, if older blocks are changed. -/
theorem LawF.put {w0 w w' : World} {v : Value} {l : Lw} (h : LawF w w' v l) {g : Nat} (o : Obj) (hg : g < w.heap.size) (hw : w0.heap.size ≤ w.heap.size) : LawF w0 (w'.putObj g o) v l := fun W hz hk =>
 h W (by rw [World.putObj_size] at hz; exact hz) fun i h1 h2 => (hk i (by omega) (by rw [World.putObj_size]; exact h2)).trans (World.putObj_heap_other (by omega))
theorem TabN.lawF {w0 w w' W : World} {vn vg vst : Value} {T : Tab} (h : TabN w w' vn vg vst T) (hz : w'.heap.size ≤ W.heap.size) (hw : w0.heap.size ≤ w.heap.size) (hk : ∀ i, w.heap.size ≤ i → i < w'.heap.size → W.heap[i]? = w'.heap[i]?) : LawF w0 W (.agg #[vn, vg]) (tabL T) := fun W' hz' hk' =>
 h.law (by omega) fun i h1 h2 => (hk' i (by omega) (by omega)).trans (hk i h1 h2)
def restedF (crop years s c : Int) : Int := if s = -1 ∨ (0 < s ∧ c = crop) then -1 else if c = crop then years else max 0 (s - 1)
def missedF (crop years s c : Int) : Int := if s = -1 ∨ (c ≠ crop ∧ s + 1 = years) then -1 else if c = crop then 0 else s + 1
set_option maxRecDepth 100000 in
theorem rested_any (crop years s c : Int) (w : World) (h : -1 ≤ s ∧ s ≤ 100) : Calls Try.prog 58 #[.agg #[.int .i64 crop, .int .i64 years], .int .i64 s, .int .i64 c] w fun e w' => e = .returned (.int .i64 (restedF crop years s c)) ∧ Below w.heap.size w w' := by
 have hw : wrap64 (s - 1) = s - 1 := IntWalk.wrap64_in _ (by omega)
 have hb := fun o => (Below.refl w.heap.size w).alloc (Nat.le_refl _) o
 unfold restedF
 by_cases h1 : s = -1
 ·subst h1
  rw [if_pos (.inl rfl)]
  go_enter Try.func58, Try.ntmps58
  go_wp2
  go_ret
  exact ⟨rfl, hb _⟩
 have h1b : (s == -1) = false := by simpa using h1
 by_cases h3 : c = crop
 ·subst h3
  by_cases h2 : 0 < s
  ·rw [if_pos (.inr ⟨h2, rfl⟩)]
   go_enter Try.func58, Try.ntmps58
   go_wp2
   go_ret
   exact ⟨rfl, hb _⟩
  ·rw [if_neg (fun e => e.elim h1 (fun e => h2 e.1)), if_pos rfl]
   go_enter Try.func58, Try.ntmps58
   go_wp2
   go_ret
   exact ⟨rfl, hb _⟩
 ·have h3b : (c == crop) = false := by simpa using h3
  rw [if_neg (fun e => e.elim h1 (fun e => h3 e.2)), if_neg h3]
  by_cases h2 : 0 < s
  all_goals
   go_enter Try.func58, Try.ntmps58
   go_wp2_with (refine wpList_max rfl _ _ _ rfl rfl rfl ?_)
   go_ret
   exact ⟨rfl, hb _⟩
set_option maxRecDepth 100000 in
theorem missed_any (crop years s c : Int) (w : World) (h : -1 ≤ s ∧ s ≤ 100) : Calls Try.prog 61 #[.agg #[.int .i64 crop, .int .i64 years], .int .i64 s, .int .i64 c] w fun e w' => e = .returned (.int .i64 (missedF crop years s c)) ∧ Below w.heap.size w w' := by
 have hw : wrap64 (s + 1) = s + 1 := IntWalk.wrap64_in _ (by omega)
 have hb := fun o => (Below.refl w.heap.size w).alloc (Nat.le_refl _) o
 unfold missedF
 by_cases h1 : s = -1
 ·subst h1
  rw [if_pos (.inl rfl)]
  go_enter Try.func61, Try.ntmps61
  go_wp2
  go_ret
  exact ⟨rfl, hb _⟩
 have h1b : (s == -1) = false := by simpa using h1
 by_cases h3 : c = crop
 ·subst h3
  rw [if_neg (fun e => e.elim h1 (fun e => e.1 rfl)), if_pos rfl]
  go_enter Try.func61, Try.ntmps61
  go_wp2
  go_ret
  exact ⟨rfl, hb _⟩
 ·have h3b : (c == crop) = false := by simpa using h3
  have h3c : (c != crop) = true := by simpa using h3
  by_cases h2 : s + 1 = years
  ·rw [if_pos (.inr ⟨h3, h2⟩)]
   have h2b : (s + 1 == years) = true := by simpa using h2
   clear h2
   go_enter Try.func61, Try.ntmps61
   go_wp2
   go_ret
   exact ⟨rfl, hb _⟩
  ·rw [if_neg (fun e => e.elim h1 (fun e => h2 e.2)), if_neg h3]
   have h2b : (s + 1 == years) = false := by simpa using h2
   go_enter Try.func61, Try.ntmps61
   go_wp2
   go_ret
   exact ⟨rfl, hb _⟩
/-- The states of a rule. -/
def ruleS (k : Nat) (F : Int → Int → Int) : RSys Int := ⟨k, 0, fun s c => F s (c : Int), fun s => s != -1⟩
noncomputable def ruleL (k : Nat) (F : Int → Int → Int) : Lw := tabL (theT k (Fut (ruleS k F) 0))
def madeE (crops crop least years : Int) : Int := if btw 1 crops 4 = false then 2 else if btw 0 crop (crops - 1) = false then 5 else if btw least years 20 = false then 2 else 0
set_option maxRecDepth 100000 in
theorem good89_any (s : Int) (w : World) : Calls Try.prog 89 (#[.int .i64 s] ++ #[]) w fun e w' => e = .returned (.bool (s != -1)) ∧ Below w.heap.size w w' := by
 go_enter Try.func89, Try.ntmps89
 go_wp2
 go_ret
 exact ⟨rfl, Below.refl _ _⟩
/-- A rule's function. -/
structure RuleF (fR : Nat) (crop years : Int) (F : Int → Int → Int) (ok : Int → Prop) : Prop where
 ent : ∀ args w, (callFunc fR args).run Try.prog w = .ok (.enter fR args) w
 call : ∀ s c w, ok s → Calls Try.prog fR #[.agg #[.int .i64 crop, .int .i64 years], .int .i64 s, .int .i64 c] w fun e w' => e = .returned (.int .i64 (F s c)) ∧ Below w.heap.size w w'
 st : ok 0
 cl : ∀ s c, ok s → ok (F s c)
 bd : ∀ s, ok s → -1 ≤ s ∧ s ≤ 20
theorem size89 : (Try.prog.info? 89).map (·.size) = some 2 := by kernel_rfl
set_option maxRecDepth 100000 in
theorem next88_any {fR : Nat} {crop years : Int} {F : Int → Int → Int} {ok : Int → Prop} (hR : RuleF fR crop years F ok) {g9 g12 : Nat} {w : World} (h9 : w.heap[g9]? = some (.cells #[.func (.func fR) #[] #[]] 86 (0, 0))) (h12 : w.heap[g12]? = some (.cells #[.int .i64 crop, .int .i64 years] 89 (0, 0))) {s : Int} {c : Nat} (hs : ok s) :
  Calls Try.prog 88 (#[.int .i64 s, .int .i64 c] ++ #[.pointer (some ⟨g9, 0, none⟩), .pointer (some ⟨g12, 0, none⟩)]) w fun e w' => e = .returned (.int .i64 (F s c)) ∧ Below w.heap.size w w' := by
 have H := Lib.hid (hR.call s c w hs)
 have hent := hR.ent
 have c9 := cell_blk (i := 0) h9
 simp only [List.getElem?_toArray, List.getElem?_cons_zero] at c9
 clear hR
 go_enter Try.func88, Try.ntmps88
 go_wp2_with (first | (refine wpList_load_blk rfl 89 _ rfl _ rfl h12 Try.underlying89 rfl size89 rfl ?_))
 refine H.out.mono ?_
 rintro e w2 ⟨rfl, hb⟩
 go_wp2
 go_ret
 exact ⟨rfl, hb⟩
theorem enter88 : ∀ args w, (callFunc 88 args).run Try.prog w = .ok (.enter 88 args) w := enters_of Try.func88 (by kernel_rfl) rfl
theorem enter89 : ∀ args w, (callFunc 89 args).run Try.prog w = .ok (.enter 89 args) w := enters_of Try.func89 (by kernel_rfl) rfl
theorem RuleF.sys {fR : Nat} {crop years : Int} {F : Int → Int → Int} {ok : Int → Prop} (hR : RuleF fR crop years F ok) {k : Nat} (hk1 : 1 ≤ k) (hk4 : k ≤ 4) {g9 g12 : Nat} {W : World} (h9 : W.heap[g9]? = some (.cells #[.func (.func fR) #[] #[]] 86 (0, 0))) (h12 : W.heap[g12]? = some (.cells #[.int .i64 crop, .int .i64 years] 89 (0, 0))) :
  SysM (ruleS k F) ok 88 89 #[.pointer (some ⟨g9, 0, none⟩), .pointer (some ⟨g12, 0, none⟩)] #[] W.heap.size W :=
 ⟨hk1, hk4, hR.st, fun s c hs _ => hR.cl s c hs, fun s hs => by have := hR.bd s hs; omega, fun U hU s c hs _ => next88_any hR (blk_keep h9 hU) (blk_keep h12 hU) hs, fun U _ s _ => good89_any s U⟩
theorem RuleF.walk {fR : Nat} {crop years : Int} {F : Int → Int → Int} {ok : Int → Prop} (hR : RuleF fR crop years F ok) (k : Nat) : ∃ L, Walk (ruleS k F) L ∧ L.length ≤ 22 ∧ ∀ p ∈ L, ok p.1 := by
 classical
 have hmem : ∀ s, s ∈ (((List.range 22).map fun (i : Nat) => (i : Int) - 1).filter fun s => decide (ok s)) ↔ ok s := fun s => by
  rw [List.mem_filter, decide_eq_true_eq]
  refine ⟨fun h => h.2, fun h => ⟨List.mem_map.2 ⟨(s + 1).toNat, List.mem_range.2 ?_, ?_⟩, h⟩⟩
  ·have := hR.bd s h; omega
  ·have := hR.bd s h
   show (((s + 1).toNat : Nat) : Int) - 1 = s
   omega
 obtain ⟨L, h1, h2, h3⟩ := walk_exists (ruleS k F) (((List.range 22).map fun (i : Nat) => (i : Int) - 1).filter fun s => decide (ok s)) ((hmem _).2 hR.st)
  (fun s hs c _ => (hmem _).2 (hR.cl s c ((hmem s).1 hs)))
 refine ⟨L, h1, Nat.le_trans h2 (Nat.le_trans (List.length_filter_le _ _) (by simp)), fun p hp => ?_⟩
 have := (List.mem_filter.1 (h3 p hp)).2
 simpa using this
set_option maxRecDepth 100000 in
set_option maxHeartbeats 4000000 in
theorem made57_any {crops crop least years : Int} {fR : Nat} {F : Int → Int → Int} {ok : Int → Prop} (hR : madeE crops crop least years = 0 → RuleF fR crop years F ok) (w : World) :
  Calls Try.prog 57 #[.int .i64 crops, .int .i64 crop, .int .i64 least, .int .i64 years, .func (.func fR) #[] #[]] w fun e w' => ∃ vn vg, e = .returned (.tuple #[.agg #[vn, vg], .int .i64 (madeE crops crop least years)]) ∧ LawF w w' (.agg #[vn, vg]) (resL (ruleL crops.toNat F) (madeE crops crop least years)) ∧ Below w.heap.size w w' := by
 have hc1 := fun W => between_any 1 crops 4 W
 have hc2 := fun W => between_any 0 crop (crops - 1) W
 have hc3 := fun W => between_any least years 20 W
 have HR := Lib.hid hR
 clear hR
 go_enter Try.func57, Try.ntmps57
 refine wp_seq_k (fun K hK => ?_)
 have HK := Lib.hid hK; clear hK
 go_wp2
 refine HK.out _ _ ?_; clear HK
 obtain ⟨b1, b2, hB, hz⟩ := blk2 (w := w) (a := .cells #[.func (.func fR) #[] #[]] 86) (b := .cells #[.slice none 0 0, .slice none 0 0] 25) rfl
 obtain ⟨w2, hw2⟩ : ∃ q, q = (w.alloc (.cells #[.func (.func fR) #[] #[]] 86)).alloc (.cells #[.slice none 0 0, .slice none 0 0] 25) := ⟨_, rfl⟩
 rw [← hw2] at b1 b2 hB hz ⊢
 clear hw2
 obtain ⟨g9, hg9⟩ : ∃ q, q = w.heap.size := ⟨_, rfl⟩
 obtain ⟨g2, hg2⟩ : ∃ q, q = w.heap.size + 1 := ⟨_, rfl⟩
 rw [← hg9] at b1
 rw [← hg2] at b2
 rw [← hg2, ← hg9]
 have HH := Lib.hid (And.intro b1 (And.intro b2 (And.intro hB (And.intro hg9 (And.intro hg2 hz)))))
 clear b1 hB hg9 hg2 hz
 have hend : Hid (∀ E : Int, E ≠ 0 → LawF w (w2.putObj g2 (.cells #[.slice none 0 0, .slice none 0 0] 25)) (.agg #[.slice none 0 0, .slice none 0 0]) (resL (ruleL crops.toNat F) E) ∧ Below g9 w (w2.putObj g2 (.cells #[.slice none 0 0, .slice none 0 0] 25))) := Lib.hid fun E hE => by
  obtain ⟨b1, b2, hB, hg9, hg2, hz⟩ := HH.out
  refine ⟨?_, ?_⟩
  ·unfold resL; rw [if_neg hE]; exact LawF.nil _ _
  ·rw [hg9]; exact below_putObj hB (by omega)
 by_cases h1 : btw 1 crops 4 = true
 case neg =>
  have h1' : btw 1 crops 4 = false := by simpa using h1
  have he : madeE crops crop least years = 2 := by unfold madeE; rw [if_pos h1']
  rw [he]
  clear he h1
  go_wp2_with (first | (go_at_call 64; refine (hc1 _).mono ?_; rintro e w3 ⟨rfl, rfl⟩) | (refine wpList_store_blk rfl 25 _ _ rfl _ rfl rfl b2 size25 rfl rfl (by simp [Value.oneCell']) ?_))
  exact bodyPost_ret (results_agg_tmp rfl _ _ g2 rfl (World.putObj_heap_same (lt_blk b2)) Try.underlying25 rfl size25 rfl) rfl ⟨_, _, rfl, hend.out 2 (by decide)⟩
 have hcr := btw_true.1 h1
 have hw1 : wrap64 (crops - 1) = crops - 1 := IntWalk.wrap64_in _ (by omega)
 by_cases h2 : btw 0 crop (crops - 1) = true
 case neg =>
  have h2' : btw 0 crop (crops - 1) = false := by simpa using h2
  have he : madeE crops crop least years = 5 := by unfold madeE; rw [if_neg (by simp [h1]), if_pos h2']
  rw [he]
  clear he h2
  go_wp2_with (first | (have := HM; go_at_call 64; refine (hc2 _).mono ?_; rintro e w3 ⟨rfl, rfl⟩) | (go_at_call 64; refine (hc1 _).mono ?_; rintro e w3 ⟨rfl, rfl⟩; have HM := Lib.hid trivial) | (refine wpList_store_blk rfl 25 _ _ rfl _ rfl rfl b2 size25 rfl rfl (by simp [Value.oneCell']) ?_))
  exact bodyPost_ret (results_agg_tmp rfl _ _ g2 rfl (World.putObj_heap_same (lt_blk b2)) Try.underlying25 rfl size25 rfl) rfl ⟨_, _, rfl, hend.out 5 (by decide)⟩
 by_cases h3 : btw least years 20 = true
 case neg =>
  have h3' : btw least years 20 = false := by simpa using h3
  have he : madeE crops crop least years = 2 := by unfold madeE; rw [if_neg (by simp [h1]), if_neg (by simp [h2]), if_pos h3']
  rw [he]
  clear he h3
  go_wp2_with (first | (have := HM2; go_at_call 64; refine (hc3 _).mono ?_; rintro e w3 ⟨rfl, rfl⟩) | (have := HM; go_at_call 64; refine (hc2 _).mono ?_; rintro e w3 ⟨rfl, rfl⟩; have HM2 := Lib.hid trivial) | (go_at_call 64; refine (hc1 _).mono ?_; rintro e w3 ⟨rfl, rfl⟩; have HM := Lib.hid trivial) | (refine wpList_store_blk rfl 25 _ _ rfl _ rfl rfl b2 size25 rfl rfl (by simp [Value.oneCell']) ?_))
  exact bodyPost_ret (results_agg_tmp rfl _ _ g2 rfl (World.putObj_heap_same (lt_blk b2)) Try.underlying25 rfl size25 rfl) rfl ⟨_, _, rfl, hend.out 2 (by decide)⟩
 have he : madeE crops crop least years = 0 := by unfold madeE; rw [if_neg (by simp [h1]), if_neg (by simp [h2]), if_neg (by simp [h3])]
 have hRR := HR.out he
 rw [he]
 obtain ⟨k, hk⟩ : ∃ k : Nat, crops = (k : Int) := ⟨crops.toNat, by omega⟩
 subst hk
 have HKK := Lib.hid (show 1 ≤ k ∧ k ≤ 4 by omega)
 obtain ⟨L, hL, hlen, -⟩ := hRR.walk k
 have HL := Lib.hid (And.intro hL (And.intro (show L.length ≤ 5000 by omega) hRR))
 rw [show ((k : Nat) : Int).toNat = k from rfl] at *
 clear hL hlen hRR he hcr
 refine wp_seq_k (fun K hK => ?_)
 have HK := Lib.hid hK; clear hK
 go_wp2_with (first | (have := HM2; go_at_call 64; refine (hc3 _).mono ?_; rintro e w3 ⟨rfl, rfl⟩) | (have := HM; go_at_call 64; refine (hc2 _).mono ?_; rintro e w3 ⟨rfl, rfl⟩; have HM2 := Lib.hid trivial) | (go_at_call 64; refine (hc1 _).mono ?_; rintro e w3 ⟨rfl, rfl⟩; have HM := Lib.hid trivial))
 refine HK.out _ _ ?_; clear HK
 refine wp_seq_k (fun K hK => ?_)
 have HK := Lib.hid hK; clear hK
 go_wp2_with (refine wpList_store_blk rfl 89 _ _ rfl _ rfl rfl (heap_newI rfl) size89 rfl rfl (by simp [Value.oneCell']) ?_)
 refine HK.out _ _ ?_; clear HK
 obtain ⟨c1, c2, hB, hg9, hg2, hz⟩ := HH.out
 obtain ⟨w4, hw4⟩ : ∃ q, q = (w2.alloc (.cells #[.int .i64 0, .int .i64 0] 89)).putObj w2.heap.size (.cells #[.int .i64 crop, .int .i64 years] 89) := ⟨_, rfl⟩
 have hb4 : Below w2.heap.size w2 w4 := by rw [hw4]; exact below_putObj ((Below.refl _ _).alloc (Nat.le_refl _) _) (Nat.le_refl _)
 have b12 : w4.heap[w2.heap.size]? = some (.cells #[.int .i64 crop, .int .i64 years] 89 (0, 0)) := by rw [hw4]; exact World.putObj_heap_same (by rw [World.size_alloc]; omega)
 rw [← hw4]
 obtain ⟨g12, hg12⟩ : ∃ q, q = w2.heap.size := ⟨_, rfl⟩
 rw [← hg12] at b12 ⊢
 have H74 := Lib.hid (least_any (HL.out.2.2.sys HKK.out.1 HKK.out.2 (blk_keep c1 hb4) b12) (Nat.le_refl _) enter88 enter89 HL.out.1 HL.out.2.1 w4 (Below.refl _ _))
 have HD := Lib.hid (And.intro (blk_keep c2 hb4) (And.intro (btr hB hb4 (by omega)) (And.intro hg9 hg2)))
 clear hw4 hb4 b12 hg12 c1 c2 hB hg9 hg2 hz b2
 refine wp_seq_k (fun K hK => ?_)
 have HK := Lib.hid hK; clear hK
 go_wp2_with (first | (go_at_call 74; refine H74.out.mono ?_; rintro e w5 ⟨tn, tg, ts, T, hT, rfl, hb5, hN⟩; have H5 := Lib.hid (And.intro hT (And.intro hb5 hN)); clear hT hb5 hN) | (refine wpList_store_blk rfl 25 _ _ rfl _ rfl rfl (heap_newI rfl) size25 rfl rfl (H5.out.2.2.law (Nat.le_refl _) (fun _ _ _ => rfl)).one ?_))
 refine HK.out _ _ ?_; clear HK
 obtain ⟨hT, hb5, hN⟩ := H5.out
 obtain ⟨d2, hB5, hg1, hg2⟩ := HD.out
 obtain ⟨W, hW⟩ : ∃ q, q = (w5.alloc (.cells #[.slice none 0 0, .slice none 0 0] 25)).putObj w5.heap.size (.cells #[tn, tg] 25) := ⟨_, rfl⟩
 have hbW : Below w5.heap.size w5 W := by rw [hW]; exact below_putObj ((Below.refl _ _).alloc (Nat.le_refl _) _) (Nat.le_refl _)
 have bW : W.heap[w5.heap.size]? = some (.cells #[tn, tg] 25 (0, 0)) := by rw [hW]; exact World.putObj_heap_same (by rw [World.size_alloc]; omega)
 have e2 : W.heap[g2]? = some (.cells #[.slice none 0 0, .slice none 0 0] 25 (0, 0)) := blk_keep (blk_keep d2 hb5) hbW
 rw [← hW]
 obtain ⟨g7, hg7⟩ : ∃ q, q = w5.heap.size := ⟨_, rfl⟩
 rw [← hg7] at bW ⊢
 have hone := (hN.law (Nat.le_refl _) (fun _ _ _ => rfl)).one
 have hgz2 := lt_blk d2
 have hz5 := hb5.size
 have HF := Lib.hid (And.intro hbW (And.intro hg7 (And.intro hg1 (And.intro hg2 (And.intro hT (And.intro hb5 (And.intro hB5 (And.intro hN (And.intro hgz2 hz5)))))))))
 clear hW hbW hg7 hg1 hg2 hT hb5 hB5 hN hgz2 hz5 d2 H5 H74 HD
 go_wp2_with (first | (refine wpList_load_blk rfl 25 _ rfl _ rfl bW Try.underlying25 rfl size25 rfl ?_) | (refine wpList_store_blk rfl 25 _ _ rfl _ rfl rfl e2 size25 rfl rfl hone ?_))
 obtain ⟨hbW, hg7, hg1, hg2, hT, hb5, hB5, hN, hgz2, hz5⟩ := HF.out
 have hzW := hbW.size
 refine bodyPost_ret (results_agg_tmp rfl _ _ g2 rfl (World.putObj_heap_same (lt_blk e2)) Try.underlying25 rfl size25 rfl) rfl ⟨_, _, rfl, ?_, ?_⟩
 ·unfold resL ruleL
  rw [if_pos rfl, show theT k (Fut (ruleS k F) 0) = T from theT_eq hT]
  exact hN.lawF (by rw [World.putObj_size]; exact hzW) hB5.size fun i h1 h2 => (World.putObj_heap_other (by omega)).trans (hbW.block i h2)
 ·rw [hg1]; exact below_putObj (btr (btr hB5 hb5 (Nat.le_refl _)) hbW (Nat.le_refl _)) (by omega)
/-- What a rule of rest is made of. -/
theorem rest_rule {crops crop years : Int} (h : madeE crops crop 0 years = 0) : RuleF 58 crop years (restedF crop years) (fun s => -1 ≤ s ∧ s ≤ years) := by
 unfold madeE at h
 have h3 : btw 0 years 20 = true := by
  split at h; · omega
  split at h; · omega
  split at h; · omega
  rename_i _ _ h3; simpa using h3
 rw [btw_true] at h3
 refine ⟨enters_of Try.func58 (by kernel_rfl) rfl, fun s c w hs => rested_any crop years s c w (by omega), by omega, fun s c hs => ?_, fun s hs => by omega⟩
 unfold restedF
 split
 ·omega
 ·split
  ·omega
  ·have := hs.1; have := hs.2; omega
theorem within_rule {crops crop years : Int} (h : madeE crops crop 1 years = 0) : RuleF 61 crop years (missedF crop years) (fun s => -1 ≤ s ∧ s < years) := by
 unfold madeE at h
 have h3 : btw 1 years 20 = true := by
  split at h; · omega
  split at h; · omega
  split at h; · omega
  rename_i _ _ h3; simpa using h3
 rw [btw_true] at h3
 refine ⟨enters_of Try.func61 (by kernel_rfl) rfl, fun s c w hs => missed_any crop years s c w (by omega), by omega, fun s c hs => ?_, fun s hs => by omega⟩
 unfold missedF
 split
 ·omega
 ·split
  ·omega
  ·rename_i h1 h2
   have : s + 1 ≠ years := fun e => h1 (.inr ⟨h2, e⟩)
   have := hs.1; have := hs.2; omega
noncomputable def restL (crops crop years : Int) : Lw := ruleL crops.toNat (restedF crop years)
noncomputable def withinL (crops crop years : Int) : Lw := ruleL crops.toNat (missedF crop years)
set_option maxRecDepth 100000 in
theorem rest15_any (crops crop years : Int) (w : World) :
  Calls Try.prog 15 #[.int .i64 crops, .int .i64 crop, .int .i64 years] w fun e w' => ∃ vn vg, e = .returned (.tuple #[.agg #[vn, vg], .int .i64 (madeE crops crop 0 years)]) ∧ LawF w w' (.agg #[vn, vg]) (resL (restL crops crop years) (madeE crops crop 0 years)) ∧ Below w.heap.size w w' := by
 have H := Lib.hid (fun W => made57_any (fun h => rest_rule (crops := crops) (crop := crop) (years := years) h) W)
 have b2 : (w.alloc (.cells #[.slice none 0 0, .slice none 0 0] 25)).heap[w.heap.size]? = some (.cells #[.slice none 0 0, .slice none 0 0] 25 (0, 0)) := heap_newI rfl
 have hB : Below w.heap.size w (w.alloc (.cells #[.slice none 0 0, .slice none 0 0] 25)) := (Below.refl _ _).alloc (Nat.le_refl _) _
 obtain ⟨E, hE⟩ : ∃ E, E = madeE crops crop 0 years := ⟨_, rfl⟩
 rw [← hE] at H ⊢
 clear hE
 go_enter Try.func15, Try.ntmps15
 refine wp_seq_k (fun K hK => ?_)
 have HK := Lib.hid hK; clear hK
 go_wp2
 refine HK.out _ _ ?_; clear HK
 obtain ⟨w2, hw2⟩ : ∃ q, q = w.alloc (.cells #[.slice none 0 0, .slice none 0 0] 25) := ⟨_, rfl⟩
 rw [← hw2] at b2 hB ⊢
 clear hw2
 obtain ⟨g2, hg2⟩ : ∃ q, q = w.heap.size := ⟨_, rfl⟩
 rw [← hg2] at b2 ⊢
 have HB := Lib.hid (And.intro hB hg2)
 clear hB hg2
 go_wp2_with (first | (go_at_call 57; refine (H.out _).mono ?_; rintro e w3 ⟨vn, vg, rfl, hl, hb3⟩; have e2 := blk_keep b2 hb3; have H3 := Lib.hid (And.intro hl hb3); clear hl hb3) | (refine wpList_store_blk rfl 25 _ _ rfl _ rfl rfl e2 size25 rfl rfl H3.out.1.now.one ?_))
 obtain ⟨hB, hg2⟩ := HB.out
 obtain ⟨hl, hb3⟩ := H3.out
 have hz3 := hB.size
 have hlt := lt_blk b2
 refine bodyPost_ret (results_agg_tmp rfl _ _ g2 rfl (World.putObj_heap_same (lt_blk e2)) Try.underlying25 rfl size25 rfl) rfl ⟨_, _, rfl, ?_, ?_⟩
 ·exact hl.put _ hlt hz3
 have hbf := below_putObj (D := g2) (o := .cells #[vn, vg] 25) (btr hB hb3 (Nat.le_refl _)) (by omega)
 rwa [← hg2] at hbf
set_option maxRecDepth 100000 in
theorem within17_any (crops crop years : Int) (w : World) :
  Calls Try.prog 17 #[.int .i64 crops, .int .i64 crop, .int .i64 years] w fun e w' => ∃ vn vg, e = .returned (.tuple #[.agg #[vn, vg], .int .i64 (madeE crops crop 1 years)]) ∧ LawF w w' (.agg #[vn, vg]) (resL (withinL crops crop years) (madeE crops crop 1 years)) ∧ Below w.heap.size w w' := by
 have H := Lib.hid (fun W => made57_any (fun h => within_rule (crops := crops) (crop := crop) (years := years) h) W)
 have b2 : (w.alloc (.cells #[.slice none 0 0, .slice none 0 0] 25)).heap[w.heap.size]? = some (.cells #[.slice none 0 0, .slice none 0 0] 25 (0, 0)) := heap_newI rfl
 have hB : Below w.heap.size w (w.alloc (.cells #[.slice none 0 0, .slice none 0 0] 25)) := (Below.refl _ _).alloc (Nat.le_refl _) _
 obtain ⟨E, hE⟩ : ∃ E, E = madeE crops crop 1 years := ⟨_, rfl⟩
 rw [← hE] at H ⊢
 clear hE
 go_enter Try.func17, Try.ntmps17
 refine wp_seq_k (fun K hK => ?_)
 have HK := Lib.hid hK; clear hK
 go_wp2
 refine HK.out _ _ ?_; clear HK
 obtain ⟨w2, hw2⟩ : ∃ q, q = w.alloc (.cells #[.slice none 0 0, .slice none 0 0] 25) := ⟨_, rfl⟩
 rw [← hw2] at b2 hB ⊢
 clear hw2
 obtain ⟨g2, hg2⟩ : ∃ q, q = w.heap.size := ⟨_, rfl⟩
 rw [← hg2] at b2 ⊢
 have HB := Lib.hid (And.intro hB hg2)
 clear hB hg2
 go_wp2_with (first | (go_at_call 57; refine (H.out _).mono ?_; rintro e w3 ⟨vn, vg, rfl, hl, hb3⟩; have e2 := blk_keep b2 hb3; have H3 := Lib.hid (And.intro hl hb3); clear hl hb3) | (refine wpList_store_blk rfl 25 _ _ rfl _ rfl rfl e2 size25 rfl rfl H3.out.1.now.one ?_))
 obtain ⟨hB, hg2⟩ := HB.out
 obtain ⟨hl, hb3⟩ := H3.out
 have hz3 := hB.size
 have hlt := lt_blk b2
 refine bodyPost_ret (results_agg_tmp rfl _ _ g2 rfl (World.putObj_heap_same (lt_blk e2)) Try.underlying25 rfl size25 rfl) rfl ⟨_, _, rfl, ?_, ?_⟩
 ·exact hl.put _ hlt hz3
 have hbf := below_putObj (D := g2) (o := .cells #[vn, vg] 25) (btr hB hb3 (Nat.le_refl _)) (by omega)
 rwa [← hg2] at hbf
end Ytnjgglnpmhjmiaa
end Go.Proofs
