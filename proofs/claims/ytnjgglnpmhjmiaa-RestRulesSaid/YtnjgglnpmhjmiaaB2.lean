/- Laws of rotation: two laws together. -/
import Derived.Test.YtnjgglnpmhjmiaaB1
open Go Go.RowKit Go.YtnjgglnpmhjmiaaIt
open Rest
namespace Go.Proofs
namespace Ytnjgglnpmhjmiaa
/-- The joint system, as it lies in memory. -/
structure JointM (W : World) (B : Nat) (g4 g5 g7 fG : Nat) (la lb : Lw) : Prop where
 a : ∃ vn vg, LawX W g4 25 la vn vg
 b : ∃ vn vg, LawX W g5 25 lb vn vg
 f : W.heap[g7]? = some (.cells #[.func (.func fG) #[] #[]] 110 (0, 0))
set_option maxRecDepth 100000 in
set_option maxHeartbeats 4000000 in
theorem joint70_any {va vb : Value} {la lb : Lw} {fG : Nat} {f : Bool → Bool → Bool} {st : P2} {w : World} (ha : LawA w va la) (hb : LawA w vb lb) (hoa : la.Ok) :
  Calls Try.prog 70 #[va, vb, encP st, .func (.func fG) #[] #[]] w fun e w' => ∃ g4 g5 g7, e = .returned (.agg (sysVP (jointS la lb st f) 94 95 #[.pointer (some ⟨g4, 0, none⟩), .pointer (some ⟨g5, 0, none⟩)] #[.pointer (some ⟨g7, 0, none⟩), .pointer (some ⟨g4, 0, none⟩), .pointer (some ⟨g5, 0, none⟩)])) ∧ JointM w' w.heap.size g4 g5 g7 fG la lb ∧ Below w.heap.size w w' := by
 have H85 := Lib.hid (fun W (hW : Below w.heap.size w W) => crops_any (ha.below hW (Nat.le_refl _)) hoa.ne)
 obtain ⟨an, ag, rfl, han, hag⟩ := ha
 obtain ⟨bn, bg, rfl, hbn, hbg⟩ := hb
 obtain ⟨c1, c2, c3, c4, c5, hB, hz⟩ := blkE5 (w := w) (a := .cells #[an, ag] 25) (b := .cells #[bn, bg] 25) (c := .cells #[.int .i64 st.1, .int .i64 st.2] 104) (d := .cells #[.func (.func fG) #[] #[]] 110) (e := .cells #[.int .i64 0, .int .i64 0, .int .i64 0, .nilFunc, .nilFunc] 108) rfl
 obtain ⟨w2, hw2⟩ : ∃ q, q = ((((w.alloc (.cells #[an, ag] 25)).alloc (.cells #[bn, bg] 25)).alloc (.cells #[.int .i64 st.1, .int .i64 st.2] 104)).alloc (.cells #[.func (.func fG) #[] #[]] 110)).alloc (.cells #[.int .i64 0, .int .i64 0, .int .i64 0, .nilFunc, .nilFunc] 108) := ⟨_, rfl⟩
 rw [← hw2] at c1 c2 c3 c4 c5 hB hz
 have HW := Lib.hid hw2
 have HC := Lib.hid (And.intro c1 (And.intro c2 (And.intro c3 (And.intro c4 (And.intro c5 (And.intro hB hz))))))
 have HS := Lib.hid (And.intro han (And.intro hag (And.intro hbn hbg)))
 clear hw2 c1 c2 c3 c4 c5 hB hz han hag hbn hbg hoa
 go_enter Try.func70, Try.ntmps70
 refine wp_noP ?_
 refine wp_seq_k (fun K hK => ?_)
 have HK := Lib.hid hK; clear hK
 go_wp2
 refine HK.out _ _ ?_; clear HK
 try rw [← HW.out]
 obtain ⟨c1, c2, c3, c4, c5, hB, hz⟩ := HC.out
 obtain ⟨g4, hg4⟩ : ∃ q, q = w.heap.size := ⟨_, rfl⟩
 obtain ⟨g5, hg5⟩ : ∃ q, q = w.heap.size + 1 := ⟨_, rfl⟩
 obtain ⟨g6, hg6⟩ : ∃ q, q = w.heap.size + 1 + 1 := ⟨_, rfl⟩
 obtain ⟨g7, hg7⟩ : ∃ q, q = w.heap.size + 1 + 1 + 1 := ⟨_, rfl⟩
 obtain ⟨g8, hg8⟩ : ∃ q, q = w.heap.size + 1 + 1 + 1 + 1 := ⟨_, rfl⟩
 rw [← hg4] at c1
 rw [← hg5] at c2
 rw [← hg6] at c3
 rw [← hg7] at c4
 rw [← hg8] at c5
 rw [← hg8, ← hg7, ← hg6, ← hg5, ← hg4]
 obtain ⟨wd, hwd⟩ : ∃ q, q = w2.drew := ⟨_, rfl⟩
 have hBd : Below w.heap.size w wd := by rw [hwd]; exact hB.drew
 have hdw : Below w2.heap.size w2 wd := by rw [hwd]; exact (Below.refl _ _).drew
 replace c1 := blk_keep c1 hdw
 replace c2 := blk_keep c2 hdw
 replace c3 := blk_keep c3 hdw
 replace c4 := blk_keep c4 hdw
 replace c5 := blk_keep c5 hdw
 have HWD := Lib.hid hwd
 have HG := Lib.hid (And.intro hg4 (And.intro hg5 (And.intro hg6 (And.intro hg7 (And.intro hg8 hBd)))))
 have f0 := cell_blk (i := 0) c3
 have f1 := cell_blk (i := 1) c3
 simp only [List.getElem?_toArray, List.getElem?_cons_zero, List.getElem?_cons_succ] at f0 f1
 have l6 := lt_blk c3
 clear hdw hwd hg4 hg5 hg6 hg7 hg8 hBd hB hz HC HW
 have hRd : Below wd.heap.size wd wd := Below.refl _ _
 refine wp_seq_k (fun K hK => ?_)
 have HK2 := Lib.hid hK; clear hK
 refine wp_region_x (R := fun _ => True) (S := fun U => Below wd.heap.size wd U) (z := 6) rfl ?_
 change wpAnyX _ _ _ _ _ _ _ _ _ _ w2.drew
 rw [← HWD.out]
 refine wpAnyX_take (i := 0) (oi := ⟨some 9, _, _, _, _, none⟩) (v := ?_) rfl (by kernel_rfl) (by kernel_rfl) (by kernel_rfl) (fun _ _ _ h => h) (Or.inl ⟨by rfl, ?_⟩) ⟨trivial, fun _ => (by assumption)⟩ ?_
 rotate_left
 ·refine yields_load_blk 25 (.tmp 4) ?_ g4 ?_ (t := 25) (fr := (0, 0)) (cs := #[an, ag]) (fun U hU => ?_) Try.underlying25 rfl size25 rfl
  ·rfl
  ·rfl
  ·exact blk_keep c1 hU.2
 simp only [putE]
 refine wpAnyX_take (i := 2) (oi := ⟨some 11, _, _, _, _, none⟩) (v := ?_) rfl (by kernel_rfl) (by kernel_rfl) (by kernel_rfl) (fun _ _ _ h => h) (Or.inl ⟨by rfl, ?_⟩) ⟨trivial, fun _ => (by assumption)⟩ ?_
 rotate_left
 ·intro U hU
  have u0 := (hU.2.cell (p := ⟨g6, 0, none⟩) l6).trans f0
  have u1 := (hU.2.cell (p := ⟨g6, 1, none⟩) l6).trans f1
  go_simp
  all_goals with_reducible rfl
 simp only [putE]
 refine wpX_kp (i := 3) (oi := ⟨some 12, _, _, _, _, none⟩) (v := ?_) rfl (fun _ _ _ h => h) ?_ ⟨trivial, fun _ => (by assumption)⟩ ?_
 rotate_left
 ·intro U hU
  go_simp
  all_goals with_reducible rfl
 simp only [putE]
 refine wpX_kp (i := 4) (oi := ⟨some 13, _, _, _, _, none⟩) (v := ?_) rfl (fun _ _ _ h => h) ?_ ⟨trivial, fun _ => (by assumption)⟩ ?_
 rotate_left
 ·intro U hU
  go_simp
  all_goals with_reducible rfl
 simp only [putE]
 refine wpAnyX_one (i := 1) (o := ⟨some 10, _, _, _, _, none⟩) (by kernel_rfl) rfl (by rfl) (fun K1 hK1 => ?_)
 have HK1' := Lib.hid hK1; clear hK1
 refine oper_call (ts := _) (xs := #[.tmp 9]) (f := 85) rfl (enters_of Try.func85 (by kernel_rfl) rfl) rfl (R := fun w' => Below wd.heap.size wd w') (v := .int .i64 (la.k : Nat)) ((H85.out wd HG.out.2.2.2.2.2).mono (by rintro e w' ⟨rfl, h⟩; exact ⟨rfl, h⟩)) ?_
 rintro wr1 hr1
 refine HK1'.out _ _ ⟨trivial, fun _ => hr1⟩ ?_
 clear HK1'
 try simp only [putE]
 refine wpX_kp (i := 5) (oi := ⟨some 14, _, _, _, _, none⟩) (v := ?_) rfl (fun _ _ _ h => h) ?_ ⟨trivial, fun _ => hr1⟩ ?_
 rotate_left
 ·intro U hU
  go_simp
  all_goals with_reducible rfl
 simp only [putE]
 refine wpAnyX_one (i := 6) (o := ⟨none, _, _, _, _, none⟩) (by kernel_rfl) rfl (by rfl) (fun K1 hK1 => ?_)
 have HK1' := Lib.hid hK1; clear hK1
 refine oper_store_blk 108 (.tmp 8) (.tmp 14) rfl g8 rfl rfl (blk_keep c5 hr1) size108 rfl rfl (by simp [Value.oneCell']) ?_
 refine HK1'.out _ _ ⟨trivial, fun h => by simp at h⟩ ?_
 clear HK1'
 try simp only [Act.put]
 refine wpAnyX_done (by kernel_rfl) ?_ _
 refine HK2.out _ _ ?_; clear HK2
 go_wp2
 obtain ⟨hg4, hg5, hg6, hg7, hg8, hBd⟩ := HG.out
 obtain ⟨han, hag, hbn, hbg⟩ := HS.out
 have hBW : Below w.heap.size w wr1 := hBd.trans (hr1.mono hBd.size)
 have hFin : Below w.heap.size w (wr1.putObj g8 (.cells #[.int .i64 la.k, .int .i64 st.1, .int .i64 st.2, (.func (.func 94) #[] #[.pointer (some ⟨g4, 0, none⟩), .pointer (some ⟨g5, 0, none⟩)]), (.func (.func 95) #[] #[.pointer (some ⟨g7, 0, none⟩), .pointer (some ⟨g4, 0, none⟩), .pointer (some ⟨g5, 0, none⟩)])] 108)) := below_putObj hBW (by omega)
 have hFg := hFin
 rw [← hg4] at hFg
 refine noP_ret (bodyPost_ret (results_blk rfl _ _ _ rfl (World.putObj_heap_same (lt_blk (blk_keep c5 hr1))) Try.underlying108 rfl size108 rfl) rfl ⟨g4, g5, g7, rfl, ⟨⟨an, ag, ?_, han.below hFin (Nat.le_refl _), hag.below hFin (Nat.le_refl _)⟩, ⟨bn, bg, ?_, hbn.below hFin (Nat.le_refl _), hbg.below hFin (Nat.le_refl _)⟩, ?_⟩, hFg⟩)
 ·exact (World.putObj_heap_other (by omega)).trans (blk_keep c1 hr1)
 ·exact (World.putObj_heap_other (by omega)).trans (blk_keep c2 hr1)
 ·exact (World.putObj_heap_other (by omega)).trans (blk_keep c4 hr1)
end Ytnjgglnpmhjmiaa
end Go.Proofs

