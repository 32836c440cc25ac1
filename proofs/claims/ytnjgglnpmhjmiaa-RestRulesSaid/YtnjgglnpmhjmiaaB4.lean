/- Laws of rotation: Both and Either. -/
import Derived.Test.YtnjgglnpmhjmiaaB3
open Go Go.RowKit Go.YtnjgglnpmhjmiaaIt
open Rest
namespace Go.Proofs
namespace Ytnjgglnpmhjmiaa
noncomputable def joinT (a b : Lw) (f : Bool → Bool → Bool) : Tab := theT a.k (Fut (jointS a b (0, 0) f) (0, 0))
noncomputable def joinE (a b : Lw) (f : Bool → Bool → Bool) : Int := if chk2E a b = 0 then (if 40 < (joinT a b f).nx.length then 15 else 0) else chk2E a b
theorem chk2_ok {a b : Lw} (h : chk2E a b = 0) : a.Ok ∧ b.Ok ∧ a.k = b.k := by
 unfold chk2E at h
 split at h
 ·rename_i ha
  split at h
  ·rename_i hb
   split at h
   ·exact ⟨chkL_ok ha, chkL_ok hb, by assumption⟩
   ·omega
  ·exact absurd h (by assumption)
 ·exact absurd h (by assumption)
set_option maxRecDepth 100000 in
set_option maxHeartbeats 4000000 in
theorem joined80_any {va vb : Value} {la lb : Lw} {fG : Nat} {f : Bool → Bool → Bool} (hF : BoolF fG f) {w : World} (ha : LawA w va la) (hb : LawA w vb lb) :
  Calls Try.prog 80 #[va, vb, .func (.func fG) #[] #[]] w fun e w' => ∃ vn vg, e = .returned (.tuple #[.agg #[vn, vg], .int .i64 (joinE la lb f)]) ∧ LawF w w' (.agg #[vn, vg]) (resL (tabL (joinT la lb f)) (joinE la lb f)) ∧ Below w.heap.size w w' := by
 have HA := Lib.hid ha
 have HB := Lib.hid hb
 have HF0 := Lib.hid hF
 obtain ⟨an, ag, rfl, -, -⟩ := ha
 obtain ⟨bn, bg, rfl, -, -⟩ := hb
 obtain ⟨c1, c2, c6, hBB, hz⟩ := blkE3 (w := w) (a := .cells #[an, ag] 25) (b := .cells #[bn, bg] 25) (c := .cells #[.slice none 0 0, .slice none 0 0] 25) rfl
 obtain ⟨w2, hw2⟩ : ∃ q, q = ((w.alloc (.cells #[an, ag] 25)).alloc (.cells #[bn, bg] 25)).alloc (.cells #[.slice none 0 0, .slice none 0 0] 25) := ⟨_, rfl⟩
 rw [← hw2] at c1 c2 c6 hBB hz
 have HW := Lib.hid hw2
 have HC := Lib.hid (And.intro c1 (And.intro c2 (And.intro c6 (And.intro hBB hz))))
 have H69 := Lib.hid (check2_any (HA.out.below hBB (Nat.le_refl _)) (HB.out.below hBB (Nat.le_refl _)))
 clear hw2 c1 c2 c6 hBB hz hF
 go_enter Try.func80, Try.ntmps80
 refine wp_seq_k (fun K hK => ?_)
 have HK := Lib.hid hK; clear hK
 go_wp2
 refine HK.out _ _ ?_; clear HK
 rw [← HW.out]
 obtain ⟨c1, c2, c6, hBB, hz⟩ := HC.out
 obtain ⟨g3, hg3⟩ : ∃ q, q = w.heap.size := ⟨_, rfl⟩
 obtain ⟨g4, hg4⟩ : ∃ q, q = w.heap.size + 1 := ⟨_, rfl⟩
 obtain ⟨g6, hg6⟩ : ∃ q, q = w.heap.size + 1 + 1 := ⟨_, rfl⟩
 rw [← hg3] at c1
 rw [← hg4] at c2
 rw [← hg6] at c6
 rw [← hg6, ← hg4, ← hg3]
 have HG := Lib.hid (And.intro hg3 (And.intro hg4 (And.intro hg6 (And.intro hBB hz))))
 have HC1 := Lib.hid c1
 have HC2 := Lib.hid c2
 have HC6 := Lib.hid c6
 clear hg3 hg4 hg6 hBB hz c1 c2 c6 HC HW
 have HJE : Hid (joinE la lb f = if chk2E la lb = 0 then (if 40 < (joinT la lb f).nx.length then 15 else 0) else chk2E la lb) := Lib.hid rfl
 obtain ⟨E, hE⟩ : ∃ E, E = chk2E la lb := ⟨_, rfl⟩
 rw [← hE] at H69 HJE
 have HE := Lib.hid hE
 clear hE
 by_cases h0 : E = 0
 case neg =>
  have hb0 : (E != 0) = true := by simpa using h0
  have hb0' : (E == 0) = false := by simpa using h0
  have e1 : joinE la lb f = E := by rw [HJE.out, if_neg h0]
  rw [e1]
  have H0E := Lib.hid h0
  clear h0 e1
  go_wp2_with (first | (refine wpList_load_blk rfl 25 (.tmp 3) rfl _ rfl HC1.out Try.underlying25 rfl size25 rfl ?_) | (refine wpList_load_blk rfl 25 (.tmp 4) rfl _ rfl HC2.out Try.underlying25 rfl size25 rfl ?_) | (go_at_call 69; refine H69.out.mono ?_; rintro e w3 ⟨rfl, hb3⟩; have b6 := blk_keep HC6.out hb3; have HB3 := Lib.hid hb3; clear hb3) | (refine wpList_store_blk rfl 25 _ _ rfl _ rfl rfl b6 size25 rfl rfl (by simp [Value.oneCell']) ?_))
  obtain ⟨hg3, hg4, hg6, hBB, hz⟩ := HG.out
  refine bodyPost_ret (results_agg_tmp rfl _ _ g6 rfl (World.putObj_heap_same (lt_blk b6)) Try.underlying25 rfl size25 rfl) rfl ⟨_, _, rfl, ?_, ?_⟩
  ·unfold resL; rw [if_neg H0E.out]; exact LawF.nil _ _
  ·rw [hg3]; exact below_putObj (btr hBB HB3.out (Nat.le_refl _)) (by omega)
 obtain ⟨hoa, hob, hk⟩ := chk2_ok (a := la) (b := lb) (by rw [← HE.out]; exact h0)
 subst h0
 have HO := Lib.hid (And.intro hoa (And.intro hob hk))
 have H70 := Lib.hid (fun W (hW : Below w2.heap.size w2 W) => joint70_any (fG := fG) (f := f) (st := (0, 0)) (HA.out.below (btr HG.out.2.2.2.1 hW (Nat.le_refl _)) (Nat.le_refl _)) (HB.out.below (btr HG.out.2.2.2.1 hW (Nat.le_refl _)) (Nat.le_refl _)) hoa)
 obtain ⟨L, hL, hlen, -⟩ := joint_walk hoa hob hk f (st := (0, 0)) ⟨hoa.st0, hob.st0⟩
 have H103 : Hid (∀ W B g4 g5 g7, JointM W B g4 g5 g7 fG la lb → Calls Try.prog 103 #[.agg (sysVP (jointS la lb (0, 0) f) 94 95 #[.pointer (some ⟨g4, 0, none⟩), .pointer (some ⟨g5, 0, none⟩)] #[.pointer (some ⟨g7, 0, none⟩), .pointer (some ⟨g4, 0, none⟩), .pointer (some ⟨g5, 0, none⟩)])] W fun e w' => ∃ vn vg vst, e = .returned (.tuple #[.agg #[vn, vg], vst]) ∧ Below W.heap.size W w' ∧ TabN W w' vn vg vst (joinT la lb f)) := Lib.hid (by
  intro W B g4 g5 g7 hJ
  obtain ⟨⟨_, _, hXa⟩, ⟨_, _, hXb⟩, h7⟩ := hJ
  refine (leastP_any (hXa.joint hoa hob hk HF0.out hXb h7 ⟨hoa.st0, hob.st0⟩) (Nat.le_refl _) enter94 enter95 hL (by omega) W (Below.refl _ _)).mono ?_
  rintro e w' ⟨vn, vg, vst, T, hT, rfl, hB, hN⟩
  have : joinT la lb f = T := theT_eq hT
  rw [this]
  exact ⟨_, _, _, rfl, hB, hN⟩)
 clear hoa hob hk hL hlen
 have e1 : joinE la lb f = if 40 < (joinT la lb f).nx.length then 15 else 0 := by rw [HJE.out, if_pos rfl]
 rw [e1]
 clear e1
 obtain ⟨T, hT⟩ : ∃ T, T = joinT la lb f := ⟨_, rfl⟩
 rw [← hT] at H103 ⊢
 clear hT HJE
 refine wp_seq_k (fun K hK => ?_)
 have HK := Lib.hid hK; clear hK
 go_wp2_with (first | (refine wpList_load_blk rfl 25 (.tmp 3) rfl _ rfl HC1.out Try.underlying25 rfl size25 rfl ?_) | (refine wpList_load_blk rfl 25 (.tmp 4) rfl _ rfl HC2.out Try.underlying25 rfl size25 rfl ?_) | (go_at_call 69; refine H69.out.mono ?_; rintro e w3 ⟨rfl, hb3⟩; have HB3 := Lib.hid hb3; clear hb3))
 refine HK.out _ _ ?_; clear HK
 have d1 := blk_keep HC1.out HB3.out
 have d2 := blk_keep HC2.out HB3.out
 have d6 := blk_keep HC6.out HB3.out
 have HD1 := Lib.hid d1
 have HD2 := Lib.hid d2
 have HD6 := Lib.hid d6
 clear d1 d2 d6
 refine wp_seq_k (fun K hK => ?_)
 have HK := Lib.hid hK; clear hK
 go_wp2_with (first | (refine wpList_load_blk rfl 25 (.tmp 3) rfl _ rfl HD1.out Try.underlying25 rfl size25 rfl ?_) | (refine wpList_load_blk rfl 25 (.tmp 4) rfl _ rfl HD2.out Try.underlying25 rfl size25 rfl ?_) | (go_at_call 70; refine (H70.out _ HB3.out).mono ?_; rintro e w4 ⟨q4, q5, q7, rfl, hJ, hb4⟩; have H5 := Lib.hid (H103.out w4 _ _ _ _ hJ); have HB4 := Lib.hid hb4; clear hJ hb4) | (go_at_call 103; refine H5.out.mono ?_; rintro e w5 ⟨tn, tg, ts, rfl, hb5, hN⟩; have H6 := Lib.hid (And.intro hb5 hN); clear hb5 hN) | (refine wpList_store_blk rfl 25 (.tmp 9) _ rfl _ rfl rfl (heap_newI rfl) size25 rfl rfl (H6.out.2.law (Nat.le_refl _) (fun _ _ _ => rfl)).one ?_))
 refine HK.out _ _ ?_; clear HK
 obtain ⟨hb5, hN⟩ := H6.out
 obtain ⟨hg3, hg4, hg6, hBB, hz⟩ := HG.out
 have hone := (hN.law (Nat.le_refl _) (fun _ _ _ => rfl)).one
 have hnow := hN.now.1
 obtain ⟨tan, tcn, rfl, -⟩ := slII_form hnow
 rw [List.length_map] at *
 obtain ⟨W, hW⟩ : ∃ q, q = (w5.alloc (.cells #[.slice none 0 0, .slice none 0 0] 25)).putObj w5.heap.size (.cells #[.slice tan T.nx.length tcn, tg] 25) := ⟨_, rfl⟩
 have hbW : Below w5.heap.size w5 W := by rw [hW]; exact below_putObj ((Below.refl _ _).alloc (Nat.le_refl _) _) (Nat.le_refl _)
 have bW : W.heap[w5.heap.size]? = some (.cells #[.slice tan T.nx.length tcn, tg] 25 (0, 0)) := by rw [hW]; exact World.putObj_heap_same (by rw [World.size_alloc]; omega)
 have e6 : W.heap[g6]? = some (.cells #[.slice none 0 0, .slice none 0 0] 25 (0, 0)) := blk_keep (blk_keep (blk_keep HD6.out HB4.out) hb5) hbW
 rw [← hW]
 obtain ⟨g9, hg9⟩ : ∃ q, q = w5.heap.size := ⟨_, rfl⟩
 rw [← hg9] at bW ⊢
 have y9 := cell_blk (i := 0) bW
 simp only [List.getElem?_toArray, List.getElem?_cons_zero] at y9
 have l6 := lt_blk HD6.out
 have l63 := lt_blk HC6.out
 have hz4 := HB4.out.size
 have hz5 := hb5.size
 have hzW := hbW.size
 have hBW : Below w.heap.size w W := btr (btr (btr (btr hBB HB3.out (Nat.le_refl _)) HB4.out (Nat.le_refl _)) hb5 (Nat.le_refl _)) hbW (Nat.le_refl _)
 have HF := Lib.hid (And.intro hbW (And.intro hg9 (And.intro hg3 (And.intro hg6 (And.intro hN (And.intro hBW (And.intro l6 (And.intro l63 (And.intro hz4 (And.intro hz5 hzW))))))))))
 clear hW hbW hg9 hg3 hg4 hg6 hBB hz hb5 hN hBW l6 l63 hz4 hz5 hzW H5 H6 H70 H103 hnow
 by_cases h40 : 40 < T.nx.length
 ·have hq : decide ((40 : Int) < (T.nx.length : Int)) = true := by simp; omega
  rw [if_pos h40]
  clear h40
  go_wp2_with (first | (refine wpList_store_blk rfl 25 _ _ rfl _ rfl rfl e6 size25 rfl rfl (by simp [Value.oneCell']) ?_))
  obtain ⟨hbW, hg9, hg3, hg6, hN, hBW, l6, l63, hz4, hz5, hzW⟩ := HF.out
  refine bodyPost_ret (results_agg_tmp rfl _ _ g6 rfl (World.putObj_heap_same (lt_blk e6)) Try.underlying25 rfl size25 rfl) rfl ⟨_, _, rfl, ?_, ?_⟩
  ·unfold resL; rw [if_neg (by decide)]; exact LawF.nil _ _
  ·rw [hg3]; exact below_putObj hBW (by omega)
 ·have hq : decide ((40 : Int) < (T.nx.length : Int)) = false := by simp; omega
  rw [if_neg h40]
  clear h40
  go_wp2_with (first | (refine wpList_load_blk rfl 25 (.tmp 9) rfl _ rfl bW Try.underlying25 rfl size25 rfl ?_) | (refine wpList_store_blk rfl 25 _ _ rfl _ rfl rfl e6 size25 rfl rfl hone ?_))
  obtain ⟨hbW, hg9, hg3, hg6, hN, hBW, l6, l63, hz4, hz5, hzW⟩ := HF.out
  refine bodyPost_ret (results_agg_tmp rfl _ _ g6 rfl (World.putObj_heap_same (lt_blk e6)) Try.underlying25 rfl size25 rfl) rfl ⟨_, _, rfl, ?_, ?_⟩
  ·unfold resL
   rw [if_pos rfl]
   refine hN.lawF (by rw [World.putObj_size]; exact hzW) (by have := HG.out.2.2.2.1.size; have := HB3.out.size; omega) fun i h1 h2 => (World.putObj_heap_other (by have := HB3.out.size; omega)).trans (hbW.block i h2)
  ·rw [hg3]; exact below_putObj hBW (by omega)
theorem and81 : BoolF 81 (fun a b => a && b) := ⟨enters_of Try.func81 (by kernel_rfl) rfl, fun a b w => by
 cases a <;> cases b
 all_goals
  go_enter Try.func81, Try.ntmps81
  go_wp2
  go_ret
  exact ⟨rfl, Below.refl _ _⟩⟩
theorem or84 : BoolF 84 (fun a b => a || b) := ⟨enters_of Try.func84 (by kernel_rfl) rfl, fun a b w => by
 cases a <;> cases b
 all_goals
  go_enter Try.func84, Try.ntmps84
  go_wp2
  go_ret
  exact ⟨rfl, Below.refl _ _⟩⟩
theorem apart71 : BoolF 71 (fun a b => a != b) := ⟨enters_of Try.func71 (by kernel_rfl) rfl, fun a b w => (apart_any a b w).mono (by rintro e w' ⟨rfl, rfl⟩; exact ⟨rfl, Below.refl _ _⟩)⟩
noncomputable def bothT (a b : Lw) : Tab := joinT a b (fun a b => a && b)
noncomputable def bothE (a b : Lw) : Int := joinE a b (fun a b => a && b)
noncomputable def eitherT (a b : Lw) : Tab := joinT a b (fun a b => a || b)
noncomputable def eitherE (a b : Lw) : Int := joinE a b (fun a b => a || b)
set_option maxRecDepth 100000 in
set_option maxHeartbeats 1000000 in
theorem both42_any {va vb : Value} {la lb : Lw} {w : World} (ha : LawA w va la) (hb : LawA w vb lb) :
  Calls Try.prog 42 #[va, vb] w fun e w' => ∃ vn vg, e = .returned (.tuple #[.agg #[vn, vg], .int .i64 (bothE la lb)]) ∧ LawF w w' (.agg #[vn, vg]) (resL (tabL (bothT la lb)) (bothE la lb)) ∧ Below w.heap.size w w' := by
 have HA := Lib.hid ha
 have HB := Lib.hid hb
 obtain ⟨an, ag, rfl, -, -⟩ := ha
 obtain ⟨bn, bg, rfl, -, -⟩ := hb
 obtain ⟨c1, c2, c6, hBB, hz⟩ := blkE3 (w := w) (a := .cells #[an, ag] 25) (b := .cells #[bn, bg] 25) (c := .cells #[.slice none 0 0, .slice none 0 0] 25) rfl
 obtain ⟨w2, hw2⟩ : ∃ q, q = ((w.alloc (.cells #[an, ag] 25)).alloc (.cells #[bn, bg] 25)).alloc (.cells #[.slice none 0 0, .slice none 0 0] 25) := ⟨_, rfl⟩
 rw [← hw2] at c1 c2 c6 hBB hz
 have HW := Lib.hid hw2
 have H80 := Lib.hid (joined80_any and81 (HA.out.below hBB (Nat.le_refl _)) (HB.out.below hBB (Nat.le_refl _)))
 have HC := Lib.hid (And.intro c1 (And.intro c2 (And.intro c6 (And.intro hBB hz))))
 clear hw2 c1 c2 c6 hBB hz
 unfold bothE bothT
 obtain ⟨E, hE⟩ : ∃ E, E = joinE la lb (fun a b => a && b) := ⟨_, rfl⟩
 obtain ⟨T, hT⟩ : ∃ T, T = joinT la lb (fun a b => a && b) := ⟨_, rfl⟩
 rw [← hE, ← hT] at H80 ⊢
 clear hE hT
 go_enter Try.func42, Try.ntmps42
 refine wp_seq_k (fun K hK => ?_)
 have HK := Lib.hid hK; clear hK
 go_wp2
 refine HK.out _ _ ?_; clear HK
 rw [← HW.out]
 obtain ⟨c1, c2, c6, hBB, hz⟩ := HC.out
 obtain ⟨g3, hg3⟩ : ∃ q, q = w.heap.size := ⟨_, rfl⟩
 obtain ⟨g4, hg4⟩ : ∃ q, q = w.heap.size + 1 := ⟨_, rfl⟩
 obtain ⟨g6, hg6⟩ : ∃ q, q = w.heap.size + 1 + 1 := ⟨_, rfl⟩
 rw [← hg3] at c1
 rw [← hg4] at c2
 rw [← hg6] at c6
 rw [← hg6, ← hg4, ← hg3]
 have HG := Lib.hid (And.intro hg3 (And.intro hg4 (And.intro hg6 (And.intro hBB hz))))
 clear hg3 hg4 hg6 hBB hz HC HW
 go_wp2_with (first | (refine wpList_load_blk rfl 25 (.tmp 2) rfl _ rfl c1 Try.underlying25 rfl size25 rfl ?_) | (refine wpList_load_blk rfl 25 (.tmp 3) rfl _ rfl c2 Try.underlying25 rfl size25 rfl ?_) | (go_at_call 80; refine H80.out.mono ?_; rintro e w3 ⟨vn, vg, rfl, hl, hb3⟩; have e6 := blk_keep c6 hb3; have H3 := Lib.hid (And.intro hl hb3); clear hl hb3) | (refine wpList_store_blk rfl 25 _ _ rfl _ rfl rfl e6 size25 rfl rfl H3.out.1.now.one ?_))
 obtain ⟨hg3, hg4, hg6, hBB, hz⟩ := HG.out
 obtain ⟨hl, hb3⟩ := H3.out
 have hlt := lt_blk c6
 have hz3 := hBB.size
 refine bodyPost_ret (results_agg_tmp rfl _ _ g6 rfl (World.putObj_heap_same (lt_blk e6)) Try.underlying25 rfl size25 rfl) rfl ⟨_, _, rfl, ?_, ?_⟩
 ·exact hl.put _ hlt hz3
 ·rw [hg3]; exact below_putObj (btr hBB hb3 (Nat.le_refl _)) (by omega)
set_option maxRecDepth 100000 in
set_option maxHeartbeats 1000000 in
theorem either46_any {va vb : Value} {la lb : Lw} {w : World} (ha : LawA w va la) (hb : LawA w vb lb) :
  Calls Try.prog 46 #[va, vb] w fun e w' => ∃ vn vg, e = .returned (.tuple #[.agg #[vn, vg], .int .i64 (eitherE la lb)]) ∧ LawF w w' (.agg #[vn, vg]) (resL (tabL (eitherT la lb)) (eitherE la lb)) ∧ Below w.heap.size w w' := by
 have HA := Lib.hid ha
 have HB := Lib.hid hb
 obtain ⟨an, ag, rfl, -, -⟩ := ha
 obtain ⟨bn, bg, rfl, -, -⟩ := hb
 obtain ⟨c1, c2, c6, hBB, hz⟩ := blkE3 (w := w) (a := .cells #[an, ag] 25) (b := .cells #[bn, bg] 25) (c := .cells #[.slice none 0 0, .slice none 0 0] 25) rfl
 obtain ⟨w2, hw2⟩ : ∃ q, q = ((w.alloc (.cells #[an, ag] 25)).alloc (.cells #[bn, bg] 25)).alloc (.cells #[.slice none 0 0, .slice none 0 0] 25) := ⟨_, rfl⟩
 rw [← hw2] at c1 c2 c6 hBB hz
 have HW := Lib.hid hw2
 have H80 := Lib.hid (joined80_any or84 (HA.out.below hBB (Nat.le_refl _)) (HB.out.below hBB (Nat.le_refl _)))
 have HC := Lib.hid (And.intro c1 (And.intro c2 (And.intro c6 (And.intro hBB hz))))
 clear hw2 c1 c2 c6 hBB hz
 unfold eitherE eitherT
 obtain ⟨E, hE⟩ : ∃ E, E = joinE la lb (fun a b => a || b) := ⟨_, rfl⟩
 obtain ⟨T, hT⟩ : ∃ T, T = joinT la lb (fun a b => a || b) := ⟨_, rfl⟩
 rw [← hE, ← hT] at H80 ⊢
 clear hE hT
 go_enter Try.func46, Try.ntmps46
 refine wp_seq_k (fun K hK => ?_)
 have HK := Lib.hid hK; clear hK
 go_wp2
 refine HK.out _ _ ?_; clear HK
 rw [← HW.out]
 obtain ⟨c1, c2, c6, hBB, hz⟩ := HC.out
 obtain ⟨g3, hg3⟩ : ∃ q, q = w.heap.size := ⟨_, rfl⟩
 obtain ⟨g4, hg4⟩ : ∃ q, q = w.heap.size + 1 := ⟨_, rfl⟩
 obtain ⟨g6, hg6⟩ : ∃ q, q = w.heap.size + 1 + 1 := ⟨_, rfl⟩
 rw [← hg3] at c1
 rw [← hg4] at c2
 rw [← hg6] at c6
 rw [← hg6, ← hg4, ← hg3]
 have HG := Lib.hid (And.intro hg3 (And.intro hg4 (And.intro hg6 (And.intro hBB hz))))
 clear hg3 hg4 hg6 hBB hz HC HW
 go_wp2_with (first | (refine wpList_load_blk rfl 25 (.tmp 2) rfl _ rfl c1 Try.underlying25 rfl size25 rfl ?_) | (refine wpList_load_blk rfl 25 (.tmp 3) rfl _ rfl c2 Try.underlying25 rfl size25 rfl ?_) | (go_at_call 80; refine H80.out.mono ?_; rintro e w3 ⟨vn, vg, rfl, hl, hb3⟩; have e6 := blk_keep c6 hb3; have H3 := Lib.hid (And.intro hl hb3); clear hl hb3) | (refine wpList_store_blk rfl 25 _ _ rfl _ rfl rfl e6 size25 rfl rfl H3.out.1.now.one ?_))
 obtain ⟨hg3, hg4, hg6, hBB, hz⟩ := HG.out
 obtain ⟨hl, hb3⟩ := H3.out
 have hlt := lt_blk c6
 have hz3 := hBB.size
 refine bodyPost_ret (results_agg_tmp rfl _ _ g6 rfl (World.putObj_heap_same (lt_blk e6)) Try.underlying25 rfl size25 rfl) rfl ⟨_, _, rfl, ?_, ?_⟩
 ·exact hl.put _ hlt hz3
 ·rw [hg3]; exact below_putObj (btr hBB hb3 (Nat.le_refl _)) (by omega)
end Ytnjgglnpmhjmiaa
end Go.Proofs

