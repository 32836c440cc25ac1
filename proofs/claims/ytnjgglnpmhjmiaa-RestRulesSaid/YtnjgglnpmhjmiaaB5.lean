/- Laws of rotation: Differ. -/
import Derived.Test.YtnjgglnpmhjmiaaB4
open Go Go.RowKit Go.YtnjgglnpmhjmiaaIt
open Rest
namespace Go.Proofs
namespace Ytnjgglnpmhjmiaa
/-- Pairs of states, good if just one of two is. -/
def diffS (a b : Lw) (st : P2) : RSys P2 := jointS a b st (fun a b => a != b)
theorem joint_first {fG : Nat} {f : Bool → Bool → Bool} (hF : BoolF fG f) {la lb : Lw} (hoa : la.Ok) (hob : lb.Ok) (hk : la.k = lb.k) {st : P2} (hst : okJ la lb st) (W : World) (B g4 g5 g7 : Nat) (hJ : JointM W B g4 g5 g7 fG la lb) :
  Calls Try.prog 72 #[.agg (sysVP (jointS la lb st f) 94 95 #[.pointer (some ⟨g4, 0, none⟩), .pointer (some ⟨g5, 0, none⟩)] #[.pointer (some ⟨g7, 0, none⟩), .pointer (some ⟨g4, 0, none⟩), .pointer (some ⟨g5, 0, none⟩)])] W fun e w' => ∃ v, e = .returned (.tuple #[v, .bool (firstO (jointS la lb st f)).isSome]) ∧ SlI w' v (nI ((firstO (jointS la lb st f)).getD [])) ∧ (∀ g off n c, v = .slice (some ⟨g, off, none⟩) n c → W.heap.size ≤ g) ∧ Below W.heap.size W w' := by
 obtain ⟨L, hL, hlen, -⟩ := joint_walk hoa hob hk f hst
 obtain ⟨⟨_, _, hXa⟩, ⟨_, _, hXb⟩, h7⟩ := hJ
 exact first72_any (hXa.joint hoa hob hk hF hXb h7 hst) (Nat.le_refl _) enter94 enter95 hL (by omega) W (Below.refl _ _)
set_option maxRecDepth 100000 in
set_option maxHeartbeats 2000000 in
theorem differ27_any {va vb : Value} {la lb : Lw} {w : World} (ha : LawA w va la) (hb : LawA w vb lb) : Calls Try.prog 27 #[va, vb] w fun e w' => ∃ vy, e = .returned (.tuple #[vy, .int .i64 (firstE (chk2E la lb) (diffS la lb (0, 0)))]) ∧ SlI w' vy (nI (firstY (chk2E la lb) (diffS la lb (0, 0)))) ∧ Below w.heap.size w w' := by
 have HA := Lib.hid ha
 have HB := Lib.hid hb
 obtain ⟨an, ag, rfl, -, -⟩ := ha
 obtain ⟨bn, bg, rfl, -, -⟩ := hb
 obtain ⟨c1, c2, hBB, hz⟩ := blkE2 (w := w) (a := .cells #[an, ag] 25) (b := .cells #[bn, bg] 25) rfl
 obtain ⟨w2, hw2⟩ : ∃ q, q = (w.alloc (.cells #[an, ag] 25)).alloc (.cells #[bn, bg] 25) := ⟨_, rfl⟩
 rw [← hw2] at c1 c2 hBB hz
 have HW := Lib.hid hw2
 have H69 := Lib.hid (check2_any (HA.out.below hBB (Nat.le_refl _)) (HB.out.below hBB (Nat.le_refl _)))
 have HC := Lib.hid (And.intro c1 (And.intro c2 (And.intro hBB hz)))
 clear hw2 c1 c2 hBB hz
 go_enter Try.func27, Try.ntmps27
 refine wp_seq_k (fun K hK => ?_)
 have HK := Lib.hid hK; clear hK
 go_wp2
 refine HK.out _ _ ?_; clear HK
 rw [← HW.out]
 obtain ⟨c1, c2, hBB, hz⟩ := HC.out
 obtain ⟨g3, hg3⟩ : ∃ q, q = w.heap.size := ⟨_, rfl⟩
 obtain ⟨g4, hg4⟩ : ∃ q, q = w.heap.size + 1 := ⟨_, rfl⟩
 rw [← hg3] at c1
 rw [← hg4] at c2
 rw [← hg4, ← hg3]
 have HG := Lib.hid (And.intro hg3 hBB)
 have HC1 := Lib.hid c1
 have HC2 := Lib.hid c2
 clear hg3 hg4 hBB hz c1 c2 HC HW
 obtain ⟨E, hE⟩ : ∃ E, E = chk2E la lb := ⟨_, rfl⟩
 rw [← hE] at H69 ⊢
 have HE := Lib.hid hE
 clear hE
 by_cases h0 : E = 0
 case neg =>
  have hb0 : (E != 0) = true := by simpa using h0
  have hb0' : (E == 0) = false := by simpa using h0
  have e1 : firstE E (diffS la lb (0, 0)) = E := by unfold firstE; rw [if_neg h0]
  have e2 : firstY E (diffS la lb (0, 0)) = [] := by unfold firstY; rw [if_neg h0]
  rw [e1, e2]
  clear h0 e1 e2
  go_wp2_with (first | (refine wpList_load_blk rfl 25 (.tmp 2) rfl _ rfl HC1.out Try.underlying25 rfl size25 rfl ?_) | (refine wpList_load_blk rfl 25 (.tmp 3) rfl _ rfl HC2.out Try.underlying25 rfl size25 rfl ?_) | (go_at_call 69; refine H69.out.mono ?_; rintro e w3 ⟨rfl, hb3⟩; have HB3 := Lib.hid hb3; clear hb3))
  obtain ⟨hg1, hB⟩ := HG.out
  exact bodyPost_ret (results_tmp2 rfl _ _ _) rfl ⟨_, rfl, slI_nil _, by rw [hg1]; exact btr hB HB3.out (Nat.le_refl _)⟩
 obtain ⟨hoa, hob, hk⟩ := chk2_ok (a := la) (b := lb) (by rw [← HE.out]; exact h0)
 subst h0
 have e1 : firstE 0 (diffS la lb (0, 0)) = if (firstO (diffS la lb (0, 0))).isSome = true then 0 else 5 := by unfold firstE; rw [if_pos rfl]
 have e2 : firstY 0 (diffS la lb (0, 0)) = (firstO (diffS la lb (0, 0))).getD [] := by unfold firstY; rw [if_pos rfl]
 rw [e1, e2]
 have H72 := Lib.hid (joint_first apart71 hoa hob hk (st := (0, 0)) ⟨hoa.st0, hob.st0⟩)
 have H70 := Lib.hid (fun W (hW : Below w2.heap.size w2 W) => joint70_any (fG := 71) (f := fun a b => a != b) (st := (0, 0)) (HA.out.below (btr HG.out.2 hW (Nat.le_refl _)) (Nat.le_refl _)) (HB.out.below (btr HG.out.2 hW (Nat.le_refl _)) (Nat.le_refl _)) hoa)
 obtain ⟨o, ho⟩ : ∃ o, o = firstO (diffS la lb (0, 0)) := ⟨_, rfl⟩
 rw [← ho]
 rw [show firstO (jointS la lb (0, 0) fun a b => a != b) = o from ho.symm] at H72
 clear ho hoa hob hk e1 e2
 refine wp_seq_k (fun K hK => ?_)
 have HK := Lib.hid hK; clear hK
 go_wp2_with (first | (refine wpList_load_blk rfl 25 (.tmp 2) rfl _ rfl HC1.out Try.underlying25 rfl size25 rfl ?_) | (refine wpList_load_blk rfl 25 (.tmp 3) rfl _ rfl HC2.out Try.underlying25 rfl size25 rfl ?_) | (go_at_call 69; refine H69.out.mono ?_; rintro e w3 ⟨rfl, hb3⟩; have HB3 := Lib.hid hb3; clear hb3))
 refine HK.out _ _ ?_; clear HK
 have HD1 := Lib.hid (blk_keep HC1.out HB3.out)
 have HD2 := Lib.hid (blk_keep HC2.out HB3.out)
 refine wp_seq_k (fun K hK => ?_)
 have HK := Lib.hid hK; clear hK
 go_wp2_with (first | (refine wpList_load_blk rfl 25 (.tmp 2) rfl _ rfl HD1.out Try.underlying25 rfl size25 rfl ?_) | (refine wpList_load_blk rfl 25 (.tmp 3) rfl _ rfl HD2.out Try.underlying25 rfl size25 rfl ?_) | (go_at_call 70; refine (H70.out _ HB3.out).mono ?_; rintro e w4 ⟨q4, q5, q7, rfl, hJ, hb4⟩; have H6 := Lib.hid (H72.out w4 _ _ _ _ hJ); have HB4 := Lib.hid hb4; clear hJ hb4) | (go_at_call 72; refine H6.out.mono ?_; rintro e w5 ⟨v, rfl, hv, -, hb5⟩; have H5 := Lib.hid (And.intro hv hb5); clear hv hb5))
 refine HK.out _ _ ?_; clear HK
 obtain ⟨hv, hb5⟩ := H5.out
 have hfin : Below g3 w w5 := by rw [HG.out.1]; exact btr (btr (btr HG.out.2 HB3.out (Nat.le_refl _)) HB4.out (Nat.le_refl _)) hb5 (Nat.le_refl _)
 have HF := Lib.hid (And.intro hv hfin)
 clear hv hb5 hfin
 cases o with
 | none =>
  simp only [Option.isSome_none, Option.getD_none, Bool.false_eq_true, if_false] at HF ⊢
  go_wp2
  exact bodyPost_ret (results_tmp2 rfl _ _ _) rfl ⟨_, rfl, slI_nil _, HF.out.2⟩
 | some ys =>
  simp only [Option.isSome_some, Option.getD_some, if_true] at HF ⊢
  go_wp2
  exact bodyPost_ret (results_tmp2 rfl _ _ _) rfl ⟨_, rfl, HF.out⟩
end Ytnjgglnpmhjmiaa
end Go.Proofs

