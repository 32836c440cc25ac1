/- For every input (there is none) the law RailKnown returns true. Conditions: none. -/
import Derived.Test.YteijenefhoconaaRows
import Derived.Test.YteijenefhoconaaWorks
import Derived.Test.YteijenefhoconaaPost
open Go Go.RowKit Go.YteijenefhoconaaIt
namespace Go.Proofs
namespace Yteijenefhoconaa
set_option maxRecDepth 100000 in
set_option maxHeartbeats 1000000 in
theorem known_any (w : World) : Calls Try.prog 12 #[] w fun e w' => e = .returned (.bool true) ∧ Below w.heap.size w w' := by
  go_enter Try.func12, Try.ntmps12
  refine wp_seq_k (fun K hK => ?_)
  have HK := Lib.hid hK; clear hK
  go_wp2
  refine HK.out _ _ ?_; clear HK K
  have B0 : Below w.heap.size w w := Below.refl _ _
  refine wp_seq_k (fun K hK => ?_)
  have HK := Lib.hid hK; clear hK
  go_wp2_with (first | (go_at_call 39; refine (L_any _).mono ?_; rintro e wa1 ⟨va, rfl, ha, hba⟩) | (go_at_call 40; refine (W_any _).mono ?_; rintro e wb1 ⟨vb, rfl, hb, hbb⟩) | (go_at_call 16; refine (x16 e3 s4 _ (ha.below hbb (Nat.le_refl _)) hb).mono ?_; rintro e wc1 ⟨rfl, hbc⟩))
  refine HK.out _ _ ?_; clear HK K
  replace B0 := (btr (btr (btr B0 hba (Nat.le_refl _)) hbb (Nat.le_refl _)) hbc (Nat.le_refl _))
  clear hba hbc ha hbb hb
  refine wp_seq_k (fun K hK => ?_)
  have HK := Lib.hid hK; clear hK
  go_wp2_with (first | (go_at_call 39; refine (L_any _).mono ?_; rintro e wa2 ⟨va, rfl, ha, hba⟩) | (go_at_call 41; refine (T_any _).mono ?_; rintro e wb2 ⟨vb, rfl, hb, hbb⟩) | (go_at_call 16; refine (x16 e4 s3 _ (ha.below hbb (Nat.le_refl _)) hb).mono ?_; rintro e wc2 ⟨rfl, hbc⟩))
  refine HK.out _ _ ?_; clear HK K
  replace B0 := (btr (btr (btr B0 hba (Nat.le_refl _)) hbb (Nat.le_refl _)) hbc (Nat.le_refl _))
  clear hba hbc ha hbb hb
  refine wp_seq_k (fun K hK => ?_)
  have HK := Lib.hid hK; clear hK
  go_wp2_with (first | (go_at_call 39; refine (L_any _).mono ?_; rintro e wa3 ⟨va, rfl, ha, hba⟩) | (go_at_call 42; refine (V_any _).mono ?_; rintro e wb3 ⟨vb, rfl, hb, hbb⟩) | (go_at_call 35; refine (x35 e2 c2 _ (ha.below hbb (Nat.le_refl _)) hb).mono ?_; rintro e wc3 ⟨v5, rfl, H5, hbc⟩))
  refine HK.out _ _ ?_; clear HK K
  replace B0 := (btr (btr (btr B0 hba (Nat.le_refl _)) hbb (Nat.le_refl _)) hbc (Nat.le_refl _))
  clear hba hbc ha hbb hb
  refine wp_seq_k (fun K hK => ?_)
  have HK := Lib.hid hK; clear hK
  go_wp2_with (first | (go_at_call 39; refine (L_any _).mono ?_; rintro e wa4 ⟨va, rfl, ha, hba⟩; have hbl : ∀ o, Below wa4.heap.size wa4 (wa4.alloc o) := fun o => (Below.refl _ _).alloc (Nat.le_refl _) _) | (go_at_call 37; refine (x37n m3 (by decide) _ (ha.below (hbl _) (Nat.le_refl _)) (slT_new (ts := [(4, 6), (5, 0)]) (by decide))).mono ?_; rintro e wc4 ⟨rfl, hbc⟩))
  refine HK.out _ _ ?_; clear HK K
  replace H5 := (((H5.below hba (Nat.le_refl _)).below (hbl _) (Nat.le_refl _)).below hbc (Nat.le_refl _))
  replace B0 := (btr (btr (btr B0 hba (Nat.le_refl _)) (hbl _) (Nat.le_refl _)) hbc (Nat.le_refl _))
  clear hba hbc ha hbl
  refine wp_seq_k (fun K hK => ?_)
  have HK := Lib.hid hK; clear hK
  go_wp2_with (first | (go_at_call 39; refine (L_any _).mono ?_; rintro e wa5 ⟨va, rfl, ha, hba⟩) | (go_at_call 42; refine (V_any _).mono ?_; rintro e wb5 ⟨vb, rfl, hb, hbb⟩) | (go_at_call 20; refine (x20n e2 s2 _ (ha.below hbb (Nat.le_refl _)) hb).mono ?_; rintro e wc5 ⟨rfl, hbc⟩))
  refine HK.out _ _ ?_; clear HK K
  replace H5 := (((H5.below hba (Nat.le_refl _)).below hbb (Nat.le_refl _)).below hbc (Nat.le_refl _))
  replace B0 := (btr (btr (btr B0 hba (Nat.le_refl _)) hbb (Nat.le_refl _)) hbc (Nat.le_refl _))
  clear hba hbc ha hbb hb
  obtain ⟨ad5, cap5, rfl, -, -⟩ := H5
  go_wp2_with fail
  refine (works_any _).mono ?_
  rintro e wd ⟨rfl, hbd⟩
  go_wp2
  go_ret
  exact ⟨rfl, btr B0 hbd (Nat.le_refl _)⟩
section
open Go.ChangeShapes Go.WideShapes Go.ChangeAt
theorem own : ownKnob Try.prog.godebug = none := by kernel_rfl
set_option maxRecDepth 100000 in
theorem known_lifted (os : Os) (started : os.Started) (H : Type) (enc : TypeId × Value → H) :
    ReturnsInHanded {} Try.checked os 12 .any (Rows.railKnownSpec.pre6 enc Try.prog Try.f12 Rows.railKnownRow.domain false) (Rows.railKnownSpec.post enc Try.prog Try.f12 false true false false) := by
  refine returnsInHanded_of_change (C := Try.checked) own started (by kernel_rfl) Try.func12
    (ChangeSpec.witness6 (enc := enc) (C := Try.checked) false ⟨#[], #[], []⟩ 8 (by kernel_rfl) (by kernel_rfl) (by kernel_rfl) (by kernel_rfl)) ?_
  intro W base args ds gs before hval0 hW hcnd _
  have hval : ∀ (j : Nat) t v, Try.f12.params[j]? = some t → args[j]? = some v → Value.okWide Try.prog W .any base t v := hval0
  have hW' := hW
  obtain ⟨p, q, hA0, hV, rfl, hfz, hnd⟩ := hW
  have hA : DataW.TrodAll enc Try.prog W 0 (fun _ => true) true Try.f12.params.toList args.toList ds p := hA0
  rw [Try.params12] at hA hval
  obtain ⟨rfl, rfl, rfl⟩ := trodAll_none hA
  obtain ⟨rfl, rfl⟩ := trodVars_none hV
  clear hA0 hval0
  simp only [List.append_nil] at hW'
  refine (known_any W).mono fun e W' ⟨he, hg⟩ => ?_
  subst he
  exact ⟨_, rfl, post_of_below (pa := []) (pv := []) hW' (fun _ _ _ => (trodAll_cons_mk (shut_bool Try.underlying4 _) trodAll_mk0)) (fun sp _ => rfl) (fun _ _ => rfl) rfl
    hg (ok_one (by kernel_rfl) rfl (okWide_bool_mk Try.underlying4 _))⟩
theorem known_holds : Rows.RailKnownSaid :=
  OpenClaim.holds_of_wide 12 Try.f12 rfl rfl rfl rfl rfl rfl rfl ⟨rfl, rfl, rfl, rfl, rfl⟩ rfl rfl rfl rfl rfl (by kernel_rfl) Try.func12 (by kernel_rfl)
    (of_decide_eq_true (by kernel_rfl)) (by unfold Func.isWrapper; first | (rw [if_pos (by decide +kernel)]; kernel_rfl) | (rw [if_neg (by decide +kernel)]; exact ⟨rfl, rfl⟩))
    (fun os started H enc _ => known_lifted os started H enc)
end
#print axioms known_holds
end Yteijenefhoconaa
end Go.Proofs
