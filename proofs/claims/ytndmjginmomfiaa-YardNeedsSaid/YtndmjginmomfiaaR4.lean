/- The reference: state, dayed, Table, Term. -/
import Derived.Test.YtndmjginmomfiaaPlR
open Go Go.RowKit Go.YtndmjginmomfiaaIt
namespace Go.Proofs
namespace Ytndmjginmomfiaa
theorem rterms_any (y : Yd) (v : Value) (w : World) (ok : Ok y) (hw : SlW w v y.ws) :
    Calls Try.prog 42 #[.agg (encY y v)] w fun e w' => ∃ u, e = .returned u ∧ SlII w' u (tabP y) ∧ Below w.heap.size w w' := by
  have h := terms_any y v w ok hw
  rwa [finP_eq ok] at h
set_option maxRecDepth 100000 in
set_option maxHeartbeats 2000000 in
theorem rstate_any (y : Yd) (v : Value) (s m : Int) (w : World) (hw : SlW w v y.ws) :
    Calls Try.prog 44 #[.agg (encY y v), .int .i64 s, .int .i64 m] w fun e w' => e = .returned (.int .i64 (stE y s m)) ∧ Below w.heap.size w w' := by
  have hy4 : (encY y v).size = 4 := rfl
  have hcc := fun W hW => rcheck_any y v W (hw.below (w' := W) hW (Nat.le_refl _))
  have hse : stE y s m = if chkE y = 0 then (if btw 0 s y.room = true then (if btw 0 m (y.ws.length - 1) = true then 0 else 5) else 2) else chkE y := rfl
  generalize stE y s m = R at *
  have hok := chk_ok (y := y)
  generalize chkE y = C at *
  have HSE := Lib.hid hse
  have HOK := Lib.hid hok
  have HCC := Lib.hid hcc
  have hw0 := hw
  obtain ⟨ad, cap, rfl, hmx, hcp, -⟩ := hw
  clear hse hok hcc hw0
  go_enter Try.func44, Try.ntmps44
  refine wp_seq_k (fun K hK => ?_)
  have HK := Lib.hid hK; clear hK
  go_wp2
  refine HK.out _ _ ?_; clear HK K
  generalize hw1 : World.alloc _ _ = w1
  obtain ⟨b1, hB, hs1⟩ := blk1 hw1
  clear hw1
  have hlb := lt_blk b1
  have hcc := HCC.out w1 hB
  clear HCC
  by_cases h0 : C = 0
  rotate_left
  · have h0b : (C != 0) = true := bne_iff_ne.2 h0
    have HR := Lib.hid (show R = C by rw [HSE.out, if_neg h0])
    clear h0
    go_wp2_with (first | (refine wpList_load_blk rfl 31 _ rfl _ rfl b1 Try.underlying31 rfl size31 hy4 ?_) | (go_at_call 22; refine hcc.mono ?_; rintro e w2 ⟨rfl, hb2⟩))
    go_ret
    exact ⟨by rw [HR.out]; rfl, hB.trans (hb2.mono (by omega))⟩
  subst h0
  have ok := HOK.out.1 rfl
  have hln := ok.n1
  have HSF := HSE.out
  rw [if_pos rfl] at HSF
  clear HSE
  have HSE := Lib.hid HSF
  clear HSF HOK
  refine wp_seq_k (fun K hK => ?_)
  have HK := Lib.hid hK; clear hK
  go_wp2_with (first | (refine wpList_load_blk rfl 31 _ rfl _ rfl b1 Try.underlying31 rfl size31 hy4 ?_) | (go_at_call 22; refine hcc.mono ?_; rintro e w2 ⟨rfl, hb2⟩))
  refine HK.out _ _ ?_; clear HK K
  replace b1 := blk_keep b1 hb2
  replace hB := hB.trans (hb2.mono (by omega))
  clear hb2 hcc hlb hs1
  have c0 := cell_blk (i := 0) b1
  have c3 := cell_blk (i := 3) b1
  simp only [encY, List.getElem?_toArray, List.getElem?_cons_zero, List.getElem?_cons_succ] at c0 c3
  cases e1 : btw 0 s y.room
  · have HR := Lib.hid (show R = 2 by rw [HSE.out, e1]; rfl)
    clear HSE
    go_wp2_with (go_at_call 46; (with_reducible refine (is_any _ _ _ _).mono ?_); rintro e w' ⟨rfl, rfl⟩)
    go_ret
    exact ⟨by rw [HR.out]; rfl, hB⟩
  cases e2 : btw 0 m ((y.ws.length : Int) - 1)
  · have HR := Lib.hid (show R = 5 by rw [HSE.out, e1, e2]; rfl)
    clear HSE
    go_wp2_with (go_at_call 46; (with_reducible refine (is_any _ _ _ _).mono ?_); rintro e w' ⟨rfl, rfl⟩)
    go_ret
    exact ⟨by rw [HR.out]; rfl, hB⟩
  · have HR := Lib.hid (show R = 0 by rw [HSE.out, e1, e2]; rfl)
    clear HSE
    go_wp2_with (go_at_call 46; (with_reducible refine (is_any _ _ _ _).mono ?_); rintro e w' ⟨rfl, rfl⟩)
    go_ret
    exact ⟨by rw [HR.out]; rfl, hB⟩
set_option maxRecDepth 100000 in
set_option maxHeartbeats 2000000 in
theorem rdayed_any (y : Yd) (v : Value) (s m d : Int) (w : World) (hw : SlW w v y.ws) :
    Calls Try.prog 57 #[.agg (encY y v), .int .i64 s, .int .i64 m, .int .i64 d] w fun e w' => e = .returned (.int .i64 (ordE y s m d)) ∧ Below w.heap.size w w' := by
  have hy4 : (encY y v).size = 4 := rfl
  have hcc := fun W hW => rstate_any y v s m W (hw.below (w' := W) hW (Nat.le_refl _))
  have hse : ordE y s m d = if stE y s m = 0 then (if btw 1 d 1000 = true then 0 else 2) else stE y s m := rfl
  generalize ordE y s m d = R at *
  generalize stE y s m = C at *
  have HSE := Lib.hid hse
  have HCC := Lib.hid hcc
  clear hse hcc hw
  go_enter Try.func57, Try.ntmps57
  refine wp_seq_k (fun K hK => ?_)
  have HK := Lib.hid hK; clear hK
  go_wp2
  refine HK.out _ _ ?_; clear HK K
  generalize hw1 : World.alloc _ _ = w1
  obtain ⟨b1, hB, hs1⟩ := blk1 hw1
  clear hw1
  have hcc := HCC.out w1 hB
  by_cases h0 : C = 0
  · subst h0
    have HSF := HSE.out
    rw [if_pos rfl] at HSF
    have HS2 := Lib.hid HSF
    clear HSF HSE
    cases e1 : btw 1 d 1000
    · have HR := Lib.hid (show R = 2 by rw [HS2.out, e1]; rfl)
      go_wp2_with (first | (refine wpList_load_blk rfl 31 _ rfl _ rfl b1 Try.underlying31 rfl size31 hy4 ?_) | (go_at_call 44; refine hcc.mono ?_; rintro e w2 ⟨rfl, hb2⟩) | (go_at_call 46; (with_reducible refine (is_any _ _ _ _).mono ?_); rintro e w' ⟨rfl, rfl⟩))
      go_ret
      exact ⟨by rw [HR.out]; rfl, hB.trans (hb2.mono (by omega))⟩
    · have HR := Lib.hid (show R = 0 by rw [HS2.out, e1]; rfl)
      go_wp2_with (first | (refine wpList_load_blk rfl 31 _ rfl _ rfl b1 Try.underlying31 rfl size31 hy4 ?_) | (go_at_call 44; refine hcc.mono ?_; rintro e w2 ⟨rfl, hb2⟩) | (go_at_call 46; (with_reducible refine (is_any _ _ _ _).mono ?_); rintro e w' ⟨rfl, rfl⟩))
      go_ret
      exact ⟨by rw [HR.out]; rfl, hB.trans (hb2.mono (by omega))⟩
  · have h0b : (C == 0) = false := by simp [h0]
    have HR := Lib.hid (show R = C by rw [HSE.out, if_neg h0])
    clear h0
    go_wp2_with (first | (refine wpList_load_blk rfl 31 _ rfl _ rfl b1 Try.underlying31 rfl size31 hy4 ?_) | (go_at_call 44; refine hcc.mono ?_; rintro e w2 ⟨rfl, hb2⟩))
    go_ret
    exact ⟨by rw [HR.out]; rfl, hB.trans (hb2.mono (by omega))⟩
/-- What Table answers. -/
def TabR (c : Int) (y : Yd) (e : Ending) (w' : World) : Prop :=
  (c ≠ 0 ∧ e = .returned (.tuple #[.slice none 0 0, .int .i64 c])) ∨ (c = 0 ∧ ∃ u, e = .returned (.tuple #[u, .int .i64 0]) ∧ SlII w' u (tabP y))
set_option maxRecDepth 100000 in
set_option maxHeartbeats 2000000 in
theorem rtable_any (y : Yd) (v : Value) (w : World) (hw : SlW w v y.ws) :
    Calls Try.prog 17 #[.agg (encY y v)] w fun e w' => Below w.heap.size w w' ∧ TabR (chkE y) y e w' := by
  have hy4 : (encY y v).size = 4 := rfl
  have hcc := fun W hW => rcheck_any y v W (hw.below (w' := W) hW (Nat.le_refl _))
  have hok := chk_ok (y := y)
  generalize chkE y = C at *
  have HT := Lib.hid (fun W (ok : Ok y) (hW : Below w.heap.size w W) => rterms_any y v W ok (hw.below hW (Nat.le_refl _)))
  have HOK := Lib.hid hok
  have HCC := Lib.hid hcc
  clear hok hcc hw
  go_enter Try.func17, Try.ntmps17
  refine wp_seq_k (fun K hK => ?_)
  have HK := Lib.hid hK; clear hK
  go_wp2
  refine HK.out _ _ ?_; clear HK K
  generalize hw1 : World.alloc _ _ = w1
  obtain ⟨b1, hB, hs1⟩ := blk1 hw1
  clear hw1
  have hcc := HCC.out w1 hB
  clear HCC
  by_cases h0 : C = 0
  · subst h0
    have HTT := Lib.hid (HT.out · (HOK.out.1 rfl))
    go_wp2_with (first | (refine wpList_load_blk rfl 31 _ rfl _ rfl b1 Try.underlying31 rfl size31 hy4 ?_) | (go_at_call 22; refine hcc.mono ?_; rintro e w2 ⟨rfl, hb2⟩; replace b1 := blk_keep b1 hb2; replace hB := hB.trans (hb2.mono (by omega)); have ht := HTT.out w2 hB) | (go_at_call 42; refine ht.mono ?_; rintro e w3 ⟨u, rfl, hu, hb3⟩))
    go_ret2
    exact ⟨hB.trans (hb3.mono hB.size), .inr ⟨rfl, u, rfl, hu⟩⟩
  · have h0b : (C != 0) = true := bne_iff_ne.2 h0
    have HN := Lib.hid h0
    clear h0
    go_wp2_with (first | (refine wpList_load_blk rfl 31 _ rfl _ rfl b1 Try.underlying31 rfl size31 hy4 ?_) | (go_at_call 22; refine hcc.mono ?_; rintro e w2 ⟨rfl, hb2⟩))
    go_ret2
    exact ⟨hB.trans (hb2.mono (by omega)), .inl ⟨HN.out, rfl⟩⟩
set_option maxRecDepth 100000 in
set_option maxHeartbeats 2000000 in
theorem rterm_any (y : Yd) (v : Value) (s m : Int) (w : World) (hw : SlW w v y.ws) :
    Calls Try.prog 19 #[.agg (encY y v), .int .i64 s, .int .i64 m] w fun e w' => e = .returned (.tuple #[.int .i64 (termE y s m), .int .i64 (stE y s m)]) ∧ Below w.heap.size w w' := by
  have hy4 : (encY y v).size = 4 := rfl
  have hcc := fun W hW => rstate_any y v s m W (hw.below (w' := W) hW (Nat.le_refl _))
  have hok := stE_ok (y := y) (s := s) (m := m)
  have hte : termE y s m = if stE y s m = 0 then termP y s.toNat m.toNat else 0 := rfl
  generalize termE y s m = R at *
  generalize stE y s m = C at *
  have HT := Lib.hid (fun W (ok : Ok y) (hW : Below w.heap.size w W) => rterms_any y v W ok (hw.below hW (Nat.le_refl _)))
  have HOK := Lib.hid hok
  have HCC := Lib.hid hcc
  have HTE := Lib.hid hte
  clear hok hcc hw hte
  go_enter Try.func19, Try.ntmps19
  refine wp_seq_k (fun K hK => ?_)
  have HK := Lib.hid hK; clear hK
  go_wp2
  refine HK.out _ _ ?_; clear HK K
  generalize hw1 : World.alloc _ _ = w1
  obtain ⟨b1, hB, hs1⟩ := blk1 hw1
  clear hw1
  have hcc := HCC.out w1 hB
  clear HCC
  by_cases h0 : C = 0
  rotate_left
  · have h0b : (C != 0) = true := bne_iff_ne.2 h0
    have HR := Lib.hid (show R = 0 by rw [HTE.out, if_neg h0])
    clear h0
    go_wp2_with (first | (refine wpList_load_blk rfl 31 _ rfl _ rfl b1 Try.underlying31 rfl size31 hy4 ?_) | (go_at_call 44; refine hcc.mono ?_; rintro e w2 ⟨rfl, hb2⟩))
    go_ret2
    exact ⟨by rw [HR.out]; rfl, hB.trans (hb2.mono (by omega))⟩
  subst h0
  obtain ⟨ok, hs, hm⟩ := HOK.out.1 rfl
  obtain ⟨sn, rfl⟩ := Int.eq_ofNat_of_zero_le hs.1
  obtain ⟨mn, rfl⟩ := Int.eq_ofNat_of_zero_le hm.1
  have hml : mn < y.ws.length := by omega
  have hsl : sn ≤ y.room.toNat := by omega
  have HR := Lib.hid (show R = termP y sn mn by rw [HTE.out, if_pos rfl]; rfl)
  have htv := tabP_val y hml hsl
  have htb := tabP_tb y
  have hte := HT.out
  refine wp_seq_k (fun K hK => ?_)
  have HK := Lib.hid hK; clear hK
  go_wp2_with (first | (refine wpList_load_blk rfl 31 _ rfl _ rfl b1 Try.underlying31 rfl size31 hy4 ?_) | (go_at_call 44; refine hcc.mono ?_; rintro e w2 ⟨rfl, hb2⟩))
  refine HK.out _ _ ?_; clear HK K
  replace b1 := blk_keep b1 hb2
  replace hB := hB.trans (hb2.mono (by omega))
  have ht := hte w2 ok hB
  clear hb2 hcc hs1 hte HT HOK HTE
  have HTB := Lib.hid (And.intro htb htv)
  clear htb htv
  have hst : (0 : Int) ≤ (sn : Int) := by omega
  go_wp2_with (refine wpList_load_blk rfl 31 _ rfl _ rfl b1 Try.underlying31 rfl size31 hy4 ?_)
  refine ht.mono ?_
  rintro e w3 ⟨u, rfl, hu, hb3⟩
  obtain ⟨adu, capu, rfl, -, -, hop⟩ := hu.opened
  obtain ⟨b, off, ad2, cap2, rfl, hlt, hc1, hrow⟩ := hop mn (by rw [HTB.out.1.len]; exact hml)
  obtain ⟨ad3, cap3, he3, -, -, hc3⟩ := hrow
  have hrl := HTB.out.1.row mn (by rw [HTB.out.1.len]; exact hml)
  cases he3
  obtain ⟨b3, off3, rfl, hlt3, hc4⟩ := hc3 (by rw [hrl]; omega)
  have hc5 := hc4 sn (by rw [hrl]; omega)
  rw [HTB.out.2] at hc5
  rw [hrl] at hc1
  have hi1 : (mn : Int) < ((tabP y).length : Int) := by rw [HTB.out.1.len]; omega
  have hi2 : (sn : Int) < ((y.room.toNat + 1 : Nat) : Int) := by omega
  clear hop hc3 hc4 hu hrl
  go_wp2
  go_ret2
  exact ⟨by rw [HR.out]; rfl, hB.trans (hb3.mono hB.size)⟩
end Ytndmjginmomfiaa
end Go.Proofs
