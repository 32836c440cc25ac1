/- The game of a yard with a state, or the error; Term. -/
import Derived.Test.YtndmjginmomfiaaW9
open Go Go.RowKit Go.YtndmjginmomfiaaIt
namespace Go.Proofs
namespace Ytndmjginmomfiaa
def stE (y : Yd) (s m : Int) : Int := if chkE y = 0 then (if btw 0 s y.room = true then (if btw 0 m (y.ws.length - 1) = true then 0 else 5) else 2) else chkE y
theorem stE_ok {y : Yd} {s m : Int} : stE y s m = 0 ↔ Ok y ∧ (0 ≤ s ∧ s ≤ y.room) ∧ (0 ≤ m ∧ m < y.ws.length) := by
  unfold stE
  by_cases h : chkE y = 0
  · rw [if_pos h]
    have ok := chk_ok.1 h
    by_cases h1 : btw 0 s y.room = true
    · rw [if_pos h1]
      rw [btw_true] at h1
      by_cases h2 : btw 0 m (y.ws.length - 1) = true
      · rw [if_pos h2]
        rw [btw_true] at h2
        exact ⟨fun _ => ⟨ok, h1, by omega⟩, fun _ => rfl⟩
      · rw [if_neg h2]
        rw [btw_true] at h2
        exact ⟨(fun h => by cases h), (fun h => by omega)⟩
    · rw [if_neg h1]
      rw [btw_true] at h1
      exact ⟨(fun h => by cases h), (fun h => by omega)⟩
  · rw [if_neg h]
    exact ⟨fun h' => absurd h' h, fun h' => absurd (chk_ok.2 h'.1) h⟩
set_option maxRecDepth 100000 in
set_option maxHeartbeats 2000000 in
theorem state_any (y : Yd) (v : Value) (s m : Int) (w : World) (hw : SlW w v y.ws) :
    Calls Try.prog 43 #[.agg (encY y v), .int .i64 s, .int .i64 m] w fun e w' => Below w.heap.size w w' ∧
      ((stE y s m ≠ 0 ∧ e = .returned (.tuple #[.pointer none, .int .i64 (stE y s m)])) ∨
       (stE y s m = 0 ∧ ∃ g vl k, e = .returned (.tuple #[.pointer (some ⟨g, 0, none⟩), .int .i64 0]) ∧ Gm w' g y v vl (layL y k) ∧ Stab y k)) := by
  have hy4 : (encY y v).size = 4 := rfl
  have hw0 := hw
  obtain ⟨ad, cap, rfl, hm, hcp, hc⟩ := hw
  have hcc := fun W hW => check_any y _ W (hw0.below (w' := W) hW (Nat.le_refl _))
  have hcg := fun W hW ok => game_any y _ W ok (hw0.below (w' := W) hW (Nat.le_refl _))
  have hse : stE y s m = if chkE y = 0 then (if btw 0 s y.room = true then (if btw 0 m (y.ws.length - 1) = true then 0 else 5) else 2) else chkE y := rfl
  obtain ⟨R, hR⟩ : ∃ R, R = stE y s m := ⟨_, rfl⟩
  rw [← hR] at hse ⊢
  have HCG := Lib.hid hcg
  have HSE := Lib.hid hse
  have hok := chk_ok (y := y)
  obtain ⟨C, hC⟩ : ∃ C, C = chkE y := ⟨_, rfl⟩
  rw [← hC] at hcc hok
  replace HSE := HSE.out
  rw [← hC] at HSE
  have HSE := Lib.hid HSE
  have HOK := Lib.hid hok
  have HCC := Lib.hid hcc
  clear hcg hse hR hok hcc hC hc
  go_enter Try.func43, Try.ntmps43
  refine wp_seq_k (fun K hK => ?_)
  have HK := Lib.hid hK; clear hK
  go_wp2
  refine HK.out _ _ ?_; clear HK K
  generalize hw1 : World.alloc _ _ = w1
  obtain ⟨b1, hB, hs1⟩ := blk1 hw1
  clear hw1
  have c0 := cell_blk (i := 0) b1
  have c3 := cell_blk (i := 3) b1
  simp only [encY, List.getElem?_toArray, List.getElem?_cons_zero, List.getElem?_cons_succ] at c0 c3
  have hlb := lt_blk b1
  by_cases h0 : C = 0
  rotate_left
  · have h0b : (C != 0) = true := bne_iff_ne.2 h0
    have HR := Lib.hid (show R = C by rw [HSE.out, if_neg h0])
    have HN := Lib.hid h0
    clear h0
    go_wp2_with (first | (refine wpList_load_blk rfl 24 _ rfl _ rfl b1 Try.underlying24 rfl size24 hy4 ?_) | (go_at_call 21; refine (HCC.out _ hB).mono ?_; rintro e w2 ⟨rfl, hb2⟩))
    go_ret2
    exact ⟨hB.trans (hb2.mono (by omega)), .inl ⟨by rw [HR.out]; exact HN.out, by rw [HR.out]; rfl⟩⟩
  have h0b : (C != 0) = false := by simp [h0]
  have ok := HOK.out.1 h0
  have hln := ok.n1
  have HSF := HSE.out
  rw [if_pos h0] at HSF
  replace HSE := Lib.hid HSF
  have hcc := HCC.out w1 hB
  rw [h0] at hcc
  replace HCC := Lib.hid hcc
  clear HSF hcc h0b h0
  go_wp2_with (first | (refine wpList_load_blk rfl 24 _ rfl _ rfl b1 Try.underlying24 rfl size24 hy4 ?_) | (go_at_call 21; refine (HCC.out).mono ?_; rintro e w2 ⟨rfl, hb2⟩; replace c0 := (hb2.cell (p := ⟨w.heap.size, 0, none⟩) hlb).trans c0; replace c3 := (hb2.cell (p := ⟨w.heap.size, 3, none⟩) hlb).trans c3; replace b1 := blk_keep b1 hb2; replace hB := hB.trans (hb2.mono (by omega))))
  cases e1 : btw 0 s y.room
  · have HR := Lib.hid (show R = 2 by rw [HSE.out, e1]; rfl)
    clear HSE
    go_wp2_with (go_at_call 45; (with_reducible refine (between_any _ _ _ _).mono ?_); rintro e w' ⟨rfl, rfl⟩)
    go_ret2
    exact ⟨hB, .inl ⟨by rw [HR.out]; decide, by rw [HR.out]; rfl⟩⟩
  cases e2 : btw 0 m ((y.ws.length : Int) - 1)
  · have HR := Lib.hid (show R = 5 by rw [HSE.out, e1, e2]; rfl)
    clear HSE
    go_wp2_with (go_at_call 45; (with_reducible refine (between_any _ _ _ _).mono ?_); rintro e w' ⟨rfl, rfl⟩)
    go_ret2
    exact ⟨hB, .inl ⟨by rw [HR.out]; decide, by rw [HR.out]; rfl⟩⟩
  · have HR := Lib.hid (show R = 0 by rw [HSE.out, e1, e2]; rfl)
    clear HSE
    go_wp2_with (first | (go_at_call 45; (with_reducible refine (between_any _ _ _ _).mono ?_); rintro e w' ⟨rfl, rfl⟩) | (refine wpList_load_blk rfl 24 _ rfl _ rfl b1 Try.underlying24 rfl size24 hy4 ?_) | (go_at_call 40; refine (HCG.out _ hB ok).mono ?_; rintro e w3 ⟨g, vl, k, rfl, hg, hst, hb3⟩))
    go_ret2
    exact ⟨hB.trans (hb3.mono hB.size), .inr ⟨HR.out, g, vl, k, rfl, hg, hst⟩⟩
def termE (y : Yd) (s m : Int) : Int := if stE y s m = 0 then termP y s.toNat m.toNat else 0
set_option maxRecDepth 100000 in
set_option maxHeartbeats 1000000 in
theorem termX_any (y : Yd) (v : Value) (s m : Int) (w : World) (hw : SlW w v y.ws) :
    Calls Try.prog 18 #[.agg (encY y v), .int .i64 s, .int .i64 m] w fun e w' => e = .returned (.tuple #[.int .i64 (termE y s m), .int .i64 (stE y s m)]) ∧ Below w.heap.size w w' := by
  have hy4 : (encY y v).size = 4 := rfl
  have hst := fun W hW => state_any y v s m W (hw.below (w' := W) hW (Nat.le_refl _))
  have HST := Lib.hid hst
  clear hst
  go_enter Try.func18, Try.ntmps18
  refine wp_seq_k (fun K hK => ?_)
  have HK := Lib.hid hK; clear hK
  go_wp2
  refine HK.out _ _ ?_; clear HK K
  generalize hw1 : World.alloc _ _ = w1
  obtain ⟨b1, hB, hs1⟩ := blk1 hw1
  clear hw1
  have h43 := HST.out _ hB
  refine wp_seq_k (fun K hK => ?_)
  have HK := Lib.hid hK; clear hK
  go_wp2_with (first | (refine wpList_load_blk rfl 24 _ rfl _ rfl b1 Try.underlying24 rfl size24 hy4 ?_) | (go_at_call 43; refine h43.mono ?_; rintro e w2 ⟨hb2, hcs⟩; rcases hcs with ⟨hne, rfl⟩ | ⟨he, g, vl, k, rfl, hg, hk⟩))
  all_goals refine HK.out _ _ ?_; clear HK K
  · have h0b : (stE y s m != 0) = true := bne_iff_ne.2 hne
    have HE := Lib.hid (show termE y s m = 0 by unfold termE; rw [if_neg hne])
    go_wp2
    go_ret2
    exact ⟨by rw [HE.out]; rfl, hB.trans (hb2.mono (by omega))⟩
  · have HE := Lib.hid (And.intro (show termE y s m = termP y s.toNat m.toNat by unfold termE; rw [if_pos he]) he)
    obtain ⟨ok, hs, hm⟩ := stE_ok.1 he
    obtain ⟨sn, rfl⟩ := Int.eq_ofNat_of_zero_le hs.1
    obtain ⟨mn, rfl⟩ := Int.eq_ofNat_of_zero_le hm.1
    have ht := term_any y v vl g k sn mn w2 ok hg hk (by omega) (by omega)
    clear he h43
    go_wp2_with (go_at_call 41; refine ht.mono ?_; rintro e w3 ⟨rfl, hb3⟩)
    go_ret2
    exact ⟨by rw [HE.out.1, HE.out.2]; rfl, (hB.trans (hb2.mono (by omega))).trans (hb3.mono (by have := hb2.size; omega))⟩
end Ytndmjginmomfiaa
end Go.Proofs
