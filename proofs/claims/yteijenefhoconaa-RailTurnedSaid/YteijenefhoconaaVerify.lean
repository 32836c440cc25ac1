/- Verify. -/
import Derived.Test.YteijenefhoconaaStuck
open Go Go.RowKit Go.YteijenefhoconaaIt
namespace Go.Proofs
namespace Yteijenefhoconaa
/-- The moves, one after the other: how many were made, and the error. -/
def runM (L T : List Int) : List Int → List Int → Nat → Int × Int
  | A, [], k => (k, if wayL A T = [] then 0 else 22)
  | A, m :: ms, k => if moveE L T A m = 0 then runM L T (moveS L T A m) ms (k + 1) else (k, moveE L T A m)
def verE (L : List Int) (ts : List Tn) (ms : List Int) : Int × Int := if lineE L ts = 0 then runM L (tos ts) (pos ts) ms 0 else (0, lineE L ts)
set_option maxRecDepth 100000 in
set_option maxHeartbeats 4000000 in
theorem verify_any (vL vt vm : Value) (L : List Int) (ts : List Tn) (ms : List Int) (w : World) (hL : SlI w vL L) (ht : SlT w vt ts) (hm : SlI w vm ms) :
    Calls Try.prog 22 #[vL, vt, vm] w fun e w' => e = .returned (.tuple #[.int .i64 (verE L ts ms).1, .int .i64 (verE L ts ms).2]) ∧ Below w.heap.size w w' := by
  have h48 := track_any vL vt L ts w hL ht
  have H := Lib.hid h48
  clear h48
  have hP : (arr (pos ts)).size = 5 := by rw [arr_size]; exact posK_len _ _
  obtain ⟨adm, capm, rfl, hmm, hcm⟩ := hm
  obtain ⟨n, hn⟩ : ∃ n, n = ms.length := ⟨_, rfl⟩
  rw [← hn] at hmm hcm ⊢
  have HN := Lib.hid hn
  clear hn
  go_enter Try.func22, Try.ntmps22
  iterate 2
    refine wp_seq_k (fun K hK => ?_)
    have HK := Lib.hid hK; clear hK
    go_wp2_with (first | (refine wpList_store_blk rfl 84 _ _ rfl _ rfl rfl (heap_newI rfl) size84 (by first | exact (arr_size _).trans hA | exact hP) rfl (arr_one _) ?_) | (go_at_call 48; refine H.out.mono ?_; rintro e w2 ⟨hb2, hcs⟩; rcases hcs with ⟨hne, A, hA, rfl⟩ | ⟨he, bx, bm, vT, rfl, hT2, -⟩))
    all_goals refine HK.out _ _ ?_; clear HK K
  · have hneb : (lineE L ts != 0) = true := bne_iff_ne.2 hne
    have hE : verE L ts ms = (0, lineE L ts) := by unfold verE; rw [if_neg hne]
    go_wp2
    go_ret2
    exact ⟨by rw [hE]; rfl, below_putObj (hb2.alloc hb2.size _) hb2.size⟩
  have hE : verE L ts ms = runM L (tos ts) (pos ts) ms 0 := by unfold verE; rw [if_pos he]
  rw [hE]
  have ok0 := okt_of he
  clear hE he
  generalize hw3 : World.putObj _ _ _ = w3
  have b7 : w3.heap[w2.heap.size]? = some (.cells (arr (pos ts)) 84 (0, 0)) := by rw [← hw3]; exact World.putObj_heap_same (by rw [World.size_alloc]; omega)
  have hbf : Below w2.heap.size w2 w3 := by rw [← hw3]; exact below_putObj ((Below.refl _ _).alloc (Nat.le_refl _) _) (Nat.le_refl _)
  have hs2 := hb2.size
  clear hw3
  refine wp_seq_k (fun K hK => ?_)
  have HK := Lib.hid hK; clear hK
  go_wp2
  refine HK.out _ _ ?_; clear HK K
  obtain ⟨R, hR⟩ : ∃ R, R = runM L (tos ts) (pos ts) ms 0 := ⟨_, rfl⟩
  rw [← hR]
  have HR := Lib.hid hR
  clear hR
  refine wp_seq_k (fun K hK => ?_)
  have HK := Lib.hid hK; clear hK
  go_wp2
  go_loopw [26] (fun i wr => ∃ (k : Nat) (A : List Int), k ≤ n ∧ i = .int .i64 k ∧ wr.heap[w2.heap.size]? = some (.cells (arr A) 84 (0, 0)) ∧ Okt L (tos ts) A ∧ R = runM L (tos ts) A (ms.drop k) k ∧ Below w2.heap.size w2 wr) (fun i _ => n - (intOf i).toNat)
  case atStart => exact ⟨0, _, Nat.zero_le _, rfl, b7, ok0, HR.out, hbf⟩
  case round =>
    obtain ⟨k, A, hk, rfl, b9, ok, hRk, hb⟩ := hrel
    have hA5 : (arr A).size = 5 := by rw [arr_size, ok.a5]
    have l9 := lt_blk b9
    have hBr : Below w.heap.size w wr := hb2.trans (hb.mono hs2)
    have hTr : Tk wr bx bm vL vT L (tos ts) := hT2.below hb (Nat.le_refl _)
    by_cases hkn : k < n
    · obtain ⟨b, off, rfl, hlt, hcell⟩ := hcm (by omega)
      have h1 := (hBr.cell (p := ⟨b, off + k, none⟩) hlt).trans (hcell k hkn)
      have h55 := move_any bx bm vL vT L (tos ts) A (at0 ms k) wr ok hTr
      have okS : Okt L (tos ts) (moveS L (tos ts) A (at0 ms k)) := moveS_okt ok
      have hS5 : (arr (moveS L (tos ts) A (at0 ms k))).size = 5 := by rw [arr_size]; exact okS.a5
      have hstep : runM L (tos ts) A (ms.drop k) k = if moveE L (tos ts) A (at0 ms k) = 0 then runM L (tos ts) (moveS L (tos ts) A (at0 ms k)) (ms.drop (k + 1)) (k + 1) else (k, moveE L (tos ts) A (at0 ms k)) := by
        have hkl : k < ms.length := by rw [← HN.out]; exact hkn
        rw [List.drop_eq_getElem_cons hkl, ← at0_lt hkl]; rfl
      rw [hstep] at hRk
      generalize moveS L (tos ts) A (at0 ms k) = S at *
      generalize moveE L (tos ts) A (at0 ms k) = me at *
      have HRK := Lib.hid hRk
      clear hRk hstep hcell hcm hTr
      by_cases hme0 : me = 0
      · have hme1 : (me != 0) = false := by simp [hme0]
        have hRn := HRK.out
        rw [if_pos hme0] at hRn
        have HRN := Lib.hid hRn
        clear hRn HRK hme0
        go_wp2_with (first
          | (go_at_call 55; refine h55.mono ?_; rintro e w4 ⟨rfl, hb4⟩; have b9' := blk_below b9 hb4 l9; have hb4' : Below w2.heap.size w2 w4 := hb.trans (hb4.mono hb.size); have l9' := lt_blk b9')
          | (refine wpList_load_blk rfl 84 _ rfl _ rfl b9 Try.underlying84 rfl size84 hA5 ?_)
          | (refine wpList_store_blk rfl 84 _ _ rfl _ rfl rfl (heap_newI rfl) size84 hS5 rfl (arr_one _) ?_)
          | (refine wpList_load_blk rfl 84 _ rfl _ rfl (World.putObj_heap_same (by rw [World.size_alloc]; omega)) Try.underlying84 rfl size84 hS5 ?_)
          | (refine wpList_store_blk rfl 84 _ _ rfl _ rfl rfl ((World.putObj_heap_other (by omega)).trans ((heap_oldI (by omega)).trans b9')) size84 hS5 hA5 (arr_one _) ?_))
        go_roundw
        case rel => exact ⟨k + 1, S, by omega, by go_num, World.putObj_heap_same (by simp; omega), okS, HRN.out, below_putObj (below_putObj (hb4'.alloc hb4'.size _) hb4'.size) (Nat.le_refl _)⟩
        case measure => simp [intOf]; omega
      · have hme1 : (me != 0) = true := bne_iff_ne.2 hme0
        have hRn := HRK.out
        rw [if_neg hme0] at hRn
        have HRN := Lib.hid hRn
        clear hRn HRK hme0
        go_wp2_with (first
          | (go_at_call 55; refine h55.mono ?_; rintro e w4 ⟨rfl, hb4⟩; have b9' := blk_below b9 hb4 l9; have hb4' : Below w.heap.size w w4 := hBr.trans (hb4.mono hBr.size); have l9' := lt_blk b9')
          | (refine wpList_load_blk rfl 84 _ rfl _ rfl b9 Try.underlying84 rfl size84 hA5 ?_)
          | (refine wpList_store_blk rfl 84 _ _ rfl _ rfl rfl (heap_newI rfl) size84 hS5 rfl (arr_one _) ?_))
        go_ret2
        exact ⟨by rw [HRN.out]; rfl, below_putObj (hb4'.alloc hb4'.size _) hb4'.size⟩
    · have hkn2 : k = n := by omega
      have hRe : R = ((n : Int), if wayL A (tos ts) = [] then 0 else 22) := by
        rw [hRk, hkn2, HN.out, List.drop_length]; rfl
      have harr := arrived_any bx bm vL vT L (tos ts) A wr ok hTr
      by_cases hw : wayL A (tos ts) = []
      · have hd : decide (wayL A (tos ts) = []) = true := by simp [hw]
        rw [hd] at harr
        rw [if_pos hw] at hRe
        have HRE := Lib.hid hRe
        clear hRe hd hw hRk
        go_wp2
        refine HK.out _ _ ?_
        go_wp2_with (first
          | (refine wpList_load_blk rfl 84 _ rfl _ rfl b9 Try.underlying84 rfl size84 hA5 ?_)
          | (go_at_call 52; refine harr.mono ?_; rintro e w6 ⟨rfl, hb6⟩))
        go_ret2
        exact ⟨by rw [HRE.out]; rfl, hBr.trans (hb6.mono hBr.size)⟩
      · have hd : decide (wayL A (tos ts) = []) = false := by simp [hw]
        rw [hd] at harr
        rw [if_neg hw] at hRe
        have HRE := Lib.hid hRe
        clear hRe hd hw hRk
        go_wp2
        refine HK.out _ _ ?_
        go_wp2_with (first
          | (refine wpList_load_blk rfl 84 _ rfl _ rfl b9 Try.underlying84 rfl size84 hA5 ?_)
          | (go_at_call 52; refine harr.mono ?_; rintro e w6 ⟨rfl, hb6⟩))
        go_ret2
        exact ⟨by rw [HRE.out]; rfl, hBr.trans (hb6.mono hBr.size)⟩
end Yteijenefhoconaa
end Go.Proofs
