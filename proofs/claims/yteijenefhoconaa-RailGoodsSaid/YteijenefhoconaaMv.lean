/- Move. -/
import Derived.Test.YteijenefhoconaaTrains
open Go Go.RowKit Go.YteijenefhoconaaIt
namespace Go.Proofs
namespace Yteijenefhoconaa
/-- What Move answers. -/
def mvE (L : List Int) (ts : List Tn) (i : Int) : Int := if lineE L ts ≠ 0 then lineE L ts else moveE L (tos ts) (pos ts) i
def mvT (L : List Int) (ts : List Tn) (i : Int) : List Tn := tsOf (moveS L (tos ts) (pos ts) i) (tos ts)
set_option maxRecDepth 100000 in
set_option maxHeartbeats 4000000 in
theorem mv_any (vL vt : Value) (L : List Int) (ts : List Tn) (i : Int) (w : World) (hL : SlI w vL L) (ht : SlT w vt ts) :
    Calls Try.prog 37 #[vL, vt, .int .i64 i] w fun e w' => Below w.heap.size w w' ∧
      ((mvE L ts i ≠ 0 ∧ e = .returned (.tuple #[.slice none 0 0, .int .i64 (mvE L ts i)])) ∨
       (mvE L ts i = 0 ∧ ∃ v, e = .returned (.tuple #[v, .int .i64 0]) ∧ SlT w' v (mvT L ts i))) := by
  have h48 := track_any vL vt L ts w hL ht
  have H := Lib.hid h48
  clear h48
  have hP : (arr (pos ts)).size = 5 := by rw [arr_size]; exact posK_len _ _
  go_enter Try.func37, Try.ntmps37
  iterate 2
    refine wp_seq_k (fun K hK => ?_)
    have HK := Lib.hid hK; clear hK
    go_wp2_with (first | (refine wpList_store_blk rfl 84 _ _ rfl _ rfl rfl (heap_newI rfl) size84 (by first | exact (arr_size _).trans hA | exact hP) rfl (arr_one _) ?_) | (go_at_call 48; refine H.out.mono ?_; rintro e w2 ⟨hb2, hcs⟩; rcases hcs with ⟨hne, A, hA, rfl⟩ | ⟨he, bx, bm, vT, rfl, hT2, -⟩))
    all_goals refine HK.out _ _ ?_; clear HK K
  · have hneb : (lineE L ts != 0) = true := bne_iff_ne.2 hne
    have hE : mvE L ts i = lineE L ts := by unfold mvE; rw [if_pos hne]
    go_wp2
    go_ret2
    exact ⟨below_putObj (hb2.alloc hb2.size _) hb2.size, .inl ⟨by rw [hE]; exact hne, by rw [hE]; rfl⟩⟩
  have hE : mvE L ts i = moveE L (tos ts) (pos ts) i := by unfold mvE; rw [if_neg (by rw [he]; decide)]
  have hS5 : (arr (moveS L (tos ts) (pos ts) i)).size = 5 := by rw [arr_size]; exact (moveS_okt (okt_of he)).a5
  generalize hw3 : World.putObj _ _ _ = w3
  have b7 : w3.heap[w2.heap.size]? = some (.cells (arr (pos ts)) 84 (0, 0)) := by rw [← hw3]; exact World.putObj_heap_same (by rw [World.size_alloc]; omega)
  have hbf : Below w2.heap.size w2 w3 := by rw [← hw3]; exact below_putObj ((Below.refl _ _).alloc (Nat.le_refl _) _) (Nat.le_refl _)
  have hB3 : Below w.heap.size w w3 := hb2.trans (hbf.mono hb2.size)
  have hs3 : w2.heap.size + 1 ≤ w3.heap.size := by rw [← hw3]; simp
  have hs2 := hb2.size
  have hT3 : Tk w3 bx bm vL vT L (tos ts) := hT2.below hbf (Nat.le_refl _)
  clear hw3
  refine wp_seq_k (fun K hK => ?_)
  have HK := Lib.hid hK; clear hK
  go_wp2
  refine HK.out _ _ ?_; clear HK K
  have h55 := move_any bx bm vL vT L (tos ts) (pos ts) i w3 (okt_of he) hT3
  obtain ⟨me, hme⟩ : ∃ me, me = moveE L (tos ts) (pos ts) i := ⟨_, rfl⟩
  rw [← hme] at h55 hE
  have HME := Lib.hid hme
  clear hme
  refine wp_seq_k (fun K hK => ?_)
  have HK := Lib.hid hK; clear hK
  go_wp2_with (first
    | (go_at_call 55; refine h55.mono ?_; rintro e w4 ⟨rfl, hb4⟩; have b7' := blk_below b7 hb4 (by omega))
    | (refine wpList_load_blk rfl 84 _ rfl _ rfl b7 Try.underlying84 rfl size84 hP ?_)
    | (refine wpList_store_blk rfl 84 _ _ rfl _ rfl rfl b7' size84 hS5 hP (arr_one _) ?_))
  refine HK.out _ _ ?_; clear HK K
  have hb5 : Below w2.heap.size w2 (w4.putObj w2.heap.size (.cells (arr (moveS L (tos ts) (pos ts) i)) 84 (0, 0))) := below_putObj (hbf.trans (hb4.mono hbf.size)) (Nat.le_refl _)
  have b5 : (w4.putObj w2.heap.size (.cells (arr (moveS L (tos ts) (pos ts) i)) 84 (0, 0))).heap[w2.heap.size]? = _ := World.putObj_heap_same (lt_blk b7')
  clear b7 b7' h55 hb4 hbf
  generalize World.putObj _ _ _ = w5 at *
  have hB5 : Below w.heap.size w w5 := hb2.trans (hb5.mono hb2.size)
  have hT5 : Tk w5 bx bm vL vT L (tos ts) := hT2.below hb5 (Nat.le_refl _)
  have h60 := trains_any bx bm vL vT L (tos ts) (moveS L (tos ts) (pos ts) i) w5 (moveS_okt (okt_of he)).a5 (okt_of he).t5 hT5
  by_cases hme0 : me = 0
  · have h1 : (me != 0) = false := by simp [hme0]
    go_wp2_with (first
      | (go_at_call 60; refine h60.mono ?_; rintro e w6 ⟨v, rfl, hv, hb6⟩)
      | (refine wpList_load_blk rfl 84 _ rfl _ rfl b5 Try.underlying84 rfl size84 hS5 ?_))
    go_ret2
    exact ⟨hB5.trans (hb6.mono hB5.size), .inr ⟨by rw [hE]; exact hme0, v, rfl, hv⟩⟩
  · have h1 : (me != 0) = true := bne_iff_ne.2 hme0
    go_wp2
    go_ret2
    refine ⟨hB5, .inl ⟨by rw [hE]; exact hme0, ?_⟩⟩
    rw [hE]
    rfl
end Yteijenefhoconaa
end Go.Proofs
