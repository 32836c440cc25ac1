/- The example at the end of TopHauled. -/
import Derived.Test.YtnihopdglkhbnaaGa8
import Derived.Test.YtnihopdglkhbnaaDisp2
open Go Go.RowKit Go.YtnihopdglkhbnaaIt
namespace Go.Proofs
namespace Ytnihopdglkhbnaa
def hxL : List Int := [1, 1, 1, 2, 1, 1, 1]
def hxW : List Tn := [(3, 6), (5, 0)]
theorem hx3 : lineE hxL hxW = 0 := by decide +kernel
theorem hxg : goodL hxL (tos hxW) (pos hxW) = [1] := by decide +kernel
theorem slT_blk {w : World} {ts : List Tn} {t : TypeId} {cap : Nat} {fr : Nat × Nat} {k : Nat} (hm : ts.length ≤ 8796093022208) (hk : w.heap[k]? = some (.cells (flat ts).toArray t fr)) : SlT w (.slice (some ⟨k, 0, none⟩) ts.length cap) ts := by
  refine ⟨_, cap, rfl, hm, fun _ => ⟨k, 0, rfl, lt_blk hk, fun i hi => ?_⟩⟩
  obtain ⟨h1, h2⟩ := flat_at ts i hi
  rw [Nat.zero_add, cell_blk hk, cell_blk hk]
  exact ⟨by simpa using h1, by simpa using h2⟩
set_option maxRecDepth 100000 in
set_option maxHeartbeats 4000000 in
theorem hworks_any (w : World) : Calls Try.prog 8 #[] w fun e w' => e = .returned (.bool true) ∧ Below w.heap.size w w' := by
  go_enter Try.func8, Try.ntmps8
  refine wp_seq_k (fun K hK => ?_)
  have HK := Lib.hid hK; clear hK
  go_wp2
  refine HK.out _ _ ?_; clear HK K
  refine wp_seq_k (fun K hK => ?_)
  have HK := Lib.hid hK; clear hK
  go_wp2
  refine HK.out _ _ ?_; clear HK K
  generalize hw1 : World.alloc _ _ = w1
  obtain ⟨b1, hB, hs1⟩ := blk1 hw1
  clear hw1
  have hL : SlI w1 (.slice (some ⟨w.heap.size, 0, none⟩) 7 7) hxL := slI_new (xs := hxL) (cap := 7) (by decide) (by decide) b1
  go_wp2_with fail
  generalize hw2 : World.alloc _ _ = w2
  obtain ⟨b2, hB2, hs2⟩ := blk1 hw2
  clear hw2
  have hT : SlT w2 (.slice (some ⟨w1.heap.size, 0, none⟩) 2 2) hxW := slT_blk (ts := hxW) (cap := 2) (by decide) b2
  refine (good_any _ _ hxL hxW w2 (hL.below hB2 (Nat.le_refl _)) hT).mono ?_
  rintro e w3 ⟨hb, ⟨h, -⟩ | ⟨-, v, rfl, hv⟩⟩
  · exact absurd hx3 h
  · rw [hxg] at hv
    obtain ⟨ad, cap, rfl, hm, hc⟩ := hv
    obtain ⟨b, off, rfl, hlt, hcell⟩ := hc (by decide)
    have c0 := hcell 0 (by decide)
    have e0 : at0 [1] 0 = 1 := rfl
    rw [e0] at c0
    simp only [Nat.add_zero] at c0
    have hl : ([1] : List Int).length = 1 := rfl
    rw [hl] at hm ⊢
    have hBB := hB.trans ((btr hB2 hb (Nat.le_refl _)).mono hB.size)
    clear hcell hc hT hL b1 b2 hB hB2 hb hs1 hs2 hl
    go_wp2
    go_ret
    exact ⟨rfl, hBB⟩
end Ytnihopdglkhbnaa
end Go.Proofs
