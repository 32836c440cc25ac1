/- Gangs: which step goes ahead. -/
import Derived.Test.YtnihopdglkhbnaaGa1
import Derived.StillTailTactics
import Derived.Sort.Grow
open Go Go.RowKit Go.YtnihopdglkhbnaaIt Go.Sort
namespace Go.Proofs
namespace Ytnihopdglkhbnaa
/-- A gang that goes to a field, and what it brings. -/
structure Gs where
  g : Int
  f : Int
  hg : 0 ≤ g ∧ g ≤ 1000000
  hf : 0 ≤ f ∧ f ≤ 12
instance : Inhabited Gs := ⟨⟨0, 0, by omega, by omega⟩⟩
theorem Gs.ext {x y : Gs} (h1 : x.g = y.g) (h2 : x.f = y.f) : x = y := by
  cases x; cases y; simp at h1 h2; subst h1 h2; rfl
def encG (x : Gs) : List Value := [.int .i64 x.g, .int .i64 x.f]
theorem encG_len (x : Gs) : (encG x).length = 2 := rfl
def cfG (x y : Gs) : Int := if y.g - x.g ≠ 0 then y.g - x.g else x.f - y.f
theorem size67 : (Try.prog.info? 67).map (·.size) = some 2 := by kernel_rfl
theorem grow2 (w : World) (a b : Obj) : (w.alloc a).alloc b = grow (w.drewN 0) #[a, b] := by
  cases w; simp [grow, World.alloc, World.drewN]; apply Array.ext'; simp
theorem grow3 (w : World) (a b c : Obj) : (((w.alloc a).alloc b).alloc c).drew = grow (w.drewN 1) #[a, b, c] := by
  cases w; simp [grow, World.alloc, World.drewN, World.drew]; apply Array.ext'; simp
set_option maxRecDepth 100000 in
set_option maxHeartbeats 4000000 in
theorem cmp_any (x y : Gs) (bf : Nat) (w : World) (hf : w.heap[bf]? = some (.cells #[.func (.func 22) #[] #[]] 65 (0, 0))) :
    Calls Try.prog 38 #[.agg #[.int .i64 x.g, .int .i64 x.f], .agg #[.int .i64 y.g, .int .i64 y.f], .pointer (some ⟨bf, 0, none⟩)] w fun e w' => e = .returned (.int .i64 (cfG x y)) ∧ ∃ q os', w' = grow (w.drewN q) os' := by
  obtain ⟨R, hR⟩ : ∃ R, R = cfG x y := ⟨_, rfl⟩
  rw [← hR]
  unfold cfG at hR
  have HR := Lib.hid hR
  clear hR
  have hxg := x.hg
  have hxf := x.hf
  have hyg := y.hg
  have hyf := y.hf
  generalize x.g = xg at *
  generalize x.f = xf at *
  generalize y.g = yg at *
  generalize y.f = yf at *
  go_enter Try.func38, Try.ntmps38
  refine wp_seq_k (fun K hK => ?_)
  have HK := Lib.hid hK; clear hK
  go_wp2
  refine HK.out _ _ ?_; clear HK K
  generalize hw1 : World.alloc _ _ = w1
  obtain ⟨b1, b2, hB, hs1⟩ := blk2 hw1
  have HW1 := Lib.hid hw1
  clear hw1
  have hB1 := hB
  have bfx := blk_keep hf hB
  have cf := cell_blk (i := 0) bfx
  have x0 := cell_blk (i := 0) b1
  have x1 := cell_blk (i := 1) b1
  have y0 := cell_blk (i := 0) b2
  have y1 := cell_blk (i := 1) b2
  simp only [List.getElem?_toArray, List.getElem?_cons_zero, List.getElem?_cons_succ] at cf x0 x1 y0 y1
  by_cases hE : xg = yg
  · by_cases hF : xf = yf
    · have HR2 := HR.out
      rw [hE, hF] at HR2
      go_wp2_with (first | (refine wpList_load_blk rfl 67 _ rfl _ rfl b1 Try.underlying67 rfl size67 rfl ?_) | (refine wpList_load_blk rfl 67 _ rfl _ rfl b2 Try.underlying67 rfl size67 rfl ?_))
      go_ret
      exact ⟨by simp [HR2], 0, _, by rw [← HW1.out]; exact grow2 _ _ _⟩
    · have HR2 := HR.out
      rw [hE] at HR2
      go_wp2_with (first | (refine wpList_load_blk rfl 67 _ rfl _ rfl b1 Try.underlying67 rfl size67 rfl ?_) | (refine wpList_load_blk rfl 67 _ rfl _ rfl b2 Try.underlying67 rfl size67 rfl ?_))
      refine wp_region_still_tail 19 (by kernel_rfl) (by kernel_rfl) ?_
      simp only [List.take_succ_cons, List.take_zero, List.drop_succ_cons, List.drop_zero]
      change wpStill _ _ (World.drew w1) _ _ _
      repeat (first | still_step | still_call ((alike_any _ _).mono fun _ _ h => ⟨h.1, h.2.symm⟩))
      refine wpStill_nil ?_
      change wpList _ _ _ _ _ (World.drew w1)
      go_wp2_with fail
      refine (or_any _ _ _ w1.heap.size _ (by exact heap_newI (w := w1) rfl)).mono ?_
      rintro e w9 ⟨rfl, rfl⟩
      go_wp2
      go_ret
      refine ⟨?_, 1, _, by rw [← HW1.out]; exact grow3 _ _ _ _⟩
      rw [HR2]; simp
  · have HR2 := HR.out
    rw [if_pos (by omega)] at HR2
    go_wp2_with (first | (refine wpList_load_blk rfl 67 _ rfl _ rfl b1 Try.underlying67 rfl size67 rfl ?_) | (refine wpList_load_blk rfl 67 _ rfl _ rfl b2 Try.underlying67 rfl size67 rfl ?_))
    refine wp_region_still_tail 19 (by kernel_rfl) (by kernel_rfl) ?_
    simp only [List.take_succ_cons, List.take_zero, List.drop_succ_cons, List.drop_zero]
    change wpStill _ _ (World.drew w1) _ _ _
    repeat (first | still_step | still_call ((alike_any _ _).mono fun _ _ h => ⟨h.1, h.2.symm⟩))
    refine wpStill_nil ?_
    change wpList _ _ _ _ _ (World.drew w1)
    go_wp2_with fail
    refine (or_any _ _ _ w1.heap.size _ (by exact heap_newI (w := w1) rfl)).mono ?_
    rintro e w9 ⟨rfl, rfl⟩
    go_wp2
    go_ret
    refine ⟨?_, 1, _, by rw [← HW1.out]; exact grow3 _ _ _ _⟩
    first | rfl | (rw [HR2]; simp) | simp
end Ytnihopdglkhbnaa
end Go.Proofs
