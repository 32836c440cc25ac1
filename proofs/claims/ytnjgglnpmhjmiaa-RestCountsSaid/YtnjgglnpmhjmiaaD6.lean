/- Laws of rotation, plainly: how many lists there are. -/
import Derived.Test.YtnjgglnpmhjmiaaD3
import Derived.Test.YtnjgglnpmhjmiaaD5
open Go Go.RowKit Go.YtnjgglnpmhjmiaaIt
open Rest
namespace Go.Proofs
namespace Ytnjgglnpmhjmiaa
/-- How many words of so many letters 0 and 1 there are with g. -/
def cntG : Nat → (List Nat → Bool) → Int
  | 0, g => if g [] = true then 1 else 0
  | n + 1, g => cntG n (fun w => g (0 :: w)) + cntG n (fun w => g (1 :: w))
theorem cntG_congr : ∀ (n : Nat) {g h : List Nat → Bool}, (∀ w, Wd 2 w → g w = h w) → cntG n g = cntG n h
  | 0, g, h, e => by rw [cntG, cntG, e [] (fun _ h => by cases h)]
  | n + 1, g, h, e => by
    rw [cntG, cntG, cntG_congr n (g := fun w => g (0 :: w)) (h := fun w => h (0 :: w)) (fun w hw => e _ (wd_cons.2 ⟨by decide, hw⟩)), cntG_congr n (g := fun w => g (1 :: w)) (h := fun w => h (1 :: w)) (fun w hw => e _ (wd_cons.2 ⟨by decide, hw⟩))]
theorem cntG_last : ∀ (n : Nat) (g : List Nat → Bool), cntG (n + 1) g = cntG n (fun w => g (w ++ [0])) + cntG n (fun w => g (w ++ [1]))
  | 0, g => rfl
  | n + 1, g => by
    rw [cntG, cntG_last n (fun w => g (0 :: w)), cntG_last n (fun w => g (1 :: w)), cntG, cntG]
    simp only [List.cons_append]
    omega
theorem cntG_bd : ∀ (n : Nat) (g : List Nat → Bool), 0 ≤ cntG n g ∧ cntG n g ≤ ((2 ^ n : Nat) : Int)
  | 0, g => by rw [cntG]; split <;> decide
  | n + 1, g => by
    have h1 := cntG_bd n (fun w => g (0 :: w))
    have h2 := cntG_bd n (fun w => g (1 :: w))
    rw [cntG, Nat.pow_succ]
    omega
theorem cntG_not : ∀ (n : Nat) (g : List Nat → Bool), cntG n g + cntG n (fun w => !g w) = ((2 ^ n : Nat) : Int)
  | 0, g => by rw [cntG, cntG]; cases g [] <;> rfl
  | n + 1, g => by
    have h1 := cntG_not n (fun w => g (0 :: w))
    have h2 := cntG_not n (fun w => g (1 :: w))
    rw [cntG, cntG, Nat.pow_succ]
    omega
theorem cntG_two : ∀ (n : Nat) (g h : List Nat → Bool), cntG n g + cntG n h = cntG n (fun w => g w && h w) + cntG n (fun w => g w || h w)
  | 0, g, h => by rw [cntG, cntG, cntG, cntG]; cases g [] <;> cases h [] <;> rfl
  | n + 1, g, h => by
    have h1 := cntG_two n (fun w => g (0 :: w)) (fun w => h (0 :: w))
    have h2 := cntG_two n (fun w => g (1 :: w)) (fun w => h (1 :: w))
    rw [cntG, cntG, cntG, cntG]
    omega
theorem countP_two {f : List Int → Bool} : ∀ ls : List (List Int), (ls.flatMap fun l => [l ++ [0], l ++ [1]]).countP f = ls.countP (fun l => f (l ++ [0])) + ls.countP (fun l => f (l ++ [1]))
  | [] => rfl
  | x :: ls => by
    rw [List.flatMap_cons, List.countP_append, countP_two ls, List.countP_cons, List.countP_cons]
    simp only [List.countP_cons, List.countP_nil]
    omega
theorem cntG_lev : ∀ (n : Nat) (g : List Nat → Bool), (((levL n).countP fun l => g (toW l) : Nat) : Int) = cntG n g
  | 0, g => by
    rw [levL, cntG]
    simp only [List.countP_cons, List.countP_nil, toW, List.map_nil]
    cases g [] <;> rfl
  | n + 1, g => by
    rw [levL, countP_two, cntG_last, ← cntG_lev n, ← cntG_lev n]
    simp only [toW_app]
    exact Int.natCast_add _ _
theorem cntF_cntG {l : Lw} (ho : l.Ok) (hk : l.k = 2) : ∀ (n s : Nat), s < l.nx.length → cntF l n s = cntG n (Fut (sysL l) (s : Int))
  | 0, s, _ => by
    rw [cntF, cntG, cnt0, fut_nil]
    rfl
  | n + 1, s, hs => by
    have hst : l.st (s : Int) := ⟨by omega, by omega⟩
    have e : ∀ c, c < 2 → cntF l n (l.at (s : Int) c).toNat = cntG n (fun w => Fut (sysL l) (s : Int) (c :: w)) := fun c hc => by
      have h1 := ho.cl hst (c := c) (by rw [hk]; exact hc)
      have h2 := h1.1
      have h3 := h1.2
      rw [cntF_cntG ho hk n (l.at (s : Int) c).toNat (by omega)]
      refine cntG_congr n fun w _ => ?_
      rw [show (((l.at (s : Int) c).toNat : Nat) : Int) = l.at (s : Int) c by omega]
      exact fut_nx (x := sysL l) (by show c < l.k; rw [hk]; exact hc) w
    rw [cntF, cntG, cntS, hk]
    show sumTo (fun c => cntF l n (l.at (s : Int) c).toNat) 2 = _
    rw [sumTo, sumTo, sumTo, e 0 (by decide), e 1 (by decide)]
    omega
theorem count_all {l : Lw} {n : Nat} (h : Tw l n) (k : Nat) : (((allL k).countP fun ys => decide (ys.length = k) && Wl l (toW ys) : Nat) : Int) = cntF l k 0 := by
  rw [cntF_cntG h.ok h.k2 k 0 (by have := h.ok.n1; omega)]
  show _ = cntG k (Wl l)
  rw [← cntG_lev k]
  have hlev : (levL k).countP (fun ys => decide (ys.length = k) && Wl l (toW ys)) = (levL k).countP fun ys => Wl l (toW ys) := by
    refine List.countP_congr fun ys hy => ?_
    rw [decide_eq_true (levL_wd k ys hy).1, Bool.true_and]
  cases k with
  | zero => exact congrArg _ hlev
  | succ k =>
    rw [allL, List.countP_append, hlev]
    have h0 : (allL k).countP (fun ys => decide (ys.length = k + 1) && Wl l (toW ys)) = 0 := by
      rw [List.countP_eq_zero]
      intro ys hy
      have := (allL_wd k ys hy).1
      rw [decide_eq_false (by omega)]
      simp
    rw [h0, Nat.zero_add]
theorem count_tw {l : Lw} {n : Nat} (h : Tw l n) (k : Nat) : cntF l k 0 = cntG k (Wl l) := cntF_cntG h.ok h.k2 k 0 (by have := h.ok.n1; omega)
theorem countE_tw {l : Lw} {n k : Nat} (h : Tw l n) (hk : k ≤ 25) : countE l (k : Int) = (cntG k (Wl l), 0) := by
  unfold countE
  rw [if_pos (ok_chkL h.ok), if_pos (btw_true.2 (by omega)), ← count_tw h k]
  rfl
end Ytnjgglnpmhjmiaa
end Go.Proofs
