/- Rows of weathers of a call's own, changed in place; the four yards of YardMore. -/
import Derived.Test.YtndmjginmomfiaaPlMore
import Derived.Test.YtndmjginmomfiaaW11
open Go Go.RowKit Go.YtndmjginmomfiaaIt
namespace Go.Proofs
namespace Ytndmjginmomfiaa
def Rw (w : World) (g n : Nat) (x : Nat → Wt) : Prop := ∃ c : Array Value, w.heap[g]? = some (.cells c 58 (0, 0)) ∧ ∀ i, i < n → ∀ f u, (encW (x i))[f]? = some u → c[i * 4 + f]? = some u
theorem Rw.cells {w : World} {g n : Nat} {x : Nat → Wt} (h : Rw w g n x) {k : Nat} (hk : k < n) :
    w.cell? ⟨g, k * 4, none⟩ = some (.int .i64 (x k).comes) ∧ w.cell? ⟨g, k * 4 + 1, none⟩ = some (.int .i64 (x k).lo) ∧ w.cell? ⟨g, k * 4 + 2, none⟩ = some (.int .i64 (x k).hi) ∧ w.cell? ⟨g, k * 4 + 3, none⟩ = some (.int .i64 (x k).next) := by
  obtain ⟨c, hc, hx⟩ := h
  simp only [cell_blk hc]
  exact ⟨hx k hk 0 _ rfl, hx k hk 1 _ rfl, hx k hk 2 _ rfl, hx k hk 3 _ rfl⟩
theorem Rw.free {w : World} {g n : Nat} {x : Nat → Wt} (h : Rw w g n x) (j : Nat) : w.frozen? ⟨g, j, none⟩ = false := by
  obtain ⟨c, hc, -⟩ := h
  exact free_blk hc
theorem Rw.lt {w : World} {g n : Nat} {x : Nat → Wt} (h : Rw w g n x) : g < w.heap.size := by
  obtain ⟨c, hc, -⟩ := h
  exact lt_blk hc
theorem Rw.congr {w : World} {g n : Nat} {x y : Nat → Wt} (h : Rw w g n x) (he : ∀ i, i < n → y i = x i) : Rw w g n y := by
  obtain ⟨c, hc, hx⟩ := h
  exact ⟨c, hc, fun i hi f u hu => hx i hi f u (by rw [he i hi] at hu; exact hu)⟩
theorem encW_lt {x : Wt} {f : Nat} {u : Value} (h : (encW x)[f]? = some u) : f < 4 := by
  have := (List.getElem?_eq_some_iff.1 h).1; simpa [encW] using this
theorem Rw.set {w : World} {g n : Nat} {x : Nat → Wt} (h : Rw w g n x) {k f : Nat} (hk : k < n) (hf : f < 4) (v : Value) (z : Wt) (hz : encW z = (encW (x k)).set f v) :
    Rw (w.setCell ⟨g, k * 4 + f, none⟩ v) g n (fun i => if i = k then z else x i) := by
  obtain ⟨c, hc, hx⟩ := h
  refine ⟨c.setIfInBounds (k * 4 + f) v, heap_set_blk hc, fun i hi f' u hu => ?_⟩
  have hf' := encW_lt hu
  rw [Array.getElem?_setIfInBounds]
  by_cases hik : i = k
  · subst hik
    simp only [if_true] at hu
    rw [hz, List.getElem?_set] at hu
    by_cases hff : f = f'
    · subst hff
      rw [if_pos rfl] at hu ⊢
      have h1 := hx i hi f ((encW (x i))[f]'(by simpa [encW] using hf)) (by simp)
      have h2 := (Array.getElem?_eq_some_iff.1 h1).1
      rw [if_pos h2]
      rw [if_pos (by simpa [encW] using hf)] at hu
      exact hu
    · rw [if_neg hff] at hu
      rw [if_neg (by omega)]
      exact hx i hi f' u hu
  · simp only [if_neg hik] at hu
    rw [if_neg (by omega)]
    exact hx i hi f' u hu
theorem Rw.of_own {w : World} {B n : Nat} {a : Option Addr} {cap : Nat} {ws : List Wt} (h : w.ownsRow B 58 4 (.slice a n cap) n (ws.flatMap encW)) (hn : ws.length = n) (h0 : 0 < n) :
    ∃ g, a = some ⟨g, 0, none⟩ ∧ B ≤ g ∧ Rw w g n (fun i => ws.getD i ⟨0, 0, 0, 0⟩) := by
  rcases h.2 with ⟨h1, _⟩ | ⟨g, c, cur, h1, hb, hg, hnc, hcm, hcs, htake⟩
  · injection h1 with _ e2 _; omega
  · injection h1 with e1 e2 e3
    refine ⟨g, e1, hb, cur, hg, fun i hi f u hu => ?_⟩
    have hf := encW_lt hu
    have hil : i < ws.length := by omega
    have := flat_get (enc := encW) (sz := 4) (fun _ => rfl) hil hf
    rw [← htake, List.getElem?_take, if_pos (by omega)] at this
    rw [Array.getElem?_toList] at this
    rw [this]
    simp only [List.getD_eq_getElem?_getD, List.getElem?_eq_getElem hil] at hu
    exact hu
theorem Rw.sl {w : World} {g n cap : Nat} {x : Nat → Wt} (h : Rw w g n x) (hn : n ≤ 1000) (hc : n ≤ cap) : SlW w (.slice (some ⟨g, 0, none⟩) n cap) ((List.range n).map x) := by
  have hlt := h.lt
  obtain ⟨c, hc2, hx⟩ := h
  refine ⟨_, cap, by rw [List.length_map, List.length_range], by rw [List.length_map, List.length_range]; omega, by rw [List.length_map, List.length_range]; exact hc, fun _ => ⟨g, 0, rfl, hlt, fun i hi f u hu => ?_⟩⟩
  rw [cell_blk hc2]
  rw [List.length_map, List.length_range] at hi
  have := hx i hi f u (by simpa using hu)
  rw [Nat.zero_add]; exact this
/-- A weather of which more is known. -/
def chW (a N : Int) (t : Bool) (x : Wt) : Wt := ⟨x.comes, x.lo + a % (x.hi - x.lo + 1), x.hi, if t = true ∧ x.next = 3 then N else x.next⟩
def chL (y : Yd) (a N : Int) (t : Nat → Bool) (k : Nat) : List Wt := (List.range y.ws.length).map (fun i => if i < k then chW a N (t i) (y.at_ i) else y.at_ i)
theorem chL_len (y : Yd) (a N : Int) (t : Nat → Bool) (k : Nat) : (chL y a N t k).length = y.ws.length := by simp [chL]
theorem chL_more {y : Yd} (ok : Ok y) {a N : Int} (hN : N = 1 ∨ N = 2) (t : Nat → Bool) : More y ⟨y.room, y.most, y.lots, chL y a N t y.ws.length⟩ := by
  refine more_ws ok (chL_len ..) fun m hm => ?_
  have he : (⟨y.room, y.most, y.lots, chL y a N t y.ws.length⟩ : Yd).at_ m = chW a N (t m) (y.at_ m) := by
    unfold Yd.at_ chL
    rw [List.getD_eq_getElem?_getD, List.getElem?_map, List.getElem?_range hm]
    simp [hm, Yd.at_]
  rw [he]
  have h2 := ok.each m hm
  have h3 := Int.emod_nonneg a (show (y.at_ m).hi - (y.at_ m).lo + 1 ≠ 0 by omega)
  have h4 := Int.emod_lt_of_pos a (show 0 < (y.at_ m).hi - (y.at_ m).lo + 1 by omega)
  unfold chW
  refine ⟨rfl, by show _ ≤ _ + _; omega, by show _ + _ ≤ _; omega, rfl, ?_⟩
  show (if _ then _ else _) = _ ∨ _
  split
  · rename_i h5
    exact .inr ⟨h5.2, hN⟩
  · exact .inl rfl
end Ytndmjginmomfiaa
end Go.Proofs
