/- Pans: a list of waits, of which the first are changed. -/
import Derived.Test.YteileadcmekkoaaMo
import Derived.Test.YteileadcmekkoaaOa
import Derived.Test.YteileadcmekkoaaCp
open Go Go.RowKit Go.YteileadcmekkoaaIt
namespace Go.Proofs
namespace Yteileadcmekkoaa
/-- The first k waits changed. -/
def mapTo (h : Wa → Wa) (k : Nat) (ws : List Wa) : List Wa := (ws.take k).map h ++ ws.drop k
theorem mapTo_zero (h : Wa → Wa) (ws : List Wa) : mapTo h 0 ws = ws := by simp [mapTo]
theorem mapTo_all (h : Wa → Wa) (ws : List Wa) : mapTo h ws.length ws = ws.map h := by simp [mapTo]
theorem mapTo_len (h : Wa → Wa) (k : Nat) (ws : List Wa) : (mapTo h k ws).length = ws.length := by
  simp only [mapTo, List.length_append, List.length_map, List.length_take, List.length_drop]; omega
theorem mapTo_at (h : Wa → Wa) {k : Nat} {ws : List Wa} (hk : k < ws.length) : at_ (mapTo h k ws) k = at_ ws k := by
  have hl : ((ws.take k).map h).length = k := by simp; omega
  simp only [at_, mapTo, List.getD_eq_getElem?_getD]
  rw [List.getElem?_append_right (by rw [hl]; exact Nat.le_refl _), hl, Nat.sub_self, List.getElem?_drop, Nat.add_zero]
theorem mapTo_set (h : Wa → Wa) {k : Nat} {ws : List Wa} (hk : k < ws.length) : (mapTo h k ws).set k (h (at_ ws k)) = mapTo h (k + 1) ws := by
  have hl : ((ws.take k).map h).length = k := by simp; omega
  unfold mapTo
  rw [List.set_append_right _ _ (by rw [hl]; exact Nat.le_refl _), hl, Nat.sub_self, List.drop_eq_getElem_cons hk, List.set_cons_zero, List.take_succ_eq_append_getElem hk, at_lt hk, List.map_append, List.append_assoc]
  rfl
/-- The two times of a wait in a block of its own are changed. -/
theorem OwnA.mul {W : World} {g k : Nat} {n lo hi : Int} {ws : List Wa} (h : OwnA W g (mapTo (mulT n) k ws)) (hk : k < ws.length) (hlo : lo = n * (at_ ws k).lo) (hhi : hi = n * (at_ ws k).hi) :
    OwnA (W.setCells g (k * 5 + 2) [.int .i64 lo, .int .i64 hi]) g (mapTo (mulT n) (k + 1) ws) := by
  have hk2 : k < (mapTo (mulT n) k ws).length := by rw [mapTo_len]; exact hk
  have h1 := h.set (f := 2) (v := .int .i64 lo) (x := ⟨(at_ ws k).f, (at_ ws k).t, lo, (at_ ws k).hi, (at_ ws k).b⟩) hk2 (by omega) (by rw [mapTo_at _ hk]; rfl)
  have hk3 : k < ((mapTo (mulT n) k ws).set k ⟨(at_ ws k).f, (at_ ws k).t, lo, (at_ ws k).hi, (at_ ws k).b⟩).length := by rw [List.length_set]; exact hk2
  have h2 := h1.set (k := k) (f := 3) (v := .int .i64 hi) (x := ⟨(at_ ws k).f, (at_ ws k).t, lo, hi, (at_ ws k).b⟩) hk3 (by omega) (by
    rw [at_lt hk3, List.getElem_set_self]; rfl)
  rw [List.set_set, show (⟨(at_ ws k).f, (at_ ws k).t, lo, hi, (at_ ws k).b⟩ : Wa) = mulT n (at_ ws k) by rw [hlo, hhi]; rfl, mapTo_set _ hk] at h2
  exact h2
theorem OwnA.dbl {W : World} {g k : Nat} {b : Int} {ws : List Wa} (h : OwnA W g (mapTo dblB k ws)) (hk : k < ws.length) (hb : b = (at_ ws k).b * 2) :
    OwnA (W.setCell ⟨g, k * 5 + 4, none⟩ (.int .i64 b)) g (mapTo dblB (k + 1) ws) := by
  have hk2 : k < (mapTo dblB k ws).length := by rw [mapTo_len]; exact hk
  have h1 := h.set (f := 4) (v := .int .i64 b) (x := dblB (at_ ws k)) hk2 (by omega) (by rw [mapTo_at _ hk, hb]; rfl)
  rw [mapTo_set _ hk] at h1
  exact h1
theorem OwnA.others {g b : Nat} : ∀ (vs : List Value) (i : Nat) {W : World} {ws : List Wa}, OwnA W g ws → g ≠ b → OwnA (W.setCells b i vs) g ws
  | [], _, _, _, h, _ => h
  | _ :: vs, i, _, _, h, hne => OwnA.others vs (i + 1) (h.other hne) hne
theorem heap_sets_other {g b : Nat} (hne : g ≠ b) : ∀ (vs : List Value) (i : Nat) {W : World}, (W.setCells b i vs).heap[g]? = W.heap[g]?
  | [], _, _ => rfl
  | _ :: vs, i, _ => (heap_sets_other hne vs (i + 1)).trans (heap_set_other hne)
theorem below_sets {n b : Nat} {w0 : World} (hb : n ≤ b) : ∀ (vs : List Value) (i : Nat) {W : World}, Below n w0 W → Below n w0 (W.setCells b i vs)
  | [], _, _, h => h
  | v :: vs, i, _, h => below_sets hb vs (i + 1) (h.setCell (p := ⟨b, i, none⟩) hb v)
theorem there_own {W : World} {g i k : Nat} {ws : List Wa} (h : OwnA W g ws) (hk : k < ws.length) (hi : i + 2 ≤ 5) : W.there g (k * 5 + i) 2 := by
  obtain ⟨r, h⟩ := h
  intro j hj
  have hlen := flat_length encA_len ws
  refine ⟨?_, free_blk h⟩
  rw [cell_blk h, List.getElem?_toArray, List.getElem?_eq_getElem (by rw [List.length_append, hlen]; omega)]
  rfl
/-- Waits of a call's own, that may be none. -/
def OwnV (W : World) (v : Option Addr) (g n c : Nat) (ws : List Wa) : Prop := n = ws.length ∧ n ≤ c ∧ (0 < n → v = some ⟨g, 0, none⟩ ∧ OwnA W g ws)
theorem ownV_row {W : World} {base n c : Nat} {v : Option Addr} {ws : List Wa} (h : W.ownsRow base 82 5 (.slice v n c) n (ws.flatMap encA)) (hn : n = ws.length) : ∃ g, base ≤ g ∧ OwnV W v g n c ws ∧ (0 < n → g < W.heap.size) := by
  have hc := cap_of h _ _ _ rfl
  by_cases h0 : 0 < n
  · obtain ⟨g, c', e, h1, h2, h3⟩ := ownA_row h h0
    injection e with e1 _ _
    exact ⟨g, h2, ⟨hn, hc, fun _ => ⟨e1, h3⟩⟩, fun _ => h3.lt⟩
  · exact ⟨base, Nat.le_refl _, ⟨hn, hc, fun h => absurd h h0⟩, fun h => absurd h h0⟩
theorem OwnV.slA {W : World} {v : Option Addr} {g n c : Nat} {ws : List Wa} (h : OwnV W v g n c ws) (hm : n ≤ 1000) : SlA W (.slice v n c) ws := by
  obtain ⟨rfl, h2, h3⟩ := h
  by_cases h0 : 0 < ws.length
  · obtain ⟨rfl, h4⟩ := h3 h0
    exact h4.slA hm h2
  · exact ⟨v, c, rfl, by omega, h2, fun h => absurd h h0⟩
end Yteileadcmekkoaa
end Go.Proofs
