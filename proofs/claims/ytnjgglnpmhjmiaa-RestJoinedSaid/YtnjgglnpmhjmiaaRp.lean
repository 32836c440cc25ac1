/- Laws of rotation, plainly: how the table of a law's classes grows. -/
import Derived.Test.YtnjgglnpmhjmiaaRo
open Go Go.RowKit Go.YtnjgglnpmhjmiaaIt
open Rest
namespace Go.Proofs
namespace Ytnjgglnpmhjmiaa
theorem tryN_sub {α : Type} [DecidableEq α] (x : RSys α) (p : α × List Nat) (l : List (α × List Nat)) {c k : Nat} (h : c ≤ k) : tryN x p l c <+: tryN x p l k := by
 induction k with
 | zero => rw [show c = 0 by omega]; exact List.prefix_refl _
 | succ k ih =>
  rcases (show c = k + 1 ∨ c ≤ k by omega) with rfl | h'
  ·exact List.prefix_refl _
  ·rw [tryN_succ]; exact List.IsPrefix.trans (ih h') (tryC_pre _ _ _ _)
theorem idx_sub {α : Type} [DecidableEq α] {cur L : List (α × List Nat)} (h : cur <+: L) {s : α} (hs : s ∈ cur.map Prod.fst) : idx L s = idx cur s := by
 obtain ⟨t, rfl⟩ := h
 unfold idx
 rw [List.map_append, List.idxOf_append, if_pos hs]
/-- The numbers of what has been met. -/
def Fq {α : Type} [DecidableEq α] (cur : List (α × List Nat)) (s : α) : Option Value := if s ∈ cur.map Prod.fst then some (.int .i64 (idx cur s : Nat)) else none
theorem Fq_in {α : Type} [DecidableEq α] {cur : List (α × List Nat)} {s : α} (h : s ∈ cur.map Prod.fst) : Fq cur s = some (.int .i64 (idx cur s : Nat)) := by unfold Fq; rw [if_pos h]
theorem Fq_no {α : Type} [DecidableEq α] {cur : List (α × List Nat)} {s : α} (h : s ∉ cur.map Prod.fst) : Fq cur s = none := by unfold Fq; rw [if_neg h]
theorem Fq_push {α : Type} [DecidableEq α] {cur : List (α × List Nat)} {s : α} (h : s ∉ cur.map Prod.fst) (w : List Nat) (t : α) : Fq (cur ++ [(s, w)]) t = updF (Fq cur) s (.int .i64 (cur.length : Nat)) t := by
 unfold updF
 by_cases ht : t = s
 ·subst ht
  rw [if_pos rfl]
  unfold Fq idx
  rw [if_pos (by simp), List.map_append, List.idxOf_append, if_neg h]
  simp
 ·rw [if_neg ht]
  unfold Fq idx
  rw [List.map_append]
  by_cases hm : t ∈ cur.map Prod.fst
  ·rw [if_pos hm, if_pos (List.mem_append.2 (.inl hm)), List.idxOf_append, if_pos hm]
  ·rw [if_neg hm, if_neg (fun h' => (List.mem_append.1 h').elim hm (fun h' => ht (by simpa using h')))]
/-- The places met when c crops of place i have been tried. -/
def curW {α : Type} [DecidableEq α] (x : RSys α) (L : List (α × List Nat)) (i c : Nat) : List (α × List Nat) := match L[i]? with
 | some p => tryN x p (after x i) c
 | none => after x i
section
variable {α : Type} [DecidableEq α] {x : RSys α} {L : List (α × List Nat)}
theorem curW_zero (i : Nat) : curW x L i 0 = after x i := by unfold curW; split <;> rfl
theorem curW_at {i : Nat} (hi : i < L.length) (c : Nat) : curW x L i c = tryN x L[i] (after x i) c := by unfold curW; rw [List.getElem?_eq_getElem hi]
theorem curW_all (h : Walk x L) {i : Nat} (hi : i < L.length) : curW x L i x.k = after x (i + 1) := by rw [curW_at hi, h.next hi]
theorem after_sub (h : Walk x L) (i : Nat) : after x i <+: L := by
 rcases (show i ≤ L.length ∨ L.length ≤ i by omega) with hi | hi
 ·have := after_pre x hi; rwa [h.all] at this
 ·rw [h.stop i hi]; exact List.prefix_refl _
theorem curW_sub (h : Walk x L) {i c : Nat} (hi : i < L.length) (hc : c ≤ x.k) : curW x L i c <+: L := by
 rw [curW_at hi]
 refine List.IsPrefix.trans (tryN_sub x L[i] (after x i) hc) ?_
 rw [← h.next hi]; exact after_sub h _
theorem curW_succ {i : Nat} (hi : i < L.length) (c : Nat) : curW x L i (c + 1) = if x.nx L[i].1 c ∈ (curW x L i c).map Prod.fst then curW x L i c else curW x L i c ++ [(x.nx L[i].1 c, L[i].2 ++ [c])] := by
 rw [curW_at hi, curW_at hi, tryN_succ]; rfl
theorem curW_mem {i : Nat} (hi : i < L.length) (c : Nat) : x.nx L[i].1 c ∈ (curW x L i (c + 1)).map Prod.fst := by
 rw [curW_succ hi]
 split
 ·assumption
 ·simp
theorem curW_get (h : Walk x L) {i c : Nat} (hi : i < L.length) : (curW x L i c)[i]? = some L[i] := by
 have h1 := h.at_ hi
 have h2 := h.lt hi
 rw [curW_at hi]
 obtain ⟨t, ht⟩ := tryN_pre x L[i] (after x i) c
 rw [← ht, List.getElem?_append_left h2, h1]
theorem curW_len (h : Walk x L) {i c : Nat} (hi : i < L.length) (hc : c ≤ x.k) : i < (curW x L i c).length ∧ (curW x L i c).length ≤ L.length := by
 refine ⟨?_, (curW_sub h hi hc).length_le⟩
 have := curW_get (c := c) h hi
 exact (List.getElem?_eq_some_iff.1 this).1
/-- The first c entries of a row. -/
def rowW (x : RSys α) (L : List (α × List Nat)) (i c : Nat) : List Int := match L[i]? with
 | some p => (List.range c).map fun c => ((idx L (x.nx p.1 c) : Nat) : Int)
 | none => []
theorem rowW_zero (i : Nat) : rowW x L i 0 = [] := by unfold rowW; split <;> rfl
theorem rowW_succ {i : Nat} (hi : i < L.length) (c : Nat) : rowW x L i (c + 1) = rowW x L i c ++ [((idx L (x.nx L[i].1 c) : Nat) : Int)] := by
 unfold rowW; rw [List.getElem?_eq_getElem hi]; simp [List.range_succ]
theorem rowW_len {i : Nat} (hi : i < L.length) (c : Nat) : (rowW x L i c).length = c := by
 unfold rowW; rw [List.getElem?_eq_getElem hi]; simp
def rowsW (x : RSys α) (L : List (α × List Nat)) (i : Nat) : List (List Int) := (List.range i).map fun j => rowW x L j x.k
theorem rowsW_succ (i : Nat) : rowsW x L (i + 1) = rowsW x L i ++ [rowW x L i x.k] := by simp [rowsW, List.range_succ]
theorem rowsW_all : rowsW x L L.length = (tabOf x L).nx.map nI := by
 refine List.ext_getElem (by simp [rowsW, tabOf]) fun i h1 h2 => ?_
 have hi : i < L.length := by simpa [rowsW] using h1
 simp only [rowsW, tabOf, List.getElem_map, List.getElem_range, List.map_map]
 unfold rowW
 rw [List.getElem?_eq_getElem hi]
 simp [nI]
end
end Ytnjgglnpmhjmiaa
end Go.Proofs

