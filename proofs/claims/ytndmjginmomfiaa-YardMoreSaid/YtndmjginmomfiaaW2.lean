/- The iterators over orders and over what follows. -/
import Derived.Test.YtndmjginmomfiaaW1
open Go Go.RowKit Go.YtndmjginmomfiaaIt
namespace Go.Proofs
namespace Ytndmjginmomfiaa
def encW (x : Wt) : List Value := [.int .i64 x.comes, .int .i64 x.lo, .int .i64 x.hi, .int .i64 x.next]
theorem encW_len (x : Wt) : (encW x).length = 4 := rfl
/-- The weathers in memory. -/
abbrev SlW (w : World) (v : Value) (ws : List Wt) : Prop := SlG encW 4 w v ws
theorem wt_cells {w : World} {b off n : Nat} {ws : List Wt} (h : ∀ i (h : i < ws.length) f u, (encW ws[i])[f]? = some u → w.cell? ⟨b, off + i * 4 + f, none⟩ = some u) {i : Nat} (hi : i < ws.length) (hn : n = i) :
    w.cell? ⟨b, off + n * 4, none⟩ = some (.int .i64 ws[i].comes) ∧ w.cell? ⟨b, off + n * 4 + 1, none⟩ = some (.int .i64 ws[i].lo) ∧ w.cell? ⟨b, off + n * 4 + 2, none⟩ = some (.int .i64 ws[i].hi) ∧ w.cell? ⟨b, off + n * 4 + 3, none⟩ = some (.int .i64 ws[i].next) := by
  subst hn
  exact ⟨h n hi 0 _ rfl, h n hi 1 _ rfl, h n hi 2 _ rfl, h n hi 3 _ rfl⟩
/-- The yard's block. -/
def encY (y : Yd) (v : Value) : Array Value := #[.int .i64 y.room, .int .i64 y.most, .int .i64 y.lots, v]
def ordY (y : Yd) : List (Array Value) := (ordL y).map fun o => #[.int .i64 o]
def KeO (b : Nat) (v : Value) (y : Yd) (W : World) : Prop := W.heap[b]? = some (.cells (encY y v) 24 (0, 0))
theorem ordC_le {y : Yd} (ok : Ok y) {k : Nat} : (k : Int) * y.lots ≤ y.most ↔ k < ordC y := by
  have h1 := ok.lots0
  have h0 := ok.most0
  unfold ordC
  have h2 := Int.le_ediv_iff_mul_le (a := (k : Int)) (b := y.most) (c := y.lots) (by omega)
  have h3 : 0 ≤ y.most / y.lots := Int.ediv_nonneg h0 (by omega)
  rw [← h2]; omega
theorem ordC_41 {y : Yd} (ok : Ok y) : ordC y ≤ 41 := by
  have h1 := ok.lots0
  have h0 := ok.most0
  have h2 := ok.most1
  have h3 : y.most / y.lots ≤ y.most := Int.ediv_le_self _ h0
  unfold ordC; omega
theorem ord_bound {y : Yd} (ok : Ok y) {k : Nat} (hk : k ≤ ordC y) : 0 ≤ (k : Int) * y.lots ∧ (k : Int) * y.lots ≤ 80 := by
  have h1 := ok.lots0
  have h2 := ok.lots1
  have h0 := ok.most1
  have hn : 0 ≤ (k : Int) * y.lots := Int.mul_nonneg (by omega) (by omega)
  refine ⟨hn, ?_⟩
  cases k with
  | zero => simp
  | succ k =>
    have := (ordC_le ok (k := k)).2 (by omega)
    push_cast
    rw [Int.add_mul]; omega
set_option maxRecDepth 100000 in
set_option maxHeartbeats 1000000 in
theorem ord_iter (TT : TypeId → Prop) (b : Nat) (v : Value) (y : Yd) (ok : Ok y) : Iter Try.prog TT 73 #[.pointer (some ⟨b, 0, none⟩)] (ordY y) (KeO b v y) := by
  intro l W J Jx Jp hK sJ sJx sJp hY h0
  have hol : (ordY y).length = ordC y := by simp [ordY, ordL]
  have hob := fun k (hk : k ≤ ordC y) => ord_bound ok hk
  have hoc := fun k => ordC_le ok (k := k)
  have h41 := ordC_41 ok
  have hl0 := ok.lots0
  have hl1 := ok.lots1
  have hm1 := ok.most1
  have HK := Lib.hid hK
  have HY := Lib.hid hY
  have HOL := Lib.hid hol
  have HOB := Lib.hid hob
  have HOC := Lib.hid hoc
  clear hK hY hol hob hoc
  refine callsFw.1 (callsIn_of_wp (F := fw none) (n := 0) Try.func73 rfl trivial ?_)
  simp only [Try.ntmps73, List.size_toArray, List.length_cons, List.length_nil, Nat.reduceAdd, Nat.reduceSub, Array.replicate_succ, Array.replicate_zero, List.push_toArray, List.append_toArray, List.nil_append, List.cons_append]
  gi_wp2
  gi_loopw [3] (fun i wr => ∃ k : Nat, k ≤ ordC y ∧ i = .int .i64 (k * y.lots) ∧ J k wr ∧ W.heap.size ≤ wr.heap.size) (fun i _ => 100 - (intOf i).toNat)
  case atStart => exact ⟨0, Nat.zero_le _, by simp, h0, Nat.le_refl _⟩
  case round =>
    obtain ⟨k, hk, rfl, hJ, hsz⟩ := hrel
    have hbk := HOB.out k hk
    have hKe := HK.out _ _ hJ
    have c1 := cell_blk (i := 1) hKe
    have c2 := cell_blk (i := 2) hKe
    simp only [encY, List.getElem?_toArray, List.getElem?_cons_zero, List.getElem?_cons_succ] at c1 c2
    clear hKe
    obtain ⟨o, ho⟩ : ∃ o : Int, o = k * y.lots := ⟨_, rfl⟩
    rw [← ho] at hbk ⊢
    by_cases hkn : k < ordC y
    · have hle : o ≤ y.most := by rw [ho]; exact (HOC.out k).2 hkn
      have hyk : (ordY y)[k]'(by rw [HOL.out]; exact hkn) = #[.int .i64 o] := by simp [ordY, ordL, ho]
      have hy := HY.out k (by rw [HOL.out]; exact hkn) wr hsz hJ
      rw [hyk] at hy
      have hnx : o + y.lots = ((k + 1 : Nat) : Int) * y.lots := by rw [ho]; push_cast; rw [Int.add_mul]; omega
      have HNX := Lib.hid hnx
      have HO := Lib.hid ho
      clear hyk hnx ho
      obtain ⟨fn, tmps, assign, body, hy, hR⟩ := hy
      gi_wp2
      refine RoundIn.mono (F := Fence.wide) hR ?_
      clear hy hR
      rintro e W' (⟨rfl, hJ', hs'⟩ | ⟨rfl, hx', hs'⟩ | ⟨ch, rfl, hp', hs'⟩)
      · have hKe := HK.out _ _ hJ'
        have c1 := cell_blk (i := 1) hKe
        have c2 := cell_blk (i := 2) hKe
        simp only [encY, List.getElem?_toArray, List.getElem?_cons_zero, List.getElem?_cons_succ] at c1 c2
        clear hKe
        gi_wp2
        go_roundw
        case rel => exact ⟨k + 1, by omega, by rw [HNX.out], hJ', Nat.le_trans hsz hs'.size⟩
        case measure => simp [intOf]; omega
      · gi_wp2
        refine bodyPost_ret (results_none rfl _ _ _) rfl ?_
        exact .inl ⟨⟨_, rfl⟩, .inr hx'⟩
      · exact ⟨rfl, .inr ⟨ch, rfl, hp'⟩⟩
    · have hgt : ¬ o ≤ y.most := by rw [ho]; exact fun h => hkn ((HOC.out k).1 h)
      have hke : k = (ordY y).length := by have := HOL.out; omega
      have hJ2 : J (ordY y).length wr := by rw [← hke]; exact hJ
      clear hke hJ ho
      gi_wp2
      go_end0
      exact .inl ⟨⟨_, rfl⟩, .inl hJ2⟩
end Ytndmjginmomfiaa
end Go.Proofs
