/- Gangs: the steps, sorted. -/
import Derived.Test.YtnihopdglkhbnaaGa2
import Derived.Shelf.SlSortCmp.InsertionK
open Go Go.RowKit Go.YtnihopdglkhbnaaIt Go.Shelf Go.Lib Go.Sort
namespace Go.Proofs
namespace Ytnihopdglkhbnaa
def insRen : Ren where
  f := fun x => match x with
    | 20 => 48
    | n => n
  t := fun x => match x with
    | 24 => 67
    | 22 => 84
    | 3 => 3
    | 25 => 87
    | 4 => 4
    | 0 => 0
    | n => n
  g := fun x => x
theorem insLays : SlLaysF0.n20 Try.prog insRen where
  mixed := by kernel_rfl
  f20 := ⟨"slices.insertionSortCmpFunc[zafra/gang.step]", by decide, by kernel_rfl⟩
  t0 := Try.underlying0
  a0 := Try.isAgg0
  z0 := Try.sizeOf0
  v0 := Try.zeroValue0
  t3 := Try.underlying3
  a3 := Try.isAgg3
  z3 := Try.sizeOf3
  v3 := Try.zeroValue3
  t4 := Try.underlying4
  a4 := Try.isAgg4
  z4 := Try.sizeOf4
  v4 := Try.zeroValue4
  t22 := Try.underlying84
  a22 := Try.isAgg84
  z22 := Try.sizeOf84
  v22 := Try.zeroValue84
  t25 := Try.underlying87
  a25 := Try.isAgg87
  z25 := Try.sizeOf87
  v25 := Try.zeroValue87
theorem holds_own {W : World} {B g n cap : Nat} {xs : List Gs} (h : W.ownsRow B 67 2 (.slice (some ⟨g, 0, none⟩) n cap) n (xs.flatMap encG)) (hn : xs.length = n) : HoldsK encG 2 W g 0 xs.toArray := by
  unfold HoldsK Holds
  intro j hj
  rw [size_flatK, List.size_toArray] at hj
  rw [Nat.zero_add]
  refine ⟨?_, h.frozenAt j⟩
  rw [h.cellAt j (by omega), get_flatK _ _ _ _ (by rw [List.size_toArray]; exact hj)]
  have hk : j / 2 < xs.length := by omega
  have hj2 : j / 2 * 2 + j % 2 = j := by omega
  have := flat_get (enc := encG) (sz := 2) (fun _ => rfl) hk (f := j % 2) (by omega)
  rw [hj2] at this
  rw [this]
  have e : xs.toArray[j / 2]! = xs[j / 2] := by simp [hk]
  rw [e]
  have hl : j % 2 < (encG xs[j / 2]).length := by rw [encG_len]; omega
  rw [List.getElem?_eq_getElem hl]
  show some _ = some (id _)
  simp [hl]
theorem sort_other {w : World} {blk off m : Nat} {dk : Array Gs} {os : Array Obj} {b : Nat} (hb : b < w.heap.size) (hne : b ≠ blk) : (sortWorldK encG 2 w blk off m dk os).heap[b]? = w.heap[b]? := by
  unfold sortWorldK grow putRowK putRow mapBlock Sort.ahead
  simp only
  rw [Array.getElem?_append_left (by simpa using hb), Array.getElem?_modify, if_neg (fun e => hne e.symm)]
theorem swo_cfG : SWO (ltOf cfG) where
  irrefl x := by unfold ltOf cfG; simp
  trans x y z h1 h2 := by
    unfold ltOf cfG at *
    simp only [decide_eq_true_eq] at *
    split at h1 <;> split at h2 <;> split <;> omega
  ntrans x y z h1 h2 := by
    unfold ltOf cfG at *
    simp only [decide_eq_false_iff_not] at *
    split at h1 <;> split at h2 <;> split <;> omega
theorem isAggG (w : World) : (isAgg 67).run Try.prog w = .ok true w := Try.isAgg67 w
theorem sizeG (w : World) : (Go.sizeOf 67).run Try.prog w = .ok 2 w := Try.sizeOf67 w
/-- What is left of the world behind the sort. -/
structure Sorted (w w' : World) (g n cap : Nat) (xs ys : List Gs) : Prop where
  perm : ys.Perm xs
  srt : ys.Pairwise fun x y => ltOf cfG y x = false
  sl : SlG encG 2 w' (.slice (some ⟨g, 0, none⟩) n cap) ys
  other : ∀ b, b < w.heap.size → b ≠ g → w'.heap[b]? = w.heap[b]?
  size : w.heap.size ≤ w'.heap.size
  os : w'.os = w.os
  tape : w'.tape = w.tape
  output : w'.output = w.output
theorem sorted_of {w : World} {g n cap : Nat} {xs : List Gs} {m : Nat} {os : Array Obj} (hH : HoldsK encG 2 w g 0 xs.toArray) (hn : xs.length = n) (hg : g < w.heap.size) (hc : n ≤ cap) (hb : n ≤ 1000) :
    ∃ ys, Sorted w (sortWorldK encG 2 w g 0 m (Sort.insertionSort (ltOf cfG) xs.toArray 0 xs.toArray.size) os) g n cap xs ys := by
  obtain ⟨hp, hs⟩ := insertionSort_holds (lt := ltOf cfG) swo_cfG xs.toArray 0 xs.toArray.size (Nat.zero_le _) (Nat.le_refl _)
  obtain ⟨hsz, -, hperm⟩ := hp
  generalize Sort.insertionSort (ltOf cfG) xs.toArray 0 xs.toArray.size = d at *
  have hsz2 : d.size = n := by rw [hsz, List.size_toArray, hn]
  have e1 : d.extract 0 xs.toArray.size = d := by rw [← hsz]; simp
  have e2 : xs.toArray.extract 0 xs.toArray.size = xs.toArray := by simp
  rw [e1, e2] at hperm
  refine ⟨d.toList, ⟨by simpa using hperm, ?_, ?_, fun b hb hne => sort_other hb hne, size_sortWorldK_c _ _ _ _ _ _ _ _, rfl, rfl, rfl⟩⟩
  · rw [List.pairwise_iff_getElem]
    intro i j hi hj hij
    have := hs i j (Nat.zero_le _) hij (by rw [← hsz]; simpa using hj)
    simp only [Array.length_toList] at hi hj
    rw [getElem!_pos d j hj, getElem!_pos d i hi] at this
    simpa using this
  · have hH2 := holdsK_sortWorldK_c encG 2 w g 0 xs.toArray d m os hH hg hsz
    refine ⟨_, cap, by rw [Array.length_toList, hsz2], by rw [Array.length_toList]; omega, by rw [Array.length_toList]; omega, fun _ => ⟨g, 0, rfl, Nat.lt_of_lt_of_le hg (size_sortWorldK_c _ _ _ _ _ _ _ _), fun i hi f u hu => ?_⟩⟩
    have hi' : i < d.size := by simpa using hi
    have := HoldsK.cells hH2 (fun _ => rfl) hi' f u (by rw [getElem!_pos d i hi']; simpa using hu)
    rw [add_at] at this
    exact this
set_option maxRecDepth 100000 in
set_option maxHeartbeats 4000000 in
theorem stable_any (xs : List Gs) (g n cap bf B : Nat) (w : World) (hn : xs.length = n) (h0 : 0 < n) (h12 : n ≤ 12) (hrow : w.ownsRow B 67 2 (.slice (some ⟨g, 0, none⟩) n cap) n (xs.flatMap encG))
    (hf : w.heap[bf]? = some (.cells #[.func (.func 22) #[] #[]] 65 (0, 0))) (hne : bf ≠ g) :
    Calls Try.prog 37 #[.slice (some ⟨g, 0, none⟩) n cap, .func (.func 38) #[] #[.pointer (some ⟨bf, 0, none⟩)]] w fun e w' => e = .returned (.tuple #[]) ∧ ∃ ys, Sorted w w' g n cap xs ys := by
  have hH := holds_own hrow hn
  have hg := (hrow.lt g rfl).2
  have hc := cap_of hrow _ _ _ rfl
  have hcmp : CmpLays Try.prog 38 #[.pointer (some ⟨bf, 0, none⟩)] encG 2 cfG g 0 xs.toArray.size w := fun m os dk _ x y =>
    cmp_any x y bf _ ((sort_other (lt_blk hf) hne).trans hf)
  have eg : ∀ args w, (callFunc 38 args).run Try.prog w = .ok (.enter 38 args) w := enters_of Try.func38 (by kernel_rfl) rfl
  have hins := AnyQ.insertionSortCmpFunc insLays 2 isAggG sizeG encG (fun _ => rfl) (fun x v hv => by simp [encG] at hv; rcases hv with rfl | rfl <;> rfl) cfG 38 #[.pointer (some ⟨bf, 0, none⟩)] g 0 cap 0 n xs.toArray w eg hcmp hH hg (Nat.zero_le _) (by simp [hn]) (by simp [hn]; omega)
  change Calls Try.prog 48 _ _ _ at hins
  rw [List.size_toArray, hn] at hins
  have hfin := fun m os => sorted_of (cap := cap) (m := m) (os := os) hH hn hg hc (by omega)
  rw [List.size_toArray, hn] at hfin
  have HF := Lib.hid hfin
  have h45 : Calls Try.prog 45 #[.slice (some ⟨g, 0, none⟩) n cap, .int .i64 n, .func (.func 38) #[] #[.pointer (some ⟨bf, 0, none⟩)]] w fun e w' => e = .returned (.tuple #[]) ∧ ∃ ys, Sorted w w' g n cap xs ys := by
    clear hH hg hc hcmp eg hfin hrow hf
    go_enter Try.func45, Try.ntmps45
    go_wp2
    refine wp_loop_rounds 1 ?_
    rw [rounds_succ]
    go_wp2_with (go_at_call 48; refine hins.mono ?_; rintro e w2 ⟨rfl, m, os, rfl⟩)
    refine wp_loop_rounds 1 ?_
    rw [rounds_succ]
    go_wp2
    go_end0
    exact ⟨rfl, HF.out _ _⟩
  clear hins hH hg hc hcmp eg hfin hrow hf
  go_enter Try.func37, Try.ntmps37
  go_wp2_with (go_at_call 45; refine h45.mono ?_; rintro e w2 ⟨rfl, ys, hs⟩)
  go_end0
  exact ⟨rfl, ys, hs⟩
end Ytnihopdglkhbnaa
end Go.Proofs
