/- Laws of rotation: what the walks of the laws by numbers share. -/
import Derived.Test.YtnjgglnpmhjmiaaD1
import Derived.Test.YtnjgglnpmhjmiaaD2
import Derived.Test.YtnjgglnpmhjmiaaD4
import Derived.Test.YtnjgglnpmhjmiaaD5
import Derived.Test.YtnjgglnpmhjmiaaWk
open Go Go.RowKit Go.YtnjgglnpmhjmiaaIt
open Rest
namespace Go.Proofs
namespace Ytnjgglnpmhjmiaa
theorem stored2 {w3 w4 : World} {an ag bn bg : Value} {la lb : Lw} {c d : Array Value} (ha : LawA w3 (.agg #[an, ag]) la) (hb : LawA w3 (.agg #[bn, bg]) lb) (hw : (((w3.alloc (.cells c 25)).alloc (.cells d 25)).putObj w3.heap.size (.cells #[an, ag] 25)).putObj (w3.heap.size + 1) (.cells #[bn, bg] 25) = w4) : LawX w4 w3.heap.size 25 la an ag ∧ LawX w4 (w3.heap.size + 1) 25 lb bn bg ∧ Below w3.heap.size w3 w4 := by
  obtain ⟨-, -, hB, hz⟩ := blkE2 (w := w3) (a := .cells c 25) (b := .cells d 25) rfl
  have hb4 : Below w3.heap.size w3 w4 := by rw [← hw]; exact below_putObj (below_putObj hB (Nat.le_refl _)) (by omega)
  have k1 : w4.heap[w3.heap.size]? = some (.cells #[an, ag] 25) := by rw [← hw, World.putObj_heap_other (by omega)]; exact World.putObj_heap_same (by omega)
  have k2 : w4.heap[w3.heap.size + 1]? = some (.cells #[bn, bg] 25) := by rw [← hw]; exact World.putObj_heap_same (by rw [World.putObj_size]; omega)
  obtain ⟨a1, a2, e, h1, h2⟩ := ha.below hb4 (Nat.le_refl _)
  obtain ⟨b1, b2, e', h3, h4⟩ := hb.below hb4 (Nat.le_refl _)
  simp only [Value.agg.injEq, Array.mk.injEq, List.cons.injEq, and_true] at e e'
  obtain ⟨rfl, rfl⟩ := e
  obtain ⟨rfl, rfl⟩ := e'
  exact ⟨⟨k1, h1, h2⟩, ⟨k2, h3, h4⟩, hb4⟩
theorem loop_v {k n : Nat} (h : n ≤ 1000) (hk : k < n) : Value.int .i64 (wrap64 ((k : Int) + 1)) = Value.int .i64 ((k + 1 : Nat) : Int) := congrArg _ (IntWalk.wrap64_in _ (by omega))
theorem loop_m {k n : Nat} (h : n ≤ 1000) (hk : k < n) : n - (intOf (Value.int .i64 (wrap64 ((k : Int) + 1)))).toNat < n - (intOf (Value.int .i64 (k : Int))).toNat := by
  rw [loop_v h hk]
  show n - ((k + 1 : Nat) : Int).toNat < n - (k : Int).toNat
  omega
theorem not_c {v : Value} {l : Lw} {w : World} {n : Nat} (h : LawA w v l) (t : Tw l n) : Calls Try.prog 43 #[v] w fun e w' => ∃ vn vg, e = .returned (.tuple #[.agg #[vn, vg], .int .i64 0]) ∧ LawA w' (.agg #[vn, vg]) (notL l) ∧ Below w.heap.size w w' := by
  have h1 := not43_any h
  rw [ok_chkL t.ok] at h1
  exact h1
theorem least_c {v : Value} {l : Lw} {w : World} {n : Nat} (h : LawA w v l) (t : Tw l n) : Calls Try.prog 50 #[v] w fun e w' => ∃ vn vg, e = .returned (.tuple #[.agg #[vn, vg], .int .i64 0]) ∧ LawA w' (.agg #[vn, vg]) (leastL l) ∧ Below w.heap.size w w' := by
  have h1 := least50_any h
  rw [ok_chkL t.ok] at h1
  exact h1
noncomputable def andL (a b : Lw) : Lw := tabL (joinT a b (fun a b => a && b))
noncomputable def orL (a b : Lw) : Lw := tabL (joinT a b (fun a b => a || b))
theorem both_c {va vb : Value} {a b : Lw} {w : World} {n m : Nat} (ha : LawA w va a) (hb : LawA w vb b) (ta : Tw a n) (tb : Tw b m) (hnm : n * m ≤ 40) : Calls Try.prog 42 #[va, vb] w fun e w' => ∃ vn vg, e = .returned (.tuple #[.agg #[vn, vg], .int .i64 0]) ∧ LawA w' (.agg #[vn, vg]) (andL a b) ∧ Below w.heap.size w w' := by
  have h1 := both42_any ha hb
  unfold bothE at h1
  rw [(joinT_tw ta tb hnm _).2.2] at h1
  exact h1.mono (by rintro e w' ⟨vn, vg, h1, h2, h3⟩; exact ⟨vn, vg, h1, h2.now, h3⟩)
theorem either_c {va vb : Value} {a b : Lw} {w : World} {n m : Nat} (ha : LawA w va a) (hb : LawA w vb b) (ta : Tw a n) (tb : Tw b m) (hnm : n * m ≤ 40) : Calls Try.prog 46 #[va, vb] w fun e w' => ∃ vn vg, e = .returned (.tuple #[.agg #[vn, vg], .int .i64 0]) ∧ LawA w' (.agg #[vn, vg]) (orL a b) ∧ Below w.heap.size w w' := by
  have h1 := either46_any ha hb
  unfold eitherE at h1
  rw [(joinT_tw ta tb hnm _).2.2] at h1
  exact h1.mono (by rintro e w' ⟨vn, vg, h1, h2, h3⟩; exact ⟨vn, vg, h1, h2.now, h3⟩)
theorem valid_c {v : Value} {l : Lw} {w : World} {n : Nat} (h : LawA w v l) (t : Tw l n) : Calls Try.prog 36 #[v] w fun e w' => e = .returned (.bool true) ∧ Below w.heap.size w w' := valid_any h t.ok t.k2
theorem allow_c {v vl : Value} {l : Lw} {w : World} {n : Nat} {ys : List Int} (h : LawA w v l) (t : Tw l n) (hl : SlII w vl [ys]) (hy : ∀ c ∈ ys, 0 ≤ c ∧ c < 2) : Calls Try.prog 40 #[v, vl] w fun e w' => e = .returned (.bool (Wl l (toW ys))) ∧ Below w.heap.size w w' := by
  have h1 := allows_any h t.ok hl (fun z hz => by rw [List.mem_singleton.1 hz]; intro c hc; rw [t.k2]; exact hy c hc)
  rw [end_one t hy] at h1
  exact h1
theorem allow_cb {v vl : Value} {l : Lw} {w : World} {n : Nat} {ys : List Int} {b : Bool} (e : Wl l (toW ys) = b) (h : LawA w v l) (t : Tw l n) (hl : SlII w vl [ys]) (hy : ∀ c ∈ ys, 0 ≤ c ∧ c < 2) : Calls Try.prog 40 #[v, vl] w fun e w' => e = .returned (.bool b) ∧ Below w.heap.size w w' := by
  rw [← e]; exact allow_c h t hl hy
theorem laws_c {v u : Value} {l : Lw} {w : World} (hx : LawA w v l) (hy : LawA w u l) : Calls Try.prog 54 #[v, u] w fun e w' => e = .returned (.bool true) ∧ Below w.heap.size w w' := by
  have h := laws_any hx hy
  rw [same_true] at h
  exact h

/-- The error and the list of what may be none. -/
def oE (o : Option (List Nat)) : Int := if o.isSome = true then 0 else 5
def oY (o : Option (List Nat)) : List Nat := o.getD []
theorem chk2_tw {a b : Lw} {n m : Nat} (ha : Tw a n) (hb : Tw b m) : chk2E a b = 0 := by unfold chk2E; rw [if_pos (ok_chkL ha.ok), if_pos (ok_chkL hb.ok), if_pos (ha.k2.trans hb.k2.symm)]
theorem differ_c {va vb : Value} {a b : Lw} {w : World} {n m : Nat} {o : Option (List Nat)} {E : Int} (ho : firstO (diffS a b (0, 0)) = o) (hE : oE o = E) (ha : LawA w va a) (hb : LawA w vb b) (ta : Tw a n) (tb : Tw b m) : Calls Try.prog 27 #[va, vb] w fun e w' => ∃ vy, e = .returned (.tuple #[vy, .int .i64 E]) ∧ SlI w' vy (nI (oY o)) ∧ Below w.heap.size w w' := by
  have h := differ27_any ha hb
  unfold firstE firstY at h
  rw [if_pos (chk2_tw ta tb), if_pos (chk2_tw ta tb), ho] at h
  rw [← hE]
  exact h
theorem first_c {va : Value} {a : Lw} {w : World} {n : Nat} {o : Option (List Nat)} {E : Int} (ho : firstO (sysL a) = o) (hE : oE o = E) (ha : LawA w va a) (ta : Tw a n) : Calls Try.prog 25 #[va] w fun e w' => ∃ vy, e = .returned (.tuple #[vy, .int .i64 E]) ∧ SlI w' vy (nI (oY o)) ∧ Below w.heap.size w w' := by
  have h := first25_any ha
  unfold firstE firstY at h
  rw [if_pos (ok_chkL ta.ok), if_pos (ok_chkL ta.ok), ho] at h
  rw [← hE]
  exact h
theorem laws_cb {v u : Value} {l m : Lw} {w : World} {b : Bool} (e : sameL l m = b) (hx : LawA w v l) (hy : LawA w u m) : Calls Try.prog 54 #[v, u] w fun e w' => e = .returned (.bool b) ∧ Below w.heap.size w w' := by
  rw [← e]; exact laws_any hx hy
theorem any_take {f : List Int → Bool} {ls : List (List Int)} {k : Nat} (h : k < ls.length) : (ls.take (k + 1)).any f = ((ls.take k).any f || f ls[k]) := by
  rw [List.take_succ_eq_append_getElem h, List.any_append]
  simp
end Ytnjgglnpmhjmiaa
end Go.Proofs
