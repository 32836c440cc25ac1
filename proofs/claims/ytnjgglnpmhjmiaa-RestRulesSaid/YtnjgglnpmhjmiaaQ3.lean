/- Laws of rotation: keys of maps; classes of states in maps. -/
import Derived.Test.YtnjgglnpmhjmiaaW2
open Go Go.RowKit Go.YtnjgglnpmhjmiaaIt
open Rest
namespace Go.Proofs
namespace Ytnjgglnpmhjmiaa
theorem key154 : WideMaps.ArrKey Try.prog 154 3 5 := ⟨Try.underlying154, by kernel_rfl, by kernel_rfl, by kernel_rfl⟩
theorem keyed154 : Maps.Keyed Try.prog 154 := Maps.Keyed.of_law key154.law
theorem keyed3 : Maps.Keyed Try.prog 3 := Maps.int_keyed Try.underlying3
def encK (l : List Nat) : Value := .agg ((nI l).map (Value.int .i64)).toArray
theorem encK_inj : ∀ s t, encK s = encK t → s = t := by
 intro s t e
 have h1 : ((nI s).map (Value.int .i64)).toArray = ((nI t).map (Value.int .i64)).toArray := by injection e
 have h2 : (nI s).map (Value.int .i64) = (nI t).map (Value.int .i64) := by simpa using h1
 have h3 : nI s = nI t := (List.map_inj_right (fun a b h => by injection h)).1 h2
 exact (List.map_inj_right (f := fun (i : Nat) => (i : Int)) (fun a b (h : (a : Int) = (b : Int)) => by omega)).1 h3
theorem wfZ {s : Int} (h : -1000000 ≤ s ∧ s ≤ 1000000) : (Lit.int .i64 s).wf = true := by
 have e1 : IntKind.i64.min = -9223372036854775808 := by decide
 have e2 : IntKind.i64.max = 9223372036854775807 := by decide
 simp only [Lit.wf, e1, e2, Bool.and_eq_true, decide_eq_true_eq]
 omega
theorem keyK {l : List Nat} (h5 : l.length = 5) (h : ∀ x ∈ l, x ≤ 1000000) : ∃ q, keyOf Try.prog 154 (encK l) = some q :=
 keyOf_ints key154 Try.underlying3 ⟨_, rfl⟩ (by rw [List.length_map]; exact h5) (fun x hx => by
  obtain ⟨n, hn, rfl⟩ := List.mem_map.1 hx
  have := h n hn
  exact wfZ (by omega))
theorem zero3 (w : World) : (zeroValue 3).run Try.prog w = .ok (.int .i64 0) w := by
 have h : (Try.prog.info? 3).map (·.zero) = some (some (.int .i64 0)) := by kernel_rfl
 unfold zeroValue typeInfo
 cases hi : Try.prog.info? 3 with
 | none => rw [hi] at h; simp at h
 | some i => rw [hi] at h; simp at h; simp [go_sem, hi, h]
theorem idxOf_pre {l l' : List (List Nat)} (h : l <+: l') {a : List Nat} (ha : a ∈ l) : l'.idxOf a = l.idxOf a := by
 obtain ⟨t, rfl⟩ := h
 rw [List.idxOf_append, if_pos ha]
/-- The keys that are met, numbered. -/
def Fk (ks : List (List Nat)) (k : List Nat) : Option Value := if k ∈ ks then some (.int .i64 (ks.idxOf k : Nat)) else none
/-- Classes of states in a map: what is looked up of each state is its class. -/
structure ClsM (w : World) (g : Nat) (sts : List Int) (cls : Int → Nat) (ok : Int → Prop) : Prop where
 ex : ∃ m F, MapF encZ w g m F ∧ (∀ s v, F s = some v → ok s) ∧ ∀ s ∈ sts, (F s).getD (.int .i64 0) = .int .i64 (cls s : Nat)
theorem ClsM.lt {w : World} {g : Nat} {sts : List Int} {cls : Int → Nat} {ok : Int → Prop} (h : ClsM w g sts cls ok) : g < w.heap.size := by
 obtain ⟨m, F, h1, -⟩ := h.ex
 exact h1.lt
theorem ClsM.keep {w w' : World} {g : Nat} {sts : List Int} {cls : Int → Nat} {ok : Int → Prop} (h : ClsM w g sts cls ok) (e : w'.heap[g]? = w.heap[g]?) : ClsM w' g sts cls ok := by
 obtain ⟨m, F, h1, h2⟩ := h.ex
 exact ⟨m, F, h1.keep e, h2⟩
theorem ClsM.below {w w' : World} {g : Nat} {sts : List Int} {cls : Int → Nat} {ok : Int → Prop} (h : ClsM w g sts cls ok) (hb : Below w.heap.size w w') : ClsM w' g sts cls ok := h.keep (hb.block g h.lt)
theorem ClsM.look {w : World} {g : Nat} {sts : List Int} {cls : Int → Nat} {ok : Int → Prop} (h : ClsM w g sts cls ok) (hbd : ∀ s, ok s → -1000000 ≤ s ∧ s ≤ 1000000) {s : Int} (hs : s ∈ sts) (hok : ok s) (W : World) (e : W.heap[g]? = w.heap[g]?) :
  (Instr.lookup 125 (.map (some g)) (.int .i64 s) false).run Try.prog W = .ok (.int .i64 (cls s : Nat)) W := by
 obtain ⟨m, F, h1, h2, h3⟩ := h.ex
 have := (h1.look (P := Try.prog) (t := 125) (k := 3) (e := 3) keyed3 Try.underlying125 zero3 encZ_inj (fun s v h => keyZ (hbd s (h2 s v h))) (keyZ (hbd s hok)) W e).2
 rw [h3 s hs] at this
 exact this
theorem ClsM.isMap {w : World} {g : Nat} {sts : List Int} {cls : Int → Nat} {ok : Int → Prop} (h : ClsM w g sts cls ok) : ∃ es ck, w.heap[g]? = some (.map es ck) := by
 obtain ⟨m, F, ⟨es, ck, e, -⟩, -⟩ := h.ex
 exact ⟨es, ck, e⟩
end Ytnjgglnpmhjmiaa
end Go.Proofs

