/- The examples' line and trains. -/
import Derived.Test.YteijenefhoconaaSmall
open Go Go.RowKit Go.YteijenefhoconaaIt
namespace Go.Proofs
namespace Yteijenefhoconaa
def exL : List Int := [1, 1, 1, 2, 1, 1, 1]
def exS : List Tn := [(0, 6), (6, 0)]
def exW : List Tn := [(3, 6), (5, 0)]
def exT : List Tn := [(2, 5), (4, 1), (3, 0)]
def exV : List Tn := [(2, 6), (4, 0), (3, 0), (3, 6)]
theorem slI_new {w : World} {xs : List Int} {t : TypeId} {cap : Nat} (hm : xs.length ≤ 17592186044416) : SlI (w.alloc (.cells (arr xs) t)) (.slice (some ⟨w.heap.size, 0, none⟩) xs.length cap) xs := by
  refine ⟨_, cap, rfl, hm, fun _ => ⟨w.heap.size, 0, rfl, by simp, fun i hi => ?_⟩⟩
  rw [Nat.zero_add]
  exact cell_arr (heap_newI rfl) hi
theorem slT_new {w : World} {ts : List Tn} {t : TypeId} {cap : Nat} (hm : ts.length ≤ 8796093022208) : SlT (w.alloc (.cells (flat ts).toArray t)) (.slice (some ⟨w.heap.size, 0, none⟩) ts.length cap) ts := by
  refine ⟨_, cap, rfl, hm, fun _ => ⟨w.heap.size, 0, rfl, by simp, fun i hi => ?_⟩⟩
  obtain ⟨h1, h2⟩ := flat_at ts i hi
  rw [Nat.zero_add, cell_blk (heap_newI rfl), cell_blk (heap_newI rfl)]
  exact ⟨by simpa using h1, by simpa using h2⟩
theorem slB_new {w : World} {xs : List Bool} {t : TypeId} {cap : Nat} (hm : xs.length ≤ 17592186044416) : SlB (w.alloc (.cells (xs.map Value.bool).toArray t)) (.slice (some ⟨w.heap.size, 0, none⟩) xs.length cap) xs := by
  refine ⟨_, cap, rfl, hm, fun _ => ⟨w.heap.size, 0, rfl, by simp, fun i hi => ?_⟩⟩
  rw [Nat.zero_add, cell_blk (heap_newI rfl)]
  simp [hi]
theorem L_any (w : World) : Calls Try.prog 39 #[] w fun e w' => ∃ v, e = .returned v ∧ SlI w' v exL ∧ Below w.heap.size w w' := by
  go_enter Try.func39, Try.ntmps39
  go_wp2
  go_ret
  exact ⟨_, rfl, slI_new (xs := exL) (by decide), by go_grown⟩
theorem W_any (w : World) : Calls Try.prog 40 #[] w fun e w' => ∃ v, e = .returned v ∧ SlT w' v exW ∧ Below w.heap.size w w' := by
  go_enter Try.func40, Try.ntmps40
  go_wp2
  go_ret
  exact ⟨_, rfl, slT_new (ts := exW) (by decide), by go_grown⟩
theorem T_any (w : World) : Calls Try.prog 41 #[] w fun e w' => ∃ v, e = .returned v ∧ SlT w' v exT ∧ Below w.heap.size w w' := by
  go_enter Try.func41, Try.ntmps41
  go_wp2
  go_ret
  exact ⟨_, rfl, slT_new (ts := exT) (by decide), by go_grown⟩
theorem V_any (w : World) : Calls Try.prog 42 #[] w fun e w' => ∃ v, e = .returned v ∧ SlT w' v exV ∧ Below w.heap.size w w' := by
  go_enter Try.func42, Try.ntmps42
  go_wp2
  go_ret
  exact ⟨_, rfl, slT_new (ts := exV) (by decide), by go_grown⟩
theorem S_any (w : World) : Calls Try.prog 47 #[] w fun e w' => ∃ v, e = .returned v ∧ SlT w' v exS ∧ Below w.heap.size w w' := by
  go_enter Try.func47, Try.ntmps47
  go_wp2
  go_ret
  exact ⟨_, rfl, slT_new (ts := exS) (by decide), by go_grown⟩
/-! What is computed. -/
theorem e1 : lineE exL exS = 0 := by decide +kernel
theorem e2 : lineE exL exV = 0 := by decide +kernel
theorem e3 : lineE exL exW = 0 := by decide +kernel
theorem e4 : lineE exL exT = 0 := by decide +kernel
theorem s1 : safeB exL (tos exS) (pos exS) = true := by decide +kernel
theorem s2 : safeB exL (tos exV) (pos exV) = false := by decide +kernel
theorem s3 : safeB exL (tos exT) (pos exT) = true := by decide +kernel
theorem s4 : safeB exL (tos exW) (pos exW) = true := by decide +kernel
theorem g1 : goodL exL (tos exW) (pos exW) = [1] := by decide +kernel
theorem g2 : goodL exL (tos exT) (pos exT) = [0] := by decide +kernel
theorem v1 : verE exL exT (planL exL (tos exT) (pos exT)) = (9, 0) := by decide +kernel
theorem v2 : verE exL exS [0, 0, 0, 1, 0, 0] = (5, 15) := by decide +kernel
theorem c1 : canL exL (tos exW) (pos exW) = [0, 1] := by decide +kernel
theorem c2 : canL exL (tos exV) (pos exV) = [] := by decide +kernel
theorem k1 : stuckB exL exV = true := by decide +kernel
theorem m1 : mvE exL exW 0 = 0 := by decide +kernel
theorem m2 : mvT exL exW 0 = [(4, 6), (5, 0)] := by decide +kernel
theorem m3 : mvE exL [(4, 6), (5, 0)] 0 = 15 := by decide +kernel
theorem d1 : dispE exL exS [0, 0, 0, 1, 0, 1, 0] = 0 := by decide +kernel
theorem d2 : (dispG exL (tos exS) (pos exS) [0, 0, 0, 1, 0, 1, 0]).1 = [true, true, true, true, false, true, false] := by decide +kernel
theorem d3 : tsOf (dispG exL (tos exS) (pos exS) [0, 0, 0, 1, 0, 1, 0]).2 (tos exS) = [(3, 6), (4, 0)] := by decide +kernel
end Yteijenefhoconaa
end Go.Proofs
/- The program at the examples. -/
open Go Go.RowKit Go.YteijenefhoconaaIt
namespace Go.Proofs
namespace Yteijenefhoconaa
theorem x16 {va vb : Value} {ts : List Tn} {b : Bool} (hl : lineE exL ts = 0) (hs : safeB exL (tos ts) (pos ts) = b) (W : World) (ha : SlI W va exL) (hb : SlT W vb ts) :
    Calls Try.prog 16 #[va, vb] W fun e w' => e = .returned (.tuple #[.bool b, .int .i64 0]) ∧ Below W.heap.size W w' := by
  refine (safeX_any va vb exL ts W ha hb).mono ?_
  rintro e w' ⟨rfl, h⟩
  rw [hl, hs]
  exact ⟨rfl, h⟩
theorem x23 {va vb : Value} {ts : List Tn} {g : List Int} (hl : lineE exL ts = 0) (hs : goodL exL (tos ts) (pos ts) = g) (W : World) (ha : SlI W va exL) (hb : SlT W vb ts) :
    Calls Try.prog 23 #[va, vb] W fun e w' => ∃ v, e = .returned (.tuple #[v, .int .i64 0]) ∧ SlI w' v g ∧ Below W.heap.size W w' := by
  refine (good_any va vb exL ts W ha hb).mono ?_
  rintro e w' ⟨h, ⟨hn, _⟩ | ⟨_, v, rfl, hv⟩⟩
  · exact absurd hl hn
  · exact ⟨v, rfl, hs ▸ hv, h⟩
theorem x35 {va vb : Value} {ts : List Tn} {g : List Int} (hl : lineE exL ts = 0) (hs : canL exL (tos ts) (pos ts) = g) (W : World) (ha : SlI W va exL) (hb : SlT W vb ts) :
    Calls Try.prog 35 #[va, vb] W fun e w' => ∃ v, e = .returned (.tuple #[v, .int .i64 0]) ∧ SlI w' v g ∧ Below W.heap.size W w' := by
  refine (possible_any va vb exL ts W ha hb).mono ?_
  rintro e w' ⟨h, ⟨hn, _⟩ | ⟨_, v, rfl, hv⟩⟩
  · exact absurd hl hn
  · exact ⟨v, rfl, hs ▸ hv, h⟩
theorem x20 {va vb : Value} {ts : List Tn} (hl : lineE exL ts = 0) (hs : safeB exL (tos ts) (pos ts) = true) (W : World) (ha : SlI W va exL) (hb : SlT W vb ts) :
    Calls Try.prog 20 #[va, vb] W fun e w' => ∃ v, e = .returned (.tuple #[v, .int .i64 0]) ∧ SlI w' v (planL exL (tos ts) (pos ts)) ∧ Below W.heap.size W w' := by
  refine (planX_any va vb exL ts W ha hb).mono ?_
  rintro e w' ⟨h, ⟨hn, _⟩ | ⟨_, hf, _⟩ | ⟨_, _, v, rfl, hv⟩⟩
  · exact absurd hl hn
  · rw [hs] at hf; cases hf
  · exact ⟨v, rfl, hv, h⟩
theorem x20n {va vb : Value} {ts : List Tn} (hl : lineE exL ts = 0) (hs : safeB exL (tos ts) (pos ts) = false) (W : World) (ha : SlI W va exL) (hb : SlT W vb ts) :
    Calls Try.prog 20 #[va, vb] W fun e w' => e = .returned (.tuple #[.slice none 0 0, .int .i64 16]) ∧ Below W.heap.size W w' := by
  refine (planX_any va vb exL ts W ha hb).mono ?_
  rintro e w' ⟨h, ⟨hn, _⟩ | ⟨_, _, rfl⟩ | ⟨_, hf, _⟩⟩
  · exact absurd hl hn
  · exact ⟨rfl, h⟩
  · rw [hs] at hf; cases hf
theorem x22 {va vb vm : Value} {ts : List Tn} {ms : List Int} {x y : Int} (hs : verE exL ts ms = (x, y)) (W : World) (ha : SlI W va exL) (hb : SlT W vb ts) (hm : SlI W vm ms) :
    Calls Try.prog 22 #[va, vb, vm] W fun e w' => e = .returned (.tuple #[.int .i64 x, .int .i64 y]) ∧ Below W.heap.size W w' := by
  refine (verify_any va vb vm exL ts ms W ha hb hm).mono ?_
  rintro e w' ⟨rfl, h⟩
  rw [hs]
  exact ⟨rfl, h⟩
theorem x18 {va vb : Value} {ts : List Tn} {b : Bool} (hl : lineE exL ts = 0) (hs : stuckB exL ts = b) (W : World) (ha : SlI W va exL) (hb : SlT W vb ts) :
    Calls Try.prog 18 #[va, vb] W fun e w' => e = .returned (.tuple #[.bool b, .int .i64 0]) ∧ Below W.heap.size W w' := by
  refine (stuck_any va vb exL ts W ha hb).mono ?_
  rintro e w' ⟨rfl, h⟩
  rw [hl, hs]
  exact ⟨rfl, h⟩
theorem x37 {va vb : Value} {ts us : List Tn} {i : Int} (hl : mvE exL ts i = 0) (hs : mvT exL ts i = us) (W : World) (ha : SlI W va exL) (hb : SlT W vb ts) :
    Calls Try.prog 37 #[va, vb, .int .i64 i] W fun e w' => ∃ v, e = .returned (.tuple #[v, .int .i64 0]) ∧ SlT w' v us ∧ Below W.heap.size W w' := by
  refine (mv_any va vb exL ts i W ha hb).mono ?_
  rintro e w' ⟨h, ⟨hn, _⟩ | ⟨_, v, rfl, hv⟩⟩
  · exact absurd hl hn
  · exact ⟨v, rfl, hs ▸ hv, h⟩
theorem x37n {va vb : Value} {ts : List Tn} {i y : Int} (hl : mvE exL ts i = y) (hy : y ≠ 0) (W : World) (ha : SlI W va exL) (hb : SlT W vb ts) :
    Calls Try.prog 37 #[va, vb, .int .i64 i] W fun e w' => e = .returned (.tuple #[.slice none 0 0, .int .i64 y]) ∧ Below W.heap.size W w' := by
  subst hl
  refine (mv_any va vb exL ts i W ha hb).mono ?_
  rintro e w' ⟨h, ⟨_, rfl⟩ | ⟨h0, _⟩⟩
  · exact ⟨rfl, h⟩
  · exact absurd h0 hy
theorem x25 {va vb vm : Value} {ts us : List Tn} {ms : List Int} {bs : List Bool} (hl : dispE exL ts ms = 0) (h1 : (dispG exL (tos ts) (pos ts) ms).1 = bs) (h2 : tsOf (dispG exL (tos ts) (pos ts) ms).2 (tos ts) = us) (W : World) (ha : SlI W va exL) (hb : SlT W vb ts) (hm : SlI W vm ms) :
    Calls Try.prog 25 #[va, vb, vm] W fun e w' => ∃ v u, e = .returned (.tuple #[v, u, .int .i64 0]) ∧ SlB w' v bs ∧ SlT w' u us ∧ Below W.heap.size W w' := by
  refine (disp_any va vb vm exL ts ms W ha hb hm).mono ?_
  rintro e w' ⟨h, ⟨hn, _⟩ | ⟨_, v, u, rfl, hv, hu⟩⟩
  · exact absurd hl hn
  · exact ⟨v, u, rfl, h1 ▸ hv, h2 ▸ hu, h⟩
theorem x27 {v u : Value} {xs ys : List Int} (h : xs = ys) (W : World) (hv : SlI W v xs) (hu : SlI W u ys) : Calls Try.prog 27 #[v, u] W fun e w' => e = .returned (.bool true) ∧ Below W.heap.size W w' := by
  refine (numbers_any v u xs ys W hv hu).mono ?_
  rintro e w' ⟨rfl, hb⟩
  exact ⟨by rw [decide_eq_true h], hb⟩
theorem x28 {v u : Value} {xs ys : List Bool} (h : xs = ys) (W : World) (hv : SlB W v xs) (hu : SlB W u ys) : Calls Try.prog 28 #[v, u] W fun e w' => e = .returned (.bool true) ∧ Below W.heap.size W w' := by
  refine (yeses_any v u xs ys W hv hu).mono ?_
  rintro e w' ⟨rfl, hb⟩
  exact ⟨by rw [decide_eq_true h], hb⟩
theorem x36 {v u : Value} {xs ys : List Tn} (h : xs = ys) (W : World) (hv : SlT W v xs) (hu : SlT W u ys) : Calls Try.prog 36 #[v, u] W fun e w' => e = .returned (.bool true) ∧ Below W.heap.size W w' := by
  refine (trains36_any v u xs ys W hv hu).mono ?_
  rintro e w' ⟨rfl, hb⟩
  exact ⟨by rw [decide_eq_true h], hb⟩
end Yteijenefhoconaa
end Go.Proofs
