/- The program at the examples. -/
import Derived.Test.YteijenefhoconaaEx
open Go Go.RowKit Go.YteijenefhoconaaIt
namespace Go.Proofs
namespace Yteijenefhoconaa
theorem x16 {va vb : Value} {ts : List Tn} {b : Bool} (hl : lineE exL ts = 0) (hs : safeB exL (tos ts) (pos ts) = b) (W : World) (ha : SlI W va exL) (hb : SlT W vb ts) :
    Calls Try.prog 16 #[va, vb] W fun e w' => e = .returned (.tuple #[.bool b, .int .i64 0]) ∧ Below W.heap.size W w' := by
  refine (safeX_any va vb exL ts W ha hb).mono ?_
  rintro e w' ⟨rfl, h⟩
  rw [hl, hs]
  exact ⟨rfl, h⟩
theorem x23 {va vb : Value} {ts : List Tn} {g : List Int} (hl : lineE exL ts = 0) (hs : goodL exL (tos ts) (pos ts) = g) (W : World) (ha : SlI W va exL) (hb : SlT W vb ts) :
    Calls Try.prog 23 #[va, vb] W fun e w' => ∃ v, e = .returned (.tuple #[v, .int .i64 0]) ∧ SlI w' v g ∧ Below W.heap.size W w' := by
  refine (good_any va vb exL ts W ha hb).mono ?_
  rintro e w' ⟨h, ⟨hn, _⟩ | ⟨_, v, rfl, hv⟩⟩
  · exact absurd hl hn
  · exact ⟨v, rfl, hs ▸ hv, h⟩
theorem x35 {va vb : Value} {ts : List Tn} {g : List Int} (hl : lineE exL ts = 0) (hs : canL exL (tos ts) (pos ts) = g) (W : World) (ha : SlI W va exL) (hb : SlT W vb ts) :
    Calls Try.prog 35 #[va, vb] W fun e w' => ∃ v, e = .returned (.tuple #[v, .int .i64 0]) ∧ SlI w' v g ∧ Below W.heap.size W w' := by
  refine (possible_any va vb exL ts W ha hb).mono ?_
  rintro e w' ⟨h, ⟨hn, _⟩ | ⟨_, v, rfl, hv⟩⟩
  · exact absurd hl hn
  · exact ⟨v, rfl, hs ▸ hv, h⟩
theorem x20 {va vb : Value} {ts : List Tn} (hl : lineE exL ts = 0) (hs : safeB exL (tos ts) (pos ts) = true) (W : World) (ha : SlI W va exL) (hb : SlT W vb ts) :
    Calls Try.prog 20 #[va, vb] W fun e w' => ∃ v, e = .returned (.tuple #[v, .int .i64 0]) ∧ SlI w' v (planL exL (tos ts) (pos ts)) ∧ Below W.heap.size W w' := by
  refine (planX_any va vb exL ts W ha hb).mono ?_
  rintro e w' ⟨h, ⟨hn, _⟩ | ⟨_, hf, _⟩ | ⟨_, _, v, rfl, hv⟩⟩
  · exact absurd hl hn
  · rw [hs] at hf; cases hf
  · exact ⟨v, rfl, hv, h⟩
theorem x20n {va vb : Value} {ts : List Tn} (hl : lineE exL ts = 0) (hs : safeB exL (tos ts) (pos ts) = false) (W : World) (ha : SlI W va exL) (hb : SlT W vb ts) :
    Calls Try.prog 20 #[va, vb] W fun e w' => e = .returned (.tuple #[.slice none 0 0, .int .i64 16]) ∧ Below W.heap.size W w' := by
  refine (planX_any va vb exL ts W ha hb).mono ?_
  rintro e w' ⟨h, ⟨hn, _⟩ | ⟨_, _, rfl⟩ | ⟨_, hf, _⟩⟩
  · exact absurd hl hn
  · exact ⟨rfl, h⟩
  · rw [hs] at hf; cases hf
theorem x22 {va vb vm : Value} {ts : List Tn} {ms : List Int} {x y : Int} (hs : verE exL ts ms = (x, y)) (W : World) (ha : SlI W va exL) (hb : SlT W vb ts) (hm : SlI W vm ms) :
    Calls Try.prog 22 #[va, vb, vm] W fun e w' => e = .returned (.tuple #[.int .i64 x, .int .i64 y]) ∧ Below W.heap.size W w' := by
  refine (verify_any va vb vm exL ts ms W ha hb hm).mono ?_
  rintro e w' ⟨rfl, h⟩
  rw [hs]
  exact ⟨rfl, h⟩
theorem x18 {va vb : Value} {ts : List Tn} {b : Bool} (hl : lineE exL ts = 0) (hs : stuckB exL ts = b) (W : World) (ha : SlI W va exL) (hb : SlT W vb ts) :
    Calls Try.prog 18 #[va, vb] W fun e w' => e = .returned (.tuple #[.bool b, .int .i64 0]) ∧ Below W.heap.size W w' := by
  refine (stuck_any va vb exL ts W ha hb).mono ?_
  rintro e w' ⟨rfl, h⟩
  rw [hl, hs]
  exact ⟨rfl, h⟩
theorem x37 {va vb : Value} {ts us : List Tn} {i : Int} (hl : mvE exL ts i = 0) (hs : mvT exL ts i = us) (W : World) (ha : SlI W va exL) (hb : SlT W vb ts) :
    Calls Try.prog 37 #[va, vb, .int .i64 i] W fun e w' => ∃ v, e = .returned (.tuple #[v, .int .i64 0]) ∧ SlT w' v us ∧ Below W.heap.size W w' := by
  refine (mv_any va vb exL ts i W ha hb).mono ?_
  rintro e w' ⟨h, ⟨hn, _⟩ | ⟨_, v, rfl, hv⟩⟩
  · exact absurd hl hn
  · exact ⟨v, rfl, hs ▸ hv, h⟩
theorem x37n {va vb : Value} {ts : List Tn} {i y : Int} (hl : mvE exL ts i = y) (hy : y ≠ 0) (W : World) (ha : SlI W va exL) (hb : SlT W vb ts) :
    Calls Try.prog 37 #[va, vb, .int .i64 i] W fun e w' => e = .returned (.tuple #[.slice none 0 0, .int .i64 y]) ∧ Below W.heap.size W w' := by
  subst hl
  refine (mv_any va vb exL ts i W ha hb).mono ?_
  rintro e w' ⟨h, ⟨_, rfl⟩ | ⟨h0, _⟩⟩
  · exact ⟨rfl, h⟩
  · exact absurd h0 hy
theorem x25 {va vb vm : Value} {ts us : List Tn} {ms : List Int} {bs : List Bool} (hl : dispE exL ts ms = 0) (h1 : (dispG exL (tos ts) (pos ts) ms).1 = bs) (h2 : tsOf (dispG exL (tos ts) (pos ts) ms).2 (tos ts) = us) (W : World) (ha : SlI W va exL) (hb : SlT W vb ts) (hm : SlI W vm ms) :
    Calls Try.prog 25 #[va, vb, vm] W fun e w' => ∃ v u, e = .returned (.tuple #[v, u, .int .i64 0]) ∧ SlB w' v bs ∧ SlT w' u us ∧ Below W.heap.size W w' := by
  refine (disp_any va vb vm exL ts ms W ha hb hm).mono ?_
  rintro e w' ⟨h, ⟨hn, _⟩ | ⟨_, v, u, rfl, hv, hu⟩⟩
  · exact absurd hl hn
  · exact ⟨v, u, rfl, h1 ▸ hv, h2 ▸ hu, h⟩
theorem x27 {v u : Value} {xs ys : List Int} (h : xs = ys) (W : World) (hv : SlI W v xs) (hu : SlI W u ys) : Calls Try.prog 27 #[v, u] W fun e w' => e = .returned (.bool true) ∧ Below W.heap.size W w' := by
  refine (numbers_any v u xs ys W hv hu).mono ?_
  rintro e w' ⟨rfl, hb⟩
  exact ⟨by rw [decide_eq_true h], hb⟩
theorem x28 {v u : Value} {xs ys : List Bool} (h : xs = ys) (W : World) (hv : SlB W v xs) (hu : SlB W u ys) : Calls Try.prog 28 #[v, u] W fun e w' => e = .returned (.bool true) ∧ Below W.heap.size W w' := by
  refine (yeses_any v u xs ys W hv hu).mono ?_
  rintro e w' ⟨rfl, hb⟩
  exact ⟨by rw [decide_eq_true h], hb⟩
theorem x36 {v u : Value} {xs ys : List Tn} (h : xs = ys) (W : World) (hv : SlT W v xs) (hu : SlT W u ys) : Calls Try.prog 36 #[v, u] W fun e w' => e = .returned (.bool true) ∧ Below W.heap.size W w' := by
  refine (trains36_any v u xs ys W hv hu).mono ?_
  rintro e w' ⟨rfl, hb⟩
  exact ⟨by rw [decide_eq_true h], hb⟩
end Yteijenefhoconaa
end Go.Proofs
