/- What the program answers of a valid track, in terms of trains. -/
import Derived.Test.YteijenefhoconaaM30
import Derived.Test.YteijenefhoconaaPlanT
import Derived.Test.YteijenefhoconaaWorks
open Go Go.RowKit Go.YteijenefhoconaaIt
namespace Go.Proofs
namespace Yteijenefhoconaa
theorem size52 : (Try.prog.info? 52).map (·.size) = some 8 := by kernel_rfl
/-- The line and the trains that are made, with what the laws ask. -/
theorem made6 (r0 r1 r2 r3 r4 r5 m : Int) (v : Value) (xs : List Tn) (w : World) (hR : ∀ x ∈ [r0, r1, r2, r3, r4, r5], 0 ≤ x ∧ x < 256) (hm : 0 ≤ m ∧ m < 256) (hx : SlP w v xs) :
    Calls Try.prog 30 #[.agg #[.int .u8 r0, .int .u8 r1, .int .u8 r2, .int .u8 r3, .int .u8 r4, .int .u8 r5, .int .u8 m, v]] w fun e w' => ∃ vL vT L ts, e = .returned (.tuple #[vL, vT]) ∧ SlI w' vL L ∧ SlT w' vT ts ∧ (lineE L ts = 0 ∧ ts.length ≤ 4 ∧ 2 ≤ L.length ∧ L.length ≤ 6 ∧ ∀ x ∈ L, 1 ≤ x ∧ x ≤ 2) ∧ Below w.heap.size w w' := by
  refine (made_any r0 r1 r2 r3 r4 r5 m v xs w hR hm hx).mono ?_
  rintro e w' ⟨vL, vT, rfl, h1, h2, hb⟩
  have h3 := made_ok [r0, r1, r2, r3, r4, r5] m xs
  have h4 := manyM_le m
  have h5 := lineM_len [r0, r1, r2, r3, r4, r5] m
  exact ⟨vL, vT, _, _, rfl, h1, h2, ⟨h3.1, h3.2, by omega, by omega, lineM_bnd⟩, hb⟩
theorem slI_cell {W : World} {b off n cap : Nat} {xs : List Int} (h : SlI W (.slice (some ⟨b, off, none⟩) n cap) xs) {k : Nat} (hk : k < xs.length) : b < W.heap.size ∧ W.cell? ⟨b, off + k, none⟩ = some (.int .i64 (at0 xs k)) := by
  obtain ⟨ad, cap', h1, _, h3⟩ := h
  obtain ⟨b', off', h4, h5, h6⟩ := h3 (by omega)
  injection h1 with e1 _ _
  rw [← e1] at h4
  injection h4 with e2
  injection e2 with e3 e4 _
  subst e3 e4
  exact ⟨h5, h6 k hk⟩
section
variable {vL vt : Value} {L T : List Int} {us : List Tn}
theorem y32 (h : Val L T us) (W : World) (ht : SlT W vt us) : Calls Try.prog 32 #[vt] W fun e w' => e = .returned (.int .i64 (leftT us)) ∧ Below W.heap.size W w' := by
  have hv := vt_of h.1
  have := left32_any vt us W ht (by have := hv.t5; omega) (fun i hi => by have := hv.at_ i hi; have := hv.to_ i hi; have := hv.l8; omega)
  rw [leftN_leftT hv.t5] at this
  exact this
theorem y16 (h : Val L T us) {b : Bool} (hs : safeT L us = b) (W : World) (hL : SlI W vL L) (ht : SlT W vt us) : Calls Try.prog 16 #[vL, vt] W fun e w' => e = .returned (.tuple #[.bool b, .int .i64 0]) ∧ Below W.heap.size W w' := by
  refine (safeX_any vL vt L us W hL ht).mono ?_
  rintro e w' ⟨rfl, hb⟩
  refine ⟨?_, hb⟩
  rw [h.1, if_neg (by simp), ← hs]; rfl
theorem y20n (h : Val L T us) (hs : safeT L us = false) (W : World) (hL : SlI W vL L) (ht : SlT W vt us) : Calls Try.prog 20 #[vL, vt] W fun e w' => e = .returned (.tuple #[.slice none 0 0, .int .i64 16]) ∧ Below W.heap.size W w' := by
  refine (planX_any vL vt L us W hL ht).mono ?_
  rintro e w' ⟨hb, ⟨h1, _⟩ | ⟨_, _, rfl⟩ | ⟨_, h1, _⟩⟩
  · exact absurd h.1 h1
  · exact ⟨rfl, hb⟩
  · unfold safeT at hs; rw [hs] at h1; cases h1
theorem y20 (h : Val L T us) (hs : safeT L us = true) (W : World) (hL : SlI W vL L) (ht : SlT W vt us) : Calls Try.prog 20 #[vL, vt] W fun e w' => ∃ v, e = .returned (.tuple #[v, .int .i64 0]) ∧ SlI w' v (planL L T (pos us)) ∧ Below W.heap.size W w' := by
  refine (planX_any vL vt L us W hL ht).mono ?_
  rintro e w' ⟨hb, ⟨h1, _⟩ | ⟨_, h1, _⟩ | ⟨_, h1, v, rfl, hv⟩⟩
  · exact absurd h.1 h1
  · unfold safeT at hs; rw [hs] at h1; cases h1
  · exact ⟨v, rfl, by rw [← h.2]; exact hv, hb⟩
theorem y22 (h : Val L T us) (hs : safeT L us = true) {vm : Value} (W : World) (hL : SlI W vL L) (ht : SlT W vt us) (hm : SlI W vm (planL L T (pos us))) : Calls Try.prog 22 #[vL, vt, vm] W fun e w' => e = .returned (.tuple #[.int .i64 ((planL L T (pos us)).length : Int), .int .i64 0]) ∧ Below W.heap.size W w' := by
  refine (verify_any vL vt vm L us _ W hL ht hm).mono ?_
  rintro e w' ⟨rfl, hb⟩
  refine ⟨?_, hb⟩
  have := ver_plan h.1 hs
  rw [h.2] at this
  rw [this]
theorem y31 (h : Val L T us) (h4 : us.length ≤ 4) {b : Bool} (hs : safeT L us = b) {bm : Nat} (W : World) (hL : SlI W vL L) (ht : SlT W vt us) (hM : Memo W bm (GEnd L T)) :
    Calls Try.prog 31 #[vL, vt, .map (some bm)] W fun e w' => e = .returned (.bool b) ∧ Memo w' bm (GEnd L T) ∧ Bm bm W.heap.size W w' := by
  rw [← hs]; exact ends_any vL L T bm us vt W h h4 hL ht hM
theorem memo_new (W : World) (n : Nat) (G : Value → Value → Prop) : Memo (W.alloc (.map #[] n)) W.heap.size G := ⟨#[], n, heap_newI rfl, fun e he => by simp at he⟩
theorem below_of_bm {W X W' : World} {B : Nat} (h : Bm W.heap.size B X W') (hB : W.heap.size ≤ B) (hX : Below W.heap.size W X) : Below W.heap.size W W' :=
  ⟨h.os.trans hX.os, h.tape.trans hX.tape, h.output.trans hX.output, Nat.le_trans hX.size h.size, fun k hk => (h.block k (by omega) (by omega)).trans (hX.block k hk)⟩
theorem y31n (h : Val L T us) (h4 : us.length ≤ 4) {b : Bool} (hs : safeT L us = b) (W : World) (hL : SlI W vL L) (ht : SlT W vt us) :
    Calls Try.prog 31 #[vL, vt, .map (some W.heap.size)] (W.alloc (.map #[] 0)) fun e w' => e = .returned (.bool b) ∧ Below W.heap.size W w' := by
  have hX : Below W.heap.size W (W.alloc (.map #[] 0)) := (Below.refl _ _).alloc (Nat.le_refl _) _
  refine (y31 h h4 hs _ (hL.below hX (Nat.le_refl _)) (ht.below hX (Nat.le_refl _)) (memo_new W 0 _)).mono ?_
  rintro e w' ⟨rfl, _, hb⟩
  exact ⟨rfl, below_of_bm hb (by simp) hX⟩
theorem y33 (h : Val L T us) {i : Nat} (hi : i < us.length) {b : Bool} (hp : possT L us i = b) (W : World) (hL : SlI W vL L) (ht : SlT W vt us) :
    Calls Try.prog 33 #[vL, vt, .int .i64 i] W fun e w' => ∃ v, e = .returned (.tuple #[v, .bool b]) ∧ (b = true → SlT w' v (movT us i)) ∧ Below W.heap.size W w' := by
  refine (step33_any vL vt L us i W hL ht (vt_of h.1) hi).mono ?_
  rintro e w' ⟨hb, ⟨h1, rfl⟩ | ⟨h1, v, rfl, hv⟩⟩
  · rw [h1] at hp; subst hp; exact ⟨_, rfl, (fun h => by cases h), hb⟩
  · rw [h1] at hp; subst hp; exact ⟨v, rfl, fun _ => hv, hb⟩
theorem y23 (h : Val L T us) (W : World) (hL : SlI W vL L) (ht : SlT W vt us) : Calls Try.prog 23 #[vL, vt] W fun e w' => ∃ v, e = .returned (.tuple #[v, .int .i64 0]) ∧ SlI w' v (gdN L us us.length) ∧ Below W.heap.size W w' := by
  refine (good_any vL vt L us W hL ht).mono ?_
  rintro e w' ⟨hb, ⟨h1, _⟩ | ⟨_, v, rfl, hv⟩⟩
  · exact absurd h.1 h1
  · rw [goodL_eq (vt_of h.1).t5] at hv; exact ⟨v, rfl, hv, hb⟩
/-- The trains whose move is possible, of the first k. -/
def psN (L : List Int) (us : List Tn) (k : Nat) : List Int := ((List.range k).filter (possT L us)).map fun (i : Nat) => (i : Int)
theorem y35 (h : Val L T us) (W : World) (hL : SlI W vL L) (ht : SlT W vt us) : Calls Try.prog 35 #[vL, vt] W fun e w' => ∃ v, e = .returned (.tuple #[v, .int .i64 0]) ∧ SlI w' v (psN L us us.length) ∧ Below W.heap.size W w' := by
  refine (possible_any vL vt L us W hL ht).mono ?_
  rintro e w' ⟨hb, ⟨h1, _⟩ | ⟨_, v, rfl, hv⟩⟩
  · exact absurd h.1 h1
  · rw [canL_eq (vt_of h.1).t5] at hv; exact ⟨v, rfl, hv, hb⟩
theorem y37 (h : Val L T us) {i : Nat} (hi : i < us.length) (hp : possT L us i = true) (W : World) (hL : SlI W vL L) (ht : SlT W vt us) : Calls Try.prog 37 #[vL, vt, .int .i64 i] W fun e w' => ∃ v, e = .returned (.tuple #[v, .int .i64 0]) ∧ SlT w' v (movT us i) ∧ Below W.heap.size W w' := by
  have h5 := (vt_of h.1).t5
  have hne := (poss_way h5 hi hp).1
  have e0 : moveE L (tos us) (pos us) i = 0 := by
    rw [moveE_eq h5, if_pos (by simp [btw]; omega), Int.toNat_natCast, if_neg hne, if_pos hp]
  have e1 : mvE L us i = 0 := by unfold mvE; rw [h.1, if_neg (by simp), e0]
  have e2 := mvT_eq h5 e0
  refine (mv_any vL vt L us i W hL ht).mono ?_
  rintro e w' ⟨hb, ⟨h1, _⟩ | ⟨_, v, rfl, hv⟩⟩
  · exact absurd e1 h1
  · rw [e2, Int.toNat_natCast] at hv; exact ⟨v, rfl, hv, hb⟩
theorem y18 (h : Val L T us) (W : World) (hL : SlI W vL L) (ht : SlT W vt us) : Calls Try.prog 18 #[vL, vt] W fun e w' => e = .returned (.tuple #[.bool (wayT us us.length && !canT L us us.length), .int .i64 0]) ∧ Below W.heap.size W w' := by
  refine (stuck_any vL vt L us W hL ht).mono ?_
  rintro e w' ⟨rfl, hb⟩
  refine ⟨?_, hb⟩
  rw [h.1, stuckB_eq h.1]
end
end Yteijenefhoconaa
end Go.Proofs
