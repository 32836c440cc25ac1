/- Fields, outright: bytes and triples of bytes; a crop's truth. -/
import Derived.Test.YtgnjeefanbcbkaaD4
open Go Go.RowKit Go.YtgnjeefanbcbkaaIt
namespace Go.Proofs
namespace Ytgnjeefanbcbkaa
/-- A slice of bytes. -/
def SlB (w : World) (v : Value) (os : List Int) : Prop :=
  (∃ ad cap, v = .slice ad os.length cap ∧ os.length ≤ 9223372036854775807 ∧ (0 < os.length → ∃ b off, ad = some ⟨b, off, none⟩ ∧ b < w.heap.size ∧ ∀ i, i < os.length → w.cell? ⟨b, off + i, none⟩ = some (.int .u8 (at0 os i)))) ∧
  ∀ i, i < os.length → 0 ≤ at0 os i ∧ at0 os i < 256
theorem SlB.below {w w' : World} {v : Value} {xs : List Int} {B : Nat} (h : SlB w v xs) (hb : Below B w w') (hB : w.heap.size ≤ B) : SlB w' v xs := by
  obtain ⟨⟨ad, cap, hv, hm, hc⟩, hx⟩ := h
  refine ⟨⟨ad, cap, hv, hm, fun h0 => ?_⟩, hx⟩
  obtain ⟨b, off, ha, hlt, hcell⟩ := hc h0
  exact ⟨b, off, ha, Nat.lt_of_lt_of_le hlt hb.size, fun i hi => (hb.cell (p := ⟨b, off + i, none⟩) (by simpa using by omega)).trans (hcell i hi)⟩
structure B3 where
  a : Int
  b : Int
  c : Int
def B3.ok (x : B3) : Prop := (0 ≤ x.a ∧ x.a < 256) ∧ (0 ≤ x.b ∧ x.b < 256) ∧ (0 ≤ x.c ∧ x.c < 256)
def encB (x : B3) : List Value := [.int .u8 x.a, .int .u8 x.b, .int .u8 x.c]
/-- A slice of triples of bytes. -/
def SlT (w : World) (v : Value) (xs : List B3) : Prop :=
  (∃ ad cap, v = .slice ad xs.length cap ∧ xs.length ≤ 9223372036854775807 ∧ (0 < xs.length → ∃ b off, ad = some ⟨b, off, none⟩ ∧ b < w.heap.size ∧ ∀ i (h : i < xs.length) f u, (encB xs[i])[f]? = some u → w.cell? ⟨b, off + i * 3 + f, none⟩ = some u)) ∧
  ∀ x ∈ xs, x.ok
theorem SlT.below {w w' : World} {v : Value} {xs : List B3} {B : Nat} (h : SlT w v xs) (hb : Below B w w') (hB : w.heap.size ≤ B) : SlT w' v xs := by
  obtain ⟨⟨ad, cap, hv, hm, hc⟩, hx⟩ := h
  refine ⟨⟨ad, cap, hv, hm, fun h0 => ?_⟩, hx⟩
  obtain ⟨b, off, ha, hlt, hcell⟩ := hc h0
  exact ⟨b, off, ha, Nat.lt_of_lt_of_le hlt hb.size, fun i hi f u hu => (hb.cell (p := ⟨b, off + i * 3 + f, none⟩) (by simpa using by omega)).trans (hcell i hi f u hu)⟩
/-- The step to week w + 1. -/
def stepC (st : Int) (falls : List Int) : Nat → Int
  | 0 => 2 * st
  | w + 1 => if w + 1 ≤ falls.length then stepC st falls w - at0 falls w / 2 else stepC st falls w
def sweetC (fs st : Int) (falls : List Int) : Nat → Int
  | 0 => 8000 + 20 * fs
  | w + 1 => sweetC fs st falls w + stepC st falls w
theorem stepC_bd {st : Int} {falls : List Int} (hst : 0 ≤ st ∧ st < 256) (hf : ∀ i, i < falls.length → 0 ≤ at0 falls i ∧ at0 falls i < 256) : ∀ w : Nat, -(127 * (w : Int)) ≤ stepC st falls w ∧ stepC st falls w ≤ 510
  | 0 => by unfold stepC; omega
  | w + 1 => by
    have h := stepC_bd hst hf w
    unfold stepC
    split
    · have := hf w (by omega); omega
    · omega
theorem sweetC_conc {fs st : Int} {falls : List Int} (hf : ∀ i, i < falls.length → 0 ≤ at0 falls i ∧ at0 falls i < 256) (n : Nat) : Conc n (sweetC fs st falls) := fun i _ => by
  show sweetC fs st falls (i + 1) + stepC st falls (i + 1) - sweetC fs st falls (i + 1) ≤ sweetC fs st falls i + stepC st falls i - sweetC fs st falls i
  have : stepC st falls (i + 1) ≤ stepC st falls i := by
    show (if i + 1 ≤ falls.length then stepC st falls i - at0 falls i / 2 else stepC st falls i) ≤ _
    split
    · have := hf i (by omega); omega
    · omega
  omega
end Ytgnjeefanbcbkaa
end Go.Proofs
