/- Fields, outright, plainly: a field whose samples are right. -/
import Derived.Test.YtgnjeefanbcbkaaD3
open Go Go.RowKit Go.YtgnjeefanbcbkaaIt
namespace Go.Proofs
namespace Ytgnjeefanbcbkaa
structure Right (n : Nat) (lo hi : Int) (ss : List Smp) (T : Nat → Int) : Prop where
  n1 : 1 ≤ n
  n12 : n ≤ 12
  conc : Conc n T
  lo0 : 0 ≤ lo
  hi0 : hi ≤ 21260
  inn : ∀ w, w < n → lo ≤ T w ∧ T w ≤ hi ∧ 1015 ≤ T w
  len : ss.length ≤ 20
  ok : ∀ s ∈ ss, (0 ≤ s.week ∧ s.week < n) ∧ (0 ≤ s.off ∧ s.off ≤ 255) ∧ T s.week.toNat - s.off ≤ s.val ∧ s.val ≤ T s.week.toNat + s.off
theorem low_of {ss : List Smp} {w : Nat} {t : Int} : ∀ {lo : Int}, lo ≤ t → (∀ s ∈ ss, s.week = (w : Int) → s.val - s.off ≤ t) → lowAt lo ss w ≤ t := by
  induction ss with
  | nil => exact fun h _ => h
  | cons s ss ih =>
    intro lo h hs
    show lowAt (if s.week = (w : Int) then max lo (s.val - s.off) else lo) ss w ≤ t
    refine ih ?_ fun s' hs' => hs s' (List.mem_cons_of_mem _ hs')
    have := hs s (List.mem_cons_self ..)
    split
    · have := this (by assumption); omega
    · exact h
theorem high_of {ss : List Smp} {w : Nat} {t : Int} : ∀ {hi : Int}, t ≤ hi → (∀ s ∈ ss, s.week = (w : Int) → t ≤ s.val + s.off) → t ≤ highAt hi ss w := by
  induction ss with
  | nil => exact fun h _ => h
  | cons s ss ih =>
    intro hi h hs
    show t ≤ highAt (if s.week = (w : Int) then min hi (s.val + s.off) else hi) ss w
    refine ih ?_ fun s' hs' => hs s' (List.mem_cons_of_mem _ hs')
    have := hs s (List.mem_cons_self ..)
    split
    · have := this (by assumption); omega
    · exact h
theorem Right.truth {n : Nat} {lo hi : Int} {ss : List Smp} {T : Nat → Int} (h : Right n lo hi ss T) : Truth (lowAt lo ss) (highAt hi ss) n T :=
  ⟨h.conc, fun w hw => low_of (h.inn w hw).1 fun s hs e => by
      have := (h.ok s hs).2.2
      rw [e] at this
      simp only [Int.toNat_natCast] at this
      omega,
    fun w hw => high_of (h.inn w hw).2.1 fun s hs e => by
      have := (h.ok s hs).2.2
      rw [e] at this
      simp only [Int.toNat_natCast] at this
      omega⟩
theorem Right.val {n : Nat} {lo hi : Int} {ss : List Smp} {T : Nat → Int} (h : Right n lo hi ss T) : Val n lo hi ss := by
  have h0 := h.inn 0 (by have := h.n1; omega)
  refine ⟨h.n1, by have := h.n12; omega, h.lo0, by omega, by have := h.hi0; omega, by have := h.len; omega, fun i hi' => ?_⟩
  rw [at_lt hi']
  obtain ⟨h1, h2, h3⟩ := h.ok ss[i] (List.getElem_mem _)
  have h4 := h.inn ss[i].week.toNat (by omega)
  have := h.hi0
  exact ⟨h1, by omega, by omega⟩
theorem Right.pos {n : Nat} {lo hi : Int} {ss : List Smp} {T : Nat → Int} (h : Right n lo hi ss T) : posE n lo hi ss = 0 := by
  unfold posE
  rw [if_neg (by rw [chk_val h.val]; simp), if_pos (show noB (lowAt lo ss) (highAt hi ss) (n : Int).toNat = true from truth_noB h.truth)]
end Ytgnjeefanbcbkaa
end Go.Proofs
