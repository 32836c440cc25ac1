/- The trains on the way: the iterator, and how many are in a section. -/
import Derived.Test.YteijenefhoconaaBase
open Go Go.RowKit Go.YteijenefhoconaaIt
namespace Go.Proofs
namespace Yteijenefhoconaa

/-- A track in memory. -/
structure Tk (W : World) (bx bm : Nat) (vL vT : Value) (L T : List Int) : Prop where
  blk : W.heap[bx]? = some (.cells #[vL, vT, .map (some bm)] 113 (0, 0))
  sl : SlI W vL L
  st : SlI W vT T

/-- Train i is on the way. -/
def onw (A T : List Int) (i : Nat) : Bool := at0 A i != at0 T i
def wayL (A T : List Int) : List Nat := (List.range T.length).filter (onw A T)
def wayY (A T : List Int) : List (Array Value) := (wayL A T).map fun (i : Nat) => #[.int .i64 (i : Int), .int .i64 (at0 A i)]
/-- How many are on the way before train i. -/
def wayN (A T : List Int) (i : Nat) : Nat := ((List.range i).filter (onw A T)).length

theorem wayN_zero (A T : List Int) : wayN A T 0 = 0 := rfl
theorem wayN_succ (A T : List Int) (i : Nat) : wayN A T (i + 1) = wayN A T i + if onw A T i then 1 else 0 := by
  unfold wayN; rw [List.range_succ, List.filter_append, List.length_append]; congr 1
  by_cases h : onw A T i = true <;> simp [h]
theorem wayN_end (A T : List Int) : wayN A T T.length = (wayL A T).length := rfl
theorem wayL_get (A T : List Int) {i : Nat} (h : i < T.length) (ho : onw A T i = true) : (wayL A T)[wayN A T i]? = some i := by
  have e : List.range T.length = List.range i ++ (i :: (List.range (T.length - i - 1)).map (i + 1 + ·)) := by
    have : T.length = i + (1 + (T.length - i - 1)) := by omega
    conv => lhs; rw [this, List.range_add, List.range_add]
    simp [Function.comp_def, Nat.add_assoc]
  unfold wayL wayN
  rw [e, List.filter_append, List.getElem?_append_right (Nat.le_refl _)]
  simp [ho]
theorem wayY_get (A T : List Int) {i : Nat} (h : i < T.length) (ho : onw A T i = true) : ∃ hk : wayN A T i < (wayY A T).length, (wayY A T)[wayN A T i] = #[.int .i64 (i : Int), .int .i64 (at0 A i)] := by
  have h1 := wayL_get A T h ho
  obtain ⟨hl, he⟩ := List.getElem?_eq_some_iff.1 h1
  exact ⟨by simpa [wayY] using hl, by simp [wayY, he]⟩

/-- What the iterator over the trains on the way needs. -/
structure KeW (b1 b2 bx bm : Nat) (vL vT : Value) (L T A : List Int) (W : World) : Prop where
  x : W.heap[b1]? = some (.cells #[.pointer (some ⟨bx, 0, none⟩)] 82 (0, 0))
  at_ : W.heap[b2]? = some (.cells (arr A) 84 (0, 0))
  tk : Tk W bx bm vL vT L T

set_option maxRecDepth 100000 in
set_option maxHeartbeats 1000000 in
theorem way_iter (TT : TypeId → Prop) (b1 b2 bx bm : Nat) (vL vT : Value) (L T A : List Int) (hA : A.length = 5) (hT : T.length ≤ 5) :
    Iter Try.prog TT 84 #[.pointer (some ⟨b1, 0, none⟩), .pointer (some ⟨b2, 0, none⟩)] (wayY A T) (KeW b1 b2 bx bm vL vT L T A) := by
  intro l W J Jx Jp hK sJ sJx sJp hY h0
  have hk0 := hK 0 W h0
  refine callsFw.1 (callsIn_of_wp (F := fw none) (n := 0) Try.func84 rfl trivial ?_)
  simp only [Try.ntmps84, List.size_toArray, List.length_cons, List.length_nil, Nat.reduceAdd, Nat.reduceSub, Array.replicate_succ, Array.replicate_zero, List.push_toArray, List.append_toArray, List.nil_append, List.cons_append]
  obtain ⟨hx, hat, ⟨hblk, hsl, ad, cap, rfl, hm, hc⟩⟩ := hk0
  have c1 := cell_blk (i := 0) hx
  have c2 := cell_blk (i := 1) hblk
  simp at c1 c2
  gi_wp2
  obtain ⟨n, hn⟩ : ∃ n, n = T.length := ⟨_, rfl⟩
  rw [← hn] at hc hm hT ⊢
  have H := Lib.hid hn
  clear hn hc hx hat hblk hsl c1 c2
  gi_loopw [11] (fun i wr => ∃ k : Nat, k ≤ n ∧ i = .int .i64 k ∧ J (wayN A T k) wr ∧ W.heap.size ≤ wr.heap.size) (fun i _ => n - (intOf i).toNat)
  case atStart => exact ⟨0, Nat.zero_le _, rfl, h0, Nat.le_refl _⟩
  case round =>
    obtain ⟨k, hk, rfl, hJ, hsz⟩ := hrel
    by_cases hkn : k < n
    · obtain ⟨hx, hat, ⟨hblk, hsl, ad', cap', he, hm', hc⟩⟩ := hK _ _ hJ
      cases he
      rw [← H.out] at hc
      obtain ⟨b, off, rfl, hlt, hcell⟩ := hc (by omega)
      have c1 := hcell k hkn
      have c2 := cell_arr hat (i := k) (by omega)
      clear hcell hx hat hblk hsl hc hm'
      by_cases ho : onw A T k = true
      · obtain ⟨hlen, hyk⟩ := wayY_get A T (by rw [← H.out]; exact hkn) ho
        have hy := hY (wayN A T k) hlen wr hsz hJ
        rw [hyk] at hy
        obtain ⟨fn, tmps, assign, body, hy, hR⟩ := hy
        have hne : (at0 A k != at0 T k) = true := ho
        have HO := Lib.hid ho
        have HL := Lib.hid hyk
        clear ho hyk hY hK
        gi_wp2
        refine RoundIn.mono (F := Fence.wide) hR ?_
        clear hy hR
        have hws : wayN A T (k + 1) = wayN A T k + 1 := by rw [wayN_succ, HO.out]; rfl
        rw [← hws]
        have HW := Lib.hid hws
        clear hws
        rintro e W' (⟨rfl, hJ', hs'⟩ | ⟨rfl, hx', hs'⟩ | ⟨ch, rfl, hp', hs'⟩)
        · gi_wp2
          go_roundw
          case rel => exact ⟨k + 1, by omega, by go_num, hJ', Nat.le_trans hsz hs'.size⟩
          case measure => simp [intOf]; omega
        · gi_wp2
          refine bodyPost_ret (results_none rfl _ _ _) rfl ?_
          exact .inl ⟨⟨_, rfl⟩, .inr hx'⟩
        · exact ⟨rfl, .inr ⟨ch, rfl, hp'⟩⟩
      · have hof : onw A T k = false := by simpa using ho
        have hne : (at0 A k != at0 T k) = false := hof
        have hJ' : J (wayN A T (k + 1)) wr := by rw [wayN_succ, hof]; exact hJ
        clear ho hof hY hK
        gi_wp2
        go_roundw
        case rel => exact ⟨k + 1, by omega, by go_num, hJ', hsz⟩
        case measure => simp [intOf]; omega
    · have hkn' : k = n := by omega
      rw [hkn', H.out, wayN_end] at hJ
      have hJ2 : J (wayY A T).length wr := by simpa [wayY] using hJ
      clear hJ hkn'
      gi_wp2
      go_end0
      exact .inl ⟨⟨_, rfl⟩, .inl hJ2⟩
end Yteijenefhoconaa
end Go.Proofs
