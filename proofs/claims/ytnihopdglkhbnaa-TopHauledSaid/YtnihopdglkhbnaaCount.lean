/- Plain words for the walks: a number within bounds, slices that read as lists, worlds that keep what lay below. -/
import Derived.Test.YtnihopdglkhbnaaProg
import Derived.Test.YtnihopdglkhbnaaLaws
import Derived.WalkKit
import Derived.Outline
import Derived.WalkLawsBesides
import Derived.WalkSpells
import Derived.Deep.QuietTactic
import Derived.BigQuiet
import Derived.Lib.Hide
import Derived.Handy
import Derived.Deep.LoopGhost
import Derived.LoopNIn
import Derived.LoopIn
import Derived.OwnWalkIn
import Derived.TacticsInMore
open Go Go.RowKit Go.YtnihopdglkhbnaaIt
attribute [go_sem] Oper.semAt_some
namespace Go.Proofs
namespace Ytnihopdglkhbnaa

/-- A number lies from lo to hi. -/
def btw (lo n hi : Int) : Bool := decide (lo ≤ n ∧ n ≤ hi)
theorem between_any (lo n hi : Int) (w : World) :
    Calls Try.prog 15 #[.int .i64 lo, .int .i64 n, .int .i64 hi] w fun e w' => e = .returned (.bool (btw lo n hi)) ∧ w = w' := by
  unfold btw
  by_cases h1 : lo ≤ n <;> by_cases h2 : n ≤ hi
  all_goals
    go_enter Try.func15, Try.ntmps15
    go_wp2
    go_ret
    simp [h1, h2]

/-- An element of a list of numbers. -/
def at0 (xs : List Int) (i : Nat) : Int := xs.getD i 0
theorem at0_lt {xs : List Int} {i : Nat} (h : i < xs.length) : at0 xs i = xs[i] := by simp [at0, h]

/-- A slice value that reads as a list of numbers. -/
def SlI (w : World) (v : Value) (xs : List Int) : Prop :=
  ∃ ad cap, v = .slice ad xs.length cap ∧ xs.length ≤ 17592186044416 ∧
    (0 < xs.length → ∃ b off, ad = some ⟨b, off, none⟩ ∧ b < w.heap.size ∧ ∀ i, i < xs.length → w.cell? ⟨b, off + i, none⟩ = some (.int .i64 (at0 xs i)))

theorem SlI.below {w w' : World} {v : Value} {xs : List Int} {B : Nat} (h : SlI w v xs) (hb : Below B w w') (hB : w.heap.size ≤ B) : SlI w' v xs := by
  obtain ⟨ad, cap, hv, hm, hc⟩ := h
  refine ⟨ad, cap, hv, hm, fun h0 => ?_⟩
  obtain ⟨b, off, ha, hlt, hcell⟩ := hc h0
  exact ⟨b, off, ha, Nat.lt_of_lt_of_le hlt hb.size, fun i hi => (hb.cell (p := ⟨b, off + i, none⟩) (by simpa using by omega)).trans (hcell i hi)⟩



theorem eq_of_at0 : ∀ {xs ys : List Int}, xs.length = ys.length → (∀ i, i < xs.length → at0 xs i = at0 ys i) → xs = ys := by
  intro xs ys hl h
  apply List.ext_getElem hl
  intro i h1 h2
  have := h i h1
  rwa [at0_lt h1, at0_lt h2] at this


/-- An array's cells. -/
def arr (A : List Int) : Array Value := (A.map (Value.int .i64)).toArray
theorem arr_get {A : List Int} {i : Nat} (h : i < A.length) : (arr A)[i]? = some (.int .i64 (at0 A i)) := by
  simp [arr, h, at0]
theorem arr_size (A : List Int) : (arr A).size = A.length := by simp [arr]
theorem cell_blk {W : World} {b i : Nat} {c : Array Value} {t : TypeId} {fr : Nat × Nat} (h : W.heap[b]? = some (.cells c t fr)) : W.cell? ⟨b, i, none⟩ = c[i]? := by
  simp [World.cell?, h]
theorem free_blk {W : World} {b i : Nat} {c : Array Value} {t : TypeId} (h : W.heap[b]? = some (.cells c t (0, 0))) : W.frozen? ⟨b, i, none⟩ = false := by
  simp [World.frozen?, h]
theorem cell_arr {W : World} {b i : Nat} {A : List Int} {t : TypeId} {fr : Nat × Nat} (h : W.heap[b]? = some (.cells (arr A) t fr)) (hi : i < A.length) : W.cell? ⟨b, i, none⟩ = some (.int .i64 (at0 A i)) :=
  (cell_blk h).trans (arr_get hi)
theorem lt_blk {W : World} {b : Nat} {o : Obj} (h : W.heap[b]? = some o) : b < W.heap.size := (Array.getElem?_eq_some_iff.1 h).1
theorem blk_below {W W' : World} {B b : Nat} {o : Obj} (h : W.heap[b]? = some o) (hb : Below B W W') (hB : b < B) : W'.heap[b]? = some o := (hb.block b hB).trans h


theorem heap_alloc_if (w : World) (o : Obj) (k : Nat) : (w.alloc o).heap[k]? = if k = w.heap.size then some o else w.heap[k]? := by
  show (w.heap.push o)[k]? = _
  rw [Array.getElem?_push]
theorem heap_newI {w : World} {o : Obj} {k : Nat} (h : k = w.heap.size) : (w.alloc o).heap[k]? = some o := by rw [heap_alloc_if, if_pos h]
theorem heap_oldI {w : World} {o : Obj} {k : Nat} (h : k < w.heap.size) : (w.alloc o).heap[k]? = w.heap[k]? := by rw [heap_alloc_if, if_neg (by omega)]
theorem heap_set_blk {W : World} {b i : Nat} {c : Array Value} {t : TypeId} {fr : Nat × Nat} {v : Value} (h : W.heap[b]? = some (.cells c t fr)) : (W.setCell ⟨b, i, none⟩ v).heap[b]? = some (.cells (c.setIfInBounds i v) t fr) := by
  simp only [World.setCell, Array.getElem?_modify, if_pos, h]; rfl
theorem heap_set_other {W : World} {b b' i : Nat} {v : Value} (hne : b ≠ b') : (W.setCell ⟨b', i, none⟩ v).heap[b]? = W.heap[b]? := by
  simp only [World.setCell, Array.getElem?_modify]
  rw [if_neg (fun e => hne e.symm)]

theorem size84 : (Try.prog.info? 49).map (·.size) = some 5 := by kernel_rfl

end Ytnihopdglkhbnaa
end Go.Proofs
/- The trains on the way: the iterator, and how many are in a section. -/
open Go Go.RowKit Go.YtnihopdglkhbnaaIt
namespace Go.Proofs
namespace Ytnihopdglkhbnaa

/-- A track in memory. -/
structure Tk (W : World) (bx bm : Nat) (vL vT : Value) (L T : List Int) : Prop where
  blk : W.heap[bx]? = some (.cells #[vL, vT, .map (some bm)] 73 (0, 0))
  sl : SlI W vL L
  st : SlI W vT T

/-- Train i is on the way. -/
def onw (A T : List Int) (i : Nat) : Bool := at0 A i != at0 T i
def wayL (A T : List Int) : List Nat := (List.range T.length).filter (onw A T)
def wayY (A T : List Int) : List (Array Value) := (wayL A T).map fun (i : Nat) => #[.int .i64 (i : Int), .int .i64 (at0 A i)]
/-- How many are on the way before train i. -/
def wayN (A T : List Int) (i : Nat) : Nat := ((List.range i).filter (onw A T)).length

theorem wayN_succ (A T : List Int) (i : Nat) : wayN A T (i + 1) = wayN A T i + if onw A T i then 1 else 0 := by
  unfold wayN; rw [List.range_succ, List.filter_append, List.length_append]; congr 1
  by_cases h : onw A T i = true <;> simp [h]
theorem wayN_end (A T : List Int) : wayN A T T.length = (wayL A T).length := rfl
theorem wayL_get (A T : List Int) {i : Nat} (h : i < T.length) (ho : onw A T i = true) : (wayL A T)[wayN A T i]? = some i := by
  have e : List.range T.length = List.range i ++ (i :: (List.range (T.length - i - 1)).map (i + 1 + ·)) := by
    have : T.length = i + (1 + (T.length - i - 1)) := by omega
    conv => lhs; rw [this, List.range_add, List.range_add]
    simp [Function.comp_def, Nat.add_assoc]
  unfold wayL wayN
  rw [e, List.filter_append, List.getElem?_append_right (Nat.le_refl _)]
  simp [ho]
theorem wayY_get (A T : List Int) {i : Nat} (h : i < T.length) (ho : onw A T i = true) : ∃ hk : wayN A T i < (wayY A T).length, (wayY A T)[wayN A T i] = #[.int .i64 (i : Int), .int .i64 (at0 A i)] := by
  have h1 := wayL_get A T h ho
  obtain ⟨hl, he⟩ := List.getElem?_eq_some_iff.1 h1
  exact ⟨by simpa [wayY] using hl, by simp [wayY, he]⟩

/-- What the iterator over the trains on the way needs. -/
structure KeW (b1 b2 bx bm : Nat) (vL vT : Value) (L T A : List Int) (W : World) : Prop where
  x : W.heap[b1]? = some (.cells #[.pointer (some ⟨bx, 0, none⟩)] 47 (0, 0))
  at_ : W.heap[b2]? = some (.cells (arr A) 49 (0, 0))
  tk : Tk W bx bm vL vT L T

set_option maxRecDepth 100000 in
set_option maxHeartbeats 1000000 in
theorem way_iter (TT : TypeId → Prop) (b1 b2 bx bm : Nat) (vL vT : Value) (L T A : List Int) (hA : A.length = 5) (hT : T.length ≤ 5) :
    Iter Try.prog TT 47 #[.pointer (some ⟨b1, 0, none⟩), .pointer (some ⟨b2, 0, none⟩)] (wayY A T) (KeW b1 b2 bx bm vL vT L T A) := by
  intro l W J Jx Jp hK sJ sJx sJp hY h0
  have hk0 := hK 0 W h0
  refine callsFw.1 (callsIn_of_wp (F := fw none) (n := 0) Try.func47 rfl trivial ?_)
  simp only [Try.ntmps47, List.size_toArray, List.length_cons, List.length_nil, Nat.reduceAdd, Nat.reduceSub, Array.replicate_succ, Array.replicate_zero, List.push_toArray, List.append_toArray, List.nil_append, List.cons_append]
  obtain ⟨hx, hat, ⟨hblk, hsl, ad, cap, rfl, hm, hc⟩⟩ := hk0
  have c1 := cell_blk (i := 0) hx
  have c2 := cell_blk (i := 1) hblk
  simp at c1 c2
  gi_wp2
  obtain ⟨n, hn⟩ : ∃ n, n = T.length := ⟨_, rfl⟩
  rw [← hn] at hc hm hT ⊢
  have H := Lib.hid hn
  clear hn hc hx hat hblk hsl c1 c2
  gi_loopw [11] (fun i wr => ∃ k : Nat, k ≤ n ∧ i = .int .i64 k ∧ J (wayN A T k) wr ∧ W.heap.size ≤ wr.heap.size) (fun i _ => n - (intOf i).toNat)
  case atStart => exact ⟨0, Nat.zero_le _, rfl, h0, Nat.le_refl _⟩
  case round =>
    obtain ⟨k, hk, rfl, hJ, hsz⟩ := hrel
    by_cases hkn : k < n
    · obtain ⟨hx, hat, ⟨hblk, hsl, ad', cap', he, hm', hc⟩⟩ := hK _ _ hJ
      cases he
      rw [← H.out] at hc
      obtain ⟨b, off, rfl, hlt, hcell⟩ := hc (by omega)
      have c1 := hcell k hkn
      have c2 := cell_arr hat (i := k) (by omega)
      clear hcell hx hat hblk hsl hc hm'
      by_cases ho : onw A T k = true
      · obtain ⟨hlen, hyk⟩ := wayY_get A T (by rw [← H.out]; exact hkn) ho
        have hy := hY (wayN A T k) hlen wr hsz hJ
        rw [hyk] at hy
        obtain ⟨fn, tmps, assign, body, hy, hR⟩ := hy
        have hne : (at0 A k != at0 T k) = true := ho
        have HO := Lib.hid ho
        have HL := Lib.hid hyk
        clear ho hyk hY hK
        gi_wp2
        refine RoundIn.mono (F := Fence.wide) hR ?_
        clear hy hR
        have hws : wayN A T (k + 1) = wayN A T k + 1 := by rw [wayN_succ, HO.out]; rfl
        rw [← hws]
        have HW := Lib.hid hws
        clear hws
        rintro e W' (⟨rfl, hJ', hs'⟩ | ⟨rfl, hx', hs'⟩ | ⟨ch, rfl, hp', hs'⟩)
        · gi_wp2
          go_roundw
          case rel => exact ⟨k + 1, by omega, by go_num, hJ', Nat.le_trans hsz hs'.size⟩
          case measure => simp [intOf]; omega
        · gi_wp2
          refine bodyPost_ret (results_none rfl _ _ _) rfl ?_
          exact .inl ⟨⟨_, rfl⟩, .inr hx'⟩
        · exact ⟨rfl, .inr ⟨ch, rfl, hp'⟩⟩
      · have hof : onw A T k = false := by simpa using ho
        have hne : (at0 A k != at0 T k) = false := hof
        have hJ' : J (wayN A T (k + 1)) wr := by rw [wayN_succ, hof]; exact hJ
        clear ho hof hY hK
        gi_wp2
        go_roundw
        case rel => exact ⟨k + 1, by omega, by go_num, hJ', hsz⟩
        case measure => simp [intOf]; omega
    · have hkn' : k = n := by omega
      rw [hkn', H.out, wayN_end] at hJ
      have hJ2 : J (wayY A T).length wr := by simpa [wayY] using hJ
      clear hJ hkn'
      gi_wp2
      go_end0
      exact .inl ⟨⟨_, rfl⟩, .inl hJ2⟩
end Ytnihopdglkhbnaa
end Go.Proofs
/- How many trains are in a section. -/
open Go Go.RowKit Go.YtnihopdglkhbnaaIt
namespace Go.Proofs
namespace Ytnihopdglkhbnaa

theorem Tk.below {W W' : World} {B bx bm : Nat} {vL vT : Value} {L T : List Int} (h : Tk W bx bm vL vT L T) (hb : Below B W W') (hB : W.heap.size ≤ B) : Tk W' bx bm vL vT L T :=
  ⟨blk_below h.blk hb (Nat.lt_of_lt_of_le (lt_blk h.blk) hB), h.sl.below hb hB, h.st.below hb hB⟩

set_option maxRecDepth 100000 in
theorem way_any (bx bm : Nat) (vL vT : Value) (L T A : List Int) (w : World) (hT : Tk w bx bm vL vT L T) :
    Calls Try.prog 43 #[.pointer (some ⟨bx, 0, none⟩), .agg (arr A)] w fun e w' =>
      e = .returned (.func (.func 47) #[] #[.pointer (some ⟨w.heap.size, 0, none⟩), .pointer (some ⟨w.heap.size + 1, 0, none⟩)]) ∧ KeW w.heap.size (w.heap.size + 1) bx bm vL vT L T A w' ∧ Below w.heap.size w w' ∧ w'.heap.size = w.heap.size + 2 := by
  have hmf : ∀ (fn : Fn) (first cap : Array Value) (w : World), (Instr.makeFunc fn first cap).run Try.prog w = .ok (.func fn first cap) w := fun _ _ _ _ => rfl
  go_enter Try.func43, Try.ntmps43
  go_wp2
  have h1 := heap_alloc2_old w (.cells #[.pointer (some ⟨bx, 0, none⟩)] 47) (.cells (arr A) 49)
  have h2 := heap_alloc2_new w (.cells #[.pointer (some ⟨bx, 0, none⟩)] 47) (.cells (arr A) 49)
  have hb : Below w.heap.size w ((w.alloc (.cells #[.pointer (some ⟨bx, 0, none⟩)] 47)).alloc (.cells (arr A) 49)) := by go_grown
  go_ret
  exact ⟨rfl, ⟨h1, h2, hT.below hb (Nat.le_refl _)⟩, hb, by simp⟩

def cnt (A T : List Int) (s : Int) : Nat := ((wayL A T).filter (fun i => at0 A i == s)).length

set_option maxRecDepth 100000 in
set_option maxHeartbeats 1000000 in
theorem count_any (bx bm : Nat) (vL vT : Value) (L T A : List Int) (s : Int) (w : World) (hA : A.length = 5) (hn : T.length ≤ 5) (hT : Tk w bx bm vL vT L T) :
    Calls Try.prog 28 #[.pointer (some ⟨bx, 0, none⟩), .agg (arr A), .int .i64 s] w fun e w' => e = .returned (.int .i64 (cnt A T s)) ∧ Below w.heap.size w w' := by
  refine calls_of_wpM Try.func28 rfl ?_
  simp only [Try.ntmps28, List.size_toArray, List.length_cons, List.length_nil, Nat.reduceAdd, Nat.reduceSub, Array.replicate_succ, Array.replicate_zero, List.push_toArray, List.append_toArray, List.nil_append, List.cons_append]
  have hA5 : (arr A).size = 5 := by rw [arr_size, hA]
  refine wpIn_seq_k (fun K hK => ?_)
  have HK := Lib.hid hK; clear hK
  gi_wp2
  refine HK.out _ _ ?_; clear HK K
  refine wpIn_seq_k (fun K hK => ?_)
  have HK := Lib.hid hK; clear hK
  gi_wp2
  refine HK.out _ _ ?_; clear HK K
  generalize hw1 : World.alloc _ _ = w1
  have b2 : w1.heap[w.heap.size]? = some (.cells (arr A) 49 (0, 0)) := by rw [← hw1]; simp (disch := first | omega | (simp only [World.size_alloc]; done) | (simp only [World.size_alloc]; omega)) only [heap_newI, heap_oldI]
  have b3 : w1.heap[w.heap.size + 1]? = some (.cells #[.int .i64 s] 3 (0, 0)) := by rw [← hw1]; simp (disch := first | omega | (simp only [World.size_alloc]; done) | (simp only [World.size_alloc]; omega)) only [heap_newI, heap_oldI]
  have b4 : w1.heap[w.heap.size + 1 + 1]? = some (.cells #[.int .i64 0] 3 (0, 0)) := by rw [← hw1]; simp (disch := first | omega | (simp only [World.size_alloc]; done) | (simp only [World.size_alloc]; omega)) only [heap_newI]
  have hb1 : Below w.heap.size w w1 := by rw [← hw1]; go_grown
  have hs1 : w.heap.size + 3 ≤ w1.heap.size := by rw [← hw1]; simp
  have hT1 : Tk w1 bx bm vL vT L T := hT.below hb1 (Nat.le_refl _)
  clear hw1
  refine wpIn_seq_k (fun K hK => ?_)
  have HK := Lib.hid hK; clear hK
  refine wpIn_seq_k (fun K2 hK2 => ?_)
  have HK2 := Lib.hid hK2; clear hK2
  gi_wp2_with (first | (refine wpListIn_load_blk rfl 49 _ rfl _ rfl b2 Try.underlying49 rfl size84 hA5 ?_) | (gi_at_call 43; refine callsTo (way_any bx bm vL vT L T A w1 hT1) ?_; rintro e w2 ⟨rfl, hke, hb2, -⟩))
  refine HK2.out _ _ ?_; clear HK2 K2
  have c3 := blk_below b3 hb2 (by omega)
  have c4 := blk_below b4 hb2 (by omega)
  have hb3 : Below w.heap.size w w2 := hb1.trans (hb2.mono (by omega))
  have hs2 := hb2.size
  obtain ⟨cn, hcn⟩ : ∃ cn : Nat → Nat, cn = fun k => (((wayL A T).take k).filter (fun i => at0 A i == s)).length := ⟨_, rfl⟩
  have hc0 : cn 0 = 0 := by rw [hcn]; rfl
  have hce : cn (wayY A T).length = cnt A T s := by rw [hcn]; simp [wayY, cnt]
  have hcs : ∀ k (h : k < (wayL A T).length), cn (k + 1) = cn k + if at0 A (wayL A T)[k] == s then 1 else 0 := by
    intro k h
    rw [hcn]; simp only [List.take_succ_eq_append_getElem h, List.filter_append, List.length_append]
    congr 1
    by_cases hh : (at0 A (wayL A T)[k] == s) = true <;> simp [hh]
  have hcb : ∀ k, cn k ≤ 5 := by
    intro k
    rw [hcn]
    refine Nat.le_trans (List.length_filter_le _ _) (Nat.le_trans (List.length_take_le' _ _) ?_)
    unfold wayL
    exact Nat.le_trans (List.length_filter_le _ _) (by simpa using hn)
  clear hcn b2 b3 b4 hb1
  refine wpIn_block ?_
  have hit := way_iter (fun _ => False) w1.heap.size (w1.heap.size + 1) bx bm vL vT L T A hA hn
  refine wpIn_range (gf := 47) (lb := #[.pointer (some ⟨w1.heap.size, 0, none⟩), .pointer (some ⟨w1.heap.size + 1, 0, none⟩)]) ?hg ?eg hit ?hps
    (fun k W => (W.heap[w1.heap.size]? = some (.cells #[.pointer (some ⟨bx, 0, none⟩)] 47 (0, 0)) ∧ W.heap[w1.heap.size + 1]? = some (.cells (arr A) 49 (0, 0))) ∧ W.heap[w.heap.size + 1]? = some (.cells #[.int .i64 s] 3 (0, 0)) ∧ W.heap[w.heap.size + 1 + 1]? = some (.cells #[.int .i64 (cn k)] 3 (0, 0)) ∧ Below w.heap.size w W)
    (fun _ _ => False) ?hK ?sI ?sIx ?h0 ?round ?done ?stop
  case hg => rfl
  case eg => exact (enters_of Try.func47 (by kernel_rfl) rfl)
  case hps => intro y hy; simp [wayY] at hy; obtain ⟨i, _, rfl⟩ := hy; rfl
  case hK => exact fun k W ⟨⟨h1, h2⟩, _, _, h5⟩ => ⟨h1, h2, hT.below h5 (Nat.le_refl _)⟩
  case sIx => exact fun _ => Stb.pure
  case h0 => exact ⟨⟨hke.x, hke.at_⟩, c3, by rw [hc0]; exact c4, hb3⟩
  case stop => exact fun c W h => h.elim
  case sI => exact fun k => (Stb.cells.and Stb.cells).and (Stb.cells.and (Stb.cells.and (Stb.below (Nat.le_trans (by omega) hs2) (Nat.le_refl _))))
  case round =>
    intro k hk l W hI
    have hk' : k < (wayL A T).length := by simpa [wayY] using hk
    have hyk : (wayY A T)[k] = #[.int .i64 (((wayL A T)[k] : Nat) : Int), .int .i64 (at0 A (wayL A T)[k])] := by simp [wayY]
    rw [hyk]
    have hcs := hcs k hk'
    generalize (wayL A T)[k] = i at *
    have HC := Lib.hid hcs
    have HI := Lib.hid hI
    have hcb := hcb k
    clear hcs hyk hI hc0 hce hke c3 c4 hT1 hit
    simp only [List.zip_toArray, List.zip_cons_cons, List.zip_nil_right, List.foldl_toArray', List.size_toArray, List.length_cons, List.length_nil, List.foldl_cons, List.foldl_nil, List.setIfInBounds_toArray, List.set_cons_succ, List.set_cons_zero]
    gi_wp2
    refine ⟨Kx.refl _ _ _, fun W => (W.heap[w1.heap.size]? = some (.cells #[.pointer (some ⟨bx, 0, none⟩)] 47 (0, 0)) ∧ W.heap[w1.heap.size + 1]? = some (.cells (arr A) 49 (0, 0))) ∧ W.heap[w.heap.size + 1]? = some (.cells #[.int .i64 s] 3 (0, 0)) ∧ W.heap[w.heap.size + 1 + 1]? = some (.cells #[.int .i64 (cn k)] 3 (0, 0)) ∧ Below w.heap.size w W,
      (Stb.cells.and Stb.cells).and (Stb.cells.and (Stb.cells.and (Stb.below (Nat.le_trans (by omega) hs2) (Nat.le_refl _)))), HI.out, ?_⟩
    clear HI
    rintro W2 - ⟨⟨g1, g2⟩, g3, g4, g5⟩
    have d3 := cell_blk (i := 0) g3
    have d4 := cell_blk (i := 0) g4
    have f4 := free_blk (i := 0) g4
    simp at d3 d4
    have HG := Lib.hid (And.intro (And.intro g1 g2) (And.intro g3 (And.intro g4 g5)))
    clear g1 g2 g3 g4 g5
    by_cases hq : (at0 A i == s) = true
    · have hcs : cn (k + 1) = cn k + 1 := by rw [HC.out, hq]; rfl
      have HC2 := Lib.hid hcs
      clear hcs
      gi_wp2
      obtain ⟨⟨g1, g2⟩, g3, g4, g5⟩ := HG.out
      refine ⟨Kx.setCell g4 (fun h => h), ⟨?_, ?_⟩, ?_, ?_, ?_⟩
      · rw [heap_set_other (by omega)]; exact g1
      · rw [heap_set_other (by omega)]; exact g2
      · rw [heap_set_other (by omega)]; exact g3
      · rw [heap_set_blk g4, HC2.out]; rfl
      · exact g5.setCell (by simp; omega) _
    · have hq2 : (at0 A i == s) = false := by simpa using hq
      have hcs : cn (k + 1) = cn k := by rw [HC.out, hq2]; rfl
      have HC2 := Lib.hid hcs
      clear hcs hq
      gi_wp2
      obtain ⟨⟨g1, g2⟩, g3, g4, g5⟩ := HG.out
      exact ⟨Kx.refl _ _ _, ⟨g1, g2⟩, g3, by rw [HC2.out]; exact g4, g5⟩
  case done =>
    rintro W ⟨-, hs, hc, hbW⟩ hD
    refine HK.out _ _ ?_
    rw [hce] at hc
    have c1 := cell_blk (i := 0) hc
    simp at c1
    clear hc0 hce hcs hcb
    gi_wp2
    refine leave_mark rfl hD (results_tmp rfl _ _ _) ⟨rfl, below_putObj hbW (by omega)⟩
end Ytnihopdglkhbnaa
end Go.Proofs

