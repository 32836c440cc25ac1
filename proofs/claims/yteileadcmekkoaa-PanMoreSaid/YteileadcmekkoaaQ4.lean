/- Pans: the iterator over the waits of a step. -/
import Derived.Test.YteileadcmekkoaaQ3
open Go Go.RowKit Go.YteileadcmekkoaaIt
namespace Go.Proofs
namespace Yteileadcmekkoaa
/-- A wait. -/
structure Wa where
  f : Int
  t : Int
  lo : Int
  hi : Int
  b : Int
def encA (x : Wa) : List Value := [.int .i64 x.f, .int .i64 x.t, .int .i64 x.lo, .int .i64 x.hi, .int .i64 x.b]
theorem encA_len (x : Wa) : (encA x).length = 5 := rfl
abbrev SlA (w : World) (v : Value) (ws : List Wa) : Prop := SlG encA 5 w v ws
def at_ (ws : List Wa) (i : Nat) : Wa := ws.getD i ⟨0, 0, 0, 0, 0⟩
theorem at_lt {ws : List Wa} {i : Nat} (h : i < ws.length) : at_ ws i = ws[i] := by simp [at_, h]
theorem a_cells {w : World} {b off n : Nat} {ws : List Wa} (h : ∀ i (h : i < ws.length) f u, (encA ws[i])[f]? = some u → w.cell? ⟨b, off + i * 5 + f, none⟩ = some u) {i : Nat} (hi : i < ws.length) (hn : n = i) :
    w.cell? ⟨b, off + n * 5, none⟩ = some (.int .i64 (at_ ws i).f) ∧ w.cell? ⟨b, off + n * 5 + 1, none⟩ = some (.int .i64 (at_ ws i).t) ∧ w.cell? ⟨b, off + n * 5 + 2, none⟩ = some (.int .i64 (at_ ws i).lo) ∧ w.cell? ⟨b, off + n * 5 + 3, none⟩ = some (.int .i64 (at_ ws i).hi) ∧ w.cell? ⟨b, off + n * 5 + 4, none⟩ = some (.int .i64 (at_ ws i).b) := by
  subst hn
  rw [at_lt hi]
  exact ⟨h n hi 0 _ rfl, h n hi 1 _ rfl, h n hi 2 _ rfl, h n hi 3 _ rfl, h n hi 4 _ rfl⟩
/-- The waits of a step. -/
def isT (ws : List Wa) (s : Int) (i : Nat) : Bool := (at_ ws i).t == s
def toL (ws : List Wa) (s : Int) : List Nat := (List.range ws.length).filter (isT ws s)
def toN (ws : List Wa) (s : Int) (k : Nat) : Nat := ((List.range k).filter (isT ws s)).length
def toY (ws : List Wa) (s : Int) : List (Array Value) := (toL ws s).map fun (i : Nat) => #[.int .i64 (i : Int), .agg #[.int .i64 (at_ ws i).f, .int .i64 (at_ ws i).t, .int .i64 (at_ ws i).lo, .int .i64 (at_ ws i).hi, .int .i64 (at_ ws i).b]]
theorem toN_succ (ws : List Wa) (s : Int) (k : Nat) : toN ws s (k + 1) = toN ws s k + if isT ws s k then 1 else 0 := by
  unfold toN; rw [List.range_succ, List.filter_append, List.length_append]; congr 1
  by_cases h : isT ws s k = true <;> simp [h]
theorem toL_get (ws : List Wa) (s : Int) {k : Nat} (h : k < ws.length) (ho : isT ws s k = true) : (toL ws s)[toN ws s k]? = some k := by
  have e : List.range ws.length = List.range k ++ (k :: (List.range (ws.length - k - 1)).map (k + 1 + ·)) := by
    have : ws.length = k + (1 + (ws.length - k - 1)) := by omega
    conv => lhs; rw [this, List.range_add, List.range_add]
    simp [Function.comp_def, Nat.add_assoc]
  unfold toL toN
  rw [e, List.filter_append, List.getElem?_append_right (Nat.le_refl _)]
  simp [ho]
theorem toY_get (ws : List Wa) (s : Int) {k : Nat} (h : k < ws.length) (ho : isT ws s k = true) : ∃ hk : toN ws s k < (toY ws s).length, (toY ws s)[toN ws s k] = #[.int .i64 (k : Int), .agg #[.int .i64 (at_ ws k).f, .int .i64 (at_ ws k).t, .int .i64 (at_ ws k).lo, .int .i64 (at_ ws k).hi, .int .i64 (at_ ws k).b]] := by
  have h1 := toL_get ws s h ho
  obtain ⟨hl, he⟩ := List.getElem?_eq_some_iff.1 h1
  exact ⟨by simpa [toY] using hl, by simp [toY, he]⟩
theorem toN_end (ws : List Wa) (s : Int) : toN ws s ws.length = (toY ws s).length := by simp [toN, toY, toL]
structure KeT (b1 b2 : Nat) (v : Value) (n : Int) (ws : List Wa) (s : Int) (W : World) : Prop where
  wk : W.heap[b1]? = some (.cells #[.int .i64 n, v] 24 (0, 0))
  st : W.heap[b2]? = some (.cells #[.int .i64 s] 3 (0, 0))
  sl : SlA W v ws
set_option maxRecDepth 100000 in
set_option maxHeartbeats 2000000 in
theorem to_iter (TT : TypeId → Prop) (b1 b2 : Nat) (v : Value) (n : Int) (ws : List Wa) (s : Int) : Iter Try.prog TT 79 #[.pointer (some ⟨b1, 0, none⟩), .pointer (some ⟨b2, 0, none⟩)] (toY ws s) (KeT b1 b2 v n ws s) := by
  intro l W J Jx Jp hK sJ sJx sJp hY h0
  have hk0 := hK 0 W h0
  have HK := Lib.hid hK
  have HY := Lib.hid hY
  clear hK hY
  refine callsFw.1 (callsIn_of_wp (F := fw none) (n := 0) Try.func79 rfl trivial ?_)
  simp only [Try.ntmps79, List.size_toArray, List.length_cons, List.length_nil, Nat.reduceAdd, Nat.reduceSub, Array.replicate_succ, Array.replicate_zero, List.push_toArray, List.append_toArray, List.nil_append, List.cons_append]
  obtain ⟨hwk, -, ⟨ad, cap, rfl, hmx, hcp, -⟩⟩ := hk0
  have c3 := cell_blk (i := 1) hwk
  simp only [List.getElem?_toArray, List.getElem?_cons_zero, List.getElem?_cons_succ] at c3
  gi_wp2
  clear hwk c3
  gi_loopw [9] (fun i wr => ∃ k : Nat, k ≤ ws.length ∧ i = .int .i64 k ∧ J (toN ws s k) wr ∧ W.heap.size ≤ wr.heap.size) (fun i _ => ws.length - (intOf i).toNat)
  case atStart => exact ⟨0, Nat.zero_le _, rfl, h0, Nat.le_refl _⟩
  case round =>
    obtain ⟨k, hk, rfl, hJ, hsz⟩ := hrel
    by_cases hkn : k < ws.length
    · obtain ⟨hwk, hst, ⟨ad', cap', he, hm', hcp', hc⟩⟩ := HK.out _ _ hJ
      cases he
      obtain ⟨b, off, rfl, hlt, hcell⟩ := hc (by omega)
      obtain ⟨c0, c1, c2, c3, c4⟩ := a_cells hcell (n := k) hkn rfl
      have hfs := toN_succ ws s k
      have hfg := toY_get ws s hkn
      have d1 := cell_blk (i := 0) hst
      simp only [List.getElem?_toArray, List.getElem?_cons_zero] at d1
      have hl1 := lt_blk hst
      clear hcell hc hwk hst
      unfold isT at hfs hfg
      generalize (at_ ws k).f = x0 at *
      generalize (at_ ws k).t = x1 at *
      generalize (at_ ws k).lo = x2 at *
      generalize (at_ ws k).hi = x3 at *
      generalize (at_ ws k).b = x4 at *
      have HFS := Lib.hid hfs
      have HFG := Lib.hid hfg
      clear hfs hfg
      have hE : Below wr.heap.size wr (wr.alloc (Obj.cells #[Value.int IntKind.i64 x0, Value.int IntKind.i64 x1, Value.int IntKind.i64 x2, Value.int IntKind.i64 x3, Value.int IntKind.i64 x4] 82)) := (Below.refl _ _).alloc (Nat.le_refl _) _
      have hJ2 : J (toN ws s k) (wr.alloc (Obj.cells #[Value.int IntKind.i64 x0, Value.int IntKind.i64 x1, Value.int IntKind.i64 x2, Value.int IntKind.i64 x3, Value.int IntKind.i64 x4] 82)) := sJ _ _ _ (Gr.below hE) hJ
      by_cases hb : (x1 == s) = true
      · obtain ⟨hlen, hyk⟩ := HFG.out hb
        have hy := HY.out _ hlen _ (by simp; omega) hJ2
        rw [hyk] at hy
        obtain ⟨fn, tmps, assign, body, hy, hR⟩ := hy
        have hfs : toN ws s (k + 1) = toN ws s k + 1 := by rw [HFS.out, if_pos hb]
        have HS := Lib.hid hfs
        clear hyk hfs
        gi_wp2
        refine RoundIn.mono (F := Fence.wide) hR ?_
        clear hy hR
        rintro e W' (⟨rfl, hJ', hs'⟩ | ⟨rfl, hx', hs'⟩ | ⟨ch, rfl, hp', hs'⟩)
        · rw [← HS.out] at hJ'
          have hz := hs'.size
          simp only [World.size_alloc] at hz
          clear hlen hJ2 hJ hE c0 c1 c2 c3 c4 d1
          gi_wp2
          go_roundw
          case rel => exact ⟨k + 1, by omega, by go_num, hJ', by omega⟩
          case measure => simp [intOf]; omega
        · clear hlen hJ2 hJ hE c0 c1 c2 c3 c4 d1
          gi_wp2
          refine bodyPost_ret (results_none rfl _ _ _) rfl ?_
          exact .inl ⟨⟨_, rfl⟩, .inr hx'⟩
        · exact ⟨rfl, .inr ⟨ch, rfl, hp'⟩⟩
      · have hbf : (x1 == s) = false := by simpa using hb
        have hfs : toN ws s (k + 1) = toN ws s k := by rw [HFS.out, if_neg hb]; rfl
        have hJ3 : J (toN ws s (k + 1)) (wr.alloc (Obj.cells #[Value.int IntKind.i64 x0, Value.int IntKind.i64 x1, Value.int IntKind.i64 x2, Value.int IntKind.i64 x3, Value.int IntKind.i64 x4] 82)) := by rw [hfs]; exact hJ2
        have HX := Lib.hid (And.intro hJ3 hsz)
        clear hb hfs hJ3 hJ2 hJ hsz
        gi_wp2
        go_roundw
        case rel => exact ⟨k + 1, by omega, by go_num, HX.out.1, by simp; have := HX.out.2; omega⟩
        case measure => simp [intOf]; omega
    · have hke : k = ws.length := by omega
      have hJ2 : J (toY ws s).length wr := by rw [← toN_end, ← hke]; exact hJ
      clear hJ hke
      gi_wp2
      go_end0
      exact .inl ⟨⟨_, rfl⟩, .inl hJ2⟩
theorem to_any (v : Value) (n : Int) (ws : List Wa) (s : Int) (w : World) (hv : SlA w v ws) :
    Calls Try.prog 71 #[.agg #[.int .i64 n, v], .int .i64 s] w fun e w' =>
      e = .returned (.func (.func 79) #[] #[.pointer (some ⟨w.heap.size, 0, none⟩), .pointer (some ⟨w.heap.size + 1, 0, none⟩)]) ∧ KeT w.heap.size (w.heap.size + 1) v n ws s w' ∧ Below w.heap.size w w' ∧ w.heap.size + 2 ≤ w'.heap.size := by
  have HV := Lib.hid hv
  obtain ⟨ad, cap, rfl, -, -, -⟩ := hv
  have hmf : ∀ (fn : Fn) (first cap : Array Value) (w : World), (Instr.makeFunc fn first cap).run Try.prog w = .ok (.func fn first cap) w := fun _ _ _ _ => rfl
  go_enter Try.func71, Try.ntmps71
  go_wp2
  generalize hw1 : World.alloc _ _ = w1
  obtain ⟨b1, b2, hB, hs1⟩ := blk2 hw1
  clear hw1
  go_ret
  exact ⟨rfl, ⟨b1, b2, HV.out.below hB (Nat.le_refl _)⟩, hB, hs1⟩
end Yteileadcmekkoaa
end Go.Proofs
