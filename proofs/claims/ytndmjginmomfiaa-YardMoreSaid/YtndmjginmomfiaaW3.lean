/- The iterator over what follows. -/
import Derived.Test.YtndmjginmomfiaaW2
import Derived.Laws.BitsLemmas
open Go Go.RowKit Go.YtndmjginmomfiaaIt
namespace Go.Proofs
namespace Ytndmjginmomfiaa
theorem i64_and1 {x : Int} (h0 : 0 ≤ x) (h1 : x < 1000000) : bits .and .i64 x 1 = x % 2 := by
  have h := bits_mask .i64 63 (by decide) (fun n a b => by rw [IntKind.wrap_i64]; omega) 1 (by decide) x h0 (by omega)
  simpa using h
theorem nx_test {y : Yd} (ok : Ok y) {m k : Nat} (hm : m < y.ws.length) : (bits .and .i64 ((y.at_ m).next / 2 ^ k) 1 = 1) = (nx y m k = true) := by
  have h := ok.each m hm
  have h4 := ok.n1
  have hp : (2 : Int) ^ y.ws.length ≤ 2 ^ 4 := by
    have h1 : 2 ^ y.ws.length ≤ 2 ^ 4 := Nat.pow_le_pow_right (by omega) h4
    have : ((2 ^ y.ws.length : Nat) : Int) ≤ ((2 ^ 4 : Nat) : Int) := by exact_mod_cast h1
    push_cast at this; exact this
  have hq : (0 : Int) < 2 ^ k := Int.pow_pos (by omega)
  have h0 : 0 ≤ (y.at_ m).next / 2 ^ k := Int.ediv_nonneg (by omega) (by omega)
  have h1 : (y.at_ m).next / 2 ^ k ≤ (y.at_ m).next := Int.ediv_le_self _ (by omega)
  rw [i64_and1 h0 (by omega)]
  unfold nx
  rw [beq_iff_eq]
def folN (y : Yd) (m k : Nat) : Nat := ((List.range k).filter (nx y m)).length
def folY (y : Yd) (s : Int) (m : Nat) (o : Int) : List (Array Value) := (folL y m).map fun (m' : Nat) => #[.int .i64 (m' : Int), .agg #[.int .i64 (come y s m' o - (y.at_ m').hi), .int .i64 (come y s m' o - (y.at_ m').lo)]]
theorem folN_succ (y : Yd) (m k : Nat) : folN y m (k + 1) = folN y m k + if nx y m k then 1 else 0 := by
  unfold folN; rw [List.range_succ, List.filter_append, List.length_append]; congr 1
  by_cases h : nx y m k = true <;> simp [h]
theorem fol_get (y : Yd) (m : Nat) {k : Nat} (h : k < y.ws.length) (ho : nx y m k = true) : (folL y m)[folN y m k]? = some k := by
  have e : List.range y.ws.length = List.range k ++ (k :: (List.range (y.ws.length - k - 1)).map (k + 1 + ·)) := by
    have : y.ws.length = k + (1 + (y.ws.length - k - 1)) := by omega
    conv => lhs; rw [this, List.range_add, List.range_add]
    simp [Function.comp_def, Nat.add_assoc]
  unfold folL folN
  rw [e, List.filter_append, List.getElem?_append_right (Nat.le_refl _)]
  simp [ho]
theorem folY_get (y : Yd) (s : Int) (m : Nat) (o : Int) {k : Nat} (h : k < y.ws.length) (ho : nx y m k = true) : ∃ hk : folN y m k < (folY y s m o).length, (folY y s m o)[folN y m k] = #[.int .i64 (k : Int), .agg #[.int .i64 (come y s k o - (y.at_ k).hi), .int .i64 (come y s k o - (y.at_ k).lo)]] := by
  have h1 := fol_get y m h ho
  obtain ⟨hl, he⟩ := List.getElem?_eq_some_iff.1 h1
  exact ⟨by simpa [folY] using hl, by simp [folY, he]⟩
theorem folN_end (y : Yd) (s : Int) (m : Nat) (o : Int) : folN y m y.ws.length = (folY y s m o).length := by simp [folN, folY, folL]
structure KeF (b1 b2 b3 b4 : Nat) (v : Value) (y : Yd) (s : Int) (m : Nat) (o : Int) (W : World) : Prop where
  yd : KeO b1 v y W
  st : W.heap[b2]? = some (.cells #[.int .i64 s] 3 (0, 0))
  od : W.heap[b3]? = some (.cells #[.int .i64 o] 3 (0, 0))
  we : W.heap[b4]? = some (.cells #[.int .i64 (m : Int)] 3 (0, 0))
  ws : SlW W v y.ws
theorem come_bound {y : Yd} (ok : Ok y) {s : Int} {o : Int} {k : Nat} (hk : k < y.ws.length) (hs : 0 ≤ s ∧ s ≤ 60) (ho : 0 ≤ o ∧ o ≤ 80) : 0 ≤ o * (y.at_ k).comes ∧ o * (y.at_ k).comes ≤ 80000 ∧ 0 ≤ o * (y.at_ k).comes / 1000 ∧ o * (y.at_ k).comes / 1000 ≤ 80 ∧ 0 ≤ come y s k o ∧ come y s k o ≤ 140 := by
  have h := ok.each k hk
  have h1 : 0 ≤ o * (y.at_ k).comes := Int.mul_nonneg ho.1 h.1
  have h2 : o * (y.at_ k).comes ≤ 80 * 1000 := Int.mul_le_mul ho.2 h.2.1 h.1 (by omega)
  unfold come
  omega
set_option maxRecDepth 100000 in
set_option maxHeartbeats 2000000 in
theorem fol_iter (TT : TypeId → Prop) (b1 b2 b3 b4 : Nat) (v : Value) (y : Yd) (s : Int) (m : Nat) (o : Int) (ok : Ok y) (hm : m < y.ws.length) (hs : 0 ≤ s ∧ s ≤ 60) (ho : 0 ≤ o ∧ o ≤ 80) :
    Iter Try.prog TT 74 #[.pointer (some ⟨b1, 0, none⟩), .pointer (some ⟨b2, 0, none⟩), .pointer (some ⟨b3, 0, none⟩), .pointer (some ⟨b4, 0, none⟩)] (folY y s m o) (KeF b1 b2 b3 b4 v y s m o) := by
  intro l W J Jx Jp hK sJ sJx sJp hY h0
  have hk0 := hK 0 W h0
  have hcb := fun k (hk : k < y.ws.length) => come_bound ok hk hs ho
  have hea := ok.each
  have hn1 := ok.n1
  have HK := Lib.hid hK
  have HY := Lib.hid hY
  have HCB := Lib.hid hcb
  have HEA := Lib.hid hea
  clear hK hY hcb hea
  refine callsFw.1 (callsIn_of_wp (F := fw none) (n := 0) Try.func74 rfl trivial ?_)
  simp only [Try.ntmps74, List.size_toArray, List.length_cons, List.length_nil, Nat.reduceAdd, Nat.reduceSub, Array.replicate_succ, Array.replicate_zero, List.push_toArray, List.append_toArray, List.nil_append, List.cons_append]
  obtain ⟨hyd, -, -, -, ⟨ad, cap, rfl, hmx, hcp, -⟩⟩ := hk0
  have c3 := cell_blk (i := 3) hyd
  simp only [encY, List.getElem?_toArray, List.getElem?_cons_zero, List.getElem?_cons_succ] at c3
  gi_wp2
  clear hyd c3
  gi_loopw [12] (fun i wr => ∃ k : Nat, k ≤ y.ws.length ∧ i = .int .i64 k ∧ J (folN y m k) wr ∧ W.heap.size ≤ wr.heap.size) (fun i _ => y.ws.length - (intOf i).toNat)
  case atStart => exact ⟨0, Nat.zero_le _, rfl, h0, Nat.le_refl _⟩
  case round =>
    obtain ⟨k, hk, rfl, hJ, hsz⟩ := hrel
    by_cases hkn : k < y.ws.length
    · obtain ⟨hyd, hst, hod, hwe, ⟨ad', cap', he, hm', hcp', hc⟩⟩ := HK.out _ _ hJ
      cases he
      obtain ⟨b, off, rfl, hlt, hcell⟩ := hc (by omega)
      have hkl : k < y.ws.length := hkn
      obtain ⟨c0, c1, c2, c3⟩ := wt_cells hcell (n := k) hkl rfl
      obtain ⟨q0, q1, q2, q3⟩ := wt_cells hcell (n := m) hm rfl
      have hx := at_lt hkl
      have hxm := at_lt hm
      rw [← hx] at c0 c1 c2 c3
      rw [← hxm] at q3
      have hek := HEA.out k hkl
      have hem := HEA.out m hm
      have hcb := HCB.out k hkl
      clear q0 q1 q2 hcell hc hx hxm
      have hfs := folN_succ y m k
      have hfg := folY_get y s m o hkl
      unfold come at hfg hcb
      generalize (y.at_ k).comes = p0 at *
      generalize (y.at_ k).lo = p1 at *
      generalize (y.at_ k).hi = p2 at *
      generalize (y.at_ k).next = p3 at *
      have HFS := Lib.hid hfs
      have HFG := Lib.hid hfg
      clear hfs hfg
      have d0 := cell_blk (i := 3) hyd
      have d1 := cell_blk (i := 0) hst
      have d2 := cell_blk (i := 0) hod
      have d3 := cell_blk (i := 0) hwe
      simp only [encY, List.getElem?_toArray, List.getElem?_cons_zero, List.getElem?_cons_succ] at d0 d1 d2 d3
      clear hyd hst hod hwe
      have hl1 := cell_lt d0
      have hl2 := cell_lt d1
      have hl3 := cell_lt d2
      have hl4 := cell_lt d3
      simp only at hl1 hl2 hl3 hl4
      have hE : Below wr.heap.size wr (wr.alloc (Obj.cells #[Value.int IntKind.i64 p0, Value.int IntKind.i64 p1, Value.int IntKind.i64 p2, Value.int IntKind.i64 p3] 58)) := (Below.refl _ _).alloc (Nat.le_refl _) _
      have hJ2 : J (folN y m k) (wr.alloc (Obj.cells #[Value.int IntKind.i64 p0, Value.int IntKind.i64 p1, Value.int IntKind.i64 p2, Value.int IntKind.i64 p3] 58)) := sJ _ _ _ (Gr.below hE) hJ
      have hT := nx_test ok (k := k) hm
      by_cases hb : nx y m k = true
      · have hT1 : (bits .and .i64 ((y.at_ m).next / 2 ^ k) 1 = 1) = True := by rw [hT, hb]; simp
        obtain ⟨hlen, hyk⟩ := HFG.out hb
        have hy := HY.out _ hlen _ (by simp; omega) hJ2
        rw [hyk] at hy
        obtain ⟨fn, tmps, assign, body, hy, hR⟩ := hy
        have hfs : folN y m (k + 1) = folN y m k + 1 := by rw [HFS.out, if_pos hb]
        have HS := Lib.hid hfs
        clear hT hb hyk hfs
        gi_wp2
        refine RoundIn.mono (F := Fence.wide) hR ?_
        clear hy hR
        rintro e W' (⟨rfl, hJ', hs'⟩ | ⟨rfl, hx', hs'⟩ | ⟨ch, rfl, hp', hs'⟩)
        · rw [← HS.out] at hJ'
          have hz := hs'.size
          simp only [World.size_alloc] at hz
          clear hlen hJ2 hJ hE c0 c1 c2 c3 q3 d0 d1 d2 d3
          gi_wp2
          go_roundw
          case rel => exact ⟨k + 1, by omega, by go_num, hJ', by omega⟩
          case measure => simp [intOf]; omega
        · clear hlen hJ2 hJ hE c0 c1 c2 c3 q3 d0 d1 d2 d3
          have hT2 : (bits .and .i64 ((y.at_ m).next / 2 ^ k) 1 == 1) = true := by rw [beq_iff_eq, hT1]; trivial
          gi_wp2
          refine bodyPost_ret (results_none rfl _ _ _) rfl ?_
          exact .inl ⟨⟨_, rfl⟩, .inr hx'⟩
        · exact ⟨rfl, .inr ⟨ch, rfl, hp'⟩⟩
      · have hT1 : (bits .and .i64 ((y.at_ m).next / 2 ^ k) 1 = 1) = False := by rw [hT]; simp [hb]
        have hfs : folN y m (k + 1) = folN y m k := by rw [HFS.out, if_neg hb]; rfl
        have hJ3 : J (folN y m (k + 1)) (wr.alloc (Obj.cells #[Value.int IntKind.i64 p0, Value.int IntKind.i64 p1, Value.int IntKind.i64 p2, Value.int IntKind.i64 p3] 58)) := by rw [hfs]; exact hJ2
        have HX := Lib.hid (And.intro hJ3 hsz)
        clear hT hb hfs hJ3 hJ2 hJ hsz
        gi_wp2
        go_roundw
        case rel => exact ⟨k + 1, by omega, by go_num, HX.out.1, by simp; have := HX.out.2; omega⟩
        case measure => simp [intOf]; omega
    · have hke : k = y.ws.length := by omega
      have hJ2 : J (folY y s m o).length wr := by rw [← folN_end, ← hke]; exact hJ
      clear hJ hke
      gi_wp2
      go_end0
      exact .inl ⟨⟨_, rfl⟩, .inl hJ2⟩
end Ytndmjginmomfiaa
end Go.Proofs
