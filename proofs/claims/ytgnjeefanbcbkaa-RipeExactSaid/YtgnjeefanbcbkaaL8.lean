/- Fields, outright: a plot by numbers: the field, and between which numbers its truths lie, in twelfths. -/
import Derived.Test.YtgnjeefanbcbkaaF2
import Derived.Test.YtgnjeefanbcbkaaGenL
import Derived.Test.YtgnjeefanbcbkaaE6
import Derived.Test.YtgnjeefanbcbkaaD7
import Derived.Test.YtgnjeefanbcbkaaL7
open Go Go.RowKit Go.YtgnjeefanbcbkaaIt
namespace Go.Proofs
namespace Ytgnjeefanbcbkaa
/-- One number is put behind a slice of the call's own. -/
theorem wpList_push2 {ops : Array Oper} {rest : List Oper} {o : Oper} {a : Act} {Q : Exit → Act → World → Prop} (hgd : o.guard = none) (s x : Operand) (ho : o.op = .call { callee := .builtin .append, args := #[s, x], argTypes := #[41, 41] })
    {B : Nat} {w : World} {g : Nat} {v : Value} {k : Nat} {xs : List Value} {i : Int} (hr : w.ownsRow B 3 1 v k xs) (hl : k ≤ 10000) (hs : a.eval s = v) (hx : a.eval x = .slice (some ⟨g, 0, none⟩) 1 1)
    (hg : w.heap[g]? = some (Obj.cells #[.int .i64 i] 3 (0, 0))) (hB : B ≤ w.heap.size)
    (h : ∀ v' w', w'.ownsRow B 3 1 v' (k + 1) (xs ++ [.int .i64 i]) → (∀ b, b < w.heap.size → v.ownBlock ≠ some b → w'.heap[b]? = w.heap[b]?) → (w'.os = w.os ∧ w'.tape = w.tape ∧ w'.output = w.output ∧ w.heap.size ≤ w'.heap.size) → (v'.ownBlock = v.ownBlock ∨ v'.ownBlock = some w.heap.size) → wpList Try.prog ops Q rest (a.put o.dst v') w') : wpList Try.prog ops Q (o :: rest) a w :=
  wpList_plain hgd fun K hK => by
    obtain ⟨i3, hi3, hy1, hy2, hy3⟩ := info_parts info3
    have hrd := reads_of_slI (slI_new (xs := [i]) (cap := 1) (by simp) (by simp) hg : SlI w (.slice (some ⟨g, 0, none⟩) 1 1) [i])
    refine wp_append_any w s x 41 ho B 3 i3 (.int .i64 0) 1 8 Try.underlying41 hi3 hy1 hy2 hy3 rfl (by decide) _ k _ hs hr _ (some ⟨g, 0, none⟩) 1 1 _ hx hrd (one_ints [i]) (Nat.le_trans (by omega : k + 1 ≤ 10001) (by decide)) (by omega) hB ?_
    intro v' w' r1 r2 r3
    exact hK _ _ (h v' w' r1 (fun b hb hne => r2.block b hb (fun e => hne e.symm)) ⟨r2.os, r2.tape, r2.output, r2.size⟩ (r3.imp_left fun e => e))
/-- A row of numbers in a block. -/
def RowA (W : World) (g : Nat) (L : List Int) : Prop := ∃ cs : Array Value, W.heap[g]? = some (.cells cs 3 (0, 0)) ∧ L.length ≤ cs.size ∧ ∀ i, i < L.length → cs[i]? = some (.int .i64 (at0 L i))
theorem RowA.lt {W : World} {g : Nat} {L : List Int} (h : RowA W g L) : g < W.heap.size := by
  obtain ⟨cs, h1, -⟩ := h
  exact lt_blk h1
theorem RowA.at_ {W : World} {g : Nat} {L : List Int} (h : RowA W g L) {i : Nat} (hi : i < L.length) : W.cell? ⟨g, i, none⟩ = some (.int .i64 (at0 L i)) := by
  obtain ⟨cs, h1, -, h3⟩ := h
  exact (cell_blk h1).trans (h3 i hi)
theorem RowA.free {W : World} {g : Nat} {L : List Int} (h : RowA W g L) (i : Nat) : W.frozen? ⟨g, i, none⟩ = false := by
  obtain ⟨cs, h1, -⟩ := h
  exact free_blk h1
theorem at0_set (L : List Int) (i j : Nat) (x : Int) (hi : i < L.length) : at0 (L.set i x) j = if j = i then x else at0 L j := by
  unfold at0
  simp only [List.getD_eq_getElem?_getD, List.getElem?_set]
  by_cases h : i = j
  · subst h; simp [hi]
  · rw [if_neg h, if_neg (fun e => h e.symm)]
theorem RowA.set {W : World} {g i : Nat} {L : List Int} {x : Int} (h : RowA W g L) (hi : i < L.length) : RowA (W.setCell ⟨g, i, none⟩ (.int .i64 x)) g (L.set i x) := by
  obtain ⟨cs, h1, h2, h3⟩ := h
  refine ⟨_, heap_set_blk h1, by simpa using h2, fun j hj => ?_⟩
  rw [at0_set _ _ _ _ hi]
  by_cases hji : j = i
  · subst hji; simp [Array.getElem?_setIfInBounds]; omega
  · rw [if_neg hji, Array.getElem?_setIfInBounds_ne (fun e => hji e.symm)]
    exact h3 j (by simpa using hj)
theorem RowA.keep {W W' : World} {g : Nat} {L : List Int} (h : RowA W g L) (e : W'.heap[g]? = W.heap[g]?) : RowA W' g L := by
  obtain ⟨cs, h1, h2⟩ := h
  exact ⟨cs, e.trans h1, h2⟩
theorem RowA.below {W W' : World} {g : Nat} {L : List Int} (h : RowA W g L) (hb : Below W.heap.size W W') : RowA W' g L := h.keep (hb.block g h.lt)
theorem RowA.sl {W : World} {g c n : Nat} {L : List Int} (h : RowA W g L) (hn : n = L.length) (hc : L.length ≤ c) (hm : L.length ≤ 1000) : SlI W (.slice (some ⟨g, 0, none⟩) n c) L := by
  subst hn
  exact ⟨_, _, rfl, by omega, hc, fun _ => ⟨g, 0, rfl, h.lt, fun i hi => by rw [Nat.zero_add]; exact h.at_ hi⟩⟩
theorem RowA.of {W : World} {B g c n : Nat} {L : List Int} (h : W.ownsRow B 3 1 (.slice (some ⟨g, 0, none⟩) n c) n (L.map (.int .i64))) (hn : n = L.length) : RowA W g L ∧ n ≤ c := by
  rcases h.2 with ⟨e, -⟩ | ⟨g', cap, cur, e, hg, hh, r1, r2, r3, r4⟩
  · cases e
  · injection e with e1 e2 e3
    injection e1 with e1
    injection e1 with e1
    subst e1 e3
    refine ⟨⟨cur, hh, by rw [← hn]; omega, fun i hi => ?_⟩, by omega⟩
    have h1 : (cur.toList.take (n * 1))[i]? = (L.map (Value.int .i64))[i]? := by rw [r4]
    rw [List.getElem?_take_of_lt (by omega)] at h1
    rw [← Array.getElem?_toList, h1, List.getElem?_map, List.getElem?_eq_getElem hi, at0_lt hi]
    rfl
/-- What a plot gives. -/
structure PlotR (n : Nat) (ss : List Smp) (L H : List Int) : Prop where
  n1 : 1 ≤ n
  n4 : n ≤ 4
  ln : L.length = n
  hn : H.length = n
  len : ss.length ≤ 6
  ok : ∀ s ∈ ss, (0 ≤ s.week ∧ s.week < n) ∧ (0 ≤ s.val ∧ s.val ≤ 2) ∧ 0 ≤ s.off ∧ s.off ≤ 2
  low : ∀ w, w < n → at0 L w = 12 * lowAt 0 ss w
  high : ∀ w, w < n → at0 H w = 12 * highAt 2 ss w
  bl : ∀ w, w < n → 0 ≤ at0 L w ∧ at0 L w ≤ 24 ∧ 0 ≤ at0 H w ∧ at0 H w ≤ 24
/-- What a plot has of its first k samples. -/
structure PlotI (n k : Nat) (ss : List Smp) (L H : List Int) : Prop where
  ln : L.length = n
  hn : H.length = n
  len : ss.length = k
  ok : ∀ s ∈ ss, (0 ≤ s.week ∧ s.week < n) ∧ (0 ≤ s.val ∧ s.val ≤ 2) ∧ 0 ≤ s.off ∧ s.off ≤ 2
  low : ∀ w, w < n → at0 L w = 12 * lowAt 0 ss w
  high : ∀ w, w < n → at0 H w = 12 * highAt 2 ss w
  bl : ∀ w, w < n → 0 ≤ at0 L w ∧ at0 L w ≤ 24 ∧ 0 ≤ at0 H w ∧ at0 H w ≤ 24
theorem at0_rep {n w : Nat} {x : Int} (h : w < n) : at0 (List.replicate n x) w = x := by rw [at0_lt (by simpa using h)]; simp
theorem PlotI.zero (n : Nat) : PlotI n 0 [] (List.replicate n 0) (List.replicate n 24) :=
  ⟨by simp, by simp, rfl, fun s h => by simp at h, fun w h => by rw [at0_rep h]; rfl, fun w h => by rw [at0_rep h]; rfl, fun w h => by rw [at0_rep h, at0_rep h]; omega⟩
theorem PlotI.step {n k : Nat} {ss : List Smp} {L H : List Int} (h : PlotI n k ss L H) {wn : Nat} {v o : Int} (hw : wn < n) (hv : 0 ≤ v ∧ v ≤ 2) (ho : 0 ≤ o ∧ o ≤ 2) :
    PlotI n (k + 1) (ss ++ [⟨wn, v, o⟩]) (L.set wn (max (at0 L wn) (12 * (v - o)))) (H.set wn (min (at0 H wn) (12 * (v + o)))) := by
  refine ⟨by simp [h.ln], by simp [h.hn], by simp [h.len], fun s hs => ?_, fun w hwn => ?_, fun w hwn => ?_, fun w hwn => ?_⟩
  · rcases List.mem_append.1 hs with h' | h'
    · exact h.ok s h'
    · have : s = ⟨wn, v, o⟩ := by simpa using h'
      subst this
      exact ⟨by simp only; omega, hv, ho⟩
  · rw [at0_set _ _ _ _ (by rw [h.ln]; exact hw), lowAt_append, ← Int.mul_comm, show lowAt (lowAt 0 ss w) [⟨wn, v, o⟩] w = if (wn : Int) = (w : Int) then max (lowAt 0 ss w) (v - o) else lowAt 0 ss w from rfl]
    by_cases e : w = wn
    · subst e
      rw [if_pos rfl, if_pos rfl, h.low _ hw]; try omega
    · rw [if_neg e, if_neg (by omega), h.low _ hwn]
  · rw [at0_set _ _ _ _ (by rw [h.hn]; exact hw), highAt_append, ← Int.mul_comm, show highAt (highAt 2 ss w) [⟨wn, v, o⟩] w = if (wn : Int) = (w : Int) then min (highAt 2 ss w) (v + o) else highAt 2 ss w from rfl]
    by_cases e : w = wn
    · subst e
      rw [if_pos rfl, if_pos rfl, h.high _ hw]; try omega
    · rw [if_neg e, if_neg (by omega), h.high _ hwn]
  · have b1 := h.bl w hwn
    have b2 := h.bl wn hw
    rw [at0_set _ _ _ _ (by rw [h.ln]; exact hw), at0_set _ _ _ _ (by rw [h.hn]; exact hw)]
    split <;> omega
theorem dis2 {va vb v6 v7 : Value} {a b : Nat} (h : ∀ q, va.ownBlock = some q → vb.ownBlock ≠ some q) (h6 : v6.ownBlock = va.ownBlock ∨ v6.ownBlock = some a) (h7 : v7.ownBlock = vb.ownBlock ∨ v7.ownBlock = some b) (hb1 : ∀ q, vb.ownBlock = some q → q < a) (ha1 : ∀ q, v6.ownBlock = some q → q < b) : ∀ q, v6.ownBlock = some q → v7.ownBlock ≠ some q := by
  intro q hq e
  rcases h7 with h7 | h7
  · rw [h7] at e
    rcases h6 with h6 | h6
    · exact h q (h6 ▸ hq) e
    · rw [h6] at hq
      injection hq with hq
      have := hb1 q e
      omega
  · rw [h7] at e
    injection e with e
    have := ha1 q hq
    omega
theorem rep_push (k : Nat) (x : Int) : (List.replicate (k + 1) x).map (Value.int .i64) = (List.replicate k x).map (Value.int .i64) ++ [.int .i64 x] := by
  rw [List.replicate_succ', List.map_append]; rfl
theorem results_agg_tmp2 {P : Program} {fn : Func} {p u v : Tmp} {ty : TypeId} (h : fn.results = #[.cell p ty, .tmp u, .tmp v]) (tmps : Array Value) (w : World) (g : Nat) {t : TypeId} {cs : Array Value} {fr : Nat × Nat} {d : TypeDesc}
    (hp : tmps.getD p undef = .pointer (some ⟨g, 0, none⟩)) (hg : w.heap[g]? = some (.cells cs t fr))
    (hu : P.underlying ty = some d) (hd : (match d with | .struct _ | .array _ _ => true | _ => false) = true) {k : Nat} (hi : (P.info? ty).map (·.size) = some k) (hk : cs.size = k) :
    (results fn tmps).run P w = .ok (.tuple #[.agg cs, tmps.getD u undef, tmps.getD v undef]) w := by
  subst hk
  have hp' : tmps[p]?.getD undef = .pointer (some ⟨g, 0, none⟩) := by simpa using hp
  simp [results, h, hp', asAddr, run_loadVar_row w g t ty cs fr d hg hu hd hi]
structure KeyP (p : Prop) : Prop where
  out : p
theorem blkO {W : World} {o : Obj} : (W.alloc o).heap[W.heap.size]? = some o := heap_newI rfl
set_option maxRecDepth 100000 in
set_option maxHeartbeats 8000000 in
theorem plot_any (wk : Int) (vs : Value) (sm : List B3) (w : World) (hwk : 0 ≤ wk ∧ wk < 256) (hs : SlT w vs sm) :
    Calls Try.prog 35 #[.agg #[.int .u8 wk, vs]] w fun e w' => ∃ n v ss pl ph L H, e = .returned (.tuple #[.agg #[.int .i64 (n : Nat), .int .i64 0, .int .i64 2, v], pl, ph]) ∧ SlS w' v ss ∧ SlI w' pl L ∧ SlI w' ph H ∧ PlotR n ss L H ∧ Below w.heap.size w w' := by
  obtain ⟨n, hn⟩ : ∃ n : Nat, (n : Int) = 1 + wk % 4 := ⟨(1 + wk % 4).toNat, by omega⟩
  have hn1 : 1 ≤ n ∧ n ≤ 4 := by omega
  have HN := Lib.hid hn
  have HS := Lib.hid hs
  obtain ⟨⟨sx, cx, rfl, hms, -⟩, -⟩ := hs
  clear hn
  go_enter Try.func35, Try.ntmps35
  refine wp_seq_k (fun K hK => ?_)
  have HK := Lib.hid hK; clear hK
  go_wp2
  refine HK.out _ _ ?_; clear HK K
  generalize hw1 : World.alloc _ _ = w1
  obtain ⟨b1, b2, hB1, hs1⟩ := blk2 hw1
  clear hw1
  have c0 := cell_blk (i := 0) b1
  simp only [List.getElem?_toArray, List.getElem?_cons_zero] at c0
  have k1 := c33 (q := wk) (by omega)
  have k2 := d33 hwk.1 4
  have k3 := c33 (q := 1 + wk % 4) (by omega)
  refine wp_seq_k (fun K hK => ?_)
  have HK := Lib.hid hK; clear hK
  have hlw : w.heap.size < w1.heap.size := by omega
  have hS0 : w1.drew.cell? ⟨w.heap.size, 0, none⟩ = some (.int .u8 wk) ∧ Below w1.heap.size w1 w1.drew := ⟨c0, (Below.refl _ _).drew⟩
  refine (fun (FIN : KeyP (?P9 : Prop)) => ?main9) ⟨?key9⟩
  case main9 =>
    refine wp_region_x (R := fun U => U.cell? ⟨w.heap.size, 0, none⟩ = some (.int .u8 wk) ∧ Below w1.heap.size w1 U) (S := fun _ => True) (z := 8) rfl ?_
    refine wpAnyX_keep (i := 0) (oi := { dst := some 12, op := _, type := _, pos := _, after := _, guard := none }) (v := ?_) rfl (by kernel_rfl) (by kernel_rfl) (by kernel_rfl) (fun _ _ _ h => h) (Or.inl ⟨by rfl, ?_⟩) ⟨hS0, fun _ => trivial⟩ ?_
    rotate_left
    · intro U hU
      go_simp
      all_goals with_reducible rfl
    simp only [Act.put, List.setIfInBounds_toArray, List.set_cons_zero, List.set_cons_succ]
    refine wpAnyX_keep (i := 1) (oi := { dst := some 13, op := _, type := _, pos := _, after := _, guard := none }) (v := ?_) rfl (by kernel_rfl) (by kernel_rfl) (by kernel_rfl) (fun _ _ _ h => h) (Or.inl ⟨by rfl, ?_⟩) ⟨hS0, fun _ => trivial⟩ ?_
    rotate_left
    · intro U hU
      have u1 := hU.1
      go_simp
      all_goals with_reducible rfl
    simp only [Act.put, List.setIfInBounds_toArray, List.set_cons_zero, List.set_cons_succ]
    refine wpAnyX_keep (i := 2) (oi := { dst := some 14, op := _, type := _, pos := _, after := _, guard := none }) (v := ?_) rfl (by kernel_rfl) (by kernel_rfl) (by kernel_rfl) (fun _ _ _ h => h) (Or.inl ⟨by rfl, ?_⟩) ⟨hS0, fun _ => trivial⟩ ?_
    rotate_left
    · intro U hU
      go_simp
      all_goals with_reducible rfl
    simp only [Act.put, List.setIfInBounds_toArray, List.set_cons_zero, List.set_cons_succ]
    refine wpAnyX_keep (i := 3) (oi := { dst := some 15, op := _, type := _, pos := _, after := _, guard := none }) (v := ?_) rfl (by kernel_rfl) (by kernel_rfl) (by kernel_rfl) (fun _ _ _ h => h) (Or.inl ⟨by rfl, ?_⟩) ⟨hS0, fun _ => trivial⟩ ?_
    rotate_left
    · intro U hU
      go_simp
      all_goals with_reducible rfl
    simp only [Act.put, List.setIfInBounds_toArray, List.set_cons_zero, List.set_cons_succ]
    refine wpAnyX_keep (i := 4) (oi := { dst := some 16, op := _, type := _, pos := _, after := _, guard := none }) (v := ?_) rfl (by kernel_rfl) (by kernel_rfl) (by kernel_rfl) (fun _ _ _ h => h) (Or.inl ⟨by rfl, ?_⟩) ⟨hS0, fun _ => trivial⟩ ?_
    rotate_left
    · intro U hU
      go_simp
      all_goals with_reducible rfl
    simp only [Act.put, List.setIfInBounds_toArray, List.set_cons_zero, List.set_cons_succ]
    try rw [k1]
    try rw [k2]
    try rw [k3]
    rw [← HN.out]
    refine wpAnyX_ready (rs := [5, 7]) (by kernel_rfl) (by simp) ?_
    refine AllReadyX.cons (o := { dst := some 17, op := _, type := _, pos := _, after := _, guard := none }) rfl (by rfl) (fun K1 hK1 => ?_) ?_
    · have HK1 := Lib.hid hK1; clear hK1
      refine oper_call (f := 37) (xs := #[.const (.int .i64 0), .const (.int .i64 2)]) (ts := _) rfl (enters_of Try.func37 (by kernel_rfl) rfl) rfl (span_any _ _ _) ?_
      intro w2 hb2
      have hS2 : w2.cell? ⟨w.heap.size, 0, none⟩ = some (.int .u8 wk) ∧ Below w1.heap.size w1 w2 := ⟨(((Below.refl _ w1).drew.trans hb2).cell (p := ⟨w.heap.size, 0, none⟩) hlw).trans c0, ((Below.refl _ w1).drew.trans hb2)⟩
      refine HK1.out _ _ ⟨hS2, fun _ => trivial⟩ ?_
      clear HK1 K1
      try simp only [Act.put, List.setIfInBounds_toArray, List.set_cons_zero, List.set_cons_succ]
      refine wpAnyX_keep (i := 6) (oi := { dst := some 18, op := _, type := _, pos := _, after := _, guard := none }) (v := ?_) rfl (by kernel_rfl) (by kernel_rfl) (by kernel_rfl) (fun _ _ _ h => h) (Or.inl ⟨by rfl, ?_⟩) ⟨hS2, fun _ => trivial⟩ ?_
      rotate_left
      · intro U hU
        go_simp
        all_goals with_reducible rfl
      simp only [Act.put, List.setIfInBounds_toArray, List.set_cons_zero, List.set_cons_succ]
      refine wpAnyX_one (i := 7) (o := { dst := some 5, op := _, type := _, pos := _, after := _, guard := none }) (by kernel_rfl) rfl (by rfl) (fun K1 hK1 => ?_)
      have HK1 := Lib.hid hK1; clear hK1
      go_simp
      have hb4 : Below w1.heap.size w1 (w2.alloc (.cells #[.int .i64 0, .int .i64 0, .int .i64 0, .slice none 0 0] 26 (0, 0))) := hS2.2.alloc hS2.2.size _
      have hSf : (w2.alloc (.cells #[.int .i64 0, .int .i64 0, .int .i64 0, .slice none 0 0] 26 (0, 0))).cell? ⟨w.heap.size, 0, none⟩ = some (.int .u8 wk) ∧ Below w1.heap.size w1 (w2.alloc (.cells #[.int .i64 0, .int .i64 0, .int .i64 0, .slice none 0 0] 26 (0, 0))) := ⟨(hb4.cell (p := ⟨w.heap.size, 0, none⟩) hlw).trans c0, hb4⟩
      refine HK1.out _ _ ⟨hSf, fun _ => trivial⟩ ?_
      clear HK1 K1
      try simp only [Act.put, List.setIfInBounds_toArray, List.set_cons_zero, List.set_cons_succ]
      have b5 : (w2.alloc (.cells #[.int .i64 0, .int .i64 0, .int .i64 0, .slice none 0 0] 26 (0, 0))).heap[w2.heap.size]? = some (.cells #[.int .i64 0, .int .i64 0, .int .i64 0, .slice none 0 0] 26 (0, 0)) := heap_newI rfl
      have hs2 := hS2.2.size
      generalize World.alloc _ _ = w4 at *
      generalize w2.heap.size = g5 at *
      refine wpAnyX_one (i := 8) (o := { dst := none, op := _, type := _, pos := _, after := _, guard := none }) (by kernel_rfl) rfl (by rfl) (fun K1 hK1 => ?_)
      have HK1 := Lib.hid hK1; clear hK1
      have lt5 := lt_blk b5
      have hg5 : w.heap.size + 2 ≤ g5 := by omega
      have hbF : Below w1.heap.size w1 (w4.putObj g5 (.cells #[.int .i64 n, .int .i64 0, .int .i64 2, .slice none 0 0] 26 (0, 0))) := below_putObj hSf.2 (by omega)
      refine oper_store_blk 26 (.tmp 5) (.tmp 18) rfl g5 rfl rfl b5 size26 rfl rfl (by simp [Value.oneCell']) ?_
      refine HK1.out _ _ ⟨⟨(hbF.cell (p := ⟨w.heap.size, 0, none⟩) hlw).trans c0, hbF⟩, fun _ => trivial⟩ ?_
      clear HK1 K1
      try simp only [Act.put]
      refine wpAnyX_done (by kernel_rfl) ?_ _
      have facts : (w4.putObj g5 (.cells #[.int .i64 n, .int .i64 0, .int .i64 2, .slice none 0 0] 26 (0, 0))).heap[w.heap.size]? = some (.cells #[.int .u8 wk, .slice sx sm.length cx] 70 (0, 0)) ∧ (w4.putObj g5 (.cells #[.int .i64 n, .int .i64 0, .int .i64 2, .slice none 0 0] 26 (0, 0))).heap[w.heap.size + 1]? = some (.cells #[.int .i64 0, .int .i64 0, .int .i64 0, .slice none 0 0] 26 (0, 0)) ∧ (w4.putObj g5 (.cells #[.int .i64 n, .int .i64 0, .int .i64 2, .slice none 0 0] 26 (0, 0))).heap[g5]? = some (.cells #[.int .i64 n, .int .i64 0, .int .i64 2, .slice none 0 0] 26 (0, 0)) ∧ Below w.heap.size w (w4.putObj g5 (.cells #[.int .i64 n, .int .i64 0, .int .i64 2, .slice none 0 0] 26 (0, 0))) ∧ w.heap.size + 2 ≤ g5 := ⟨blk_keep b1 hbF, blk_keep b2 hbF, World.putObj_heap_same lt5, btr hB1 hbF (Nat.le_refl _), hg5⟩
      revert facts
      generalize w4.putObj g5 _ = WF
      generalize g5 = g
      revert g WF
      exact FIN.out
    refine AllReadyX.cons (o := { dst := some 5, op := _, type := _, pos := _, after := _, guard := none }) rfl (by rfl) (fun K1 hK1 => ?_) ?_
    · have HK1 := Lib.hid hK1; clear hK1
      go_simp
      have hb4 : Below w1.heap.size w1 (w1.alloc (.cells #[.int .i64 0, .int .i64 0, .int .i64 0, .slice none 0 0] 26 (0, 0))).drew := ((Below.refl _ _).alloc (Nat.le_refl _) _).drew
      have hS2 : (w1.alloc (.cells #[.int .i64 0, .int .i64 0, .int .i64 0, .slice none 0 0] 26 (0, 0))).drew.cell? ⟨w.heap.size, 0, none⟩ = some (.int .u8 wk) ∧ Below w1.heap.size w1 (w1.alloc (.cells #[.int .i64 0, .int .i64 0, .int .i64 0, .slice none 0 0] 26 (0, 0))).drew := ⟨(hb4.cell (p := ⟨w.heap.size, 0, none⟩) hlw).trans c0, hb4⟩
      refine HK1.out _ _ ⟨hS2, fun _ => trivial⟩ ?_
      clear HK1 K1
      try simp only [Act.put, List.setIfInBounds_toArray, List.set_cons_zero, List.set_cons_succ]
      have b5' : (w1.alloc (.cells #[.int .i64 0, .int .i64 0, .int .i64 0, .slice none 0 0] 26 (0, 0))).drew.heap[w1.heap.size]? = some (.cells #[.int .i64 0, .int .i64 0, .int .i64 0, .slice none 0 0] 26 (0, 0)) := heap_newI rfl
      generalize World.drew (World.alloc _ _) = w4 at *
      refine wpAnyX_one (i := 5) (o := { dst := some 17, op := _, type := _, pos := _, after := _, guard := none }) (by kernel_rfl) rfl (by rfl) (fun K1 hK1 => ?_)
      have HK1 := Lib.hid hK1; clear hK1
      refine oper_call (f := 37) (xs := #[.const (.int .i64 0), .const (.int .i64 2)]) (ts := _) rfl (enters_of Try.func37 (by kernel_rfl) rfl) rfl (span_any _ _ _) ?_
      intro w2 hb2
      have b5 := blk_keep b5' hb2
      have hb6 : Below w1.heap.size w1 w2 := btr hb4 hb2 (Nat.le_refl _)
      have hSf : w2.cell? ⟨w.heap.size, 0, none⟩ = some (.int .u8 wk) ∧ Below w1.heap.size w1 w2 := ⟨(hb6.cell (p := ⟨w.heap.size, 0, none⟩) hlw).trans c0, hb6⟩
      refine HK1.out _ _ ⟨hSf, fun _ => trivial⟩ ?_
      clear HK1 K1
      try simp only [Act.put, List.setIfInBounds_toArray, List.set_cons_zero, List.set_cons_succ]
      refine wpAnyX_keep (i := 6) (oi := { dst := some 18, op := _, type := _, pos := _, after := _, guard := none }) (v := ?_) rfl (by kernel_rfl) (by kernel_rfl) (by kernel_rfl) (fun _ _ _ h => h) (Or.inl ⟨by rfl, ?_⟩) ⟨hSf, fun _ => trivial⟩ ?_
      rotate_left
      · intro U hU
        go_simp
        all_goals with_reducible rfl
      simp only [Act.put, List.setIfInBounds_toArray, List.set_cons_zero, List.set_cons_succ]
      refine wpAnyX_one (i := 8) (o := { dst := none, op := _, type := _, pos := _, after := _, guard := none }) (by kernel_rfl) rfl (by rfl) (fun K1 hK1 => ?_)
      have HK1 := Lib.hid hK1; clear hK1
      have lt5 := lt_blk b5
      have hg5 : w.heap.size + 2 ≤ w1.heap.size := by omega
      have hbF : Below w1.heap.size w1 (w2.putObj w1.heap.size (.cells #[.int .i64 n, .int .i64 0, .int .i64 2, .slice none 0 0] 26 (0, 0))) := below_putObj hSf.2 (by omega)
      refine oper_store_blk 26 (.tmp 5) (.tmp 18) rfl w1.heap.size rfl rfl b5 size26 rfl rfl (by simp [Value.oneCell']) ?_
      refine HK1.out _ _ ⟨⟨(hbF.cell (p := ⟨w.heap.size, 0, none⟩) hlw).trans c0, hbF⟩, fun _ => trivial⟩ ?_
      clear HK1 K1
      try simp only [Act.put]
      refine wpAnyX_done (by kernel_rfl) ?_ _
      have facts : (w2.putObj w1.heap.size (.cells #[.int .i64 n, .int .i64 0, .int .i64 2, .slice none 0 0] 26 (0, 0))).heap[w.heap.size]? = some (.cells #[.int .u8 wk, .slice sx sm.length cx] 70 (0, 0)) ∧ (w2.putObj w1.heap.size (.cells #[.int .i64 n, .int .i64 0, .int .i64 2, .slice none 0 0] 26 (0, 0))).heap[w.heap.size + 1]? = some (.cells #[.int .i64 0, .int .i64 0, .int .i64 0, .slice none 0 0] 26 (0, 0)) ∧ (w2.putObj w1.heap.size (.cells #[.int .i64 n, .int .i64 0, .int .i64 2, .slice none 0 0] 26 (0, 0))).heap[w1.heap.size]? = some (.cells #[.int .i64 n, .int .i64 0, .int .i64 2, .slice none 0 0] 26 (0, 0)) ∧ Below w.heap.size w (w2.putObj w1.heap.size (.cells #[.int .i64 n, .int .i64 0, .int .i64 2, .slice none 0 0] 26 (0, 0))) ∧ w.heap.size + 2 ≤ w1.heap.size := ⟨blk_keep b1 hbF, blk_keep b2 hbF, World.putObj_heap_same lt5, btr hB1 hbF (Nat.le_refl _), hg5⟩
      revert facts
      generalize w2.putObj w1.heap.size _ = WF
      generalize w1.heap.size = g
      revert g WF
      exact FIN.out
    exact AllReadyX.nil
  case key9 =>
    intro WF g facts
    obtain ⟨d1, d2, d5, hB, hg⟩ := facts
    refine HK.out _ _ ?_; clear HK K
    clear b1 b2 hB1 hs1 c0 k1 k2 k3 hlw hS0
    have c5 := cell_blk (i := 0) d5
    have lt5 := lt_blk d5
    simp only [List.getElem?_toArray, List.getElem?_cons_zero] at c5
    refine wp_seq_k (fun K hK => ?_)
    have HK := Lib.hid hK; clear hK
    go_wp2
    refine HK.out _ _ ?_; clear HK K
    refine wp_seq_k (fun K hK => ?_)
    have HK := Lib.hid hK; clear hK
    go_wp2
    go_loopw [6, 7, 8] (fun va vb i wr => ∃ k : Nat, k ≤ n ∧ i = .int .i64 k ∧ wr.ownsRow (g + 1) 3 1 va k ((List.replicate k 0).map (.int .i64)) ∧ wr.ownsRow (g + 1) 3 1 vb k ((List.replicate k 24).map (.int .i64)) ∧ Hid (∀ q, va.ownBlock = some q → vb.ownBlock ≠ some q) ∧ Below (g + 1) WF wr) (fun _ _ i _ => n - (intOf i).toNat)
    case atStart => exact ⟨0, Nat.zero_le _, rfl, World.ownsRow_nil _ _ _ _, World.ownsRow_nil _ _ _ _, Lib.hid (fun q h => by cases h), Below.refl _ _⟩
    case round =>
      obtain ⟨k, hk, rfl, ra, rb, HD, hbr⟩ := hrel
      have c6 : wr.cell? ⟨g, 0, none⟩ = some (.int .i64 n) := (hbr.cell (p := ⟨g, 0, none⟩) (Nat.lt_succ_self _)).trans c5
      have hszr := hbr.size
      have hg1 : g + 1 ≤ wr.heap.size := by omega
      by_cases hkn : k < n
      · have hki : (k : Int) < (n : Int) := by omega
        have hk3 : k ≤ 10000 := by omega
        obtain ⟨aa, ca, rfl⟩ := form_of ra
        obtain ⟨ab, cb, rfl⟩ := form_of rb
        have HR := Lib.hid (And.intro ra rb)
        have hsa : wr.heap.size + 1 = (wr.alloc (.cells #[.int .i64 0] 3)).heap.size := (World.size_alloc ..).symm
        have HSA := Lib.hid hsa
        clear ra rb hsa
        go_wp2_with (at_builtin; refine cutme ?_)
        refine ⟨?_⟩
        refine wpList_push2 rfl _ _ rfl (B := g + 1) (w := wr.alloc (.cells #[.int .i64 0] 3)) (g := wr.heap.size) (i := 0) (HR.out.1.alloc _) hk3 rfl rfl (heap_newI rfl) (by rw [World.size_alloc]; omega) ?_
        intro v6 w6 r6 k6 e6 o6
        obtain ⟨a6, c6', rfl⟩ := form_of r6
        have hz6 : wr.heap.size + 1 ≤ w6.heap.size := by (have := e6.2.2.2; rw [World.size_alloc] at this; exact this)
        have rb6 : w6.ownsRow (g + 1) 3 1 (.slice ab k cb) k ((List.replicate k 24).map (.int .i64)) := row_same HR.out.2 (fun q hq => (k6 q (by rw [World.size_alloc]; have := (HR.out.2.lt q hq).2; omega) (fun e => HD.out q e hq)).trans (heap_oldI (HR.out.2.lt q hq).2))
        go_wp2_with (at_builtin; refine cutme ?_)
        refine ⟨?_⟩
        refine wpList_push2 rfl _ _ rfl (B := g + 1) (w := w6.alloc (.cells #[.int .i64 24] 3)) (g := w6.heap.size) (i := 24) (rb6.alloc _) hk3 rfl rfl (heap_newI rfl) (by rw [World.size_alloc]; omega) ?_
        intro v7 w7 r7 k7 e7 o7
        obtain ⟨a7, c7, rfl⟩ := form_of r7
        have hz7 : w6.heap.size + 1 ≤ w7.heap.size := by (have := e7.2.2.2; rw [World.size_alloc] at this; exact this)
        have hd6 : ∀ q, (Value.slice a6 (k + 1) c6').ownBlock = some q → (Value.slice ab k cb).ownBlock ≠ some q := dis2 (b := w6.heap.size) HD.out o6 (.inl rfl) (fun q hq => by rw [World.size_alloc]; have := (HR.out.2.lt q hq).2; omega) (fun q hq => (r6.lt q hq).2)
        have hd7 : ∀ q, (Value.slice a6 (k + 1) c6').ownBlock = some q → (Value.slice a7 (k + 1) c7).ownBlock ≠ some q := dis2 (a := wr.heap.size) hd6 (.inl rfl) o7 (fun q hq => (HR.out.2.lt q hq).2) (fun q hq => by rw [World.size_alloc]; have := (r6.lt q hq).2; omega)
        have r67 : w7.ownsRow (g + 1) 3 1 (.slice a6 (k + 1) c6') (k + 1) ((List.replicate (k + 1) 0).map (.int .i64)) := by
          rw [rep_push]
          exact row_same r6 (fun q hq => (k7 q (by rw [World.size_alloc]; have := (r6.lt q hq).2; omega) (hd6 q hq)).trans (heap_oldI (r6.lt q hq).2))
        have r77 : w7.ownsRow (g + 1) 3 1 (.slice a7 (k + 1) c7) (k + 1) ((List.replicate (k + 1) 24).map (.int .i64)) := by rw [rep_push]; exact r7
        have hb7 : Below (g + 1) WF w7 := ⟨e7.1.trans (e6.1.trans hbr.os), e7.2.1.trans (e6.2.1.trans hbr.tape), e7.2.2.1.trans (e6.2.2.1.trans hbr.output), by omega, fun b hb => by
          have h1 := k7 b (by rw [World.size_alloc]; omega) (fun e => by have := (HR.out.2.lt b e).1; omega)
          have h2 := k6 b (by rw [World.size_alloc]; omega) (fun e => by have := (HR.out.1.lt b e).1; omega)
          exact h1.trans ((heap_oldI (by omega)).trans (h2.trans ((heap_oldI (by omega)).trans (hbr.block b hb))))⟩
        have HD7 := Lib.hid hd7
        clear r6 r7 rb6 k6 k7 e6 e7 o6 o7 hd6 hd7 hbr
        go_wp2
        exact ⟨⟨k + 1, by omega, rfl, r67, r77, HD7, hb7⟩, by simp [intOf]; omega⟩
      · have hki : ¬ (k : Int) < (n : Int) := by omega
        have hkn2 : n = k := by omega
        subst hkn2
        obtain ⟨ga, ca, rfl⟩ := own_formI ra (by omega)
        obtain ⟨gb, cb, rfl⟩ := own_formI rb (by omega)
        have hgab : ga ≠ gb := fun e => HD.out ga rfl (by rw [e]; rfl)
        have hga := ra.lt ga rfl
        have hgb := rb.lt gb rfl
        obtain ⟨RA, hca⟩ := RowA.of ra (by simp)
        obtain ⟨RB, hcb⟩ := RowA.of rb (by simp)
        have HRA := Lib.hid (And.intro RA (And.intro RB (And.intro hca hcb)))
        clear ra rb RA RB hca hcb
        go_wp2
        refine HK.out _ _ ?_; clear HK
        have e1 := blk_below d1 hbr (by omega)
        have e2 := blk_below d2 hbr (by omega)
        have e5 := blk_below d5 hbr (Nat.lt_succ_self _)
        have hBZ : Below w.heap.size w wr := hB.trans (hbr.mono (by omega))
        obtain ⟨WZ, hWZ⟩ : ∃ x, x = wr := ⟨_, rfl⟩
        rw [← hWZ] at e1 e2 e5 hBZ HRA hga hgb hszr hg1 ⊢
        clear hWZ hbr d1 d2 d5 c5 c6 lt5 hB HD hki
        obtain ⟨N, hN⟩ : ∃ N : Nat, N = min 6 sm.length := ⟨_, rfl⟩
        have HNN := Lib.hid hN
        clear hN
        obtain ⟨i82, hi82, hz1, hz2, hz3⟩ := info_parts info82
        have HI2 := Lib.hid (And.intro hi82 (And.intro hz1 (And.intro hz2 hz3)))
        clear hi82 hz1 hz2 hz3
        refine wp_seq_k (fun K hK => ?_)
        have HK := Lib.hid hK; clear hK
        go_wp2
        go_loopw [9] (fun i wr => ∃ (k : Nat) (q : Value) (ss : List Smp) (L H : List Int), k ≤ N ∧ i = .int .i64 k ∧ Hid (RowA wr ga L ∧ RowA wr gb H ∧ PlotI n k ss L H) ∧ wr.heap[g]? = some (.cells #[.int .i64 n, .int .i64 0, .int .i64 2, q] 26 (0, 0)) ∧ wr.ownsRow (g + 1) 82 3 q k (ss.flatMap encS) ∧ Below (w.heap.size + 2) WZ wr ∧ g + 1 ≤ wr.heap.size) (fun i _ => N - (intOf i).toNat)
        case atStart => exact ⟨0, _, [], List.replicate n 0, List.replicate n 24, Nat.zero_le _, rfl, Lib.hid ⟨HRA.out.1, HRA.out.2.1, PlotI.zero n⟩, e5, World.ownsRow_nil _ _ _ _, Below.refl _ _, hg1⟩
        case round =>
          obtain ⟨k, q, ss, L, H, hk, rfl, HPL, b5, ro, hbr, hsz⟩ := hrel
          have bb1 := blk_below e1 hbr (by omega)
          have bb2 := blk_below e2 hbr (by omega)
          have c6 := cell_blk (i := 1) bb1
          simp only [List.getElem?_toArray, List.getElem?_cons_zero, List.getElem?_cons_succ] at c6
          by_cases hkN : k < N
          · have hks : k < sm.length := by have := HNN.out; omega
            have hk15 : (k : Int) < 6 := by have := HNN.out; omega
            have hksi : (k : Int) < (sm.length : Int) := by omega
            have hBr : Below w.heap.size w wr := hBZ.trans (hbr.mono (by omega))
            obtain ⟨⟨sx', cx', e', -, hcs⟩, hok⟩ := HS.out
            injection e' with e1' _ e3'
            subst e1' e3'
            obtain ⟨bs, os, rfl, hlts, hcells⟩ := hcs (by omega)
            have hx := hok _ (List.getElem_mem hks)
            have q0 := hcells k hks 0 _ rfl
            have q1 := hcells k hks 1 _ rfl
            have q2 := hcells k hks 2 _ rfl
            replace q0 := (hBr.cell (p := ⟨bs, os + k * 3, none⟩) hlts).trans q0
            replace q1 := (hBr.cell (p := ⟨bs, os + k * 3 + 1, none⟩) hlts).trans q1
            replace q2 := (hBr.cell (p := ⟨bs, os + k * 3 + 2, none⟩) hlts).trans q2
            generalize sm[k] = x at *
            obtain ⟨xa, xb, xc⟩ := x
            simp only at q0 q1 q2
            unfold B3.ok at hx
            simp only at hx
            clear hcells hcs hok
            go_wp2
            rename_i K0 hK0 _
            have HK0 := Lib.hid hK0; clear hK0
            clear q0 q1 q2 c6 hksi hk15 hlts
            have ro7 := row_below ro ((Below.refl _ wr).alloc (Nat.le_refl _) (.cells #[.int .u8 xa, .int .u8 xb, .int .u8 xc] 80))
            generalize hw7 : World.alloc _ _ = w7 at *
            obtain ⟨b14, hb7, hs7⟩ := blk1 hw7
            clear hw7
            replace b5 := blk_keep b5 hb7
            have HPL7 := Lib.hid (And.intro (HPL.out.1.below hb7) (And.intro (HPL.out.2.1.below hb7) HPL.out.2.2))
            replace hbr : Below (w.heap.size + 2) WZ w7 := hbr.trans (hb7.mono (by omega))
            have hsz7 : g + 1 ≤ w7.heap.size := by omega
            have hg14 : g + 1 ≤ wr.heap.size := hsz
            clear hb7 hsz ro bb1 bb2 HPL hBr
            generalize wr.heap.size = g14 at *
            have e0 := cell_blk (i := 0) b14
            have e1' := cell_blk (i := 1) b14
            have e2' := cell_blk (i := 2) b14
            have en := cell_blk (i := 0) b5
            simp only [List.getElem?_toArray, List.getElem?_cons_zero, List.getElem?_cons_succ] at e0 e1' e2' en
            have hm0 : ¬ (n : Int) = 0 := by omega
            have k1 := c33 (q := xa) (by omega)
            have k2 := d33 hx.1.1 (n : Int)
            have k3 := c33 (q := xb) (by omega)
            have k4 := d33 hx.2.1.1 3
            have k5 := c33 (q := xc) (by omega)
            have k6 := d33 hx.2.2.1 3
            have lt5 := lt_blk b5
            have lt14 := lt_blk b14
            have HB7 := Lib.hid (And.intro hbr (And.intro ro7 b5))
            have HXX := Lib.hid hx
            clear hbr ro7 b5
            refine wp_region_alloc (obj := .cells #[.int .i64 0, .int .i64 0, .int .i64 0] 82 (0, 0)) (p := .pointer (some ⟨w7.heap.size, 0, none⟩)) 15 16 (on := _) (ot := _) (by kernel_rfl) (by kernel_rfl) rfl rfl rfl rfl (by kernel_rfl) ?hal ?_
            case hal => kernel_rfl
            simp only [struckS, List.set_cons_succ, List.set_cons_zero]
            have f0 : ∀ x : Tw w7.drew (w7.alloc (.cells #[.int .i64 0, .int .i64 0, .int .i64 0] 82 (0, 0))).drew, x.val.cell? ⟨g14, 0, none⟩ = _ := fun x => (tw_cell x (by simp; omega)).trans e0
            have f1 : ∀ x : Tw w7.drew (w7.alloc (.cells #[.int .i64 0, .int .i64 0, .int .i64 0] 82 (0, 0))).drew, x.val.cell? ⟨g14, 1, none⟩ = _ := fun x => (tw_cell x (by simp; omega)).trans e1'
            have f2 : ∀ x : Tw w7.drew (w7.alloc (.cells #[.int .i64 0, .int .i64 0, .int .i64 0] 82 (0, 0))).drew, x.val.cell? ⟨g14, 2, none⟩ = _ := fun x => (tw_cell x (by simp; omega)).trans e2'
            have f3 : ∀ x : Tw w7.drew (w7.alloc (.cells #[.int .i64 0, .int .i64 0, .int .i64 0] 82 (0, 0))).drew, x.val.cell? ⟨g, 0, none⟩ = _ := fun x => (tw_cell x (by simp; omega)).trans en
            repeat go_big_quiet_step (fail)
            refine wpQuiet_nil ?_
            go_wp2
            refine HK0.out _ _ ?_; clear HK0 K0
            obtain ⟨wn, hwn⟩ : ∃ wn : Nat, (wn : Int) = xa % (n : Int) := ⟨(xa % (n : Int)).toNat, by have := Int.emod_nonneg xa (b := (n : Int)) (by omega); omega⟩
            have hwl : wn < n := by have : (wn : Int) < (n : Int) := by (rw [hwn]; exact Int.emod_lt_of_pos _ (by omega))
                                    omega
            rw [← hwn]
            obtain ⟨vl, hvl⟩ : ∃ vl, vl = xb % 3 := ⟨_, rfl⟩
            obtain ⟨of, hof⟩ : ∃ of, of = xc % 3 := ⟨_, rfl⟩
            rw [← hvl, ← hof]
            have hvb : 0 ≤ vl ∧ vl ≤ 2 := by omega
            have hob : 0 ≤ of ∧ of ≤ 2 := by omega
            obtain ⟨hbr, ro7, b5⟩ := HB7.out
            clear HB7 f0 f1 f2 f3 e0 e1' e2' en k1 k2 k3 k4 k5 k6 hwn hvl hof
            have hb8 : Below w7.heap.size w7 (w7.alloc (.cells #[.int .i64 wn, .int .i64 vl, .int .i64 of] 82)).drew := ((Below.refl _ _).alloc (Nat.le_refl _) _).drew
            have b15 : (w7.alloc (.cells #[.int .i64 wn, .int .i64 vl, .int .i64 of] 82)).drew.heap[w7.heap.size]? = some (.cells #[.int .i64 wn, .int .i64 vl, .int .i64 of] 82 (0, 0)) := heap_newI rfl
            have hs8 : w7.heap.size + 1 ≤ (w7.alloc (.cells #[.int .i64 wn, .int .i64 vl, .int .i64 of] 82)).drew.heap.size := Nat.le_of_eq (World.size_alloc ..).symm
            generalize World.drew _ = w8 at *
            replace b5 := blk_keep b5 hb8
            have ro8 := row_below ro7 hb8
            have hne15 : ∀ e, (q.ownBlock = some e → e < w7.heap.size) := fun e he => by have := (ro7.lt _ he).2; omega
            have HPL8 := Lib.hid (And.intro (HPL7.out.1.below hb8) (And.intro (HPL7.out.2.1.below hb8) HPL7.out.2.2))
            replace hbr : Below (w.heap.size + 2) WZ w8 := hbr.trans (hb8.mono (by omega))
            have hg15 : g + 1 ≤ w7.heap.size := hsz7
            have hga7 : ga < w7.heap.size := HPL7.out.1.lt
            have hgb7 : gb < w7.heap.size := HPL7.out.2.1.lt
            clear hb8 ro7 hs7 hsz7 HPL7 lt14 lt5 b14
            generalize w7.heap.size = g15 at *
            have hsz8 : g + 1 ≤ w8.heap.size := by omega
            obtain ⟨aq, cq', rfl⟩ := form_of ro8
            have e12 := cell_blk (i := 3) b5
            simp only [List.getElem?_toArray, List.getElem?_cons_zero, List.getElem?_cons_succ] at e12
            have hkk := hkN
            have hN15 : N ≤ 6 := by have := HNN.out; omega
            refine wp_seq_k (fun K hK => ?_)
            have HK2 := Lib.hid hK; clear hK
            go_wp2_with (first | (refine wpList_load_blk rfl 82 _ rfl _ rfl b15 Try.underlying82 rfl size82 rfl ?_) | (at_builtin; refine cutme ?_))
            refine ⟨?_⟩
            refine wpList_append_own _ rfl _ _ 24 rfl (g + 1) 82 i82 (.agg #[.int .i64 0, .int .i64 0, .int .i64 0]) 3 24 Try.underlying24 HI2.out.1 HI2.out.2.1 HI2.out.2.2.1 HI2.out.2.2.2 rfl (by decide) _ _ _ rfl (ro8.alloc _) ⟨w8.heap.size, 0, none⟩ 1 1 (encS ⟨wn, vl, of⟩) rfl rfl (cell_newL (xs := encS ⟨wn, vl, of⟩) rfl) (by intro u hu; simp [encS] at hu; rcases hu with rfl | rfl | rfl <;> rfl) (Nat.le_trans (by omega : k + 1 ≤ 200) (by decide)) (by omega) (by rw [World.size_alloc]; omega) ?_
            intro v' w10 r1 r2 _
            obtain ⟨hk10, hs10, ee1, ee2, ee3⟩ := append_same1 ro8 r2
            have d12 := (hk10 g (lt_blk b5) (own_ne ro8 b5 (by decide))).trans b5
            have d15 := (hk10 g15 (lt_blk b15) (fun e => by have := hne15 _ e; omega)).trans b15
            obtain ⟨ca0, hca0, -⟩ := HPL8.out.1
            obtain ⟨cb0, hcb0, -⟩ := HPL8.out.2.1
            have RA10 := HPL8.out.1.keep (hk10 ga (lt_blk hca0) (own_ne ro8 hca0 (by decide)))
            have RB10 := HPL8.out.2.1.keep (hk10 gb (lt_blk hcb0) (own_ne ro8 hcb0 (by decide)))
            have HR10 := Lib.hid (And.intro RA10 (And.intro RB10 HPL8.out.2.2))
            have d13 := cell_blk (i := 3) d12
            have d14 := free_blk (i := 3) d12
            simp only [List.getElem?_toArray, List.getElem?_cons_zero, List.getElem?_cons_succ] at d13
            obtain ⟨a10, c10, rfl⟩ := form_of r1
            go_wp2
            refine HK2.out _ _ ?_; clear HK2
            have n12 : (w10.setCell ⟨g, 3, none⟩ (.slice a10 (k + 1) c10)).heap[g]? = some (.cells #[.int .i64 n, .int .i64 0, .int .i64 2, .slice a10 (k + 1) c10] 26 (0, 0)) := (heap_set_blk d12).trans rfl
            have nr := row_set_other (b := g) (i := 3) (x := (.slice a10 (k + 1) c10)) r1 (own_ne r1 d12 (by decide))
            have n15 := (heap_set_other (W := w10) (v := .slice a10 (k + 1) c10) (b' := g) (i := 3) (show g15 ≠ g by omega)).trans d15
            have nB : Below (w.heap.size + 2) WZ (w10.setCell ⟨g, 3, none⟩ (.slice a10 (k + 1) c10)) := (show Below (w.heap.size + 2) WZ w10 from ⟨ee1.trans hbr.os, ee2.trans hbr.tape, ee3.trans hbr.output, by have := hbr.size; omega, fun b hb => (hk10 b (by omega) (fun e => by have := (ro8.lt _ e).1; omega)).trans (hbr.block b hb)⟩).setCell (p := ⟨g, 3, none⟩) (by simp; omega) _
            have nW : g + 1 ≤ (w10.setCell ⟨g, 3, none⟩ (.slice a10 (k + 1) c10)).heap.size := by rw [World.size_setCell]; omega
            have NRA := Lib.hid (And.intro (RA10.keep (heap_set_other (W := w10) (v := .slice a10 (k + 1) c10) (b' := g) (i := 3) (show ga ≠ g by omega))) (And.intro (RB10.keep (heap_set_other (W := w10) (v := .slice a10 (k + 1) c10) (b' := g) (i := 3) (show gb ≠ g by omega))) HPL8.out.2.2))
            have e8 : (ss ++ [(⟨wn, vl, of⟩ : Smp)]).flatMap encS = ss.flatMap encS ++ encS ⟨wn, vl, of⟩ := by simp
            rw [← e8] at nr
            clear r1 r2 hk10 d12 d13 d14 d15 e8 b5 b15 e12 ro8 HPL8 HR10 hca0 hcb0 hbr RA10 RB10 ee1 ee2 ee3 hs10
            generalize World.setCell _ _ _ = w11 at *
            go_wp2
            have hga15 : ga ≠ g15 := by omega
            have hgb15 : gb ≠ g15 := by omega
            have wi : (wn : Int) < (n : Int) := by omega
            obtain ⟨A, hA⟩ : ∃ x, x = at0 L wn := ⟨_, rfl⟩
            obtain ⟨B, hB'⟩ : ∃ x, x = at0 H wn := ⟨_, rfl⟩
            have ra0 : w11.cell? ⟨ga, wn, none⟩ = some (.int .i64 A) := by rw [hA]; exact NRA.out.1.at_ (by rw [NRA.out.2.2.ln]; exact hwl)
            have rb0 : w11.cell? ⟨gb, wn, none⟩ = some (.int .i64 B) := by rw [hB']; exact NRA.out.2.1.at_ (by rw [NRA.out.2.2.hn]; exact hwl)
            have fa := NRA.out.1.free wn
            have fb := NRA.out.2.1.free wn
            have HA := Lib.hid hA
            have HB' := Lib.hid hB'
            clear hA hB'
            have k1 := c33 (q := vl - of) (by omega)
            have k2 := c33 (q := 12 * (vl - of)) (by omega)
            have k3 := c33 (q := vl + of) (by omega)
            have k4 := c33 (q := 12 * (vl + of)) (by omega)
            have z0 : w11.drew.cell? ⟨g15, 0, none⟩ = some (.int .i64 wn) := (cell_blk n15).trans rfl
            have z1 : w11.drew.cell? ⟨g15, 1, none⟩ = some (.int .i64 vl) := (cell_blk n15).trans rfl
            have z2 : w11.drew.cell? ⟨g15, 2, none⟩ = some (.int .i64 of) := (cell_blk n15).trans rfl
            have hR0 : w11.drew.cell? ⟨g15, 0, none⟩ = some (.int .i64 wn) ∧ w11.drew.cell? ⟨g15, 1, none⟩ = some (.int .i64 vl) ∧ w11.drew.cell? ⟨g15, 2, none⟩ = some (.int .i64 of) := ⟨z0, z1, z2⟩
            have hS0 : w11.drew.cell? ⟨ga, wn, none⟩ = some (.int .i64 A) ∧ w11.drew.cell? ⟨gb, wn, none⟩ = some (.int .i64 B) := ⟨ra0, rb0⟩
            clear z0 z1 z2
            refine wp_region_x (R := fun U => U.cell? ⟨g15, 0, none⟩ = some (.int .i64 wn) ∧ U.cell? ⟨g15, 1, none⟩ = some (.int .i64 vl) ∧ U.cell? ⟨g15, 2, none⟩ = some (.int .i64 of)) (S := fun U => U.cell? ⟨ga, wn, none⟩ = some (.int .i64 A) ∧ U.cell? ⟨gb, wn, none⟩ = some (.int .i64 B)) (z := 31) rfl ?_
            refine wpAnyX_keep (i := 0) (oi := { dst := some 68, op := _, type := _, pos := _, after := _, guard := none }) (v := ?_) rfl (by kernel_rfl) (by kernel_rfl) (by kernel_rfl) (fun _ _ _ h => h) (Or.inl ⟨by rfl, ?_⟩) ⟨hR0, fun _ => hS0⟩ ?_
            rotate_left
            · intro U hU
              go_simp
              all_goals with_reducible rfl
            simp only [Act.put, List.setIfInBounds_toArray, List.set_cons_zero, List.set_cons_succ]
            refine wpAnyX_keep (i := 1) (oi := { dst := some 69, op := _, type := _, pos := _, after := _, guard := none }) (v := ?_) rfl (by kernel_rfl) (by kernel_rfl) (by kernel_rfl) (fun _ _ _ h => h) (Or.inl ⟨by rfl, ?_⟩) ⟨hR0, fun _ => hS0⟩ ?_
            rotate_left
            · intro U hU
              go_simp
              all_goals with_reducible rfl
            simp only [Act.put, List.setIfInBounds_toArray, List.set_cons_zero, List.set_cons_succ]
            refine wpAnyX_keep (i := 2) (oi := { dst := some 70, op := _, type := _, pos := _, after := _, guard := none }) (v := ?_) rfl (by kernel_rfl) (by kernel_rfl) (by kernel_rfl) (fun _ _ _ h => h) (Or.inl ⟨by rfl, ?_⟩) ⟨hR0, fun _ => hS0⟩ ?_
            rotate_left
            · intro U hU
              obtain ⟨u0, u1, u2⟩ := hU
              go_simp
              all_goals with_reducible rfl
            simp only [Act.put, List.setIfInBounds_toArray, List.set_cons_zero, List.set_cons_succ]
            refine wpAnyX_keep (i := 3) (oi := { dst := some 71, op := _, type := _, pos := _, after := _, guard := none }) (v := ?_) rfl (by kernel_rfl) (by kernel_rfl) (by kernel_rfl) (fun _ _ _ h => h) (Or.inl ⟨by rfl, ?_⟩) ⟨hR0, fun _ => hS0⟩ ?_
            rotate_left
            · intro U hU
              go_simp
              all_goals with_reducible rfl
            simp only [Act.put, List.setIfInBounds_toArray, List.set_cons_zero, List.set_cons_succ]
            refine wpAnyX_keep (i := 4) (oi := { dst := some 72, op := _, type := _, pos := _, after := _, guard := none }) (v := ?_) rfl (by kernel_rfl) (by kernel_rfl) (by kernel_rfl) (fun _ _ _ h => h) (Or.inl ⟨by rfl, ?_⟩) ⟨hR0, fun _ => hS0⟩ ?_
            rotate_left
            · intro U hU
              go_simp
              all_goals with_reducible rfl
            simp only [Act.put, List.setIfInBounds_toArray, List.set_cons_zero, List.set_cons_succ]
            refine wpAnyX_keep (i := 5) (oi := { dst := some 73, op := _, type := _, pos := _, after := _, guard := none }) (v := ?_) rfl (by kernel_rfl) (by kernel_rfl) (by kernel_rfl) (fun _ _ _ h => h) (Or.inl ⟨by rfl, ?_⟩) ⟨hR0, fun _ => hS0⟩ ?_
            rotate_left
            · intro U hU
              obtain ⟨u0, u1, u2⟩ := hU
              go_simp
              all_goals with_reducible rfl
            simp only [Act.put, List.setIfInBounds_toArray, List.set_cons_zero, List.set_cons_succ]
            refine wpAnyX_keep (i := 6) (oi := { dst := some 74, op := _, type := _, pos := _, after := _, guard := none }) (v := ?_) rfl (by kernel_rfl) (by kernel_rfl) (by kernel_rfl) (fun _ _ _ h => h) (Or.inl ⟨by rfl, ?_⟩) ⟨hR0, fun _ => hS0⟩ ?_
            rotate_left
            · intro U hU
              go_simp
              all_goals with_reducible rfl
            simp only [Act.put, List.setIfInBounds_toArray, List.set_cons_zero, List.set_cons_succ]
            refine wpAnyX_keep (i := 7) (oi := { dst := some 75, op := _, type := _, pos := _, after := _, guard := none }) (v := ?_) rfl (by kernel_rfl) (by kernel_rfl) (by kernel_rfl) (fun _ _ _ h => h) (Or.inl ⟨by rfl, ?_⟩) ⟨hR0, fun _ => hS0⟩ ?_
            rotate_left
            · intro U hU
              go_simp
              all_goals with_reducible rfl
            simp only [Act.put, List.setIfInBounds_toArray, List.set_cons_zero, List.set_cons_succ]
            refine wpAnyX_keep (i := 8) (oi := { dst := some 76, op := _, type := _, pos := _, after := _, guard := none }) (v := ?_) rfl (by kernel_rfl) (by kernel_rfl) (by kernel_rfl) (fun _ _ _ h => h) (Or.inl ⟨by rfl, ?_⟩) ⟨hR0, fun _ => hS0⟩ ?_
            rotate_left
            · intro U hU
              obtain ⟨u0, u1, u2⟩ := hU
              go_simp
              all_goals with_reducible rfl
            simp only [Act.put, List.setIfInBounds_toArray, List.set_cons_zero, List.set_cons_succ]
            refine wpAnyX_keep (i := 9) (oi := { dst := some 77, op := _, type := _, pos := _, after := _, guard := none }) (v := ?_) rfl (by kernel_rfl) (by kernel_rfl) (by kernel_rfl) (fun _ _ _ h => h) (Or.inl ⟨by rfl, ?_⟩) ⟨hR0, fun _ => hS0⟩ ?_
            rotate_left
            · intro U hU
              go_simp
              all_goals with_reducible rfl
            simp only [Act.put, List.setIfInBounds_toArray, List.set_cons_zero, List.set_cons_succ]
            refine wpAnyX_take (i := 10) (oi := { dst := some 78, op := _, type := _, pos := _, after := _, guard := none }) (v := ?_) rfl (by kernel_rfl) (by kernel_rfl) (by kernel_rfl) (fun _ _ _ h => h) (Or.inl ⟨by rfl, ?_⟩) ⟨hR0, fun _ => hS0⟩ ?_
            rotate_left
            · intro U hU
              obtain ⟨-, u0, u1⟩ := hU
              go_simp
              all_goals with_reducible rfl
            simp only [Act.put, List.setIfInBounds_toArray, List.set_cons_zero, List.set_cons_succ]
            refine wpAnyX_keep (i := 11) (oi := { dst := some 79, op := _, type := _, pos := _, after := _, guard := none }) (v := ?_) rfl (by kernel_rfl) (by kernel_rfl) (by kernel_rfl) (fun _ _ _ h => h) (Or.inl ⟨by rfl, ?_⟩) ⟨hR0, fun _ => hS0⟩ ?_
            rotate_left
            · intro U hU
              go_simp
              all_goals with_reducible rfl
            simp only [Act.put, List.setIfInBounds_toArray, List.set_cons_zero, List.set_cons_succ]
            refine wpAnyX_keep (i := 12) (oi := { dst := some 80, op := _, type := _, pos := _, after := _, guard := none }) (v := ?_) rfl (by kernel_rfl) (by kernel_rfl) (by kernel_rfl) (fun _ _ _ h => h) (Or.inl ⟨by rfl, ?_⟩) ⟨hR0, fun _ => hS0⟩ ?_
            rotate_left
            · intro U hU
              obtain ⟨u0, u1, u2⟩ := hU
              go_simp
              all_goals with_reducible rfl
            simp only [Act.put, List.setIfInBounds_toArray, List.set_cons_zero, List.set_cons_succ]
            refine wpAnyX_keep (i := 13) (oi := { dst := some 81, op := _, type := _, pos := _, after := _, guard := none }) (v := ?_) rfl (by kernel_rfl) (by kernel_rfl) (by kernel_rfl) (fun _ _ _ h => h) (Or.inl ⟨by rfl, ?_⟩) ⟨hR0, fun _ => hS0⟩ ?_
            rotate_left
            · intro U hU
              go_simp
              all_goals with_reducible rfl
            simp only [Act.put, List.setIfInBounds_toArray, List.set_cons_zero, List.set_cons_succ]
            refine wpAnyX_keep (i := 14) (oi := { dst := some 82, op := _, type := _, pos := _, after := _, guard := none }) (v := ?_) rfl (by kernel_rfl) (by kernel_rfl) (by kernel_rfl) (fun _ _ _ h => h) (Or.inl ⟨by rfl, ?_⟩) ⟨hR0, fun _ => hS0⟩ ?_
            rotate_left
            · intro U hU
              obtain ⟨u0, u1, u2⟩ := hU
              go_simp
              all_goals with_reducible rfl
            simp only [Act.put, List.setIfInBounds_toArray, List.set_cons_zero, List.set_cons_succ]
            refine wpAnyX_keep (i := 15) (oi := { dst := some 83, op := _, type := _, pos := _, after := _, guard := none }) (v := ?_) rfl (by kernel_rfl) (by kernel_rfl) (by kernel_rfl) (fun _ _ _ h => h) (Or.inl ⟨by rfl, ?_⟩) ⟨hR0, fun _ => hS0⟩ ?_
            rotate_left
            · intro U hU
              go_simp
              all_goals with_reducible rfl
            simp only [Act.put, List.setIfInBounds_toArray, List.set_cons_zero, List.set_cons_succ]
            refine wpAnyX_keep (i := 16) (oi := { dst := some 84, op := _, type := _, pos := _, after := _, guard := none }) (v := ?_) rfl (by kernel_rfl) (by kernel_rfl) (by kernel_rfl) (fun _ _ _ h => h) (Or.inl ⟨by rfl, ?_⟩) ⟨hR0, fun _ => hS0⟩ ?_
            rotate_left
            · intro U hU
              go_simp
              all_goals with_reducible rfl
            simp only [Act.put, List.setIfInBounds_toArray, List.set_cons_zero, List.set_cons_succ]
            refine wpAnyX_keep (i := 17) (oi := { dst := some 85, op := _, type := _, pos := _, after := _, guard := none }) (v := .int .i64 (max (A) (12 * (vl - of)))) rfl (by kernel_rfl) (by kernel_rfl) (by kernel_rfl) (fun _ _ _ h => h) (Or.inl ⟨by rfl, ?_⟩) ⟨hR0, fun _ => hS0⟩ ?_
            · exact yields_max (.tmp 78) (.tmp 84) #[3, 3] (by rfl) (by rfl) (by rfl)
            simp only [Act.put, List.setIfInBounds_toArray, List.set_cons_zero, List.set_cons_succ]
            refine wpAnyX_keep (i := 18) (oi := { dst := some 86, op := _, type := _, pos := _, after := _, guard := none }) (v := ?_) rfl (by kernel_rfl) (by kernel_rfl) (by kernel_rfl) (fun _ _ _ h => h) (Or.inl ⟨by rfl, ?_⟩) ⟨hR0, fun _ => hS0⟩ ?_
            rotate_left
            · intro U hU
              go_simp
              all_goals with_reducible rfl
            simp only [Act.put, List.setIfInBounds_toArray, List.set_cons_zero, List.set_cons_succ]
            refine wpAnyX_keep (i := 19) (oi := { dst := some 87, op := _, type := _, pos := _, after := _, guard := none }) (v := ?_) rfl (by kernel_rfl) (by kernel_rfl) (by kernel_rfl) (fun _ _ _ h => h) (Or.inl ⟨by rfl, ?_⟩) ⟨hR0, fun _ => hS0⟩ ?_
            rotate_left
            · intro U hU
              go_simp
              all_goals with_reducible rfl
            simp only [Act.put, List.setIfInBounds_toArray, List.set_cons_zero, List.set_cons_succ]
            refine wpAnyX_keep (i := 20) (oi := { dst := some 88, op := _, type := _, pos := _, after := _, guard := none }) (v := ?_) rfl (by kernel_rfl) (by kernel_rfl) (by kernel_rfl) (fun _ _ _ h => h) (Or.inl ⟨by rfl, ?_⟩) ⟨hR0, fun _ => hS0⟩ ?_
            rotate_left
            · intro U hU
              obtain ⟨u0, u1, u2⟩ := hU
              go_simp
              all_goals with_reducible rfl
            simp only [Act.put, List.setIfInBounds_toArray, List.set_cons_zero, List.set_cons_succ]
            refine wpAnyX_keep (i := 21) (oi := { dst := some 89, op := _, type := _, pos := _, after := _, guard := none }) (v := ?_) rfl (by kernel_rfl) (by kernel_rfl) (by kernel_rfl) (fun _ _ _ h => h) (Or.inl ⟨by rfl, ?_⟩) ⟨hR0, fun _ => hS0⟩ ?_
            rotate_left
            · intro U hU
              go_simp
              all_goals with_reducible rfl
            simp only [Act.put, List.setIfInBounds_toArray, List.set_cons_zero, List.set_cons_succ]
            refine wpAnyX_take (i := 22) (oi := { dst := some 90, op := _, type := _, pos := _, after := _, guard := none }) (v := ?_) rfl (by kernel_rfl) (by kernel_rfl) (by kernel_rfl) (fun _ _ _ h => h) (Or.inl ⟨by rfl, ?_⟩) ⟨hR0, fun _ => hS0⟩ ?_
            rotate_left
            · intro U hU
              obtain ⟨-, u0, u1⟩ := hU
              go_simp
              all_goals with_reducible rfl
            simp only [Act.put, List.setIfInBounds_toArray, List.set_cons_zero, List.set_cons_succ]
            refine wpAnyX_keep (i := 23) (oi := { dst := some 91, op := _, type := _, pos := _, after := _, guard := none }) (v := ?_) rfl (by kernel_rfl) (by kernel_rfl) (by kernel_rfl) (fun _ _ _ h => h) (Or.inl ⟨by rfl, ?_⟩) ⟨hR0, fun _ => hS0⟩ ?_
            rotate_left
            · intro U hU
              go_simp
              all_goals with_reducible rfl
            simp only [Act.put, List.setIfInBounds_toArray, List.set_cons_zero, List.set_cons_succ]
            refine wpAnyX_keep (i := 24) (oi := { dst := some 92, op := _, type := _, pos := _, after := _, guard := none }) (v := ?_) rfl (by kernel_rfl) (by kernel_rfl) (by kernel_rfl) (fun _ _ _ h => h) (Or.inl ⟨by rfl, ?_⟩) ⟨hR0, fun _ => hS0⟩ ?_
            rotate_left
            · intro U hU
              obtain ⟨u0, u1, u2⟩ := hU
              go_simp
              all_goals with_reducible rfl
            simp only [Act.put, List.setIfInBounds_toArray, List.set_cons_zero, List.set_cons_succ]
            refine wpAnyX_keep (i := 25) (oi := { dst := some 93, op := _, type := _, pos := _, after := _, guard := none }) (v := ?_) rfl (by kernel_rfl) (by kernel_rfl) (by kernel_rfl) (fun _ _ _ h => h) (Or.inl ⟨by rfl, ?_⟩) ⟨hR0, fun _ => hS0⟩ ?_
            rotate_left
            · intro U hU
              go_simp
              all_goals with_reducible rfl
            simp only [Act.put, List.setIfInBounds_toArray, List.set_cons_zero, List.set_cons_succ]
            refine wpAnyX_keep (i := 26) (oi := { dst := some 94, op := _, type := _, pos := _, after := _, guard := none }) (v := ?_) rfl (by kernel_rfl) (by kernel_rfl) (by kernel_rfl) (fun _ _ _ h => h) (Or.inl ⟨by rfl, ?_⟩) ⟨hR0, fun _ => hS0⟩ ?_
            rotate_left
            · intro U hU
              obtain ⟨u0, u1, u2⟩ := hU
              go_simp
              all_goals with_reducible rfl
            simp only [Act.put, List.setIfInBounds_toArray, List.set_cons_zero, List.set_cons_succ]
            refine wpAnyX_keep (i := 27) (oi := { dst := some 95, op := _, type := _, pos := _, after := _, guard := none }) (v := ?_) rfl (by kernel_rfl) (by kernel_rfl) (by kernel_rfl) (fun _ _ _ h => h) (Or.inl ⟨by rfl, ?_⟩) ⟨hR0, fun _ => hS0⟩ ?_
            rotate_left
            · intro U hU
              go_simp
              all_goals with_reducible rfl
            simp only [Act.put, List.setIfInBounds_toArray, List.set_cons_zero, List.set_cons_succ]
            refine wpAnyX_keep (i := 28) (oi := { dst := some 96, op := _, type := _, pos := _, after := _, guard := none }) (v := ?_) rfl (by kernel_rfl) (by kernel_rfl) (by kernel_rfl) (fun _ _ _ h => h) (Or.inl ⟨by rfl, ?_⟩) ⟨hR0, fun _ => hS0⟩ ?_
            rotate_left
            · intro U hU
              go_simp
              all_goals with_reducible rfl
            simp only [Act.put, List.setIfInBounds_toArray, List.set_cons_zero, List.set_cons_succ]
            refine wpAnyX_keep (i := 29) (oi := { dst := some 97, op := _, type := _, pos := _, after := _, guard := none }) (v := .int .i64 (min (B) (12 * (vl + of)))) rfl (by kernel_rfl) (by kernel_rfl) (by kernel_rfl) (fun _ _ _ h => h) (Or.inl ⟨by rfl, ?_⟩) ⟨hR0, fun _ => hS0⟩ ?_
            · exact yields_min (.tmp 90) (.tmp 96) #[3, 3] (by rfl) (by rfl) (by rfl)
            simp only [Act.put, List.setIfInBounds_toArray, List.set_cons_zero, List.set_cons_succ]
            refine wpAnyX_keep (i := 30) (oi := { dst := some 98, op := _, type := _, pos := _, after := _, guard := none }) (v := ?_) rfl (by kernel_rfl) (by kernel_rfl) (by kernel_rfl) (fun _ _ _ h => h) (Or.inl ⟨by rfl, ?_⟩) ⟨hR0, fun _ => hS0⟩ ?_
            rotate_left
            · intro U hU
              go_simp
              all_goals with_reducible rfl
            simp only [Act.put, List.setIfInBounds_toArray, List.set_cons_zero, List.set_cons_succ]
            have hR1 : (fun U => U.cell? ⟨g15, 0, none⟩ = some (.int .i64 wn) ∧ U.cell? ⟨g15, 1, none⟩ = some (.int .i64 vl) ∧ U.cell? ⟨g15, 2, none⟩ = some (.int .i64 of)) (w11.setCell ⟨ga, wn, none⟩ (.int .i64 (max A (12 * (vl - of))))).drew := by
              have e := fun i => World.cell?_of_block (a := ⟨g15, i, none⟩) (heap_set_other (W := w11) (i := wn) (v := .int .i64 (max A (12 * (vl - of)))) (Ne.symm hga15))
              exact ⟨(e 0).trans hR0.1, (e 1).trans hR0.2.1, (e 2).trans hR0.2.2⟩
            refine wpAnyX_one (i := 31) (o := { dst := none, op := _, type := _, pos := _, after := _, guard := none }) (by kernel_rfl) rfl (by rfl) (fun K1 hK1 => ?_)
            have HK1 := Lib.hid hK1; clear hK1
            go_simp
            refine HK1.out _ _ ⟨hR1, fun h => by simp at h⟩ ?_
            clear HK1 K1
            try simp only [Act.put, List.setIfInBounds_toArray, List.set_cons_zero, List.set_cons_succ]
            have hR0 := hR1
            have rb0 : (w11.setCell ⟨ga, wn, none⟩ (.int .i64 (max A (12 * (vl - of))))).drew.cell? ⟨gb, wn, none⟩ = some (.int .i64 B) := (World.cell?_of_block (heap_set_other (W := w11) (i := wn) (v := .int .i64 (max A (12 * (vl - of)))) (Ne.symm hgab))).trans rb0
            refine wpAnyX_keep (i := 32) (oi := { dst := some 99, op := _, type := _, pos := _, after := _, guard := none }) (v := ?_) rfl (by kernel_rfl) (by kernel_rfl) (by kernel_rfl) (fun _ _ _ h => h) (Or.inl ⟨by rfl, ?_⟩) ⟨hR0, fun h => by simp at h⟩ ?_
            rotate_left
            · intro U hU
              go_simp
              all_goals with_reducible rfl
            simp only [Act.put, List.setIfInBounds_toArray, List.set_cons_zero, List.set_cons_succ]
            have hR2 : (fun U => U.cell? ⟨g15, 0, none⟩ = some (.int .i64 wn) ∧ U.cell? ⟨g15, 1, none⟩ = some (.int .i64 vl) ∧ U.cell? ⟨g15, 2, none⟩ = some (.int .i64 of)) ((w11.setCell ⟨ga, wn, none⟩ (.int .i64 (max A (12 * (vl - of))))).setCell ⟨gb, wn, none⟩ (.int .i64 (min B (12 * (vl + of))))).drew := by
              have e := fun i => World.cell?_of_block (a := ⟨g15, i, none⟩) (heap_set_other (W := w11.setCell ⟨ga, wn, none⟩ (.int .i64 (max A (12 * (vl - of))))) (i := wn) (v := .int .i64 (min B (12 * (vl + of)))) (Ne.symm hgb15))
              exact ⟨(e 0).trans hR1.1, (e 1).trans hR1.2.1, (e 2).trans hR1.2.2⟩
            refine wpAnyX_one (i := 33) (o := { dst := none, op := _, type := _, pos := _, after := _, guard := none }) (by kernel_rfl) rfl (by rfl) (fun K1 hK1 => ?_)
            have HK1 := Lib.hid hK1; clear hK1
            go_simp
            refine HK1.out _ _ ⟨hR2, fun h => by simp at h⟩ ?_
            clear HK1 K1
            try simp only [Act.put, List.setIfInBounds_toArray, List.set_cons_zero, List.set_cons_succ]
            refine wpAnyX_done (by kernel_rfl) ?_ _
            have NA := ((NRA.out.1.set (x := max A (12 * (vl - of))) (i := wn) (by rw [NRA.out.2.2.ln]; exact hwl)).keep (W' := (w11.setCell ⟨ga, wn, none⟩ (.int .i64 (max A (12 * (vl - of))))).setCell ⟨gb, wn, none⟩ (.int .i64 (min B (12 * (vl + of))))) (heap_set_other hgab))
            have NB := (NRA.out.2.1.keep (W' := w11.setCell ⟨ga, wn, none⟩ (.int .i64 (max A (12 * (vl - of))))) (heap_set_other (Ne.symm hgab))).set (x := min B (12 * (vl + of))) (i := wn) (by rw [NRA.out.2.2.hn]; exact hwl)
            have NP := NRA.out.2.2.step hwl hvb hob
            rw [← HA.out, ← HB'.out] at NP
            have HNP := Lib.hid (And.intro NA (And.intro NB NP))
            obtain ⟨ca0, hca0, -⟩ := NRA.out.1
            obtain ⟨cb0, hcb0, -⟩ := NRA.out.2.1
            have m12 := (heap_set_other (W := w11.setCell ⟨ga, wn, none⟩ (.int .i64 (max A (12 * (vl - of))))) (v := .int .i64 (min B (12 * (vl + of)))) (b' := gb) (i := wn) (show g ≠ gb by omega)).trans ((heap_set_other (W := w11) (v := .int .i64 (max A (12 * (vl - of)))) (b' := ga) (i := wn) (show g ≠ ga by omega)).trans n12)
            have mr := row_set_other (b := gb) (i := wn) (x := .int .i64 (min B (12 * (vl + of)))) (row_set_other (b := ga) (i := wn) (x := .int .i64 (max A (12 * (vl - of)))) nr (own_ne nr hca0 (by decide))) (own_ne nr hcb0 (by decide))
            have mB : Below (w.heap.size + 2) WZ ((w11.setCell ⟨ga, wn, none⟩ (.int .i64 (max A (12 * (vl - of))))).setCell ⟨gb, wn, none⟩ (.int .i64 (min B (12 * (vl + of))))) := (nB.setCell (p := ⟨ga, wn, none⟩) (by simp; omega) _).setCell (p := ⟨gb, wn, none⟩) (by simp; omega) _
            have mW : g + 1 ≤ ((w11.setCell ⟨ga, wn, none⟩ (.int .i64 (max A (12 * (vl - of))))).setCell ⟨gb, wn, none⟩ (.int .i64 (min B (12 * (vl + of))))).heap.size := by rw [World.size_setCell, World.size_setCell]; exact nW
            clear NA NB NP nr n12 n15 nB nW NRA hca0 hcb0 ra0 rb0 fa fb k1 k2 k3 k4 hR0 hR1 hR2 hS0
            generalize World.setCell (World.setCell _ _ _) _ _ = w12 at *
            have f12 : w12.drew.heap[g]? = _ := m12
            have fr : w12.drew.ownsRow _ _ _ _ _ _ := row_same mr (fun _ _ => rfl)
            have fB : Below (w.heap.size + 2) WZ w12.drew := mB.drew
            have fW : g + 1 ≤ w12.drew.heap.size := mW
            have fP : Hid (RowA w12.drew ga _ ∧ RowA w12.drew gb _ ∧ PlotI n (k + 1) _ _ _) := Lib.hid ⟨HNP.out.1.keep rfl, HNP.out.2.1.keep rfl, HNP.out.2.2⟩
            clear m12 mr mB mW HNP
            generalize World.drew _ = w13 at *
            go_wp2
            go_roundw
            case rel => exact ⟨k + 1, _, _, _, _, by omega, by go_num, fP, f12, fr, fB, fW⟩
            case measure => simp [intOf]; omega
          · have hBr : Below w.heap.size w wr := hBZ.trans (hbr.mono (by omega))
            obtain ⟨aq, cq', rfl⟩ := form_of ro
            have hkN2 : k = N := by omega
            have hP := HPL.out.2.2
            have hR : PlotR n ss L H := ⟨hn1.1, hn1.2, hP.ln, hP.hn, by rw [hP.len]; have := HNN.out; omega, hP.ok, hP.low, hP.high, hP.bl⟩
            have HR := Lib.hid hR
            have hSS : ∀ o, SlS (wr.putObj (w.heap.size + 1) o) (.slice aq k cq') ss := fun o => slG_own encS_len (row_putO ro (by omega : w.heap.size + 1 < g + 1)) hP.len.symm (by have := hR.len; omega)
            have lb2 := lt_blk bb2
            have hcab := HRA.out.2.2
            have hPA : RowA wr ga L := HPL.out.1
            have hPB : RowA wr gb H := HPL.out.2.1
            have hSL : ∀ o, SlI (wr.putObj (w.heap.size + 1) o) (.slice (some ⟨ga, 0, none⟩) n ca) L ∧ SlI (wr.putObj (w.heap.size + 1) o) (.slice (some ⟨gb, 0, none⟩) n cb) H := fun o => ⟨(hPA.keep (World.putObj_heap_other (by omega))).sl hP.ln.symm (by rw [hP.ln]; exact hcab.1) (by rw [hP.ln]; omega), (hPB.keep (World.putObj_heap_other (by omega))).sl hP.hn.symm (by rw [hP.hn]; exact hcab.2) (by rw [hP.hn]; omega)⟩
            have HSL := Lib.hid hSL
            have HSS := Lib.hid hSS
            clear hSS hSL hP hR hPA hPB hcab hkN2
            by_cases hk15 : (k : Int) < (sm.length : Int)
            · have hks : ¬ (k : Int) < 6 := by have := HNN.out; omega
              go_wp2
              refine HK.out _ _ ?_; clear HK
              go_wp2_with (first | (refine wpList_load_blk rfl 26 _ rfl _ rfl b5 Try.underlying26 rfl size26 rfl ?_) | (refine wpList_store_blk rfl 26 _ _ rfl _ rfl rfl bb2 size26 rfl rfl (by simp [Value.oneCell']) ?_))
              try simp +zetaDelta only [Exit.then, Exit.inBlock]
              exact bodyPost_ret (results_agg_tmp2 rfl _ _ (w.heap.size + 1) rfl (World.putObj_heap_same lb2) Try.underlying26 rfl size26 rfl) rfl ⟨n, _, ss, _, _, L, H, rfl, HSS.out _, (HSL.out _).1, (HSL.out _).2, HR.out, below_putObj hBr (by omega)⟩
            · skip
              go_wp2
              refine HK.out _ _ ?_; clear HK
              go_wp2_with (first | (refine wpList_load_blk rfl 26 _ rfl _ rfl b5 Try.underlying26 rfl size26 rfl ?_) | (refine wpList_store_blk rfl 26 _ _ rfl _ rfl rfl bb2 size26 rfl rfl (by simp [Value.oneCell']) ?_))
              try simp +zetaDelta only [Exit.then, Exit.inBlock]
              exact bodyPost_ret (results_agg_tmp2 rfl _ _ (w.heap.size + 1) rfl (World.putObj_heap_same lb2) Try.underlying26 rfl size26 rfl) rfl ⟨n, _, ss, _, _, L, H, rfl, HSS.out _, (HSL.out _).1, (HSL.out _).2, HR.out, below_putObj hBr (by omega)⟩
end Ytgnjeefanbcbkaa
end Go.Proofs
/- Fields, outright, plainly: what the program answers of a plot. -/
open Go Go.RowKit Go.YtgnjeefanbcbkaaIt
namespace Go.Proofs
namespace Ytgnjeefanbcbkaa
theorem plot_val {n : Nat} {ss : List Smp} {L H : List Int} (h : PlotR n ss L H) : Val n 0 2 ss :=
  ⟨h.n1, by have := h.n4; omega, by omega, by omega, by omega, by have := h.len; omega, fun i hi => by
    rw [at_lt hi]
    have := h.ok _ (List.getElem_mem hi)
    omega⟩
theorem plot_bd {n : Nat} {ss : List Smp} {L H : List Int} (h : PlotR n ss L H) (w : Nat) : (0 ≤ at0 L w ∧ at0 L w ≤ 24) ∧ 0 ≤ at0 H w ∧ at0 H w ≤ 24 := by
  by_cases hw : w < n
  · have := h.bl w hw; omega
  · have e1 : at0 L w = 0 := by
      unfold at0
      rw [List.getD_eq_getElem?_getD, List.getElem?_eq_none (by rw [h.ln]; omega)]; rfl
    have e2 : at0 H w = 0 := by
      unfold at0
      rw [List.getD_eq_getElem?_getD, List.getElem?_eq_none (by rw [h.hn]; omega)]; rfl
    omega
theorem plot_none {n : Nat} {ss : List Smp} {L H : List Int} (h : PlotR n ss L H) (he : enL (at0 L) (at0 H) n [] = []) : posE n 0 2 ss = 12 ∧ clE n 0 2 ss = 0 := by
  have h0 := chk_val (plot_val h)
  have h1 := (exact_none h.n4 h.low h.high).1 he
  constructor
  · unfold posE
    rw [if_neg (by rw [h0]; simp)]
    simp [h1]
  · unfold clE
    rw [if_neg (by rw [h0]; simp)]
    simp [h1]
theorem plot_some {n : Nat} {ss : List Smp} {L H : List Int} (h : PlotR n ss L H) (he : enL (at0 L) (at0 H) n [] ≠ []) : posE n 0 2 ss = 0 ∧ clE n 0 2 ss = 5 ∧ ExactA (lowAt 0 ss) (highAt 2 ss) n (enL (at0 L) (at0 H) n []) := by
  have h0 := chk_val (plot_val h)
  have h1 : noB (lowAt 0 ss) (highAt 2 ss) n = true := by
    by_cases hh : noB (lowAt 0 ss) (highAt 2 ss) n = true
    · exact hh
    · exact absurd ((exact_none h.n4 h.low h.high).2 (by simpa using hh)) he
  refine ⟨?_, ?_, exact_all h.n4 h.n1 (fun w hw => lowAt_ge w ss 0) h.low h.high h1⟩
  · unfold posE
    rw [if_neg (by rw [h0]; simp)]
    simp [h1]
  · unfold clE
    rw [if_neg (by rw [h0]; simp)]
    simp [h1]
/-- A season's numbers. -/
structure SeaBd (s : Sea) (w : Nat) : Prop where
  a : 0 ≤ s.least w ∧ s.least w ≤ 24
  b : 0 ≤ s.most w ∧ s.most w ≤ 24
  c : 0 ≤ s.loss w ∧ s.loss w ≤ 24
theorem sea_bd {n : Nat} {ss : List Smp} {L H : List Int} (h : PlotR n ss L H) (he : enL (at0 L) (at0 H) n [] ≠ []) {w : Nat} (hw : w < n) : SeaBd (seaOf (enL (at0 L) (at0 H) n [])) w := by
  obtain ⟨k, hk⟩ : ∃ k, (enL (at0 L) (at0 H) n []).length = k + 1 := ⟨(enL (at0 L) (at0 H) n []).length - 1, by have := List.length_pos_iff.2 he; omega⟩
  have hS := sea_w hw k _ hk fun l hl => by simpa using enL_len _ _ _ _ l hl
  have hb : ∀ l ∈ enL (at0 L) (at0 H) n [], ∀ j, j < n → 0 ≤ at0 l j ∧ at0 l j ≤ 24 := fun l hl j hj => by
    obtain ⟨h1, -, h3⟩ := (mem_enL _ _ _ _ _).1 hl
    have h4 := (h3 j (by simp) (by simp at h1; omega)).1
    have := plot_bd h j
    omega
  have ht : ∀ l ∈ enL (at0 L) (at0 H) n [], 0 ≤ topI l ∧ topI l ≤ 24 := fun l hl => topI_bd fun i hi => hb l hl i (by have := enL_len _ _ _ _ l hl; simp at this; omega)
  refine ⟨?_, ?_, ?_⟩
  · obtain ⟨l, hl, e⟩ := hS.least.1
    rw [e]; exact hb l hl w hw
  · obtain ⟨l, hl, e⟩ := hS.most.1
    rw [e]; exact hb l hl w hw
  · refine ⟨hS.loss2.1, ?_⟩
    rcases hS.loss with ⟨l, hl, e⟩ | e
    · have := hb l hl w hw
      have := ht l hl
      omega
    · omega
theorem sea_n {n : Nat} {ss : List Smp} {L H : List Int} (h : PlotR n ss L H) : (enL (at0 L) (at0 H) n []).length < 1000000 := by
  have h1 := enL_card (lo := at0 L) (hi := at0 H) (fun w => ⟨(plot_bd h w).1.1, (plot_bd h w).2.2⟩) n []
  have h2 : 25 ^ n ≤ 25 ^ 4 := Nat.pow_le_pow_right (by omega) h.n4
  have h3 : 25 ^ 4 = 390625 := rfl
  omega
theorem SeaB.zero {W : World} {b : Nat} (h : W.heap[b]? = some (.cells #[.int .i64 0, .int .i64 0, .int .i64 0, .int .i64 0, .int .i64 0, .int .i64 0, .int .i64 0, .int .i64 0, .int .i64 0, .int .i64 0, .int .i64 0, .int .i64 0, .bool false, .bool false, .bool false, .bool false, .int .i64 0] 77 (0, 0))) : SeaB W b sea0 :=
  ⟨_, h, rfl, fun w hw => by
    rcases (show w = 0 ∨ w = 1 ∨ w = 2 ∨ w = 3 by omega) with rfl | rfl | rfl | rfl <;> exact ⟨rfl, rfl, rfl, rfl⟩, rfl⟩
end Ytgnjeefanbcbkaa
end Go.Proofs
/- For every plot the law RipeExact returns true. -/
open Go Go.RowKit Go.YtgnjeefanbcbkaaIt
namespace Go.Proofs
namespace Ytgnjeefanbcbkaa
theorem clR_ver {n lo hi : Int} {ss : List Smp} {W : World} {v : Value} (h : ClR n lo hi ss W v) (h0 : clE n lo hi ss = 0) : ∃ xs, SlI W v xs ∧ xs.length = 3 ∧ verE n lo hi ss xs = 0 := by
  rcases h with ⟨-, m, i, j, k, rfl, qi, qj, qk, hh, hs⟩ | ⟨h, -⟩
  · refine ⟨_, hs, rfl, ?_⟩
    have h1 : chkE m lo hi ss = 0 := by
      unfold clE at h0
      by_cases h : chkE m lo hi ss ≠ 0
      · rw [if_pos h] at h0; exact absurd h0 h
      · simpa using h
    have q : ∀ x : Nat, x < m → btw 0 (x : Int) ((m : Int) - 1) = true := fun x hx => btw_true.2 ⟨by omega, by omega⟩
    unfold verE
    rw [if_neg (by simpa using h1), if_neg (by simp), if_neg (by simp [q i qi, q j qj, q k qk])]
    have e : hol (lowAt lo ss) (highAt hi ss) (at0 [(i : Int), (j : Int), (k : Int)] 0).toNat (at0 [(i : Int), (j : Int), (k : Int)] 1).toNat (at0 [(i : Int), (j : Int), (k : Int)] 2).toNat = hol (lowAt lo ss) (highAt hi ss) i j k := rfl
    rw [e, hh, if_pos rfl]
  · exact absurd h0 h
theorem size70 : (Try.prog.info? 70).map (·.size) = some 2 := by kernel_rfl
set_option maxRecDepth 100000 in
set_option maxHeartbeats 8000000 in
theorem ripeexact_any (wk : Int) (vs : Value) (sm : List B3) (w : World) (hwk : 0 ≤ wk ∧ wk < 256) (hs : SlT w vs sm) :
    Calls Try.prog 8 #[.agg #[.int .u8 wk, vs]] w fun e w' => e = .returned (.bool true) ∧ Below w.heap.size w w' := by
  have hm35 := fun (W : World) (h : Below w.heap.size w W) => plot_any wk vs sm W hwk (hs.below h (Nat.le_refl _))
  obtain ⟨⟨sx, cx, rfl, -, -⟩, -⟩ := hs
  have HM35 := Lib.hid hm35
  clear hm35
  go_enter Try.func8, Try.ntmps8
  refine wp_seq_k (fun K hK => ?_)
  have HK := Lib.hid hK; clear hK
  go_wp2
  refine HK.out _ _ ?_; clear HK K
  generalize hw1 : World.alloc _ _ = w1
  obtain ⟨b2, B, hs1⟩ := blk1 hw1
  clear hw1
  refine wp_seq_k (fun K hK => ?_)
  have HK := Lib.hid hK; clear hK
  go_wp2_with (first | (refine wpList_load_blk rfl 70 _ rfl _ rfl b2 Try.underlying70 rfl size70 rfl ?_) | (go_at_call 35; refine (HM35.out _ B).mono ?_; rintro e w3 ⟨n, v, ss, pl, ph, L, H, rfl, hv, hl, hh, hP, hb⟩; obtain ⟨av, cv, rfl, -, -, -⟩ := id hv; obtain ⟨al, cl, rfl, -, -, -⟩ := id hl; obtain ⟨ah, ch, rfl, -, -, -⟩ := id hh))
  refine HK.out _ _ ?_; clear HK
  clear HM35 b2 hs1
  replace B := btr B hb (Nat.le_refl _)
  clear hb
  generalize hwn : World.alloc _ _ = wn
  obtain ⟨b3, hB5, hs5⟩ := blk1 hwn
  clear hwn
  replace hv := hv.below hB5 (Nat.le_refl _)
  replace hl := hl.below hB5 (Nat.le_refl _)
  replace hh := hh.below hB5 (Nat.le_refl _)
  replace B := btr B hB5 (Nat.le_refl _)
  clear hB5 hs5
  generalize w3.heap.size = g3 at *
  have hE0 : enL (at0 L) (at0 H) n [] = enL (at0 L) (at0 H) L.length [] := by rw [hP.ln]
  have hbd := plot_bd hP
  have HP := Lib.hid hP
  have hn4 : 1 ≤ n ∧ n ≤ 4 := ⟨hP.n1, hP.n4⟩
  have HV := Lib.hid hv
  have hwk := fun (W : World) (b : Nat) (hb : W.heap[b]? = some _) (hB : Below wn.heap.size wn W) (hbn : wn.heap.size ≤ b) => walk_any b _ _ L H (by rw [hP.ln]; exact hP.n4) (by rw [hP.hn, hP.ln]) hbd L.length [] (.slice none 0 0) sea0 W (by simp) (fun i hi => by simp at hi)
    ⟨hl.below hB (Nat.le_refl _), fun bv ov m c e => by
      injection e with e1 _ _
      obtain ⟨ad, cap, e', -, -, h3⟩ := hl
      injection e' with e2 _ _
      obtain ⟨b', o', e3, e4, -⟩ := h3 (by rw [hP.ln]; exact hP.n1)
      rw [e1] at e2
      rw [← e2] at e3
      injection e3 with e3
      injection e3 with e3 _ _
      omega⟩
    ⟨hh.below hB (Nat.le_refl _), fun bv ov m c e => by
      injection e with e1 _ _
      obtain ⟨ad, cap, e', -, -, h3⟩ := hh
      injection e' with e2 _ _
      obtain ⟨b', o', e3, e4, -⟩ := h3 (by rw [hP.hn]; exact hP.n1)
      rw [e1] at e2
      rw [← e2] at e3
      injection e3 with e3
      injection e3 with e3 _ _
      omega⟩ ⟨slI_nil _, fun bv ov m c e => by cases e⟩ (SeaB.zero hb) (by rw [← hE0]; have := sea_n hP; simp only [sea0]; omega)
  have HW := Lib.hid hwk
  have HLL := Lib.hid hP.ln
  clear hwk hl hh hv hbd hP
  refine wp_seq_k (fun K hK => ?_)
  have HK := Lib.hid hK; clear hK
  go_wp2
  refine HK.out _ _ ?_; clear HK
  have hB6 : Below wn.heap.size wn (wn.alloc (.cells #[.int .i64 0, .int .i64 0, .int .i64 0, .int .i64 0, .int .i64 0, .int .i64 0, .int .i64 0, .int .i64 0, .int .i64 0, .int .i64 0, .int .i64 0, .int .i64 0, .bool false, .bool false, .bool false, .bool false, .int .i64 0] 77)) := (Below.refl _ _).alloc (Nat.le_refl _) _
  have hcw := HW.out _ wn.heap.size (blkO (W := wn)) hB6 (Nat.le_refl _)
  have hs6 : wn.heap.size < (wn.alloc (.cells #[.int .i64 0, .int .i64 0, .int .i64 0, .int .i64 0, .int .i64 0, .int .i64 0, .int .i64 0, .int .i64 0, .int .i64 0, .int .i64 0, .int .i64 0, .int .i64 0, .bool false, .bool false, .bool false, .bool false, .int .i64 0] 77)).heap.size := by rw [World.size_alloc]; omega
  generalize World.alloc wn _ = wb at *
  have HCW := Lib.hid hcw
  clear HW hcw
  refine wp_seq_k (fun K hK => ?_)
  have HK := Lib.hid hK; clear hK
  go_wp2_with (go_at_call 36; refine HCW.out.mono ?_; rintro e w6 ⟨rfl, hS6, hM6⟩)
  refine HK.out _ _ ?_; clear HK HCW
  have hBW : Below wn.heap.size wn w6 := hB6.trans (bm_below_lo hM6 (Nat.le_refl _) (Nat.le_of_lt hs6))
  have HSE : Hid (SeaB w6 wn.heap.size (seaOf (enL (at0 L) (at0 H) n []))) := Lib.hid (by rw [HLL.out] at hS6; exact hS6)
  replace HV := Lib.hid (HV.out.below hBW (Nat.le_refl _))
  replace b3 := blk_keep b3 hBW
  replace B := btr B hBW (Nat.le_refl _)
  have hb6w : wn.heap.size < w6.heap.size := by have := hM6.size; omega
  clear hS6 hM6 hBW hB6 hs6 HLL
  generalize wn.heap.size = b6 at *
  obtain ⟨E, hE⟩ : ∃ E, E = enL (at0 L) (at0 H) n [] := ⟨_, rfl⟩
  rw [← hE] at HSE
  have HEE := Lib.hid hE
  by_cases hEn : E = []
  · have hno := plot_none HP.out (by rw [← hE]; exact hEn)
    have hc := known_any n 0 2 _ ss _ HV.out
    have hd := fun (W : World) (hB : Below w6.heap.size w6 W) => clashF_any n 0 2 _ ss W (HV.out.below hB (Nat.le_refl _))
    rw [hno.1] at hc
    rw [hno.2] at hd
    have HD := Lib.hid hd
    have hcl := hno.2
    have hcnt : w6.cell? ⟨b6, 16, none⟩ = some (.int .i64 0) := by have h := HSE.out.cnt; rw [hEn] at h; exact h
    have HNO := Lib.hid hno
    have hkn : knownL n 0 2 ss = [] := by unfold knownL; rw [if_neg (by rw [hno.1]; simp)]
    rw [hkn] at hc
    clear hE hEn hd hno hcl hkn
    refine wp_seq_k (fun K hK => ?_)
    have HK := Lib.hid hK; clear hK
    go_wp2_with (first | (refine wpList_load_blk rfl 26 _ rfl _ rfl b3 Try.underlying26 rfl size26 rfl ?_) | (go_at_call 14; refine hc.mono ?_; rintro e wc ⟨q1, rfl, k1, hb⟩; obtain ⟨a1, c1, rfl, -, -, -⟩ := id k1))
    refine HK.out _ _ ?_; clear HK
    replace b3 := blk_keep b3 hb
    have hb1 := hb
    clear hb k1 hc
    refine wp_seq_k (fun K hK => ?_)
    have HK := Lib.hid hK; clear hK
    go_wp2_with (first | (refine wpList_load_blk rfl 26 _ rfl _ rfl b3 Try.underlying26 rfl size26 rfl ?_) | (go_at_call 20; refine (HD.out _ hb1).mono ?_; rintro e wd ⟨q2, rfl, k2, hb⟩))
    refine HK.out _ _ ?_; clear HK
    replace b3 := blk_keep b3 hb
    have hb2 := btr hb1 hb (Nat.le_refl _)
    replace hcnt := (hb2.cell (p := ⟨b6, 16, none⟩) hb6w).trans hcnt
    obtain ⟨xs, hxs, -, hver⟩ := clR_ver k2 HNO.out.2
    obtain ⟨ax, cx2, rfl, -, -, -⟩ := id hxs
    have hvf := verify_any n 0 2 _ _ ss xs wd (HV.out.below hb2 (Nat.le_refl _)) hxs
    rw [hver] at hvf
    have HVF := Lib.hid hvf
    have HB := Lib.hid (btr B hb2 (Nat.le_refl _))
    clear hvf hver hxs k2 hb HD hb1 hb2 HNO B
    go_wp2_with (first | (refine wpList_load_blk rfl 26 _ rfl _ rfl b3 Try.underlying26 rfl size26 rfl ?_) | (go_at_call 22; refine HVF.out.mono ?_; rintro e wf ⟨rfl, hbf⟩) | (go_at_call 13; refine (works_any _).mono ?_; rintro e w9 ⟨rfl, hb9⟩))
    go_ret
    exact ⟨rfl, btr (btr HB.out hbf (Nat.le_refl _)) hb9 (Nat.le_refl _)⟩
  · have hso := plot_some HP.out (by rw [← hE]; exact hEn)
    have hsb := fun j (hj : j < n) => sea_bd HP.out (by rw [← hE]; exact hEn) hj
    rw [← hE] at hso hsb
    obtain ⟨hp0, hc5, hX⟩ := hso
    have hcn : (seaOf E).count = E.length := sea_count E
    have hcl : E.length < 1000000 := by rw [hE]; exact sea_n HP.out
    have hcp : 0 < E.length := List.length_pos_iff.2 hEn
    obtain ⟨s, hs⟩ : ∃ s, s = seaOf E := ⟨_, rfl⟩
    obtain ⟨xlo, xhi, xreg, xpk, xcut⟩ := hX
    rw [← hs] at HSE hsb hcn xlo xhi xreg xpk xcut
    obtain ⟨cN, hcN⟩ : ∃ c, c = s.count := ⟨_, rfl⟩
    have AKN : Hid (knownL n 0 2 ss = (List.range n).map fun j => (s.least j / 12, (s.most j + 11) / 12)) := Lib.hid (by
      unfold knownL
      rw [if_pos hp0]
      refine List.map_congr_left fun j hj => ?_
      have hj' : j < n := by simpa using hj
      exact Prod.ext (xlo j hj') (xhi j hj'))
    have ARG : Hid (∀ j : Nat, j < n → regretE n 0 2 ss j = 0 ∧ regretV n 0 2 ss j = (s.loss j + 11) / 12) := Lib.hid (fun j hj => by
      obtain ⟨h1, h2⟩ := regret_at hp0 hj
      exact ⟨h1, h2.trans (xreg j hj)⟩)
    have APK : Hid (∀ j : Nat, j < n → decide ((j : Int) ∈ peaksL n 0 2 ss) = s.peak j) := Lib.hid (fun j hj => by
      unfold peaksL
      rw [if_pos hp0, ← xpk j hj, Bool.eq_iff_iff, decide_eq_true_iff]
      exact mem_chosen.trans ⟨fun h => h.2, fun h => ⟨hj, h⟩⟩)
    have hbn : bestS s.loss (n - 1) < n := by have := bestS_le s.loss (n - 1); omega
    have ACW : Hid (cutW n 0 2 ss = (bestS s.loss (n - 1) : Int) ∧ cutV n 0 2 ss = (s.loss (bestS s.loss (n - 1)) + 11) / 12) := Lib.hid (by
      unfold cutW cutV
      rw [if_pos hp0, if_pos hp0]
      simp only [Int.toNat_natCast]
      rw [xcut]
      exact ⟨rfl, xreg _ hbn⟩)
    have HSB := Lib.hid hsb
    have HP0 := Lib.hid hp0
    have hc := known_any n 0 2 _ ss _ HV.out
    rw [hp0, AKN.out] at hc
    have hd := fun (W : World) (hB : Below w6.heap.size w6 W) => clashF_any n 0 2 _ ss W (HV.out.below hB (Nat.le_refl _))
    rw [hc5] at hd
    have HD := Lib.hid hd
    have hcnt := HSE.out.cnt
    rw [← hcN] at hcnt
    have hc0 : ((cN : Int) == 0) = false := by simp; omega
    clear hE hEn xlo xhi xreg xpk xcut hp0 hs hcn hcl hcp hd hsb hcN
    refine wp_seq_k (fun K hK => ?_)
    have HK := Lib.hid hK; clear hK
    go_wp2_with (first | (refine wpList_load_blk rfl 26 _ rfl _ rfl b3 Try.underlying26 rfl size26 rfl ?_) | (go_at_call 14; refine hc.mono ?_; rintro e wc ⟨q1, rfl, k1, hb⟩; obtain ⟨a1, c1, rfl, -, -, -⟩ := id k1; simp only [List.length_map, List.length_range] at k1))
    refine HK.out _ _ ?_; clear HK
    replace b3 := blk_keep b3 hb
    have hb1 := hb
    have HK1 := Lib.hid k1
    clear hb k1 hc
    refine wp_seq_k (fun K hK => ?_)
    have HK := Lib.hid hK; clear hK
    go_wp2_with (first | (refine wpList_load_blk rfl 26 _ rfl _ rfl b3 Try.underlying26 rfl size26 rfl ?_) | (go_at_call 20; refine (HD.out _ hb1).mono ?_; rintro e wd ⟨q2, rfl, k2, hb⟩))
    refine HK.out _ _ ?_; clear HK
    replace b3 := blk_keep b3 hb
    have hb2 := btr hb1 hb (Nat.le_refl _)
    replace hcnt := (hb2.cell (p := ⟨b6, 16, none⟩) hb6w).trans hcnt
    replace HK1 := Lib.hid (HK1.out.below hb (Nat.le_refl _))
    replace HV := Lib.hid (HV.out.below hb2 (Nat.le_refl _))
    replace HSE := Lib.hid (HSE.out.below hb2 (Nat.le_refl _))
    replace B := btr B hb2 (Nat.le_refl _)
    have hb6d : b6 < wd.heap.size := by have := hb2.size; omega
    clear k2 hb hb1 hb2 HD hb6w
    refine wp_seq_k (fun K hK => ?_)
    have HK := Lib.hid hK; clear hK
    go_wp2
    refine HK.out _ _ ?_; clear HK
    have hc := peaks_any n 0 2 _ ss _ HV.out
    rw [HP0.out] at hc
    obtain ⟨PL, hPL⟩ : ∃ l, l = peaksL n 0 2 ss := ⟨_, rfl⟩
    rw [← hPL] at hc APK
    clear hPL hcnt
    refine wp_seq_k (fun K hK => ?_)
    have HK := Lib.hid hK; clear hK
    go_wp2_with (first | (refine wpList_load_blk rfl 26 _ rfl _ rfl b3 Try.underlying26 rfl size26 rfl ?_) | (go_at_call 24; refine hc.mono ?_; rintro e wc2 ⟨q3, rfl, k2, hb⟩; obtain ⟨a2, c2, rfl, -, -, -⟩ := id k2))
    refine HK.out _ _ ?_; clear HK
    replace b3 := blk_keep b3 hb
    replace HK1 := Lib.hid (HK1.out.below hb (Nat.le_refl _))
    replace HV := Lib.hid (HV.out.below hb (Nat.le_refl _))
    replace HSE := Lib.hid (HSE.out.below hb (Nat.le_refl _))
    replace B := btr B hb (Nat.le_refl _)
    have hb6e : b6 < wc2.heap.size := by have := hb.size; omega
    have HK2 := Lib.hid k2
    clear hb k2 hc hb6d
    have hc := cut_any n 0 2 _ ss _ HV.out
    rw [HP0.out, ACW.out.1, ACW.out.2] at hc
    obtain ⟨BS, hBS⟩ : ∃ x, x = bestS s.loss (n - 1) := ⟨_, rfl⟩
    rw [← hBS] at hc hbn
    refine wp_seq_k (fun K hK => ?_)
    have HK := Lib.hid hK; clear hK
    obtain ⟨CV, hCV⟩ : ∃ x, x = (s.loss BS + 11) / 12 := ⟨_, rfl⟩
    rw [← hCV] at hc
    have HBS := Lib.hid hBS
    have HCV := Lib.hid hCV
    clear hBS hCV ACW
    go_wp2_with (first | (refine wpList_load_blk rfl 26 _ rfl _ rfl b3 Try.underlying26 rfl size26 rfl ?_) | (go_at_call 31; refine hc.mono ?_; rintro e wz ⟨rfl, hb⟩))
    refine HK.out _ _ ?_; clear HK
    replace b3 := blk_keep b3 hb
    replace HK1 := Lib.hid (HK1.out.below hb (Nat.le_refl _))
    replace HK2 := Lib.hid (HK2.out.below hb (Nat.le_refl _))
    replace HV := Lib.hid (HV.out.below hb (Nat.le_refl _))
    replace HSE := Lib.hid (HSE.out.below hb (Nat.le_refl _))
    replace B := btr B hb (Nat.le_refl _)
    have hb6z : b6 < wz.heap.size := by have := hb.size; omega
    clear hb hc hb6e
    have c0 := cell_blk (i := 0) b3
    simp only [List.getElem?_toArray, List.getElem?_cons_zero] at c0
    refine wp_seq_k (fun K hK => ?_)
    have HK := Lib.hid hK; clear hK
    go_wp2
    refine HK.out _ _ ?_; clear HK
    refine wp_seq_k (fun K hK => ?_)
    have HK := Lib.hid hK; clear hK
    go_wp2
    refine HK.out _ _ ?_; clear HK
    refine wp_seq_k (fun K hK => ?_)
    have HK := Lib.hid hK; clear hK
    go_wp2
    go_loopw [16, 17] (fun t i wr => ∃ j : Nat, j ≤ n ∧ t = .int .i64 (bestS s.loss (j - 1) : Nat) ∧ i = .int .i64 j ∧ Below wz.heap.size wz wr) (fun _ i _ => n - (intOf i).toNat)
    case atStart => exact ⟨0, Nat.zero_le _, rfl, rfl, Below.refl _ _⟩
    case round =>
      obtain ⟨j, hj, rfl, rfl, hB⟩ := hrel
      have lt3 := lt_blk b3
      replace c0 := (hB.cell (p := ⟨g3, 0, none⟩) lt3).trans c0
      by_cases hjn : j < n
      · have hji : (j : Int) < (n : Int) := by omega
        have hj4 : j < 4 := by omega
        have hj4i : (j : Int) < 4 := by omega
        have e5 := blk_keep b3 hB
        have hV := HV.out.below hB (Nat.le_refl _)
        have hr29 := regretF_any n 0 2 _ ss j _ hV
        rw [(ARG.out j hjn).1, (ARG.out j hjn).2] at hr29
        obtain ⟨bk, ok, rfl, hltk, hck⟩ := sr_cell HK1.out (by omega : 0 < n)
        obtain ⟨f1, f2⟩ := hck j hjn
        obtain ⟨ca, cb, cc, cd⟩ := HSE.out.cells hj4
        obtain ⟨bs, hbs⟩ : ∃ b, b = bestS s.loss (j - 1) := ⟨_, rfl⟩
        have hbsn : bs < 4 := by have := bestS_le s.loss (j - 1); omega
        have hbsi : (bs : Int) < 4 := by omega
        obtain ⟨-, -, ce, -⟩ := HSE.out.cells hbsn
        have sb := HSB.out j hjn
        have hpk := APK.out j hjn
        have HBS2 := Lib.hid hbs
        rw [← hbs]
        have sba := sb.a
        have sbb := sb.b
        have sbc := sb.c
        have HX := Lib.hid (show bestS s.loss j = if s.loss j < s.loss bs then j else bs by
          rw [hbs]
          cases j with
          | zero => simp [bestS]
          | succ j => rfl)
        clear hck hV hbs sb
        generalize s.least j = lo at *
        generalize s.most j = hi at *
        generalize s.loss j = ls at *
        generalize s.loss bs = lb at *
        generalize s.peak j = pk at *
        go_wp2_with (first | (refine wpList_load_blk rfl 26 _ rfl _ rfl e5 Try.underlying26 rfl size26 rfl ?_) | (go_at_call 29; refine hr29.mono ?_; rintro e w9 ⟨rfl, hb9⟩))
        rename_i K2 hK2
        have HK2' := Lib.hid hK2; clear hK2
        have hB9 := btr hB hb9 (Nat.le_refl _)
        replace f1 := (hB9.cell (p := ⟨bk, ok + j * 2, none⟩) hltk).trans f1
        replace f2 := (hB9.cell (p := ⟨bk, ok + j * 2 + 1, none⟩) hltk).trans f2
        replace ca := (hB9.cell (p := ⟨b6, j, none⟩) hb6z).trans ca
        replace cb := (hB9.cell (p := ⟨b6, 4 + j, none⟩) hb6z).trans cb
        replace cc := (hB9.cell (p := ⟨b6, 8 + j, none⟩) hb6z).trans cc
        replace cd := (hB9.cell (p := ⟨b6, 12 + j, none⟩) hb6z).trans cd
        replace ce := (hB9.cell (p := ⟨b6, 8 + bs, none⟩) hb6z).trans ce
        have l6 : b6 < w9.heap.size := by have := hB9.size; omega
        have lk : bk < w9.heap.size := by have := hB9.size; omega
        have p2 := HK2.out.below hB9 (Nat.le_refl _)
        have M2 := Lib.hid (fun W (hW : Below w9.heap.size w9 W) => has_any _ PL j W (p2.below hW (Nat.le_refl _)))
        have HPK := Lib.hid hpk
        have hS0 : Below w9.heap.size w9 w9.drew := (Below.refl _ _).drew
        have t1 : lo.tdiv 12 = lo / 12 := Int.tdiv_eq_ediv_of_nonneg (by omega)
        have t2 : (hi + 11).tdiv 12 = (hi + 11) / 12 := Int.tdiv_eq_ediv_of_nonneg (by omega)
        have t3 : (ls + 11).tdiv 12 = (ls + 11) / 12 := Int.tdiv_eq_ediv_of_nonneg (by omega)
        have k1 := c33 (q := lo / 12) (by omega)
        have k2 := c33 (q := hi + 11) (by omega)
        have k3 := c33 (q := (hi + 11) / 12) (by omega)
        have k4 := c33 (q := ls + 11) (by omega)
        have k5 := c33 (q := (ls + 11) / 12) (by omega)
        clear hB hb9 p2 hr29 e5 c0 hpk
        refine wp_region_x (R := fun U => Below w9.heap.size w9 U) (S := fun _ => True) (z := 999) rfl ?_
        refine wpAnyX_keep (i := 0) (oi := { dst := some 111, op := _, type := _, pos := _, after := _, guard := none }) (v := ?_) rfl (by kernel_rfl) (by kernel_rfl) (by kernel_rfl) (fun _ _ _ h => h) (Or.inl ⟨by rfl, ?_⟩) ⟨hS0, fun _ => trivial⟩ ?_
        rotate_left
        · intro U hU
          go_simp
          all_goals with_reducible rfl
        simp only [Act.put, List.setIfInBounds_toArray, List.set_cons_zero, List.set_cons_succ]
        refine wpAnyX_keep (i := 1) (oi := { dst := some 112, op := _, type := _, pos := _, after := _, guard := none }) (v := ?_) rfl (by kernel_rfl) (by kernel_rfl) (by kernel_rfl) (fun _ _ _ h => h) (Or.inl ⟨by rfl, ?_⟩) ⟨hS0, fun _ => trivial⟩ ?_
        rotate_left
        · intro U hU
          go_simp
          all_goals with_reducible rfl
        simp only [Act.put, List.setIfInBounds_toArray, List.set_cons_zero, List.set_cons_succ]
        refine wpAnyX_keep (i := 2) (oi := { dst := some 113, op := _, type := _, pos := _, after := _, guard := none }) (v := ?_) rfl (by kernel_rfl) (by kernel_rfl) (by kernel_rfl) (fun _ _ _ h => h) (Or.inl ⟨by rfl, ?_⟩) ⟨hS0, fun _ => trivial⟩ ?_
        rotate_left
        · intro U hU
          go_simp
          all_goals with_reducible rfl
        simp only [Act.put, List.setIfInBounds_toArray, List.set_cons_zero, List.set_cons_succ]
        refine wpAnyX_keep (i := 3) (oi := { dst := some 114, op := _, type := _, pos := _, after := _, guard := some (2, false) }) (v := ?_) rfl (by kernel_rfl) (by kernel_rfl) (by kernel_rfl) (fun _ _ _ h => h) (Or.inl ⟨by rfl, ?_⟩) ⟨hS0, fun _ => trivial⟩ ?_
        rotate_left
        · intro U hU
          go_simp
          all_goals with_reducible rfl
        simp only [Act.put, List.setIfInBounds_toArray, List.set_cons_zero, List.set_cons_succ]
        refine wpAnyX_keep (i := 4) (oi := { dst := some 115, op := _, type := _, pos := _, after := _, guard := some (2, false) }) (v := ?_) rfl (by kernel_rfl) (by kernel_rfl) (by kernel_rfl) (fun _ _ _ h => h) (Or.inl ⟨by rfl, ?_⟩) ⟨hS0, fun _ => trivial⟩ ?_
        rotate_left
        · intro U hU
          go_simp
          all_goals with_reducible rfl
        simp only [Act.put, List.setIfInBounds_toArray, List.set_cons_zero, List.set_cons_succ]
        refine wpAnyX_keep (i := 5) (oi := { dst := some 116, op := _, type := _, pos := _, after := _, guard := some (2, false) }) (v := ?_) rfl (by kernel_rfl) (by kernel_rfl) (by kernel_rfl) (fun _ _ _ h => h) (Or.inl ⟨by rfl, ?_⟩) ⟨hS0, fun _ => trivial⟩ ?_
        rotate_left
        · intro U hU
          go_simp
          all_goals with_reducible rfl
        simp only [Act.put, List.setIfInBounds_toArray, List.set_cons_zero, List.set_cons_succ]
        refine wpAnyX_keep (i := 6) (oi := { dst := some 117, op := _, type := _, pos := _, after := _, guard := some (2, false) }) (v := ?_) rfl (by kernel_rfl) (by kernel_rfl) (by kernel_rfl) (fun _ _ _ h => h) (Or.inl ⟨by rfl, ?_⟩) ⟨hS0, fun _ => trivial⟩ ?_
        rotate_left
        · intro U hU
          go_simp
          all_goals with_reducible rfl
        simp only [Act.put, List.setIfInBounds_toArray, List.set_cons_zero, List.set_cons_succ]
        refine wpAnyX_keep (i := 7) (oi := { dst := some 118, op := _, type := _, pos := _, after := _, guard := some (2, false) }) (v := ?_) rfl (by kernel_rfl) (by kernel_rfl) (by kernel_rfl) (fun _ _ _ h => h) (Or.inl ⟨by rfl, ?_⟩) ⟨hS0, fun _ => trivial⟩ ?_
        rotate_left
        · intro U hU
          have u := (hU.cell (p := ⟨bk, ok + j * 2, none⟩) lk).trans f1
          go_simp
          all_goals with_reducible rfl
        simp only [Act.put, List.setIfInBounds_toArray, List.set_cons_zero, List.set_cons_succ]
        refine wpAnyX_keep (i := 8) (oi := { dst := some 119, op := _, type := _, pos := _, after := _, guard := some (2, false) }) (v := ?_) rfl (by kernel_rfl) (by kernel_rfl) (by kernel_rfl) (fun _ _ _ h => h) (Or.inl ⟨by rfl, ?_⟩) ⟨hS0, fun _ => trivial⟩ ?_
        rotate_left
        · intro U hU
          go_simp
          all_goals with_reducible rfl
        simp only [Act.put, List.setIfInBounds_toArray, List.set_cons_zero, List.set_cons_succ]
        refine wpAnyX_keep (i := 9) (oi := { dst := some 120, op := _, type := _, pos := _, after := _, guard := some (2, false) }) (v := ?_) rfl (by kernel_rfl) (by kernel_rfl) (by kernel_rfl) (fun _ _ _ h => h) (Or.inl ⟨by rfl, ?_⟩) ⟨hS0, fun _ => trivial⟩ ?_
        rotate_left
        · intro U hU
          go_simp
          all_goals with_reducible rfl
        simp only [Act.put, List.setIfInBounds_toArray, List.set_cons_zero, List.set_cons_succ]
        refine wpAnyX_keep (i := 10) (oi := { dst := some 121, op := _, type := _, pos := _, after := _, guard := some (2, false) }) (v := ?_) rfl (by kernel_rfl) (by kernel_rfl) (by kernel_rfl) (fun _ _ _ h => h) (Or.inl ⟨by rfl, ?_⟩) ⟨hS0, fun _ => trivial⟩ ?_
        rotate_left
        · intro U hU
          go_simp
          all_goals with_reducible rfl
        simp only [Act.put, List.setIfInBounds_toArray, List.set_cons_zero, List.set_cons_succ]
        refine wpAnyX_keep (i := 11) (oi := { dst := some 122, op := _, type := _, pos := _, after := _, guard := some (2, false) }) (v := ?_) rfl (by kernel_rfl) (by kernel_rfl) (by kernel_rfl) (fun _ _ _ h => h) (Or.inl ⟨by rfl, ?_⟩) ⟨hS0, fun _ => trivial⟩ ?_
        rotate_left
        · intro U hU
          go_simp
          all_goals with_reducible rfl
        simp only [Act.put, List.setIfInBounds_toArray, List.set_cons_zero, List.set_cons_succ]
        refine wpAnyX_keep (i := 12) (oi := { dst := some 123, op := _, type := _, pos := _, after := _, guard := some (2, false) }) (v := ?_) rfl (by kernel_rfl) (by kernel_rfl) (by kernel_rfl) (fun _ _ _ h => h) (Or.inl ⟨by rfl, ?_⟩) ⟨hS0, fun _ => trivial⟩ ?_
        rotate_left
        · intro U hU
          go_simp
          all_goals with_reducible rfl
        simp only [Act.put, List.setIfInBounds_toArray, List.set_cons_zero, List.set_cons_succ]
        refine wpAnyX_keep (i := 13) (oi := { dst := some 124, op := _, type := _, pos := _, after := _, guard := some (2, false) }) (v := ?_) rfl (by kernel_rfl) (by kernel_rfl) (by kernel_rfl) (fun _ _ _ h => h) (Or.inl ⟨by rfl, ?_⟩) ⟨hS0, fun _ => trivial⟩ ?_
        rotate_left
        · intro U hU
          have u := (hU.cell (p := ⟨b6, j, none⟩) l6).trans ca
          go_simp
          all_goals with_reducible rfl
        simp only [Act.put, List.setIfInBounds_toArray, List.set_cons_zero, List.set_cons_succ]
        refine wpAnyX_keep (i := 14) (oi := { dst := some 125, op := _, type := _, pos := _, after := _, guard := some (2, false) }) (v := ?_) rfl (by kernel_rfl) (by kernel_rfl) (by kernel_rfl) (fun _ _ _ h => h) (Or.inl ⟨by rfl, ?_⟩) ⟨hS0, fun _ => trivial⟩ ?_
        rotate_left
        · intro U hU
          go_simp
          all_goals with_reducible rfl
        simp only [Act.put, List.setIfInBounds_toArray, List.set_cons_zero, List.set_cons_succ]
        refine wpAnyX_keep (i := 15) (oi := { dst := some 126, op := _, type := _, pos := _, after := _, guard := some (2, false) }) (v := ?_) rfl (by kernel_rfl) (by kernel_rfl) (by kernel_rfl) (fun _ _ _ h => h) (Or.inl ⟨by rfl, ?_⟩) ⟨hS0, fun _ => trivial⟩ ?_
        rotate_left
        · intro U hU
          go_simp
          all_goals with_reducible rfl
        simp only [Act.put, List.setIfInBounds_toArray, List.set_cons_zero, List.set_cons_succ]
        refine wpAnyX_keep (i := 16) (oi := { dst := some 127, op := _, type := _, pos := _, after := _, guard := none }) (v := ?_) rfl (by kernel_rfl) (by kernel_rfl) (by kernel_rfl) (fun _ _ _ h => h) (Or.inl ⟨by rfl, ?_⟩) ⟨hS0, fun _ => trivial⟩ ?_
        rotate_left
        · intro U hU
          go_simp
          all_goals with_reducible rfl
        simp only [Act.put, List.setIfInBounds_toArray, List.set_cons_zero, List.set_cons_succ]
        refine wpAnyX_keep (i := 17) (oi := { dst := some 128, op := _, type := _, pos := _, after := _, guard := none }) (v := ?_) rfl (by kernel_rfl) (by kernel_rfl) (by kernel_rfl) (fun _ _ _ h => h) (Or.inl ⟨by rfl, ?_⟩) ⟨hS0, fun _ => trivial⟩ ?_
        rotate_left
        · intro U hU
          go_simp
          all_goals with_reducible rfl
        simp only [Act.put, List.setIfInBounds_toArray, List.set_cons_zero, List.set_cons_succ]
        refine wpAnyX_keep (i := 18) (oi := { dst := some 129, op := _, type := _, pos := _, after := _, guard := some (17, false) }) (v := ?_) rfl (by kernel_rfl) (by kernel_rfl) (by kernel_rfl) (fun _ _ _ h => h) (Or.inl ⟨by rfl, ?_⟩) ⟨hS0, fun _ => trivial⟩ ?_
        rotate_left
        · intro U hU
          go_simp
          all_goals with_reducible rfl
        simp only [Act.put, List.setIfInBounds_toArray, List.set_cons_zero, List.set_cons_succ]
        refine wpAnyX_keep (i := 19) (oi := { dst := some 130, op := _, type := _, pos := _, after := _, guard := some (17, false) }) (v := ?_) rfl (by kernel_rfl) (by kernel_rfl) (by kernel_rfl) (fun _ _ _ h => h) (Or.inl ⟨by rfl, ?_⟩) ⟨hS0, fun _ => trivial⟩ ?_
        rotate_left
        · intro U hU
          go_simp
          all_goals with_reducible rfl
        simp only [Act.put, List.setIfInBounds_toArray, List.set_cons_zero, List.set_cons_succ]
        refine wpAnyX_keep (i := 20) (oi := { dst := some 131, op := _, type := _, pos := _, after := _, guard := some (17, false) }) (v := ?_) rfl (by kernel_rfl) (by kernel_rfl) (by kernel_rfl) (fun _ _ _ h => h) (Or.inl ⟨by rfl, ?_⟩) ⟨hS0, fun _ => trivial⟩ ?_
        rotate_left
        · intro U hU
          go_simp
          all_goals with_reducible rfl
        simp only [Act.put, List.setIfInBounds_toArray, List.set_cons_zero, List.set_cons_succ]
        refine wpAnyX_keep (i := 21) (oi := { dst := some 132, op := _, type := _, pos := _, after := _, guard := some (17, false) }) (v := ?_) rfl (by kernel_rfl) (by kernel_rfl) (by kernel_rfl) (fun _ _ _ h => h) (Or.inl ⟨by rfl, ?_⟩) ⟨hS0, fun _ => trivial⟩ ?_
        rotate_left
        · intro U hU
          go_simp
          all_goals with_reducible rfl
        simp only [Act.put, List.setIfInBounds_toArray, List.set_cons_zero, List.set_cons_succ]
        refine wpAnyX_keep (i := 22) (oi := { dst := some 133, op := _, type := _, pos := _, after := _, guard := some (17, false) }) (v := ?_) rfl (by kernel_rfl) (by kernel_rfl) (by kernel_rfl) (fun _ _ _ h => h) (Or.inl ⟨by rfl, ?_⟩) ⟨hS0, fun _ => trivial⟩ ?_
        rotate_left
        · intro U hU
          have u := (hU.cell (p := ⟨bk, ok + j * 2 + 1, none⟩) lk).trans f2
          go_simp
          all_goals with_reducible rfl
        simp only [Act.put, List.setIfInBounds_toArray, List.set_cons_zero, List.set_cons_succ]
        refine wpAnyX_keep (i := 23) (oi := { dst := some 134, op := _, type := _, pos := _, after := _, guard := some (17, false) }) (v := ?_) rfl (by kernel_rfl) (by kernel_rfl) (by kernel_rfl) (fun _ _ _ h => h) (Or.inl ⟨by rfl, ?_⟩) ⟨hS0, fun _ => trivial⟩ ?_
        rotate_left
        · intro U hU
          go_simp
          all_goals with_reducible rfl
        simp only [Act.put, List.setIfInBounds_toArray, List.set_cons_zero, List.set_cons_succ]
        refine wpAnyX_keep (i := 24) (oi := { dst := some 135, op := _, type := _, pos := _, after := _, guard := some (17, false) }) (v := ?_) rfl (by kernel_rfl) (by kernel_rfl) (by kernel_rfl) (fun _ _ _ h => h) (Or.inl ⟨by rfl, ?_⟩) ⟨hS0, fun _ => trivial⟩ ?_
        rotate_left
        · intro U hU
          go_simp
          all_goals with_reducible rfl
        simp only [Act.put, List.setIfInBounds_toArray, List.set_cons_zero, List.set_cons_succ]
        refine wpAnyX_keep (i := 25) (oi := { dst := some 136, op := _, type := _, pos := _, after := _, guard := some (17, false) }) (v := ?_) rfl (by kernel_rfl) (by kernel_rfl) (by kernel_rfl) (fun _ _ _ h => h) (Or.inl ⟨by rfl, ?_⟩) ⟨hS0, fun _ => trivial⟩ ?_
        rotate_left
        · intro U hU
          go_simp
          all_goals with_reducible rfl
        simp only [Act.put, List.setIfInBounds_toArray, List.set_cons_zero, List.set_cons_succ]
        refine wpAnyX_keep (i := 26) (oi := { dst := some 137, op := _, type := _, pos := _, after := _, guard := some (17, false) }) (v := ?_) rfl (by kernel_rfl) (by kernel_rfl) (by kernel_rfl) (fun _ _ _ h => h) (Or.inl ⟨by rfl, ?_⟩) ⟨hS0, fun _ => trivial⟩ ?_
        rotate_left
        · intro U hU
          go_simp
          all_goals with_reducible rfl
        simp only [Act.put, List.setIfInBounds_toArray, List.set_cons_zero, List.set_cons_succ]
        refine wpAnyX_keep (i := 27) (oi := { dst := some 138, op := _, type := _, pos := _, after := _, guard := some (17, false) }) (v := ?_) rfl (by kernel_rfl) (by kernel_rfl) (by kernel_rfl) (fun _ _ _ h => h) (Or.inl ⟨by rfl, ?_⟩) ⟨hS0, fun _ => trivial⟩ ?_
        rotate_left
        · intro U hU
          go_simp
          all_goals with_reducible rfl
        simp only [Act.put, List.setIfInBounds_toArray, List.set_cons_zero, List.set_cons_succ]
        refine wpAnyX_keep (i := 28) (oi := { dst := some 139, op := _, type := _, pos := _, after := _, guard := some (17, false) }) (v := ?_) rfl (by kernel_rfl) (by kernel_rfl) (by kernel_rfl) (fun _ _ _ h => h) (Or.inl ⟨by rfl, ?_⟩) ⟨hS0, fun _ => trivial⟩ ?_
        rotate_left
        · intro U hU
          have u := (hU.cell (p := ⟨b6, 4 + j, none⟩) l6).trans cb
          go_simp
          all_goals with_reducible rfl
        simp only [Act.put, List.setIfInBounds_toArray, List.set_cons_zero, List.set_cons_succ]
        refine wpAnyX_keep (i := 29) (oi := { dst := some 140, op := _, type := _, pos := _, after := _, guard := some (17, false) }) (v := ?_) rfl (by kernel_rfl) (by kernel_rfl) (by kernel_rfl) (fun _ _ _ h => h) (Or.inl ⟨by rfl, ?_⟩) ⟨hS0, fun _ => trivial⟩ ?_
        rotate_left
        · intro U hU
          go_simp
          all_goals with_reducible rfl
        simp only [Act.put, List.setIfInBounds_toArray, List.set_cons_zero, List.set_cons_succ]
        refine wpAnyX_keep (i := 30) (oi := { dst := some 141, op := _, type := _, pos := _, after := _, guard := some (17, false) }) (v := ?_) rfl (by kernel_rfl) (by kernel_rfl) (by kernel_rfl) (fun _ _ _ h => h) (Or.inl ⟨by rfl, ?_⟩) ⟨hS0, fun _ => trivial⟩ ?_
        rotate_left
        · intro U hU
          go_simp
          all_goals with_reducible rfl
        simp only [Act.put, List.setIfInBounds_toArray, List.set_cons_zero, List.set_cons_succ]
        refine wpAnyX_keep (i := 31) (oi := { dst := some 142, op := _, type := _, pos := _, after := _, guard := some (17, false) }) (v := ?_) rfl (by kernel_rfl) (by kernel_rfl) (by kernel_rfl) (fun _ _ _ h => h) (Or.inl ⟨by rfl, ?_⟩) ⟨hS0, fun _ => trivial⟩ ?_
        rotate_left
        · intro U hU
          go_simp
          all_goals with_reducible rfl
        simp only [Act.put, List.setIfInBounds_toArray, List.set_cons_zero, List.set_cons_succ]
        refine wpAnyX_keep (i := 32) (oi := { dst := some 143, op := _, type := _, pos := _, after := _, guard := none }) (v := ?_) rfl (by kernel_rfl) (by kernel_rfl) (by kernel_rfl) (fun _ _ _ h => h) (Or.inl ⟨by rfl, ?_⟩) ⟨hS0, fun _ => trivial⟩ ?_
        rotate_left
        · intro U hU
          go_simp
          all_goals with_reducible rfl
        simp only [Act.put, List.setIfInBounds_toArray, List.set_cons_zero, List.set_cons_succ]
        refine wpAnyX_keep (i := 33) (oi := { dst := some 144, op := _, type := _, pos := _, after := _, guard := none }) (v := ?_) rfl (by kernel_rfl) (by kernel_rfl) (by kernel_rfl) (fun _ _ _ h => h) (Or.inl ⟨by rfl, ?_⟩) ⟨hS0, fun _ => trivial⟩ ?_
        rotate_left
        · intro U hU
          go_simp
          all_goals with_reducible rfl
        simp only [Act.put, List.setIfInBounds_toArray, List.set_cons_zero, List.set_cons_succ]
        refine wpAnyX_keep (i := 34) (oi := { dst := some 145, op := _, type := _, pos := _, after := _, guard := some (33, false) }) (v := ?_) rfl (by kernel_rfl) (by kernel_rfl) (by kernel_rfl) (fun _ _ _ h => h) (Or.inl ⟨by rfl, ?_⟩) ⟨hS0, fun _ => trivial⟩ ?_
        rotate_left
        · intro U hU
          go_simp
          all_goals with_reducible rfl
        simp only [Act.put, List.setIfInBounds_toArray, List.set_cons_zero, List.set_cons_succ]
        refine wpAnyX_keep (i := 35) (oi := { dst := some 146, op := _, type := _, pos := _, after := _, guard := some (33, false) }) (v := ?_) rfl (by kernel_rfl) (by kernel_rfl) (by kernel_rfl) (fun _ _ _ h => h) (Or.inl ⟨by rfl, ?_⟩) ⟨hS0, fun _ => trivial⟩ ?_
        rotate_left
        · intro U hU
          go_simp
          all_goals with_reducible rfl
        simp only [Act.put, List.setIfInBounds_toArray, List.set_cons_zero, List.set_cons_succ]
        refine wpAnyX_keep (i := 37) (oi := { dst := some 148, op := _, type := _, pos := _, after := _, guard := some (33, false) }) (v := ?_) rfl (by kernel_rfl) (by kernel_rfl) (by kernel_rfl) (fun _ _ _ h => h) (Or.inl ⟨by rfl, ?_⟩) ⟨hS0, fun _ => trivial⟩ ?_
        rotate_left
        · intro U hU
          go_simp
          all_goals with_reducible rfl
        simp only [Act.put, List.setIfInBounds_toArray, List.set_cons_zero, List.set_cons_succ]
        refine wpAnyX_keep (i := 38) (oi := { dst := some 149, op := _, type := _, pos := _, after := _, guard := some (33, false) }) (v := ?_) rfl (by kernel_rfl) (by kernel_rfl) (by kernel_rfl) (fun _ _ _ h => h) (Or.inl ⟨by rfl, ?_⟩) ⟨hS0, fun _ => trivial⟩ ?_
        rotate_left
        · intro U hU
          go_simp
          all_goals with_reducible rfl
        simp only [Act.put, List.setIfInBounds_toArray, List.set_cons_zero, List.set_cons_succ]
        refine wpAnyX_keep (i := 39) (oi := { dst := some 150, op := _, type := _, pos := _, after := _, guard := some (33, false) }) (v := ?_) rfl (by kernel_rfl) (by kernel_rfl) (by kernel_rfl) (fun _ _ _ h => h) (Or.inl ⟨by rfl, ?_⟩) ⟨hS0, fun _ => trivial⟩ ?_
        rotate_left
        · intro U hU
          go_simp
          all_goals with_reducible rfl
        simp only [Act.put, List.setIfInBounds_toArray, List.set_cons_zero, List.set_cons_succ]
        refine wpAnyX_keep (i := 40) (oi := { dst := some 151, op := _, type := _, pos := _, after := _, guard := some (33, false) }) (v := ?_) rfl (by kernel_rfl) (by kernel_rfl) (by kernel_rfl) (fun _ _ _ h => h) (Or.inl ⟨by rfl, ?_⟩) ⟨hS0, fun _ => trivial⟩ ?_
        rotate_left
        · intro U hU
          go_simp
          all_goals with_reducible rfl
        simp only [Act.put, List.setIfInBounds_toArray, List.set_cons_zero, List.set_cons_succ]
        refine wpAnyX_keep (i := 41) (oi := { dst := some 152, op := _, type := _, pos := _, after := _, guard := some (33, false) }) (v := ?_) rfl (by kernel_rfl) (by kernel_rfl) (by kernel_rfl) (fun _ _ _ h => h) (Or.inl ⟨by rfl, ?_⟩) ⟨hS0, fun _ => trivial⟩ ?_
        rotate_left
        · intro U hU
          go_simp
          all_goals with_reducible rfl
        simp only [Act.put, List.setIfInBounds_toArray, List.set_cons_zero, List.set_cons_succ]
        refine wpAnyX_keep (i := 42) (oi := { dst := some 153, op := _, type := _, pos := _, after := _, guard := some (33, false) }) (v := ?_) rfl (by kernel_rfl) (by kernel_rfl) (by kernel_rfl) (fun _ _ _ h => h) (Or.inl ⟨by rfl, ?_⟩) ⟨hS0, fun _ => trivial⟩ ?_
        rotate_left
        · intro U hU
          have u := (hU.cell (p := ⟨b6, 12 + j, none⟩) l6).trans cd
          go_simp
          all_goals with_reducible rfl
        simp only [Act.put, List.setIfInBounds_toArray, List.set_cons_zero, List.set_cons_succ]
        refine wpAnyX_one (i := 36) (o := { dst := some 147, op := _, type := _, pos := _, after := _, guard := some (33, false) }) (by kernel_rfl) rfl (by rfl) (fun K1 hK1 => ?_)
        have HK1' := Lib.hid hK1; clear hK1
        refine oper_call (f := 34) (xs := #[.tmp 145, .tmp 146]) (ts := _) rfl (enters_of Try.func34 (by kernel_rfl) rfl) rfl (M2.out _ hS0) ?_
        intro wh hbh
        have hS0 := btr hS0 hbh (Nat.le_refl _)
        rw [HPK.out]
        refine HK1'.out _ _ ⟨hS0, fun _ => trivial⟩ ?_
        clear HK1' K1
        try simp only [Act.put, List.setIfInBounds_toArray, List.set_cons_zero, List.set_cons_succ]
        refine wpAnyX_keep (i := 43) (oi := { dst := some 154, op := _, type := _, pos := _, after := _, guard := some (33, false) }) (v := ?_) rfl (by kernel_rfl) (by kernel_rfl) (by kernel_rfl) (fun _ _ _ h => h) (Or.inl ⟨by rfl, ?_⟩) ⟨hS0, fun _ => trivial⟩ ?_
        rotate_left
        · intro U hU
          go_simp
          all_goals with_reducible rfl
        simp only [Act.put, List.setIfInBounds_toArray, List.set_cons_zero, List.set_cons_succ]
        refine wpAnyX_keep (i := 44) (oi := { dst := some 155, op := _, type := _, pos := _, after := _, guard := none }) (v := ?_) rfl (by kernel_rfl) (by kernel_rfl) (by kernel_rfl) (fun _ _ _ h => h) (Or.inl ⟨by rfl, ?_⟩) ⟨hS0, fun _ => trivial⟩ ?_
        rotate_left
        · intro U hU
          go_simp
          all_goals with_reducible rfl
        simp only [Act.put, List.setIfInBounds_toArray, List.set_cons_zero, List.set_cons_succ]
        refine wpAnyX_keep (i := 45) (oi := { dst := some 156, op := _, type := _, pos := _, after := _, guard := none }) (v := ?_) rfl (by kernel_rfl) (by kernel_rfl) (by kernel_rfl) (fun _ _ _ h => h) (Or.inl ⟨by rfl, ?_⟩) ⟨hS0, fun _ => trivial⟩ ?_
        rotate_left
        · intro U hU
          go_simp
          all_goals with_reducible rfl
        simp only [Act.put, List.setIfInBounds_toArray, List.set_cons_zero, List.set_cons_succ]
        refine wpAnyX_keep (i := 46) (oi := { dst := some 157, op := _, type := _, pos := _, after := _, guard := some (45, false) }) (v := ?_) rfl (by kernel_rfl) (by kernel_rfl) (by kernel_rfl) (fun _ _ _ h => h) (Or.inl ⟨by rfl, ?_⟩) ⟨hS0, fun _ => trivial⟩ ?_
        rotate_left
        · intro U hU
          go_simp
          all_goals with_reducible rfl
        simp only [Act.put, List.setIfInBounds_toArray, List.set_cons_zero, List.set_cons_succ]
        refine wpAnyX_keep (i := 47) (oi := { dst := some 158, op := _, type := _, pos := _, after := _, guard := some (45, false) }) (v := ?_) rfl (by kernel_rfl) (by kernel_rfl) (by kernel_rfl) (fun _ _ _ h => h) (Or.inl ⟨by rfl, ?_⟩) ⟨hS0, fun _ => trivial⟩ ?_
        rotate_left
        · intro U hU
          go_simp
          all_goals with_reducible rfl
        simp only [Act.put, List.setIfInBounds_toArray, List.set_cons_zero, List.set_cons_succ]
        refine wpAnyX_keep (i := 48) (oi := { dst := some 159, op := _, type := _, pos := _, after := _, guard := some (45, false) }) (v := ?_) rfl (by kernel_rfl) (by kernel_rfl) (by kernel_rfl) (fun _ _ _ h => h) (Or.inl ⟨by rfl, ?_⟩) ⟨hS0, fun _ => trivial⟩ ?_
        rotate_left
        · intro U hU
          go_simp
          all_goals with_reducible rfl
        simp only [Act.put, List.setIfInBounds_toArray, List.set_cons_zero, List.set_cons_succ]
        refine wpAnyX_keep (i := 49) (oi := { dst := some 160, op := _, type := _, pos := _, after := _, guard := some (45, false) }) (v := ?_) rfl (by kernel_rfl) (by kernel_rfl) (by kernel_rfl) (fun _ _ _ h => h) (Or.inl ⟨by rfl, ?_⟩) ⟨hS0, fun _ => trivial⟩ ?_
        rotate_left
        · intro U hU
          go_simp
          all_goals with_reducible rfl
        simp only [Act.put, List.setIfInBounds_toArray, List.set_cons_zero, List.set_cons_succ]
        refine wpAnyX_keep (i := 50) (oi := { dst := some 161, op := _, type := _, pos := _, after := _, guard := some (45, false) }) (v := ?_) rfl (by kernel_rfl) (by kernel_rfl) (by kernel_rfl) (fun _ _ _ h => h) (Or.inl ⟨by rfl, ?_⟩) ⟨hS0, fun _ => trivial⟩ ?_
        rotate_left
        · intro U hU
          go_simp
          all_goals with_reducible rfl
        simp only [Act.put, List.setIfInBounds_toArray, List.set_cons_zero, List.set_cons_succ]
        refine wpAnyX_keep (i := 51) (oi := { dst := some 162, op := _, type := _, pos := _, after := _, guard := some (45, false) }) (v := ?_) rfl (by kernel_rfl) (by kernel_rfl) (by kernel_rfl) (fun _ _ _ h => h) (Or.inl ⟨by rfl, ?_⟩) ⟨hS0, fun _ => trivial⟩ ?_
        rotate_left
        · intro U hU
          go_simp
          all_goals with_reducible rfl
        simp only [Act.put, List.setIfInBounds_toArray, List.set_cons_zero, List.set_cons_succ]
        refine wpAnyX_keep (i := 52) (oi := { dst := some 163, op := _, type := _, pos := _, after := _, guard := some (45, false) }) (v := ?_) rfl (by kernel_rfl) (by kernel_rfl) (by kernel_rfl) (fun _ _ _ h => h) (Or.inl ⟨by rfl, ?_⟩) ⟨hS0, fun _ => trivial⟩ ?_
        rotate_left
        · intro U hU
          have u := (hU.cell (p := ⟨b6, 8 + j, none⟩) l6).trans cc
          go_simp
          all_goals with_reducible rfl
        simp only [Act.put, List.setIfInBounds_toArray, List.set_cons_zero, List.set_cons_succ]
        refine wpAnyX_keep (i := 53) (oi := { dst := some 164, op := _, type := _, pos := _, after := _, guard := some (45, false) }) (v := ?_) rfl (by kernel_rfl) (by kernel_rfl) (by kernel_rfl) (fun _ _ _ h => h) (Or.inl ⟨by rfl, ?_⟩) ⟨hS0, fun _ => trivial⟩ ?_
        rotate_left
        · intro U hU
          go_simp
          all_goals with_reducible rfl
        simp only [Act.put, List.setIfInBounds_toArray, List.set_cons_zero, List.set_cons_succ]
        refine wpAnyX_keep (i := 54) (oi := { dst := some 165, op := _, type := _, pos := _, after := _, guard := some (45, false) }) (v := ?_) rfl (by kernel_rfl) (by kernel_rfl) (by kernel_rfl) (fun _ _ _ h => h) (Or.inl ⟨by rfl, ?_⟩) ⟨hS0, fun _ => trivial⟩ ?_
        rotate_left
        · intro U hU
          go_simp
          all_goals with_reducible rfl
        simp only [Act.put, List.setIfInBounds_toArray, List.set_cons_zero, List.set_cons_succ]
        refine wpAnyX_keep (i := 55) (oi := { dst := some 166, op := _, type := _, pos := _, after := _, guard := some (45, false) }) (v := ?_) rfl (by kernel_rfl) (by kernel_rfl) (by kernel_rfl) (fun _ _ _ h => h) (Or.inl ⟨by rfl, ?_⟩) ⟨hS0, fun _ => trivial⟩ ?_
        rotate_left
        · intro U hU
          go_simp
          all_goals with_reducible rfl
        simp only [Act.put, List.setIfInBounds_toArray, List.set_cons_zero, List.set_cons_succ]
        refine wpAnyX_keep (i := 56) (oi := { dst := some 167, op := _, type := _, pos := _, after := _, guard := none }) (v := ?_) rfl (by kernel_rfl) (by kernel_rfl) (by kernel_rfl) (fun _ _ _ h => h) (Or.inl ⟨by rfl, ?_⟩) ⟨hS0, fun _ => trivial⟩ ?_
        rotate_left
        · intro U hU
          go_simp
          all_goals with_reducible rfl
        simp only [Act.put, List.setIfInBounds_toArray, List.set_cons_zero, List.set_cons_succ]
        refine wpAnyX_done (by kernel_rfl) ?_ _
        refine HK2'.out _ _ ?_; clear HK2'
        replace cc := (hS0.cell (p := ⟨b6, 8 + j, none⟩) l6).trans cc
        replace ce := (hS0.cell (p := ⟨b6, 8 + bs, none⟩) l6).trans ce
        have hBh := btr hB9 hS0 (Nat.le_refl _)
        clear f1 f2 ca cb cd hB9 hS0 t1 t2 t3 k1 k2 k3 k4 k5 M2
        go_wp2
        rename_i K2 hK2
        have HK2' := Lib.hid hK2; clear hK2
        go_quiet (fail)
        refine HK2'.out _ _ ?_; clear HK2'
        have hBq : Below wz.heap.size wz (wh.drewN nq) := ⟨hBh.os, hBh.tape, hBh.output, hBh.size, hBh.block⟩
        generalize wh.drewN nq = wq at *
        by_cases hlt : ls < lb
        · have hb2 : bestS s.loss (j + 1 - 1) = j := by rw [Nat.add_sub_cancel, HX.out, if_pos hlt]
          have HB2 := Lib.hid hb2
          clear hb2
          go_wp2
          go_roundw
          case rel => exact ⟨j + 1, by omega, by rw [HB2.out], by go_num, hBq⟩
          case measure => simp [intOf]; omega
        · have hb2 : bestS s.loss (j + 1 - 1) = bs := by rw [Nat.add_sub_cancel, HX.out, if_neg hlt]
          have HB2 := Lib.hid hb2
          clear hb2
          go_wp2
          go_roundw
          case rel => exact ⟨j + 1, by omega, by rw [HB2.out], by go_num, hBq⟩
          case measure => simp [intOf]; omega
      · have hji : ¬ (j : Int) < (n : Int) := by omega
        have hjn2 : n = j := by omega
        subst hjn2
        rw [← HBS.out]
        have hB4 : BS < 4 := by omega
        have hB4i : (BS : Int) < 4 := by omega
        obtain ⟨-, -, ce, -⟩ := HSE.out.cells hB4
        replace ce := (hB.cell (p := ⟨b6, 8 + BS, none⟩) hb6z).trans ce
        have sbc := (HSB.out BS hbn).c
        have hcv := HCV.out
        generalize s.loss BS = lb at *
        have k1 := c33 (q := lb + 11) (by omega)
        have k2 := c33 (q := (lb + 11) / 12) (by omega)
        have t1 : (lb + 11).tdiv 12 = (lb + 11) / 12 := Int.tdiv_eq_ediv_of_nonneg (by omega)
        have hcc : (CV == (lb + 11) / 12) = true := by simpa using hcv
        have hBr := btr B hB (Nat.le_refl _)
        clear hcv HCV HBS
        go_wp2
        refine HK.out _ _ ?_; clear HK
        go_wp2_with (go_at_call 13; refine (works_any _).mono ?_; rintro e w9 ⟨rfl, hb9⟩)
        go_ret
        exact ⟨rfl, btr hBr hb9 (Nat.le_refl _)⟩
end Ytgnjeefanbcbkaa
end Go.Proofs
