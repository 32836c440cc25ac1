/- The fields of TopHauled, by numbers. -/
import Derived.Test.YtnihopdglkhbnaaGa7
open Go Go.RowKit Go.YtnihopdglkhbnaaIt
namespace Go.Proofs
namespace Ytnihopdglkhbnaa
structure T3 where
  a : Int
  b : Int
  c : Int
def T3.ok (q : T3) : Prop := (0 ≤ q.a ∧ q.a < 256) ∧ (0 ≤ q.b ∧ q.b < 256) ∧ (0 ≤ q.c ∧ q.c < 256)
instance : Inhabited T3 := ⟨⟨0, 0, 0⟩⟩
def encT3 (q : T3) : List Value := [.int .u8 q.a, .int .u8 q.b, .int .u8 q.c]
def SlT3 (w : World) (v : Value) (qs : List T3) : Prop :=
  ∃ ad cap, v = .slice ad qs.length cap ∧ qs.length ≤ 9223372036854775807 ∧
    (0 < qs.length → ∃ b off, ad = some ⟨b, off, none⟩ ∧ b < w.heap.size ∧ ∀ i (h : i < qs.length) f u, (encT3 qs[i])[f]? = some u → w.cell? ⟨b, off + i * 3 + f, none⟩ = some u)
theorem SlT3.below {w w' : World} {v : Value} {xs : List T3} {B : Nat} (h : SlT3 w v xs) (hb : Below B w w') (hB : w.heap.size ≤ B) : SlT3 w' v xs := by
  obtain ⟨ad, cap, hv, hm, hc⟩ := h
  refine ⟨ad, cap, hv, hm, fun h0 => ?_⟩
  obtain ⟨b, off, ha, hlt, hcell⟩ := hc h0
  exact ⟨b, off, ha, Nat.lt_of_lt_of_le hlt hb.size, fun i hi f u hu => (hb.cell (p := ⟨b, _, none⟩) (by simpa using by omega)).trans (hcell i hi f u hu)⟩
def fB (q : T3) : Int := max 0 (q.a - q.b % 100)
def fC (q : T3) : Int := max 0 (fB q - q.c % 100)
def hfs (qs : List T3) : List (List Int) := (qs.take 4).map fun q => [q.a, fB q, fC q]
theorem hfs_len (qs : List T3) : (hfs qs).length = min 4 qs.length := by simp [hfs]
theorem hfs_row {qs : List T3} {i : Nat} (h : i < (hfs qs).length) : ∃ q, ∃ hq : i < qs.length, qs[i] = q ∧ tabR (hfs qs) i = [q.a, fB q, fC q] := by
  have hq : i < qs.length := by rw [hfs_len] at h; omega
  refine ⟨qs[i], hq, rfl, ?_⟩
  rw [tabR_lt h]
  simp [hfs]
theorem hfs_ok {qs : List T3} (ho : ∀ q ∈ qs, q.ok) : FOk (hfs qs) := by
  have key : ∀ i, i < (hfs qs).length → ∃ q : T3, q.ok ∧ tabR (hfs qs) i = [q.a, fB q, fC q] := fun i hi => by
    obtain ⟨q, hq, rfl, h⟩ := hfs_row hi
    exact ⟨_, ho _ (List.getElem_mem hq), h⟩
  refine ⟨by rw [hfs_len]; omega, fun i hi => ?_, fun i hi k hk => ?_, fun i hi k hk => ?_⟩
  · obtain ⟨q, hq, h⟩ := key i hi
    rw [h]; simp
  · obtain ⟨q, ⟨h1, h2, h3⟩, h⟩ := key i hi
    rw [h] at hk ⊢
    match k, hk with
    | 0, _ => simp [at0]; omega
    | 1, _ => simp [at0, fB]; omega
    | 2, _ => simp [at0, fC, fB]; omega
  · obtain ⟨q, ⟨h1, h2, h3⟩, h⟩ := key i hi
    rw [h] at hk ⊢
    match k, hk with
    | 0, _ => simp [at0, fB]; omega
    | 1, _ => simp [at0, fC, fB]; omega
theorem hfs_12 {qs : List T3} : (allN (hfs qs) (hfs qs).length).length ≤ 12 := by
  have h : ∀ k, k ≤ (hfs qs).length → (allN (hfs qs) k).length = 3 * k := by
    intro k
    induction k with
    | zero => intro _; simp [allN]
    | succ k ih =>
      intro hk
      obtain ⟨q, _, _, h⟩ := hfs_row (qs := qs) (i := k) (by omega)
      rw [allN_succ, List.length_append, ih (by omega)]
      unfold rowG
      rw [List.length_map, h]
      simp; omega
  rw [h _ (Nat.le_refl _), hfs_len]; omega
theorem t3_cells {w : World} {b off n : Nat} {qs : List T3} (h : ∀ i (h : i < qs.length) f u, (encT3 qs[i])[f]? = some u → w.cell? ⟨b, off + i * 3 + f, none⟩ = some u) {i : Nat} (hi : i < qs.length) (hn : n = i) :
    w.cell? ⟨b, off + n * 3, none⟩ = some (.int .u8 qs[i].a) ∧ w.cell? ⟨b, off + n * 3 + 1, none⟩ = some (.int .u8 qs[i].b) ∧ w.cell? ⟨b, off + n * 3 + 2, none⟩ = some (.int .u8 qs[i].c) := by
  subst hn
  exact ⟨h n hi 0 _ rfl, h n hi 1 _ rfl, h n hi 2 _ rfl⟩
theorem info35 : (Try.prog.info? 35).map (fun i => (i.zero, i.size, i.bytes)) = some (some (.slice none 0 0), 1, 24) := by kernel_rfl
theorem bwq {q : Int} (h : 0 ≤ q ∧ q < 256) : IntKind.i64.wrap q = q := by rw [IntKind.wrap_i64]; omega
def slv (bs : Nat → Nat) (k : Nat) : List Value := (List.range k).map fun i => .slice (some ⟨bs i, 0, none⟩) 3 3
theorem slv_succ (bs : Nat → Nat) (k : Nat) : slv bs (k + 1) = slv bs k ++ [.slice (some ⟨bs k, 0, none⟩) 3 3] := by simp [slv, List.range_succ]
theorem slv_congr {bs cs : Nat → Nat} {k : Nat} (h : ∀ i, i < k → bs i = cs i) : slv bs k = slv cs k := by
  unfold slv
  apply List.map_congr_left
  intro i hi
  rw [h i (List.mem_range.1 hi)]
theorem fin_rows {W : World} {B k : Nat} {v : Value} {bs : Nat → Nat} {qs : List T3} (hk : (hfs qs).length = k) (h : W.ownsRow B 35 1 v k (slv bs k)) (hr : ∀ j, j < k → ∃ r, (hfs qs)[j]? = some r ∧ r.length = 3 ∧ W.heap[bs j]? = some (.cells (r.map (Value.int .i64)).toArray 3 (0, 0))) (h4 : k ≤ 4) : SlII W v (hfs qs) := by
  have hl : (slv bs k).length = k := by simp [slv]
  refine ⟨slv bs k, slV_own h hl.symm (by omega), by omega, fun i hi hi' => ?_⟩
  obtain ⟨r, h1, h2, h3⟩ := hr i (by omega)
  have e1 : (slv bs k)[i] = .slice (some ⟨bs i, 0, none⟩) 3 3 := by simp [slv]
  rw [List.getElem?_eq_getElem hi'] at h1
  injection h1 with h1
  rw [e1, h1]
  have := slI_new (cap := 3) (by omega) (by omega) h3
  rw [h2] at this
  exact this
set_option maxRecDepth 100000 in
set_option maxHeartbeats 8000000 in
theorem hfields_any (v : Value) (qs : List T3) (w : World) (ho : ∀ q ∈ qs, q.ok) (hv : SlT3 w v qs) :
    Calls Try.prog 4 #[v] w fun e w' => ∃ u, e = .returned u ∧ SlII w' u (hfs qs) ∧ Below w.heap.size w w' := by
  obtain ⟨ad, cap, rfl, hm, hc⟩ := hv
  have HO := Lib.hid ho
  have HC := Lib.hid hc
  clear ho hc
  obtain ⟨n, hn⟩ : ∃ n, n = qs.length := ⟨_, rfl⟩
  rw [← hn] at hm ⊢
  have HN := Lib.hid hn
  clear hn
  obtain ⟨i35, hi35, hz1, hz2, hz3⟩ := info_parts info35
  have HI := Lib.hid (And.intro hi35 (And.intro hz1 (And.intro hz2 hz3)))
  clear hi35 hz1 hz2 hz3
  go_enter Try.func4, Try.ntmps4
  go_wp2
  go_loopw [3, 4] (fun q i wr => ∃ (k : Nat) (bs : Nat → Nat), k ≤ n ∧ k ≤ 4 ∧ i = .int .i64 k ∧ wr.ownsRow w.heap.size 35 1 q k (slv bs k) ∧ (∀ j, j < k → ∃ r, (hfs qs)[j]? = some r ∧ r.length = 3 ∧ wr.heap[bs j]? = some (.cells (r.map (Value.int .i64)).toArray 3 (0, 0))) ∧ Below w.heap.size w wr) (fun _ i _ => 4 - (intOf i).toNat)
  case atStart => exact ⟨0, fun _ => 0, Nat.zero_le _, by omega, rfl, World.ownsRow_nil _ _ _ _, fun _ h => by omega, Below.refl _ _⟩
  case round =>
    obtain ⟨k, bs, hk, hk4, rfl, hrow, hrs, hb⟩ := hrel
    have HRS := Lib.hid hrs
    clear hrs
    obtain ⟨aq, cq, rfl⟩ := form_of hrow
    by_cases hkn : k < n
    · by_cases hkk : k < 4
      · have hkl : k < qs.length := by rw [← HN.out]; exact hkn
        obtain ⟨b, off, rfl, hlt, hcell⟩ := HC.out (by omega)
        have hqo := HO.out _ (List.getElem_mem hkl)
        obtain ⟨c0, c1, c2⟩ := t3_cells hcell (n := k) hkl rfl
        have d0 := (hb.cell (p := ⟨b, off + k * 3, none⟩) hlt).trans c0
        have d1 := (hb.cell (p := ⟨b, off + k * 3 + 1, none⟩) hlt).trans c1
        have d2 := (hb.cell (p := ⟨b, off + k * 3 + 2, none⟩) hlt).trans c2
        obtain ⟨h1, h2, h3⟩ := hqo
        have hr : (hfs qs)[k]? = some [qs[k].a, fB qs[k], fC qs[k]] := by simp [hfs, hkl, hkk]
        unfold fB fC fB at hr
        have HR := Lib.hid hr
        clear hcell c0 c1 c2 hr
        generalize qs[k].a = x0 at *
        generalize qs[k].b = x1 at *
        generalize qs[k].c = x2 at *
        have e1 : x1.tmod 100 = x1 % 100 := Int.tmod_eq_emod_of_nonneg h2.1
        have e2 : x2.tmod 100 = x2 % 100 := Int.tmod_eq_emod_of_nonneg h3.1
        go_wp2_with (at_builtin; (refine wpList_append_own _ rfl _ _ 25 rfl w.heap.size 35 i35 (.slice none 0 0) 1 24 Try.underlying25 HI.out.1 HI.out.2.1 HI.out.2.2.1 HI.out.2.2.2 rfl (by decide) _ _ _ rfl ((hrow.alloc _).alloc _) ⟨wr.heap.size + 1, 0, none⟩ 1 1 [.slice (some ⟨wr.heap.size, 0, none⟩) 3 3] rfl rfl (cell_new1 (by simp)) (by simp [Value.oneCell']) (Nat.le_trans (by omega : k + 1 ≤ 50) (by decide)) (by omega) (by simp only [World.size_alloc]; have := hb.size; omega) ?_; intro v' w6 g1 g2 _; obtain ⟨a6, c6, rfl⟩ := form_of g1))
        obtain ⟨hoth, hsz6, s1, s2, s3⟩ := append_same1 (hrow.alloc _) g2
        rw [World.size_alloc] at hoth hsz6
        have hbs := hb.size
        have hbn : Below w.heap.size w w6 := ⟨s1.trans hb.os, s2.trans hb.tape, s3.trans hb.output, by omega, fun x hx => by
          rw [hoth x (by omega) (fun h => by have := (hrow.lt x h).1; omega), heap_oldI (by omega)]
          exact hb.block x hx⟩
        have hown : ∀ x, x < wr.heap.size → ∀ (c : Array Value), wr.heap[x]? = some (.cells c 3 (0, 0)) → w6.heap[x]? = some (.cells c 3 (0, 0)) := fun x hx c h => by
          rw [hoth x (by omega) (own_ne hrow h (by decide)), heap_oldI hx]; exact h
        have hnew := hoth wr.heap.size (by omega) (fun h => by have := (hrow.lt _ h).2; omega)
        rw [heap_newI rfl] at hnew
        go_roundw
        case rel =>
          refine ⟨k + 1, fun i => if i < k then bs i else wr.heap.size, by omega, by omega, by go_num, ?_, ?_, hbn⟩
          · rw [slv_succ, slv_congr (cs := bs) (fun i hi => if_pos hi)]
            simp only [Nat.lt_irrefl, if_false]
            exact g1
          · intro j hj
            by_cases hjk : j < k
            · obtain ⟨r, h1, h2, h3⟩ := HRS.out j hjk
              exact ⟨r, h1, h2, by simp only [if_pos hjk]; exact hown _ (lt_blk h3) _ h3⟩
            · have : j = k := by omega
              subst this
              exact ⟨_, HR.out, rfl, by simp only [Nat.lt_irrefl, if_false]; exact hnew⟩
        case measure => simp [intOf]; omega
      · have hk5 : k = 4 := by omega
        subst hk5
        go_wp2
        go_ret
        exact ⟨_, rfl, fin_rows (by rw [hfs_len, ← HN.out]; omega) hrow HRS.out (by omega), hb⟩
    · have hkn2 : k = n := by omega
      subst hkn2
      go_wp2
      go_ret
      exact ⟨_, rfl, fin_rows (by rw [hfs_len, ← HN.out]; omega) hrow HRS.out (by omega), hb⟩
end Ytnihopdglkhbnaa
end Go.Proofs
