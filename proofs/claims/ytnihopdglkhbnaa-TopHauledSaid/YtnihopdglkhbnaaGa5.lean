/- Gangs: the iterator over the steps. -/
import Derived.Test.YtnihopdglkhbnaaGa4
open Go Go.RowKit Go.YtnihopdglkhbnaaIt
namespace Go.Proofs
namespace Ytnihopdglkhbnaa
def valY (ys : List Gs) : List (Array Value) := ys.map fun x => #[.agg #[.int .i64 x.g, .int .i64 x.f]]
structure KeV (bs : Nat) (vs : Value) (ys : List Gs) (W : World) : Prop where
  blk : W.heap[bs]? = some (.cells #[vs] 84 (0, 0))
  sl : SlG encG 2 W vs ys
theorem g_cells {w : World} {b off n : Nat} {xs : List Gs} (h : ∀ i (h : i < xs.length) f u, (encG xs[i])[f]? = some u → w.cell? ⟨b, off + i * 2 + f, none⟩ = some u) {i : Nat} (hi : i < xs.length) (hn : n = i) :
    w.cell? ⟨b, off + n * 2, none⟩ = some (.int .i64 xs[i].g) ∧ w.cell? ⟨b, off + n * 2 + 1, none⟩ = some (.int .i64 xs[i].f) := by
  subst hn
  exact ⟨h n hi 0 _ rfl, h n hi 1 _ rfl⟩
set_option maxRecDepth 100000 in
set_option maxHeartbeats 2000000 in
theorem val_iter (TT : TypeId → Prop) (bs : Nat) (vs : Value) (ys : List Gs) : Iter Try.prog TT 46 #[.pointer (some ⟨bs, 0, none⟩)] (valY ys) (KeV bs vs ys) := by
  intro l W J Jx Jp hK sJ sJx sJp hY h0
  have hk0 := hK 0 W h0
  have HK := Lib.hid hK
  have HY := Lib.hid hY
  clear hK hY
  refine callsFw.1 (callsIn_of_wp (F := fw none) (n := 0) Try.func46 rfl trivial ?_)
  simp only [Try.ntmps46, List.size_toArray, List.length_cons, List.length_nil, Nat.reduceAdd, Nat.reduceSub, Array.replicate_succ, Array.replicate_zero, List.push_toArray, List.append_toArray, List.nil_append, List.cons_append]
  obtain ⟨hyd, ⟨ad, cap, rfl, hmx, hcp, -⟩⟩ := hk0
  have c3 := cell_blk (i := 0) hyd
  simp only [List.getElem?_toArray, List.getElem?_cons_zero] at c3
  obtain ⟨n, hn⟩ : ∃ n, n = ys.length := ⟨_, rfl⟩
  rw [← hn] at c3 hmx hcp
  have HN := Lib.hid hn
  clear hn
  gi_wp2
  clear hyd c3
  gi_loopw [7] (fun i wr => ∃ k : Nat, k ≤ n ∧ i = .int .i64 k ∧ J k wr ∧ W.heap.size ≤ wr.heap.size) (fun i _ => n - (intOf i).toNat)
  case atStart => exact ⟨0, Nat.zero_le _, rfl, h0, Nat.le_refl _⟩
  case round =>
    obtain ⟨k, hk, rfl, hJ, hsz⟩ := hrel
    by_cases hkn : k < n
    · have hkl : k < ys.length := by rw [← HN.out]; exact hkn
      obtain ⟨hyd, ⟨ad', cap', he, hm', hcp', hc⟩⟩ := HK.out _ _ hJ
      obtain ⟨b, off, rfl, hlt, hcell⟩ := hc (by omega)
      injection he with he1 he2 he3
      subst he1 he3
      obtain ⟨c0, c1⟩ := g_cells hcell (n := k) hkl rfl
      clear hcell hc hm' hcp' hyd he2
      have hlen : k < (valY ys).length := by simpa [valY] using hkl
      have hyk : (valY ys)[k] = #[.agg #[.int .i64 ys[k].g, .int .i64 ys[k].f]] := by simp [valY]
      have HYK := Lib.hid hyk
      clear hyk
      generalize ys[k].g = x0 at *
      generalize ys[k].f = x1 at *
      have hE : Below wr.heap.size wr (wr.alloc (Obj.cells #[Value.int IntKind.i64 x0, Value.int IntKind.i64 x1] 67)) := (Below.refl _ _).alloc (Nat.le_refl _) _
      have hJ2 : J k (wr.alloc (Obj.cells #[Value.int IntKind.i64 x0, Value.int IntKind.i64 x1] 67)) := sJ _ _ _ (Gr.below hE) hJ
      have hy := HY.out k hlen _ (by simp; omega) hJ2
      rw [HYK.out] at hy
      obtain ⟨fn, tmps, assign, body, hy, hR⟩ := hy
      gi_wp2
      refine RoundIn.mono (F := Fence.wide) hR ?_
      clear hy hR
      rintro e W' (⟨rfl, hJ', hs'⟩ | ⟨rfl, hx', hs'⟩ | ⟨ch, rfl, hp', hs'⟩)
      · have hz := hs'.size
        simp only [World.size_alloc] at hz
        clear HYK hlen hJ2 hJ hE c0 c1
        gi_wp2
        go_roundw
        case rel => exact ⟨k + 1, by omega, by go_num, hJ', by omega⟩
        case measure => simp [intOf]; omega
      · clear HYK hlen hJ2 hJ hE c0 c1
        gi_wp2
        refine bodyPost_ret (results_none rfl _ _ _) rfl ?_
        exact .inl ⟨⟨_, rfl⟩, .inr hx'⟩
      · exact ⟨rfl, .inr ⟨ch, rfl, hp'⟩⟩
    · have hkn' : k = n := by omega
      subst hkn'
      have hJ2 : J (valY ys).length wr := by simpa [valY, ← HN.out] using hJ
      clear hJ
      gi_wp2
      go_end0
      exact .inl ⟨⟨_, rfl⟩, .inl hJ2⟩
end Ytnihopdglkhbnaa
end Go.Proofs
