/- Laws of rotation, plainly: the least table as a law. -/
import Derived.Test.YtnjgglnpmhjmiaaB5
open Go Go.RowKit Go.YtnjgglnpmhjmiaaIt
open Rest
namespace Go.Proofs
namespace Ytnjgglnpmhjmiaa
theorem cn_run (k : Nat) (g : List Nat → Bool) : ∀ w, (Cn k g).run g w = fun u => g (w ++ u)
 | [] => rfl
 | c :: w => by
  show (Cn k fun u => g (c :: u)).run (fun u => g (c :: u)) w = _
  rw [cn_run k (fun u => g (c :: u)) w]
  rfl
theorem fut_run {α : Type} {x : RSys α} : ∀ {w : List Nat} {s : α}, Wd x.k w → (Fut x (x.run s w) = fun u => Fut x s (w ++ u))
 | [], s, _ => rfl
 | c :: w, s, h => by
  have hc : c < x.k := h c (by simp)
  have hw : Wd x.k w := fun d hd => h d (List.mem_cons_of_mem _ hd)
  rw [RSys.run_cons, fut_run hw]
  funext u
  rw [fut_nx hc]
  rfl
/-- No more states than any other system with these futures has. -/
theorem least_len {α : Type} {x : RSys α} {T : Tab} (h : LeastT x.k (Fut x x.start) T) {U : List α} (hU : ∀ ws, Wd x.k ws → x.run x.start ws ∈ U) : T.st.length ≤ U.length := by
 obtain ⟨L, hL, rfl⟩ := h
 have hnd := @Walk.nd _ (Classical.typeDecidableEq _) _ _ hL
 have e : ∀ p ∈ L, p.1 = Fut x (x.run x.start p.2) ∧ Wd x.k p.2 := fun p hp => by
  obtain ⟨h1, h2⟩ := @Walk.run _ (Classical.typeDecidableEq _) _ _ hL p hp
  refine ⟨?_, h2⟩
  rw [← h1, fut_run (x := x) (show Wd x.k p.2 from h2)]
  exact cn_run x.k (Fut x x.start) p.2
 have h3 : (L.map fun p => x.run x.start p.2).Nodup := by
  have h4 : ((L.map fun p => x.run x.start p.2).map (Fut x)).Nodup := by
   rw [List.map_map]
   have : L.map (Fut x ∘ fun p => x.run x.start p.2) = L.map Prod.fst := List.map_congr_left fun p hp => (e p hp).1.symm
   rw [this]
   exact hnd
  exact List.Pairwise.imp (fun {a b} hab e => hab (by rw [e])) (List.pairwise_map.1 h4)
 have h5 := h3.length_le_of_subset (l₂ := U) (fun s hs => by
  obtain ⟨p, hp, rfl⟩ := List.mem_map.1 hs
  exact hU _ (e p hp).2)
 simpa [tabOf] using h5
structure TabOk (k : Nat) (T : Tab) : Prop where
 n1 : 1 ≤ T.st.length
 nx : T.nx.length = T.st.length
 gd : T.gd.length = T.st.length
 row : ∀ i (h : i < T.nx.length), T.nx[i].length = k
 ent : ∀ i (h : i < T.nx.length), ∀ s ∈ T.nx[i], s < T.st.length
 wd : ∀ y ∈ T.st, Wd k y
theorem least_ok {k : Nat} {g : List Nat → Bool} {T : Tab} (h : LeastT k g T) : TabOk k T := by
 obtain ⟨L, hL, rfl⟩ := h
 refine ⟨?_, by simp [tabOf], by simp [tabOf], ?_, ?_, ?_⟩
 ·obtain ⟨M, hM⟩ := @Walk.pos _ (Classical.typeDecidableEq _) _ _ hL
  simp [tabOf, hM]
 ·intro i hi
  simp [tabOf, Cn]
 ·intro i hi s hs
  simp only [tabOf, List.getElem_map, List.mem_map, List.mem_range] at hs
  obtain ⟨c, hc, rfl⟩ := hs
  have hi' : i < L.length := by simpa [tabOf] using hi
  have := @Walk.closed _ (Classical.typeDecidableEq _) _ _ hL L[i].1 (List.mem_map.2 ⟨_, List.getElem_mem hi', rfl⟩) c hc
  have := (@List.idxOf_lt_length_iff _ (@instBEqOfDecidableEq _ (Classical.typeDecidableEq _)) _ (L.map Prod.fst) _).2 this
  simpa [tabOf, idx] using this
 ·intro y hy
  simp only [tabOf, List.mem_map] at hy
  obtain ⟨p, hp, rfl⟩ := hy
  exact (@Walk.run _ (Classical.typeDecidableEq _) _ _ hL p hp).2
theorem TabOk.law {k : Nat} {T : Tab} (h : TabOk k T) (h1 : 1 ≤ k) (h4 : k ≤ 4) (hn : T.st.length ≤ 40) : (tabL T).Ok ∧ (tabL T).k = k := by
 have hk : (tabL T).k = k := by
  unfold Lw.k tabL
  have h0 := h.n1
  have h2 := h.nx
  cases hx : T.nx with
  | nil => rw [hx] at h2; simp at h2; omega
  | cons r rs =>
   have := h.row 0 (by rw [hx]; simp)
   simp only [hx, List.getElem_cons_zero] at this
   simp [this]
 refine ⟨⟨?_, ?_, by omega, by omega, ?_, ?_, ?_⟩, hk⟩
 ·simp [tabL]; have := h.nx; have := h.n1; omega
 ·simp [tabL]; have := h.nx; omega
 ·simp [tabL]; have := h.nx; have := h.gd; omega
 ·intro i hi
  have hi' : i < T.nx.length := by simpa [tabL] using hi
  rw [hk]
  simp [tabL, h.row i hi']
 ·intro i hi s hs
  have hi' : i < T.nx.length := by simpa [tabL] using hi
  simp only [tabL, List.getElem_map, List.mem_map] at hs
  obtain ⟨n, hn, rfl⟩ := hs
  have := h.ent i hi' n hn
  simp only [tabL, List.length_map]
  have := h.nx
  omega
theorem run_in {l : Lw} (ho : l.Ok) : ∀ ws, Wd l.k ws → (sysL l).run 0 ws ∈ nI (List.range l.nx.length) := by
 have : ∀ (ws : List Nat) (s : Int), l.st s → Wd l.k ws → l.st ((sysL l).run s ws) := by
  intro ws
  induction ws with
  | nil => intro s hs _; exact hs
  | cons c ws ih => intro s hs h; exact ih _ (ho.cl hs (h c (by simp))) (fun d hd => h d (List.mem_cons_of_mem _ hd))
 intro ws h
 obtain ⟨m, e, hm⟩ := (this ws 0 ho.st0 h).nat
 rw [e]
 exact List.mem_map.2 ⟨m, List.mem_range.2 hm, rfl⟩
/-- There is a least table of a law. -/
theorem leastL_ok {l : Lw} (ho : l.Ok) {T : Tab} (h : LeastT l.k (Fut (sysL l) 0) T) : (tabL T).Ok ∧ (tabL T).k = l.k ∧ T.st.length ≤ l.nx.length := by
 have h1 := least_len (x := sysL l) h (U := nI (List.range l.nx.length)) (run_in ho)
 rw [List.length_map, List.length_range] at h1
 have h2 := (least_ok h).law ho.k1 ho.k4 (Nat.le_trans h1 ho.n40)
 exact ⟨h2.1, h2.2, h1⟩
end Ytnjgglnpmhjmiaa
end Go.Proofs

