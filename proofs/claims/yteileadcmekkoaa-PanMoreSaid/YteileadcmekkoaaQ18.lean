/- Pans: when steps begin: plain Lean. -/
import Derived.Test.YteileadcmekkoaaQ17
open Go Go.RowKit Go.YteileadcmekkoaaIt
namespace Go.Proofs
namespace Yteileadcmekkoaa
/-- When steps begin, at the earliest: strike by strike, step by step, from .. to. -/
abbrev Rows := Nat → Nat → Int × Int
def accR (ws : List Wa) (R : Rows) (k : Nat) (acc : Int × Int) (i : Nat) : Int × Int :=
  if (at_ ws i).b ≤ (k : Int) then (max acc.1 ((R (k - (at_ ws i).b.toNat) (at_ ws i).f.toNat).1 + (at_ ws i).lo), max acc.2 ((R (k - (at_ ws i).b.toNat) (at_ ws i).f.toNat).2 + (at_ ws i).hi)) else acc
def valR (ws : List Wa) (R : Rows) (k v : Nat) : Int × Int := (toL ws v).foldl (accR ws R k) (0, 0)
def RunEq (n : Nat) (ws : List Wa) (N : Nat) (R : Rows) : Prop := ∀ k, k < N → ∀ v, v < n → R k v = valR ws R k v
theorem foldl_same {α β : Type} {f g : β → α → β} : ∀ {l : List α} (b : β), (∀ a b, a ∈ l → f b a = g b a) → l.foldl f b = l.foldl g b
  | [], _, _ => rfl
  | a :: l, b, h => by
    simp only [List.foldl_cons]
    rw [h a b (by simp)]
    exact foldl_same _ fun x y hx => h x y (by simp [hx])
theorem toL_in {ws : List Wa} {v i : Nat} (h : i ∈ toL ws v) : i < ws.length ∧ (at_ ws i).t = v := by
  unfold toL isT at h
  rw [List.mem_filter, List.mem_range] at h
  exact ⟨h.1, by simpa using h.2⟩
theorem accR_same {ws : List Wa} {R R' : Rows} {k i : Nat} (h : (at_ ws i).b ≤ (k : Int) → R (k - (at_ ws i).b.toNat) (at_ ws i).f.toNat = R' (k - (at_ ws i).b.toNat) (at_ ws i).f.toNat) (acc : Int × Int) : accR ws R k acc i = accR ws R' k acc i := by
  unfold accR
  by_cases hb : (at_ ws i).b ≤ (k : Int)
  · rw [if_pos hb, if_pos hb, h hb]
  · rw [if_neg hb, if_neg hb]
theorem valR_same {ws : List Wa} {R R' : Rows} {k v : Nat} (h : ∀ i, i < ws.length → (at_ ws i).t = v → (at_ ws i).b ≤ (k : Int) → R (k - (at_ ws i).b.toNat) (at_ ws i).f.toNat = R' (k - (at_ ws i).b.toNat) (at_ ws i).f.toNat) : valR ws R k v = valR ws R' k v :=
  foldl_same _ fun i acc hi => accR_same (h i (toL_in hi).1 (toL_in hi).2) acc
/-- There is one solution. -/
theorem RunEq.uniq {n : Nat} {ws : List Wa} (hv : Val n ws) (hs : NS ws) {N : Nat} {R R' : Rows} (h : RunEq n ws N R) (h' : RunEq n ws N R') : ∀ k, k < N → ∀ v, v < n → R k v = R' k v := by
  obtain ⟨rk, hr⟩ := hs
  intro k
  induction k using Nat.strongRecOn with
  | _ k ihk =>
  intro hk v
  generalize hm : rk v = m
  induction m using Nat.strongRecOn generalizing v with
  | _ m ihm =>
  intro hvn
  rw [h k hk v hvn, h' k hk v hvn]
  refine valR_same fun i hi ht hb => ?_
  have hok := hv.ok i hi
  by_cases h0 : (at_ ws i).b = 0
  · have h1 := hr i hi h0
    rw [ht, Int.toNat_natCast, hm] at h1
    rw [h0]
    exact ihm _ h1 _ rfl (by omega)
  · exact ihk _ (by omega) (by omega) _ (by omega)
/-- One number changed. -/
def updR (R : Rows) (k s : Nat) (x : Int × Int) : Rows := fun k' v => if k' = k ∧ v = s then x else R k' v
theorem updR_self (R : Rows) (k s : Nat) (x : Int × Int) : updR R k s x k s = x := by unfold updR; rw [if_pos ⟨rfl, rfl⟩]
theorem updR_ne {R : Rows} {k s k' v : Nat} {x : Int × Int} (h : ¬ (k' = k ∧ v = s)) : updR R k s x k' v = R k' v := by unfold updR; rw [if_neg h]
theorem updR_updR (R : Rows) (k s : Nat) (x y : Int × Int) : updR (updR R k s x) k s y = updR R k s y := by
  funext k' v; unfold updR; by_cases h : k' = k ∧ v = s <;> simp [h]
/-- Within strike k, the first j steps of the order are done. -/
structure StrI (n : Nat) (ws : List Wa) (l : List Nat) (k j : Nat) (R : Rows) : Prop where
  old : ∀ k', k' < k → ∀ v, v < n → R k' v = valR ws R k' v
  cur : ∀ v, v ∈ l.take j → R k v = valR ws R k v
  zero : ∀ v, v ∉ l.take j → R k v = (0, 0)
  up : ∀ k', k < k' → ∀ v, R k' v = (0, 0)
  ord : ∀ k' v, 0 ≤ (R k' v).1 ∧ (R k' v).1 ≤ (R k' v).2
  bo : ∀ k', k' < k → ∀ v, (R k' v).2 ≤ 100000 * ((k' : Int) + 1)
  bc : ∀ v, (R k v).2 ≤ 100000 * (k : Int) + 10000 * j
theorem StrI.start (n : Nat) (ws : List Wa) (l : List Nat) : StrI n ws l 0 0 (fun _ _ => (0, 0)) :=
  ⟨fun _ h => by omega, fun v h => by simp at h, fun _ _ => rfl, fun _ _ _ => rfl, fun _ _ => ⟨Int.le_refl _, Int.le_refl _⟩, fun _ h => by omega, fun _ => by simp⟩
/-- Within a step's waits. -/
def stepR (ws : List Wa) (R : Rows) (k s c : Nat) : Int × Int := ((toL ws s).take c).foldl (accR ws R k) (0, 0)
theorem stepR_succ {ws : List Wa} (R : Rows) (k : Nat) {s c : Nat} (h : c < (toL ws s).length) : stepR ws R k s (c + 1) = accR ws R k (stepR ws R k s c) (toL ws s)[c] := by
  unfold stepR
  rw [List.take_succ_eq_append_getElem h, List.foldl_append]; rfl
theorem stepR_end (ws : List Wa) (R : Rows) (k s : Nat) : stepR ws R k s (toL ws s).length = valR ws R k s := by
  unfold stepR valR; rw [List.take_length]
/-- What a wait adds lies within bounds. -/
theorem StrI.get {n : Nat} {ws : List Wa} {l : List Nat} {k j : Nat} {R : Rows} (hv : Val n ws) (h : StrI n ws l k j R) {i : Nat} (hi : i < ws.length) (hb : (at_ ws i).b ≤ (k : Int)) :
    0 ≤ (R (k - (at_ ws i).b.toNat) (at_ ws i).f.toNat).1 ∧ (R (k - (at_ ws i).b.toNat) (at_ ws i).f.toNat).1 ≤ (R (k - (at_ ws i).b.toNat) (at_ ws i).f.toNat).2 ∧ (R (k - (at_ ws i).b.toNat) (at_ ws i).f.toNat).2 ≤ 100000 * (k : Int) + 10000 * j := by
  have hok := hv.ok i hi
  have h1 := h.ord (k - (at_ ws i).b.toNat) (at_ ws i).f.toNat
  refine ⟨h1.1, h1.2, ?_⟩
  by_cases h0 : (at_ ws i).b = 0
  · rw [h0]; exact h.bc _
  · have := h.bo (k - (at_ ws i).b.toNat) (by omega) (at_ ws i).f.toNat
    omega
theorem StrI.stepB {n : Nat} {ws : List Wa} {l : List Nat} {k j : Nat} {R : Rows} (hv : Val n ws) (h : StrI n ws l k j R) (s : Nat) : ∀ c, c ≤ (toL ws s).length → 0 ≤ (stepR ws R k s c).1 ∧ (stepR ws R k s c).1 ≤ (stepR ws R k s c).2 ∧ (stepR ws R k s c).2 ≤ 100000 * (k : Int) + 10000 * (j + 1)
  | 0, _ => by unfold stepR; simp; omega
  | c + 1, hc => by
    obtain ⟨h1, h2, h3⟩ := StrI.stepB hv h s c (by omega)
    rw [stepR_succ R k (by omega)]
    have hm := toL_in (List.getElem_mem (show c < (toL ws s).length by omega))
    generalize (toL ws s)[c] = i at *
    unfold accR
    split
    · rename_i hb
      have hok := hv.ok i hm.1
      obtain ⟨g1, g2, g3⟩ := h.get hv hm.1 hb
      simp only
      omega
    · exact ⟨h1, h2, h3⟩
/-- A step is done. -/
theorem StrI.step {n : Nat} {ws : List Wa} {l : List Nat} {k j : Nat} {R : Rows} (hv : Val n ws) (ht : Topo n ws l) (h : StrI n ws l k j R) (hj : j < l.length) : StrI n ws l k (j + 1) (updR R k l[j] (stepR ws R k l[j] (toL ws l[j]).length)) := by
  have htk : l.take (j + 1) = l.take j ++ [l[j]] := List.take_succ_eq_append_getElem hj
  have hnm : l[j] ∉ l.take j := by
    intro hm
    have := mem_idx ht.nd hj hm
    rw [List.Nodup.idxOf_getElem ht.nd j hj] at this
    omega
  have hsb := h.stepB hv l[j] (toL ws l[j]).length (Nat.le_refl _)
  rw [stepR_end] at *
  have hsame : ∀ v k', (k' < k ∨ v ∈ l.take (j + 1)) → k' ≤ k → (k' < k → v < n) → valR ws R k' v = valR ws (updR R k l[j] (valR ws R k l[j])) k' v := fun v k' hvm hkk hvn => by
    refine valR_same fun i hi htv hb => (updR_ne ?_).symm
    rintro ⟨e1, e2⟩
    have hok := hv.ok i hi
    have hb0 : (at_ ws i).b = 0 ∧ k' = k := by omega
    obtain ⟨hb0, rfl⟩ := hb0
    rcases hvm with h1 | h1
    · omega
    · obtain ⟨q, hq, he⟩ := List.getElem_of_mem h1
      rw [List.length_take] at hq
      rw [List.getElem_take] at he
      have h2 := ht.top q (by omega) i hi hb0 (by rw [htv, Int.toNat_natCast, he])
      rw [e2] at h2
      have h3 := mem_idx ht.nd (show q < l.length by omega) h2
      rw [List.Nodup.idxOf_getElem ht.nd j hj] at h3
      omega
  refine ⟨fun k' hk v hvn => ?_, fun v hvm => ?_, fun v hvm => ?_, fun k' hk v => ?_, fun k' v => ?_, fun k' hk v => ?_, fun v => ?_⟩
  · rw [updR_ne (by omega), h.old k' hk v hvn]
    exact hsame v k' (.inl hk) (by omega) fun _ => hvn
  · by_cases he : v = l[j]
    · subst he; rw [updR_self]; exact hsame _ k (.inr hvm) (Nat.le_refl _) fun h => by omega
    · rw [updR_ne (fun h => he h.2)]
      have hvt : v ∈ l.take j := by rw [htk, List.mem_append] at hvm; rcases hvm with h1 | h1; exact h1; simp at h1; exact absurd h1 he
      rw [h.cur v hvt]
      exact hsame v k (.inr hvm) (Nat.le_refl _) fun h => by omega
  · rw [htk, List.mem_append] at hvm
    rw [updR_ne (fun e => hvm (.inr (by simp [e.2])))]
    exact h.zero v fun h1 => hvm (.inl h1)
  · rw [updR_ne (by omega)]; exact h.up k' hk v
  · by_cases he : k' = k ∧ v = l[j]
    · obtain ⟨rfl, rfl⟩ := he; rw [updR_self]; exact ⟨hsb.1, hsb.2.1⟩
    · rw [updR_ne he]; exact h.ord k' v
  · rw [updR_ne (by omega)]; exact h.bo k' hk v
  · by_cases he : v = l[j]
    · subst he; rw [updR_self]; have := hsb.2.2; push_cast; omega
    · rw [updR_ne (fun h => he h.2)]; have := h.bc v; push_cast; omega
theorem Topo.len {n : Nat} {ws : List Wa} {l : List Nat} (h : Topo n ws l) : l.length ≤ n := nodup_len h.nd fun v hv => (h.mem v).1 hv
/-- A strike is done. -/
theorem StrI.next {n : Nat} {ws : List Wa} {l : List Nat} {k : Nat} {R : Rows} (hv : Val n ws) (ht : Topo n ws l) (h : StrI n ws l k l.length R) : StrI n ws l (k + 1) 0 R := by
  have hln := ht.len
  have hn := hv.n1
  refine ⟨fun k' hk v hvn => ?_, fun v hvm => by simp at hvm, fun v _ => h.up (k + 1) (by omega) v, fun k' hk v => h.up k' (by omega) v, h.ord, fun k' hk v => ?_, fun v => ?_⟩
  · rcases (show k' < k ∨ k' = k by omega) with h1 | rfl
    · exact h.old k' h1 v hvn
    · exact h.cur v (by rw [List.take_length]; exact (ht.mem v).2 hvn)
  · rcases (show k' < k ∨ k' = k by omega) with h1 | rfl
    · exact h.bo k' h1 v
    · have := h.bc v
      have : (l.length : Int) ≤ 10 := by omega
      omega
  · rw [h.up (k + 1) (by omega) v]; simp; omega
end Yteileadcmekkoaa
end Go.Proofs
