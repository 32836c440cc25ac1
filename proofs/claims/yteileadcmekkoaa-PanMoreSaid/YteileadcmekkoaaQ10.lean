/- Pans: plain Lean on the search of an order: depth first. -/
import Derived.Test.YteileadcmekkoaaQ9
open Go Go.RowKit Go.YteileadcmekkoaaIt
namespace Go.Proofs
namespace Yteileadcmekkoaa
open PanPlain (upd upd_same upd_ne)
/-- What the search holds: 0 not met, 1 under way, 2 done; the order so far; whether it is stuck. -/
structure Ds where
  sta : Nat → Int
  out : List Nat
  stk : Bool
/-- Steps can be put in an order by these numbers. -/
def Rk (ws : List Wa) (rk : Nat → Nat) : Prop := ∀ i, i < ws.length → (at_ ws i).b = 0 → rk (at_ ws i).f.toNat < rk (at_ ws i).t.toNat
theorem ns_iff {ws : List Wa} : NS ws ↔ ∃ rk, Rk ws rk := Iff.rfl
structure DI (n : Nat) (ws : List Wa) (d : Ds) : Prop where
  st : ∀ v, d.sta v = 0 ∨ d.sta v = 1 ∨ d.sta v = 2
  mem : ∀ v, v ∈ d.out ↔ d.sta v = 2
  lt : ∀ v, d.sta v ≠ 0 → v < n
  nd : d.out.Nodup
  top : d.stk = false → ∀ k (hk : k < d.out.length) i, i < ws.length → (at_ ws i).b = 0 → (at_ ws i).t.toNat = d.out[k] → (at_ ws i).f.toNat ∈ d.out.take k
  cyc : d.stk = true → ¬ NS ws
theorem nodup_len : ∀ {n : Nat} {l : List Nat}, l.Nodup → (∀ v ∈ l, v < n) → l.length ≤ n := fun {n l} h hl => by
  have := List.Nodup.length_le_of_subset h (fun v hv => List.mem_range.2 (hl v hv) : ∀ v ∈ l, v ∈ List.range n)
  simpa using this
theorem DI.len {n : Nat} {ws : List Wa} {d : Ds} (h : DI n ws d) : d.out.length ≤ n := nodup_len h.nd fun v hv => h.lt v (by rw [(h.mem v).1 hv]; omega)
def grayD (s : Nat) (d : Ds) : Ds := { d with sta := upd d.sta s 1 }
def blackD (s : Nat) (d : Ds) : Ds := { d with sta := upd d.sta s 2, out := d.out ++ [s] }
def stuckD (d : Ds) : Ds := { d with stk := true }
theorem DI.gray {n : Nat} {ws : List Wa} {d : Ds} (h : DI n ws d) {s : Nat} (hs : d.sta s = 0) (hn : s < n) : DI n ws (grayD s d) where
  st v := by
    by_cases hv : v = s
    · subst hv; exact .inr (.inl (upd_same _ _ _))
    · rw [show (grayD s d).sta v = d.sta v from upd_ne _ _ hv]; exact h.st v
  mem v := by
    by_cases hv : v = s
    · subst hv
      rw [show (grayD v d).out = d.out from rfl, h.mem v, show (grayD v d).sta v = 1 from upd_same _ _ _, hs]; omega
    · rw [show (grayD s d).sta v = d.sta v from upd_ne _ _ hv]; exact h.mem v
  lt v hv := by
    by_cases hvs : v = s
    · omega
    · rw [show (grayD s d).sta v = d.sta v from upd_ne _ _ hvs] at hv; exact h.lt v hv
  nd := h.nd
  top := h.top
  cyc := h.cyc
theorem DI.black {n : Nat} {ws : List Wa} {d : Ds} (h : DI n ws d) {s : Nat} (hs : d.sta s = 1) (ht : d.stk = false → ∀ i, i < ws.length → (at_ ws i).b = 0 → (at_ ws i).t.toNat = s → d.sta (at_ ws i).f.toNat = 2) : DI n ws (blackD s d) where
  st v := by
    by_cases hv : v = s
    · subst hv; exact .inr (.inr (upd_same _ _ _))
    · rw [show (blackD s d).sta v = d.sta v from upd_ne _ _ hv]; exact h.st v
  mem v := by
    show v ∈ d.out ++ [s] ↔ upd d.sta s 2 v = 2
    rw [List.mem_append, List.mem_singleton, h.mem v]
    by_cases hv : v = s
    · subst hv; rw [upd_same]; simp
    · rw [upd_ne _ _ hv]; simp [hv]
  lt v hv := by
    by_cases hvs : v = s
    · subst hvs; exact h.lt v (by omega)
    · rw [show (blackD s d).sta v = d.sta v from upd_ne _ _ hvs] at hv; exact h.lt v hv
  nd := by
    show (d.out ++ [s]).Nodup
    rw [List.nodup_append]
    refine ⟨h.nd, by simp, ?_⟩
    intro a ha b hb
    rw [List.mem_singleton] at hb
    subst hb
    rintro rfl
    have := (h.mem a).1 ha
    omega
  top hk k hlt i hi hb he := by
    have hlt' : k < d.out.length + 1 := by simpa [blackD] using hlt
    show _ ∈ (d.out ++ [s]).take k
    by_cases hkl : k < d.out.length
    · rw [List.take_append_of_le_length (by omega)]
      refine h.top hk k hkl i hi hb ?_
      rw [he]; exact List.getElem_append_left hkl
    · have hke : k = d.out.length := by omega
      subst hke
      have e1 : (blackD s d).out[d.out.length] = s := List.getElem_concat_length rfl _
      rw [List.take_left, h.mem]
      exact ht hk i hi hb (he.trans e1)
  cyc := h.cyc
theorem DI.stuck {n : Nat} {ws : List Wa} {d : Ds} (h : DI n ws d) (hs : ¬ NS ws) : DI n ws (stuckD d) := ⟨h.st, h.mem, h.lt, h.nd, fun hk => Bool.noConfusion hk, fun _ => hs⟩
/-- Steps under way wait, in a chain, for s. -/
def Above (ws : List Wa) (d : Ds) (s : Nat) : Prop := ∀ rk, Rk ws rk → ∀ g, d.sta g = 1 → g ≠ s → rk s < rk g
structure DPost (s : Nat) (d d' : Ds) : Prop where
  gray : ∀ v, d'.sta v = 1 ↔ d.sta v = 1
  black : ∀ v, d.sta v = 2 → d'.sta v = 2
  self : d'.sta s = 2
  stk : d.stk = true → d'.stk = true
/-- Within the visit of s: the first k of its waits are done. -/
structure LI (n : Nat) (ws : List Wa) (d0 : Ds) (s k : Nat) (d : Ds) : Prop where
  di : DI n ws d
  gray : ∀ v, d.sta v = 1 ↔ (v = s ∨ d0.sta v = 1)
  black : ∀ v, d0.sta v = 2 → d.sta v = 2
  stk : d0.stk = true → d.stk = true
  fin : d.stk = false → ∀ j (hj : j < (toL ws s).length), j < k → (at_ ws (toL ws s)[j]).b = 0 → d.sta (at_ ws (toL ws s)[j]).f.toNat = 2
def wh (d : Ds) : Nat → Nat
  | 0 => 0
  | m + 1 => wh d m + if d.sta m = 0 then 1 else 0
theorem wh_le {d d' : Ds} (h : ∀ v, d'.sta v = 0 → d.sta v = 0) : ∀ m, wh d' m ≤ wh d m
  | 0 => Nat.le_refl _
  | m + 1 => by
    have := wh_le h m
    unfold wh
    by_cases h' : d'.sta m = 0
    · rw [if_pos h', if_pos (h m h')]; omega
    · rw [if_neg h']; omega
theorem wh_lt {d d' : Ds} (h : ∀ v, d'.sta v = 0 → d.sta v = 0) {s : Nat} (hs : d.sta s = 0) (hs' : d'.sta s ≠ 0) : ∀ m, s < m → wh d' m < wh d m
  | 0, hm => by omega
  | m + 1, hm => by
    unfold wh
    by_cases he : s = m
    · subst he
      have := wh_le h s
      rw [if_neg hs', if_pos hs]; omega
    · have := wh_lt h hs hs' m (by omega)
      by_cases h' : d'.sta m = 0
      · rw [if_pos h', if_pos (h m h')]; omega
      · rw [if_neg h']; omega
theorem LI.start {n : Nat} {ws : List Wa} {d : Ds} (h : DI n ws d) {s : Nat} (hs : d.sta s = 0) (hn : s < n) : LI n ws d s 0 (grayD s d) where
  di := h.gray hs hn
  gray v := by
    by_cases hv : v = s
    · subst hv; simp [grayD, upd_same]
    · simp [grayD, upd_ne _ _ hv, hv]
  black v hv := by
    by_cases hvs : v = s
    · subst hvs; omega
    · rw [show (grayD s d).sta v = d.sta v from upd_ne _ _ hvs]; exact hv
  stk h := h
  fin _ j _ hj := by omega
theorem LI.white {n : Nat} {ws : List Wa} {d0 d : Ds} {s k : Nat} (h0 : DI n ws d0) (h : LI n ws d0 s k d) : ∀ v, d.sta v = 0 → d0.sta v = 0 := fun v hv => by
  rcases h0.st v with h1 | h1 | h1
  · exact h1
  · have := (h.gray v).2 (.inr h1); omega
  · have := h.black v h1; omega
/-- A wait of s that is of no concern, or whose step is done. -/
theorem LI.skip {n : Nat} {ws : List Wa} {d0 d : Ds} {s k : Nat} (h : LI n ws d0 s k d) (hk : k < (toL ws s).length) (hd : d.stk = false → (at_ ws (toL ws s)[k]).b = 0 → d.sta (at_ ws (toL ws s)[k]).f.toNat = 2) : LI n ws d0 s (k + 1) d :=
  ⟨h.di, h.gray, h.black, h.stk, fun hs j hj hjk hb => by
    rcases (show j < k ∨ j = k by omega) with h1 | rfl
    · exact h.fin hs j hj h1 hb
    · exact hd hs hb⟩
theorem toL_mem {ws : List Wa} {s : Nat} {k : Nat} (hk : k < (toL ws s).length) : (toL ws s)[k] < ws.length ∧ (at_ ws (toL ws s)[k]).t = s := by
  have h : (toL ws s)[k] ∈ (List.range ws.length).filter (isT ws s) := List.getElem_mem hk
  generalize (toL ws s)[k] = i at *
  rw [List.mem_filter, List.mem_range] at h
  exact ⟨h.1, by have h2 := h.2; unfold isT at h2; simpa using h2⟩
/-- A step under way is met: there is no order. -/
theorem gray_stuck {ws : List Wa} {d0 d : Ds} {n s k : Nat} (ha : Above ws d0 s) (h : LI n ws d0 s k d) {i : Nat} (hi : i < ws.length) (hb : (at_ ws i).b = 0) (ht : (at_ ws i).t = s) (hg : d.sta (at_ ws i).f.toNat = 1) : ¬ NS ws := by
  rintro ⟨rk, hr⟩
  have h1 := hr i hi hb
  rw [ht, Int.toNat_natCast] at h1
  rcases (h.gray _).1 hg with h2 | h2
  · rw [h2] at h1; omega
  · by_cases he : (at_ ws i).f.toNat = s
    · rw [he] at h1; omega
    · have := ha rk hr _ h2 he; omega
theorem LI.meet {n : Nat} {ws : List Wa} {d0 d : Ds} {s k : Nat} (h : LI n ws d0 s k d) (hn : ¬ NS ws) : LI n ws d0 s (k + 1) (stuckD d) :=
  ⟨h.di.stuck hn, h.gray, h.black, fun _ => rfl, fun hs => Bool.noConfusion hs⟩
/-- A step that was not met is to be visited. -/
theorem LI.above {n : Nat} {ws : List Wa} {d0 d : Ds} {s k : Nat} (ha : Above ws d0 s) (h : LI n ws d0 s k d) {i : Nat} (hi : i < ws.length) (hb : (at_ ws i).b = 0) (ht : (at_ ws i).t = s) : Above ws d (at_ ws i).f.toNat := fun rk hr g hg hne => by
  have h1 := hr i hi hb
  rw [ht, Int.toNat_natCast] at h1
  rcases (h.gray g).1 hg with rfl | h2
  · exact h1
  · by_cases he : g = s
    · rw [he]; exact h1
    · have := ha rk hr g h2 he; omega
theorem LI.visit {n : Nat} {ws : List Wa} {d0 d d' : Ds} {s k f : Nat} (h : LI n ws d0 s k d) (hk : k < (toL ws s).length) (hf : (at_ ws (toL ws s)[k]).f.toNat = f) (hd : DI n ws d') (hp : DPost f d d') : LI n ws d0 s (k + 1) d' :=
  ⟨hd, fun v => (hp.gray v).trans (h.gray v), fun v hv => hp.black v (h.black v hv), fun hs => hp.stk (h.stk hs), fun hs j hj hjk hb => by
    rcases (show j < k ∨ j = k by omega) with h1 | rfl
    · refine hp.black _ (h.fin ?_ j hj h1 hb)
      cases hds : d.stk with
      | false => rfl
      | true => rw [hp.stk hds] at hs; cases hs
    · rw [hf]; exact hp.self⟩
theorem LI.done {n : Nat} {ws : List Wa} {d0 d : Ds} {s : Nat} (hv : Val n ws) (hs0 : d0.sta s = 0) (h : LI n ws d0 s (toL ws s).length d) : DI n ws (blackD s d) ∧ DPost s d0 (blackD s d) := by
  have hs1 : d.sta s = 1 := (h.gray s).2 (.inl rfl)
  refine ⟨h.di.black hs1 fun hk i hi hb ht => ?_, ?_, ?_, upd_same _ _ _, h.stk⟩
  · have hti : (at_ ws i).t = s := by have := (hv.ok i hi).2.1.1; omega
    have hm : i ∈ toL ws s := by
      unfold toL; rw [List.mem_filter, List.mem_range]; exact ⟨hi, by unfold isT; simp [hti]⟩
    obtain ⟨j, hj, he⟩ := List.getElem_of_mem hm
    have := h.fin hk j hj hj
    rw [he] at this
    exact this hb
  · intro v
    by_cases hvs : v = s
    · subst hvs
      rw [show (blackD v d).sta v = 2 from upd_same _ _ _, hs0]; omega
    · rw [show (blackD s d).sta v = d.sta v from upd_ne _ _ hvs, h.gray v]; simp [hvs]
  · intro v hv2
    by_cases hvs : v = s
    · subst hvs; exact upd_same _ _ _
    · rw [show (blackD s d).sta v = d.sta v from upd_ne _ _ hvs]; exact h.black v hv2
/-! ### All steps, one after the other -/
structure OI (n : Nat) (ws : List Wa) (k : Nat) (d : Ds) : Prop where
  di : DI n ws d
  no : ∀ v, d.sta v ≠ 1
  fin : ∀ v, v < k → d.sta v = 2
theorem OI.above {n k : Nat} {ws : List Wa} {d : Ds} (h : OI n ws k d) (s : Nat) : Above ws d s := fun _ _ g hg => absurd hg (h.no g)
theorem OI.start (n : Nat) (ws : List Wa) : OI n ws 0 ⟨fun _ => 0, [], false⟩ :=
  ⟨⟨fun _ => .inl rfl, fun v => ⟨fun h => by simp at h, fun h => by simp at h⟩, fun v h => absurd rfl h, List.nodup_nil, fun _ k hk => by simp at hk, fun h => Bool.noConfusion h⟩, fun _ => by simp, fun v h => by omega⟩
theorem OI.skip {n k : Nat} {ws : List Wa} {d : Ds} (h : OI n ws k d) (hk : d.sta k ≠ 0) : OI n ws (k + 1) d := ⟨h.di, h.no, fun v hv => by
  rcases (show v < k ∨ v = k by omega) with h1 | rfl
  · exact h.fin v h1
  · rcases h.di.st v with h2 | h2 | h2
    · exact absurd h2 hk
    · exact absurd h2 (h.no v)
    · exact h2⟩
theorem OI.visit {n k : Nat} {ws : List Wa} {d d' : Ds} (h : OI n ws k d) (hd : DI n ws d') (hp : DPost k d d') : OI n ws (k + 1) d' := ⟨hd, fun v hv => h.no v ((hp.gray v).1 hv), fun v hv => by
  rcases (show v < k ∨ v = k by omega) with h1 | rfl
  · exact hp.black v (h.fin v h1)
  · exact hp.self⟩
/-- An order: all steps, each after those of the same strike that it waits for. -/
structure Topo (n : Nat) (ws : List Wa) (l : List Nat) : Prop where
  mem : ∀ v, v ∈ l ↔ v < n
  nd : l.Nodup
  top : ∀ k (hk : k < l.length) i, i < ws.length → (at_ ws i).b = 0 → (at_ ws i).t.toNat = l[k] → (at_ ws i).f.toNat ∈ l.take k
theorem mem_idx {l : List Nat} (h : l.Nodup) {k : Nat} (hk : k < l.length) {v : Nat} (hv : v ∈ l.take k) : l.idxOf v < k := by
  obtain ⟨j, hj, he⟩ := List.getElem_of_mem hv
  rw [List.length_take] at hj
  rw [List.getElem_take] at he
  have h1 : l.idxOf v = j := by rw [← he]; exact List.Nodup.idxOf_getElem h j (by omega)
  rw [h1]; omega
theorem Topo.ns {n : Nat} {ws : List Wa} {l : List Nat} (hv : Val n ws) (h : Topo n ws l) : NS ws := by
  refine ⟨fun v => l.idxOf v, fun i hi hb => ?_⟩
  have ht := (hv.ok i hi).2.1
  have hm : (at_ ws i).t.toNat ∈ l := (h.mem _).2 (by omega)
  obtain ⟨k, hk, he⟩ := List.getElem_of_mem hm
  have h1 := mem_idx h.nd hk (h.top k hk i hi hb he.symm)
  have h2 : l.idxOf (at_ ws i).t.toNat = k := by rw [← he]; exact List.Nodup.idxOf_getElem h.nd k hk
  show l.idxOf _ < l.idxOf _
  rw [h2]; exact h1
theorem OI.end_ {n : Nat} {ws : List Wa} {d : Ds} (hv : Val n ws) (h : OI n ws n d) : (d.stk = false → Topo n ws d.out) ∧ (d.stk = true ↔ ¬ NS ws) := by
  have ht : d.stk = false → Topo n ws d.out := fun hs =>
    ⟨fun v => by
      rw [h.di.mem]
      exact ⟨fun h2 => h.di.lt v (by omega), h.fin v⟩, h.di.nd, h.di.top hs⟩
  refine ⟨ht, h.di.cyc, fun hn => ?_⟩
  cases hs : d.stk with
  | true => rfl
  | false => exact absurd ((ht hs).ns hv) hn
end Yteileadcmekkoaa
end Go.Proofs
