/- Pans: when steps begin, raised wait by wait as often as there are steps: plain Lean. -/
import Derived.Test.YteileadcmekkoaaLg
open Go Go.RowKit Go.YteileadcmekkoaaIt
namespace Go.Proofs
namespace Yteileadcmekkoaa
/-- Numbers strike by strike, step by step. -/
abbrev Tim := Nat → Nat → Int
def relI (ws : List Wa) (tk : Nat → Nat → Int) (n : Nat) (Y : Tim) (i : Nat) : Tim :=
  if (at_ ws i).b ≤ (n : Int) then fun k v => if k = n ∧ v = (at_ ws i).t.toNat then max (Y n (at_ ws i).t.toNat) (Y (n - (at_ ws i).b.toNat) (at_ ws i).f.toNat + tk n i) else Y k v else Y
def relR (ws : List Wa) (tk : Nat → Nat → Int) (n : Nat) (Y : Tim) (j : Nat) : Tim := (List.range j).foldl (relI ws tk n) Y
def relN (ws : List Wa) (tk : Nat → Nat → Int) (n : Nat) (Y : Tim) : Nat → Tim
  | 0 => Y
  | r + 1 => relR ws tk n (relN ws tk n Y r) ws.length
def tim (ws : List Wa) (tk : Nat → Nat → Int) (st : Nat) : Nat → Tim
  | 0 => fun _ _ => 0
  | n + 1 => relN ws tk n (tim ws tk st n) st
theorem relR_succ (ws : List Wa) (tk : Nat → Nat → Int) (n : Nat) (Y : Tim) (j : Nat) : relR ws tk n Y (j + 1) = relI ws tk n (relR ws tk n Y j) j := by
  unfold relR
  rw [List.range_succ, List.foldl_append]
  rfl
theorem relI_up (ws : List Wa) (tk : Nat → Nat → Int) (n : Nat) (Y : Tim) (i k v : Nat) : Y k v ≤ relI ws tk n Y i k v := by
  unfold relI
  split
  · simp only
    split
    · rename_i h; rw [h.1, h.2]; omega
    · exact Int.le_refl _
  · exact Int.le_refl _
theorem relI_ne (ws : List Wa) (tk : Nat → Nat → Int) (n : Nat) (Y : Tim) (i : Nat) {k v : Nat} (h : k ≠ n) : relI ws tk n Y i k v = Y k v := by
  unfold relI
  split
  · simp only
    rw [if_neg (fun e => h e.1)]
  · rfl
theorem relR_up (ws : List Wa) (tk : Nat → Nat → Int) (n : Nat) (Y : Tim) (k v : Nat) : ∀ j, Y k v ≤ relR ws tk n Y j k v
  | 0 => Int.le_refl _
  | j + 1 => by rw [relR_succ]; exact Int.le_trans (relR_up ws tk n Y k v j) (relI_up ..)
theorem relR_ne (ws : List Wa) (tk : Nat → Nat → Int) (n : Nat) (Y : Tim) {k v : Nat} (h : k ≠ n) : ∀ j, relR ws tk n Y j k v = Y k v
  | 0 => rfl
  | j + 1 => by rw [relR_succ, relI_ne _ _ _ _ _ h, relR_ne ws tk n Y h j]
theorem relN_up (ws : List Wa) (tk : Nat → Nat → Int) (n : Nat) (Y : Tim) (k v : Nat) : ∀ r, Y k v ≤ relN ws tk n Y r k v
  | 0 => Int.le_refl _
  | r + 1 => Int.le_trans (relN_up ws tk n Y k v r) (relR_up ..)
theorem relN_ne (ws : List Wa) (tk : Nat → Nat → Int) (n : Nat) (Y : Tim) {k v : Nat} (h : k ≠ n) : ∀ r, relN ws tk n Y r k v = Y k v
  | 0 => rfl
  | r + 1 => by show relR ws tk n (relN ws tk n Y r) ws.length k v = _; rw [relR_ne _ _ _ _ h, relN_ne ws tk n Y h r]
theorem tim_zero (ws : List Wa) (tk : Nat → Nat → Int) (st : Nat) : ∀ (n : Nat) {k v : Nat}, n ≤ k → tim ws tk st n k v = 0
  | 0, _, _, _ => rfl
  | n + 1, k, v, h => by show relN ws tk n (tim ws tk st n) st k v = 0; rw [relN_ne _ _ _ _ (by omega), tim_zero ws tk st n (by omega)]
theorem tim_nn (ws : List Wa) (tk : Nat → Nat → Int) (st : Nat) : ∀ (n k v : Nat), 0 ≤ tim ws tk st n k v
  | 0, _, _ => Int.le_refl _
  | n + 1, k, v => Int.le_trans (tim_nn ws tk st n k v) (relN_up ws tk n _ k v st)
/-- The rows of earlier strikes stay. -/
theorem tim_row (ws : List Wa) (tk : Nat → Nat → Int) (st : Nat) {k v : Nat} : ∀ n, k < n → tim ws tk st n k v = tim ws tk st (k + 1) k v
  | 0, h => by omega
  | n + 1, h => by
    by_cases hk : k = n
    · rw [hk]
    · show relN ws tk n (tim ws tk st n) st k v = _
      rw [relN_ne _ _ _ _ hk, tim_row ws tk st n (by omega)]
/-- What bounds from above. -/
structure Ub (ws : List Wa) (tk : Nat → Nat → Int) (N : Nat) (S : Tim) : Prop where
  nn : ∀ k v, 0 ≤ S k v
  up : ∀ k i, k < N → i < ws.length → (at_ ws i).b ≤ (k : Int) → S (k - (at_ ws i).b.toNat) (at_ ws i).f.toNat + tk k i ≤ S k (at_ ws i).t.toNat
theorem Ub.relI {ws : List Wa} {tk : Nat → Nat → Int} {N : Nat} {S Y : Tim} (h : Ub ws tk N S) (hY : ∀ k v, Y k v ≤ S k v) {n i : Nat} (hn : n < N) (hi : i < ws.length) : ∀ k v, Yteileadcmekkoaa.relI ws tk n Y i k v ≤ S k v := by
  intro k v
  unfold Yteileadcmekkoaa.relI
  split
  · rename_i hb
    simp only
    split
    · rename_i hkv
      rw [hkv.1, hkv.2]
      have h1 := h.up n i hn hi hb
      have h2 := hY (n - (at_ ws i).b.toNat) (at_ ws i).f.toNat
      have h3 := hY n (at_ ws i).t.toNat
      omega
    · exact hY k v
  · exact hY k v
theorem Ub.relR {ws : List Wa} {tk : Nat → Nat → Int} {N : Nat} {S Y : Tim} (h : Ub ws tk N S) (hY : ∀ k v, Y k v ≤ S k v) {n : Nat} (hn : n < N) : ∀ j, j ≤ ws.length → ∀ k v, Yteileadcmekkoaa.relR ws tk n Y j k v ≤ S k v
  | 0, _ => hY
  | j + 1, hj => by rw [relR_succ]; exact h.relI (h.relR hY hn j (by omega)) hn (by omega)
theorem Ub.relN {ws : List Wa} {tk : Nat → Nat → Int} {N : Nat} {S Y : Tim} (h : Ub ws tk N S) (hY : ∀ k v, Y k v ≤ S k v) {n : Nat} (hn : n < N) : ∀ r, ∀ k v, Yteileadcmekkoaa.relN ws tk n Y r k v ≤ S k v
  | 0 => hY
  | r + 1 => h.relR (h.relN hY hn r) hn _ (Nat.le_refl _)
theorem Ub.tim {ws : List Wa} {tk : Nat → Nat → Int} {N : Nat} {S : Tim} (h : Ub ws tk N S) (st : Nat) : ∀ n, n ≤ N → ∀ k v, Yteileadcmekkoaa.tim ws tk st n k v ≤ S k v
  | 0, _ => h.nn
  | n + 1, hn => h.relN (h.tim st n (by omega)) (by omega) st
/-- What bounds from below. -/
structure Lb (m : Nat) (ws : List Wa) (tk : Nat → Nat → Int) (N : Nat) (S : Tim) : Prop where
  eq : ∀ k v, k < N → v < m → S k v = 0 ∨ ∃ i, i < ws.length ∧ (at_ ws i).t.toNat = v ∧ (at_ ws i).b ≤ (k : Int) ∧ S k v ≤ S (k - (at_ ws i).b.toNat) (at_ ws i).f.toNat + tk k i
theorem Lb.relN {m : Nat} {ws : List Wa} {tk : Nat → Nat → Int} {N : Nat} {S Y : Tim} (h : Lb m ws tk N S) (hv : Val m ws) {rk : Nat → Nat} (hrk : ∀ i, i < ws.length → (at_ ws i).b = 0 → rk (at_ ws i).f.toNat < rk (at_ ws i).t.toNat)
    {n : Nat} (hn : n < N) (hY0 : ∀ k v, 0 ≤ Y k v) (hY : ∀ k v, k < n → v < m → S k v ≤ Y k v) : ∀ r v, v < m → rk v < r → S n v ≤ Yteileadcmekkoaa.relN ws tk n Y r n v
  | 0, _, _, h => by omega
  | r + 1, v, hvm, hr => by
    have hnn : ∀ k v, 0 ≤ Yteileadcmekkoaa.relN ws tk n Y r k v := fun k v => Int.le_trans (hY0 k v) (relN_up ..)
    rcases h.eq n v hn hvm with h0 | ⟨i, hi, ht, hb, hS⟩
    · rw [h0]; exact Int.le_trans (hnn n v) (relR_up ..)
    · obtain ⟨⟨hf0, hf1⟩, -, -, -, hb0, -⟩ := (val_mem.1 hv).2.2 (at_ ws i) (by rw [at_lt hi]; exact List.getElem_mem hi)
      have hfm : (at_ ws i).f.toNat < m := by omega
      have key : S (n - (at_ ws i).b.toNat) (at_ ws i).f.toNat ≤ Yteileadcmekkoaa.relN ws tk n Y r (n - (at_ ws i).b.toNat) (at_ ws i).f.toNat := by
        by_cases hb1 : (at_ ws i).b = 0
        · have h1 := hrk i hi hb1
          rw [hb1, Int.toNat_zero, Nat.sub_zero]
          exact h.relN hv hrk hn hY0 hY r _ hfm (by rw [ht] at h1; omega)
        · rw [relN_ne _ _ _ _ (by omega)]
          exact hY _ _ (by omega) hfm
      have key2 := Int.le_trans key (relR_up ws tk n (Yteileadcmekkoaa.relN ws tk n Y r) (n - (at_ ws i).b.toNat) (at_ ws i).f.toNat i)
      have h3 : S n v ≤ Yteileadcmekkoaa.relR ws tk n (Yteileadcmekkoaa.relN ws tk n Y r) (i + 1) n v := by
        rw [relR_succ]
        unfold Yteileadcmekkoaa.relI
        rw [if_pos hb]
        simp only
        rw [if_pos (by first | exact ⟨rfl, ht.symm⟩ | exact ⟨trivial, ht.symm⟩)]
        omega
      have h4 : ∀ j, i + 1 ≤ j → Yteileadcmekkoaa.relR ws tk n (Yteileadcmekkoaa.relN ws tk n Y r) (i + 1) n v ≤ Yteileadcmekkoaa.relR ws tk n (Yteileadcmekkoaa.relN ws tk n Y r) j n v := by
        intro j hj
        induction j with
        | zero => omega
        | succ j ih =>
          by_cases hji : i + 1 = j + 1
          · rw [hji]; exact Int.le_refl _
          · refine Int.le_trans (ih (by omega)) ?_
            rw [relR_succ ws tk n _ j]
            exact relI_up ..
      exact Int.le_trans h3 (h4 _ (by omega))
theorem Lb.tim {m : Nat} {ws : List Wa} {tk : Nat → Nat → Int} {N : Nat} {S : Tim} (h : Lb m ws tk N S) (hv : Val m ws) {rk : Nat → Nat} (hrk : ∀ i, i < ws.length → (at_ ws i).b = 0 → rk (at_ ws i).f.toNat < rk (at_ ws i).t.toNat) (hm : ∀ v, v < m → rk v < m) :
    ∀ n, n ≤ N → ∀ k v, k < n → v < m → S k v ≤ Yteileadcmekkoaa.tim ws tk m n k v
  | 0, _, _, _, h, _ => by omega
  | n + 1, hn, k, v, hk, hvm => by
    have ih := Lb.tim h hv hrk hm n (by omega)
    by_cases hkn : k = n
    · subst hkn
      exact h.relN hv hrk (by omega) (tim_nn ws tk m k) ih m v hvm (hm v hvm)
    · show S k v ≤ Yteileadcmekkoaa.relN ws tk n (Yteileadcmekkoaa.tim ws tk m n) m k v
      rw [relN_ne _ _ _ _ hkn]
      exact ih k v (by omega) hvm
theorem count_lt {p q : Nat → Bool} (h : ∀ u, p u = true → q u = true) : ∀ {l : List Nat} {u : Nat}, u ∈ l → q u = true → p u = false → l.countP p < l.countP q
  | [], _, hu, _, _ => by simp at hu
  | x :: l, u, hu, hq, hp => by
    have hle : l.countP p ≤ l.countP q := List.countP_mono_left fun y _ hy => h y hy
    rcases List.mem_cons.1 hu with rfl | hu
    · rw [List.countP_cons_of_neg (by simp [hp]), List.countP_cons_of_pos (by simp [hq])]; omega
    · have ih := count_lt h hu hq hp
      rw [List.countP_cons, List.countP_cons]
      by_cases hx : p x = true
      · simp [hx, h x hx]; exact ih
      · simp [hx]; omega
/-- Ranks below the number of steps. -/
theorem ns_rank {m : Nat} {ws : List Wa} (hv : Val m ws) (hs : NS ws) : ∃ rk : Nat → Nat, (∀ i, i < ws.length → (at_ ws i).b = 0 → rk (at_ ws i).f.toNat < rk (at_ ws i).t.toNat) ∧ ∀ v, v < m → rk v < m := by
  obtain ⟨rk, h⟩ := hs
  refine ⟨fun v => (List.range m).countP (fun u => decide (rk u < rk v)), fun i hi hb => ?_, fun v hvm => ?_⟩
  · have h1 := h i hi hb
    obtain ⟨⟨hf0, hf1⟩, -⟩ := (val_mem.1 hv).2.2 (at_ ws i) (by rw [at_lt hi]; exact List.getElem_mem hi)
    exact count_lt (fun u hu => by simp only [decide_eq_true_eq] at hu ⊢; omega) (List.mem_range.2 (show (at_ ws i).f.toNat < m by omega)) (by simpa using h1) (by simp)
  · have h1 := count_lt (p := fun u => decide (rk u < rk v)) (q := fun _ => true) (fun _ _ => rfl) (List.mem_range.2 hvm) rfl (by simp)
    have h2 : (List.range m).countP (fun _ => true) = m := by rw [List.countP_eq_length.2 (by simp)]; simp
    show (List.range m).countP (fun u => decide (rk u < rk v)) < m
    omega
theorem foldR_at {ws : List Wa} {R : Rows} {k : Nat} : ∀ (l : List Nat) (acc : Int × Int),
    ((l.foldl (accR ws R k) acc).1 = acc.1 ∨ ∃ i ∈ l, (at_ ws i).b ≤ (k : Int) ∧ (l.foldl (accR ws R k) acc).1 = (R (k - (at_ ws i).b.toNat) (at_ ws i).f.toNat).1 + (at_ ws i).lo) ∧
    ((l.foldl (accR ws R k) acc).2 = acc.2 ∨ ∃ i ∈ l, (at_ ws i).b ≤ (k : Int) ∧ (l.foldl (accR ws R k) acc).2 = (R (k - (at_ ws i).b.toNat) (at_ ws i).f.toNat).2 + (at_ ws i).hi)
  | [], _ => ⟨.inl rfl, .inl rfl⟩
  | i :: l, acc => by
    obtain ⟨h1, h2⟩ := foldR_at (ws := ws) (R := R) (k := k) l (accR ws R k acc i)
    have e1 : (accR ws R k acc i).1 = acc.1 ∨ ((at_ ws i).b ≤ (k : Int) ∧ (accR ws R k acc i).1 = (R (k - (at_ ws i).b.toNat) (at_ ws i).f.toNat).1 + (at_ ws i).lo) := by
      unfold accR
      split
      · rename_i hb; simp only; omega
      · exact .inl rfl
    have e2 : (accR ws R k acc i).2 = acc.2 ∨ ((at_ ws i).b ≤ (k : Int) ∧ (accR ws R k acc i).2 = (R (k - (at_ ws i).b.toNat) (at_ ws i).f.toNat).2 + (at_ ws i).hi) := by
      unfold accR
      split
      · rename_i hb; simp only; omega
      · exact .inl rfl
    simp only [List.foldl_cons]
    refine ⟨?_, ?_⟩
    · rcases h1 with h | ⟨j, hj, hb, h⟩
      · rcases e1 with e | ⟨hb, e⟩
        · exact .inl (h.trans e)
        · exact .inr ⟨i, by simp, hb, h.trans e⟩
      · exact .inr ⟨j, by simp [hj], hb, h⟩
    · rcases h2 with h | ⟨j, hj, hb, h⟩
      · rcases e2 with e | ⟨hb, e⟩
        · exact .inl (h.trans e)
        · exact .inr ⟨i, by simp, hb, h.trans e⟩
      · exact .inr ⟨j, by simp [hj], hb, h⟩
theorem RunEq.at {n : Nat} {ws : List Wa} {N : Nat} {R : Rows} (h : RunEq n ws N R) {k v : Nat} (hk : k < N) (hvn : v < n) :
    ((R k v).1 = 0 ∨ ∃ i, i < ws.length ∧ (at_ ws i).t.toNat = v ∧ (at_ ws i).b ≤ (k : Int) ∧ (R k v).1 = (R (k - (at_ ws i).b.toNat) (at_ ws i).f.toNat).1 + (at_ ws i).lo) ∧
    ((R k v).2 = 0 ∨ ∃ i, i < ws.length ∧ (at_ ws i).t.toNat = v ∧ (at_ ws i).b ≤ (k : Int) ∧ (R k v).2 = (R (k - (at_ ws i).b.toNat) (at_ ws i).f.toNat).2 + (at_ ws i).hi) := by
  rw [h k hk v hvn]
  obtain ⟨h1, h2⟩ := foldR_at (ws := ws) (R := R) (k := k) (toL ws v) (0, 0)
  refine ⟨h1.imp id ?_, h2.imp id ?_⟩
  · rintro ⟨i, hi, hb, he⟩
    obtain ⟨a, b⟩ := toL_in hi
    exact ⟨i, a, by omega, hb, he⟩
  · rintro ⟨i, hi, hb, he⟩
    obtain ⟨a, b⟩ := toL_in hi
    exact ⟨i, a, by omega, hb, he⟩
theorem RunEq.ge2 {n : Nat} {ws : List Wa} {N : Nat} {R : Rows} (h : RunEq n ws N R) (hv : Val n ws) {k i : Nat} (hi : i < ws.length) (hk : k < N) (hb : (at_ ws i).b ≤ (k : Int)) :
    (R (k - (at_ ws i).b.toNat) (at_ ws i).f.toNat).1 + (at_ ws i).lo ≤ (R k (at_ ws i).t.toNat).1 ∧ (R (k - (at_ ws i).b.toNat) (at_ ws i).f.toNat).2 + (at_ ws i).hi ≤ (R k (at_ ws i).t.toNat).2 := by
  obtain ⟨h1, h2, -, -, h5⟩ := (val_mem.1 hv).2.2 (at_ ws i) (by rw [at_lt hi]; exact List.getElem_mem hi)
  rw [h _ hk (at_ ws i).t.toNat (by omega)]
  exact foldR_ge (R := R) hb (toL ws (at_ ws i).t.toNat) (0, 0) (toL_mem2 hi (by omega))
/-- Whatever waits take between their ends: steps begin within what the runs say. -/
theorem RunEq.truth {m : Nat} {ws : List Wa} {N : Nat} {R : Rows} (h : RunEq m ws N R) (hv : Val m ws) (hs : NS ws) (hp : ∀ k v, 0 ≤ (R k v).1 ∧ (R k v).1 ≤ (R k v).2) {tk : Nat → Nat → Int} (ht : ∀ k i, k < N → i < ws.length → (at_ ws i).lo ≤ tk k i ∧ tk k i ≤ (at_ ws i).hi) :
    Ub ws tk N (fun k v => (R k v).2) ∧ ∀ k v, k < N → v < m → (R k v).1 ≤ tim ws tk m N k v ∧ tim ws tk m N k v ≤ (R k v).2 := by
  obtain ⟨rk, hrk, hrm⟩ := ns_rank hv hs
  have hu : Ub ws tk N (fun k v => (R k v).2) := ⟨fun k v => by have := hp k v; omega, fun k i hk hi hb => by have h1 := (h.ge2 hv hi hk hb).2; have h2 := (ht k i hk hi).2; omega⟩
  have hl : Lb m ws tk N (fun k v => (R k v).1) := ⟨fun k v hk hvm => by
    rcases (h.at hk hvm).1 with h0 | ⟨i, hi, e, hb, he⟩
    · exact .inl h0
    · exact .inr ⟨i, hi, e, hb, by have := (ht k i hk hi).1; omega⟩⟩
  exact ⟨hu, fun k v hk hvm => ⟨hl.tim hv hrk hrm N (Nat.le_refl _) k v hk hvm, hu.tim m N (Nat.le_refl _) k v⟩⟩
theorem RunEq.lows {m : Nat} {ws : List Wa} {N : Nat} {R : Rows} (h : RunEq m ws N R) (hv : Val m ws) (hs : NS ws) (hp : ∀ k v, 0 ≤ (R k v).1 ∧ (R k v).1 ≤ (R k v).2) :
    ∀ k v, k < N → v < m → tim ws (fun _ i => (at_ ws i).lo) m N k v = (R k v).1 := by
  obtain ⟨rk, hrk, hrm⟩ := ns_rank hv hs
  have hu : Ub ws (fun _ i => (at_ ws i).lo) N (fun k v => (R k v).1) := ⟨fun k v => (hp k v).1, fun k i hk hi hb => (h.ge2 hv hi hk hb).1⟩
  have hl : Lb m ws (fun _ i => (at_ ws i).lo) N (fun k v => (R k v).1) := ⟨fun k v hk hvm => by
    rcases (h.at hk hvm).1 with h0 | ⟨i, hi, e, hb, he⟩
    · exact .inl h0
    · exact .inr ⟨i, hi, e, hb, Int.le_of_eq he⟩⟩
  exact fun k v hk hvm => Int.le_antisymm (hu.tim m N (Nat.le_refl _) k v) (hl.tim hv hrk hrm N (Nat.le_refl _) k v hk hvm)
theorem RunEq.highs {m : Nat} {ws : List Wa} {N : Nat} {R : Rows} (h : RunEq m ws N R) (hv : Val m ws) (hs : NS ws) (hp : ∀ k v, 0 ≤ (R k v).1 ∧ (R k v).1 ≤ (R k v).2) :
    ∀ k v, k < N → v < m → tim ws (fun _ i => (at_ ws i).hi) m N k v = (R k v).2 := by
  obtain ⟨rk, hrk, hrm⟩ := ns_rank hv hs
  have hu : Ub ws (fun _ i => (at_ ws i).hi) N (fun k v => (R k v).2) := ⟨fun k v => by have := hp k v; omega, fun k i hk hi hb => (h.ge2 hv hi hk hb).2⟩
  have hl : Lb m ws (fun _ i => (at_ ws i).hi) N (fun k v => (R k v).2) := ⟨fun k v hk hvm => by
    rcases (h.at hk hvm).2 with h0 | ⟨i, hi, e, hb, he⟩
    · exact .inl h0
    · exact .inr ⟨i, hi, e, hb, Int.le_of_eq he⟩⟩
  exact fun k v hk hvm => Int.le_antisymm (hu.tim m N (Nat.le_refl _) k v) (hl.tim hv hrk hrm N (Nat.le_refl _) k v hk hvm)
/-- No step begins later than the timetable says. -/
theorem RunEq.table {m : Nat} {ws : List Wa} {N : Nat} {R : Rows} (h : RunEq m ws N R) (hv : Val m ws) (hs : NS ws) {num den : Nat} {X : Nat → Int} (hk : Keeps ws num den X) (hX : ∀ v, 0 ≤ X v) :
    ∀ k v, k < N → v < m → den * (R k v).2 ≤ X v + k * num := by
  obtain ⟨rk, hrk, -⟩ := ns_rank hv hs
  intro k
  induction k using Nat.strongRecOn with
  | ind k ihk =>
    intro v
    induction hr : rk v using Nat.strongRecOn generalizing v with
    | ind r ihr =>
      intro hkN hvm
      have hnn : (0 : Int) ≤ (k : Int) * (num : Int) := Int.mul_nonneg (by omega) (by omega)
      rcases (h.at hkN hvm).2 with h0 | ⟨i, hi, ht, hb, he⟩
      · rw [h0]; have := hX v; omega
      · obtain ⟨⟨hf0, hf1⟩, -, -, -, hb0, -⟩ := (val_mem.1 hv).2.2 (at_ ws i) (by rw [at_lt hi]; exact List.getElem_mem hi)
        have hkp := hk.get hi
        have key : den * (R (k - (at_ ws i).b.toNat) (at_ ws i).f.toNat).2 ≤ X (at_ ws i).f.toNat + (k - (at_ ws i).b.toNat : Nat) * num := by
          by_cases hb1 : (at_ ws i).b = 0
          · have h1 := hrk i hi hb1
            rw [hb1, Int.toNat_zero, Nat.sub_zero]
            exact ihr _ (by rw [ht] at h1; omega) _ rfl hkN (by omega)
          · exact ihk _ (by omega) _ (by omega) (by omega)
        have e1 : ((k - (at_ ws i).b.toNat : Nat) : Int) = k - (at_ ws i).b := by omega
        rw [e1, Int.sub_mul] at key
        rw [he, Int.mul_add]
        rw [ht] at hkp
        have e2 : (at_ ws i).hi * (den : Int) = (den : Int) * (at_ ws i).hi := Int.mul_comm _ _
        omega
end Yteileadcmekkoaa
end Go.Proofs
