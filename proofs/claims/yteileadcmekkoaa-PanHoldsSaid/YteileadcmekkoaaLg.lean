/- Pans: along a cycle of waits steps begin later by its time, as often as it goes around: plain Lean. -/
import Derived.Test.YteileadcmekkoaaSu
import Derived.Test.YteileadcmekkoaaQ18
open Go Go.RowKit Go.YteileadcmekkoaaIt
namespace Go.Proofs
namespace Yteileadcmekkoaa
open PanPlain
theorem accR_up (ws : List Wa) (R : Rows) (k : Nat) (acc : Int × Int) (i : Nat) : acc.1 ≤ (accR ws R k acc i).1 ∧ acc.2 ≤ (accR ws R k acc i).2 := by
  unfold accR
  split
  · exact ⟨by simp only; omega, by simp only; omega⟩
  · exact ⟨Int.le_refl _, Int.le_refl _⟩
theorem foldR_up (ws : List Wa) (R : Rows) (k : Nat) : ∀ (l : List Nat) (acc : Int × Int), acc.1 ≤ (l.foldl (accR ws R k) acc).1 ∧ acc.2 ≤ (l.foldl (accR ws R k) acc).2
  | [], _ => ⟨Int.le_refl _, Int.le_refl _⟩
  | i :: l, acc => by
    have h1 := accR_up ws R k acc i
    have h2 := foldR_up ws R k l (accR ws R k acc i)
    exact ⟨Int.le_trans h1.1 h2.1, Int.le_trans h1.2 h2.2⟩
theorem foldR_ge {ws : List Wa} {R : Rows} {k i : Nat} (hb : (at_ ws i).b ≤ (k : Int)) : ∀ (l : List Nat) (acc : Int × Int), i ∈ l →
    (R (k - (at_ ws i).b.toNat) (at_ ws i).f.toNat).1 + (at_ ws i).lo ≤ (l.foldl (accR ws R k) acc).1 ∧ (R (k - (at_ ws i).b.toNat) (at_ ws i).f.toNat).2 + (at_ ws i).hi ≤ (l.foldl (accR ws R k) acc).2
  | [], _, h => by simp at h
  | j :: l, acc, h => by
    rcases List.mem_cons.1 h with rfl | h
    · have h2 := foldR_up ws R k l (accR ws R k acc i)
      have h1 : (R (k - (at_ ws i).b.toNat) (at_ ws i).f.toNat).1 + (at_ ws i).lo ≤ (accR ws R k acc i).1 ∧ (R (k - (at_ ws i).b.toNat) (at_ ws i).f.toNat).2 + (at_ ws i).hi ≤ (accR ws R k acc i).2 := by
        unfold accR
        rw [if_pos hb]
        exact ⟨by simp only; omega, by simp only; omega⟩
      exact ⟨Int.le_trans h1.1 h2.1, Int.le_trans h1.2 h2.2⟩
    · exact foldR_ge hb l _ h
theorem toL_mem2 {ws : List Wa} {v i : Nat} (h : i < ws.length) (ht : (at_ ws i).t = v) : i ∈ toL ws v := by
  unfold toL isT
  rw [List.mem_filter, List.mem_range]
  exact ⟨h, by simpa using ht⟩
/-- No step begins before a wait that it has to wait for is over. -/
theorem RunEq.ge {n : Nat} {ws : List Wa} {N : Nat} {R : Rows} (h : RunEq n ws N R) (hv : Val n ws) {k i : Nat} (hi : i < ws.length) (hk : k + (at_ ws i).b.toNat < N) :
    (R k (at_ ws i).f.toNat).2 + (at_ ws i).hi ≤ (R (k + (at_ ws i).b.toNat) (at_ ws i).t.toNat).2 := by
  obtain ⟨h1, h2, -, -, h5⟩ := (val_mem.1 hv).2.2 (at_ ws i) (by rw [at_lt hi]; exact List.getElem_mem hi)
  have hb : (at_ ws i).b ≤ ((k + (at_ ws i).b.toNat : Nat) : Int) := by omega
  rw [h _ hk _ (by omega)]
  have := (foldR_ge (R := R) hb (toL ws (at_ ws i).t.toNat) (0, 0) (toL_mem2 hi (by omega))).2
  rw [Nat.add_sub_cancel] at this
  exact this
theorem RunEq.path {n : Nat} {ws : List Wa} {N : Nat} {R : Rows} (h : RunEq n ws N R) (hv : Val n ws) {u v : Nat} {c : List Nat} (hp : Path (eds ws 0 1) u v c) :
    0 ≤ bkS ws c ∧ ∀ k, k + (bkS ws c).toNat < N → (R k u).2 + hiS ws c ≤ (R (k + (bkS ws c).toNat) v).2 := by
  induction hp with
  | nil u => exact ⟨by simp [bkS], fun k _ => by simp [bkS, hiS]⟩
  | @cons i v e l he _ ih =>
    obtain ⟨hi, rfl⟩ := eds_some he
    obtain ⟨-, -, -, -, h5⟩ := (val_mem.1 hv).2.2 (at_ ws i) (by rw [at_lt hi]; exact List.getElem_mem hi)
    have e1 : bkS ws (i :: l) = (at_ ws i).b + bkS ws l := by simp [bkS]
    have e2 : hiS ws (i :: l) = (at_ ws i).hi + hiS ws l := by simp [hiS]
    rw [e1, e2]
    refine ⟨by omega, fun k hk => ?_⟩
    have h1 := h.ge hv (k := k) hi (by omega)
    have h2 := ih.2 (k + (at_ ws i).b.toNat) (by omega)
    have e3 : ((at_ ws i).b + bkS ws l).toNat = (at_ ws i).b.toNat + (bkS ws l).toNat := by omega
    rw [e3, ← Nat.add_assoc]
    simp only at h1 h2 ⊢
    omega
theorem bkS_app (ws : List Wa) (a b : List Nat) : bkS ws (a ++ b) = bkS ws a + bkS ws b := by simp [bkS]
theorem hiS_app (ws : List Wa) (a b : List Nat) : hiS ws (a ++ b) = hiS ws a + hiS ws b := by simp [hiS]
/-- Around the cycle a number of times. -/
theorem RunEq.around {n : Nat} {ws : List Wa} {N : Nat} {R : Rows} (h : RunEq n ws N R) (hv : Val n ws) {u : Nat} {c : List Nat} (hc : Cyc (eds ws 0 1) u c) {i : Nat} (hi : i ∈ c) :
    ∀ (r k : Nat), k + r * (bkS ws c).toNat < N → (R k (at_ ws i).f.toNat).2 + r * hiS ws c ≤ (R (k + r * (bkS ws c).toNat) (at_ ws i).f.toNat).2 := by
  obtain ⟨l, m, rfl⟩ := List.append_of_mem hi
  obtain ⟨z, hz, -⟩ := hc.turn
  have hs := hz.path.start
  obtain ⟨e, he⟩ := hz.path.mem i (by simp)
  obtain ⟨hil, rfl⟩ := eds_some he
  rw [frm_eq he] at hs
  simp only at hs
  have e1 : bkS ws (i :: m ++ l) = bkS ws (l ++ i :: m) := by rw [bkS_app, bkS_app]; omega
  have e2 : hiS ws (i :: m ++ l) = hiS ws (l ++ i :: m) := by rw [hiS_app, hiS_app]; omega
  obtain ⟨-, hp⟩ := h.path hv hz.path
  rw [e1, e2] at hp
  rw [hs]
  generalize (bkS ws (l ++ i :: m)).toNat = S at *
  generalize hiS ws (l ++ i :: m) = T at *
  intro r
  induction r with
  | zero => intro k _; simp
  | succ r ih =>
    intro k hk
    rw [Nat.succ_mul] at hk
    have h1 := ih k (by omega)
    have h2 := hp (k + r * S) (by omega)
    rw [Nat.succ_mul, ← Nat.add_assoc]
    have e3 : ((r + 1 : Nat) : Int) * T = r * T + T := by rw [Int.natCast_succ, Int.add_mul, Int.one_mul]
    rw [e3]
    omega
end Yteileadcmekkoaa
end Go.Proofs
