/- Laws of rotation, plainly: lists counted from the first state on. -/
import Derived.Test.YtnjgglnpmhjmiaaRf1
open Go Go.RowKit Go.YtnjgglnpmhjmiaaIt
open Rest
namespace Go.Proofs
namespace Ytnjgglnpmhjmiaa
/-- One way more leads to where a state leads with a crop. -/
def addG (l : Lw) (g : Nat → Int) (s c : Nat) (h : Nat → Int) : Nat → Int := fun t => if t = (l.at (s : Int) c).toNat then h t + g s else h t
def inG (l : Lw) (g : Nat → Int) (s : Nat) : Nat → (Nat → Int) → Nat → Int
  | 0, h => h
  | c + 1, h => addG l g s c (inG l g s c h)
def outG (l : Lw) (g : Nat → Int) : Nat → Nat → Int
  | 0 => fun _ => 0
  | s + 1 => inG l g s l.k (outG l g s)
/-- In how many ways each state is come to in so many years. -/
def fwd (l : Lw) : Nat → Nat → Int
  | 0 => fun t => if t = 0 then 1 else 0
  | y + 1 => outG l (fwd l y) l.nx.length
theorem sumTo_add (f : Nat → Int) (H : Nat → Int) (t0 : Nat) (x : Int) : ∀ n, sumTo (fun t => (if t = t0 then f t + x else f t) * H t) n = sumTo (fun t => f t * H t) n + if t0 < n then x * H t0 else 0
  | 0 => by simp [sumTo]
  | n + 1 => by
    simp only [sumTo, sumTo_add f H t0 x n]
    by_cases h : n = t0
    · subst h
      rw [if_pos rfl, if_neg (by omega), if_pos (by omega), Int.add_mul]; omega
    · rw [if_neg h]
      by_cases h2 : t0 < n
      · rw [if_pos h2, if_pos (by omega)]; omega
      · rw [if_neg h2, if_neg (by omega)]; omega
theorem inG_sum {l : Lw} (ho : l.Fit) (g H h : Nat → Int) {s : Nat} (hs : s < l.nx.length) : ∀ c, c ≤ l.k → sumTo (fun t => inG l g s c h t * H t) l.nx.length = sumTo (fun t => h t * H t) l.nx.length + g s * sumTo (fun c => H (l.at (s : Int) c).toNat) c
  | 0, _ => by simp [inG, sumTo]
  | c + 1, hc => by
    obtain ⟨t, ht, htl⟩ := (ho.cl (s := (s : Int)) ⟨by omega, by omega⟩ (c := c) (by omega)).nat
    have h1 := sumTo_add (inG l g s c h) H (l.at (s : Int) c).toNat (g s) l.nx.length
    rw [if_pos (by rw [ht]; simpa using htl)] at h1
    show sumTo (fun t => addG l g s c (inG l g s c h) t * H t) l.nx.length = _
    unfold addG
    rw [h1, inG_sum ho g H h hs c (by omega)]
    simp only [sumTo]
    rw [Int.mul_add]; omega
theorem outG_sum {l : Lw} (ho : l.Fit) (g H : Nat → Int) : ∀ s, s ≤ l.nx.length → sumTo (fun t => outG l g s t * H t) l.nx.length = sumTo (fun s => g s * sumTo (fun c => H (l.at (s : Int) c).toNat) l.k) s
  | 0, _ => by
    have : ∀ n, sumTo (fun t => outG l g 0 t * H t) n = 0 := fun n => by
      induction n with
      | zero => rfl
      | succ n ih => rw [sumTo, ih]; simp [outG]
    rw [this]; rfl
  | s + 1, hs => by
    show sumTo (fun t => inG l g s l.k (outG l g s) t * H t) l.nx.length = _
    rw [inG_sum ho g H (outG l g s) (by omega) l.k (Nat.le_refl _), outG_sum ho g H s (by omega)]
    rfl
theorem sumTo_congr {f g : Nat → Int} : ∀ {n : Nat}, (∀ i, i < n → f i = g i) → sumTo f n = sumTo g n
  | 0, _ => rfl
  | n + 1, h => by simp only [sumTo]; rw [sumTo_congr fun i hi => h i (by omega), h n (by omega)]
theorem fwd_cnt {l : Lw} (ho : l.Fit) : ∀ y m, sumTo (fun t => fwd l y t * cntF l m t) l.nx.length = cntF l (y + m) 0
  | 0, m => by
    have h : ∀ n, sumTo (fun t => fwd l 0 t * cntF l m t) (n + 1) = cntF l m 0 := fun n => by
      induction n with
      | zero => simp [sumTo, fwd]
      | succ n ih => rw [sumTo, ih]; simp [fwd]
    obtain ⟨n, hn⟩ : ∃ n, l.nx.length = n + 1 := ⟨l.nx.length - 1, by have := ho.n1; omega⟩
    rw [hn, h, Nat.zero_add]
  | y + 1, m => by
    show sumTo (fun t => outG l (fwd l y) l.nx.length t * cntF l m t) l.nx.length = _
    rw [outG_sum ho _ _ _ (Nat.le_refl _)]
    have := fwd_cnt ho y (m + 1)
    rw [show y + 1 + m = y + (m + 1) by omega, ← this]
    exact sumTo_congr fun s _ => rfl
theorem inG_nn {l : Lw} {g : Nat → Int} (hg : ∀ t, 0 ≤ g t) {h : Nat → Int} (hh : ∀ t, 0 ≤ h t) (s : Nat) : ∀ c t, 0 ≤ inG l g s c h t
  | 0, t => hh t
  | c + 1, t => by
    show 0 ≤ addG l g s c (inG l g s c h) t
    unfold addG
    have := inG_nn (l := l) hg hh s c t
    have := hg s
    split <;> omega
theorem outG_nn {l : Lw} {g : Nat → Int} (hg : ∀ t, 0 ≤ g t) : ∀ s t, 0 ≤ outG l g s t
  | 0, _ => by simp [outG]
  | s + 1, t => inG_nn hg (outG_nn hg s) s l.k t
theorem fwd_nn (l : Lw) : ∀ y t, 0 ≤ fwd l y t
  | 0, t => by simp only [fwd]; split <;> omega
  | y + 1, t => outG_nn (fwd_nn l y) _ t
theorem sumTo_ge {f : Nat → Int} (hf : ∀ t, 0 ≤ f t) : ∀ {n i : Nat}, i < n → f i ≤ sumTo f n ∧ 0 ≤ sumTo f n
  | n + 1, i, h => by
    have h0 : 0 ≤ sumTo f n := by
      clear h
      induction n with
      | zero => simp [sumTo]
      | succ n ih => rw [sumTo]; have := hf n; omega
    rw [sumTo]
    have hn := hf n
    by_cases hi : i = n
    · subst hi; omega
    · have := (sumTo_ge hf (n := n) (i := i) (by omega)).1; omega
theorem sumTo_mono {f : Nat → Int} (hf : ∀ t, 0 ≤ f t) {n m : Nat} (h : n ≤ m) : sumTo f n ≤ sumTo f m := by
  induction m with
  | zero => rw [show n = 0 by omega]; omega
  | succ m ih =>
    rcases (show n = m + 1 ∨ n ≤ m by omega) with rfl | h'
    · omega
    · rw [sumTo]; have := ih h'; have := hf m; omega
theorem sumTo_one (k : Nat) : sumTo (fun _ => (1 : Int)) k = (k : Int) := by
  induction k with
  | zero => rfl
  | succ k ih => rw [sumTo, ih]; omega
theorem sumTo_scale (f : Nat → Int) (a : Int) : ∀ n, sumTo (fun t => f t * a) n = sumTo f n * a
  | 0 => by simp [sumTo]
  | n + 1 => by rw [sumTo, sumTo, sumTo_scale f a n, Int.add_mul]
theorem fwd_sum {l : Lw} (ho : l.Fit) : ∀ y, sumTo (fwd l y) l.nx.length ≤ ((4 ^ y : Nat) : Int)
  | 0 => by
    have h : ∀ n, sumTo (fwd l 0) (n + 1) = 1 := fun n => by
      induction n with
      | zero => simp [sumTo, fwd]
      | succ n ih => rw [sumTo, ih]; simp [fwd]
    obtain ⟨n, hn⟩ : ∃ n, l.nx.length = n + 1 := ⟨l.nx.length - 1, by have := ho.n1; omega⟩
    rw [hn, h]; simp
  | y + 1 => by
    have h := outG_sum ho (fwd l y) (fun _ => 1) l.nx.length (Nat.le_refl _)
    simp only [Int.mul_one, sumTo_one] at h
    show sumTo (outG l (fwd l y) l.nx.length) l.nx.length ≤ _
    rw [show sumTo (outG l (fwd l y) l.nx.length) l.nx.length = sumTo (fun t => outG l (fwd l y) l.nx.length t) l.nx.length from rfl, h, sumTo_scale]
    have h1 := fwd_sum ho y
    have hk := ho.k4
    have h0 := (sumTo_ge (fwd_nn l y) (n := l.nx.length) (i := 0) (by have := ho.n1; omega)).2
    rw [show (4 ^ (y + 1) : Nat) = 4 ^ y * 4 from Nat.pow_succ ..]
    push_cast at h1 ⊢
    calc sumTo (fwd l y) l.nx.length * (l.k : Int) ≤ sumTo (fwd l y) l.nx.length * 4 := Int.mul_le_mul_of_nonneg_left (by omega) h0
      _ ≤ 4 ^ y * 4 := by omega
/-- What has been added so far is bounded. -/
theorem part_bd {l : Lw} (ho : l.Fit) {y : Nat} (hy : y ≤ 24) {s c : Nat} (hs : s < l.nx.length) (hc : c ≤ l.k) {t : Nat} (ht : t < l.nx.length) : 0 ≤ inG l (fwd l y) s c (outG l (fwd l y) s) t ∧ inG l (fwd l y) s c (outG l (fwd l y) s) t ≤ 1125899906842624 := by
  have hn := inG_nn (l := l) (fwd_nn l y) (outG_nn (l := l) (fwd_nn l y) s) s
  refine ⟨hn c t, ?_⟩
  have h1 := (sumTo_ge (f := inG l (fwd l y) s c (outG l (fwd l y) s)) (hn c) ht).1
  have h2 := inG_sum ho (fwd l y) (fun _ => 1) (outG l (fwd l y) s) hs c hc
  have h3 := outG_sum ho (fwd l y) (fun _ => 1) s (by omega)
  simp only [Int.mul_one, sumTo_one] at h2 h3
  have h4 := sumTo_scale (fwd l y) (l.k : Int) s
  have h5 := fwd_sum ho y
  have h6 := sumTo_mono (fwd_nn l y) (n := s + 1) (m := l.nx.length) (by omega)
  rw [sumTo] at h6
  have h7 := fwd_nn l y s
  have h8 : 0 ≤ sumTo (fwd l y) s := by
    rcases (show s = 0 ∨ 0 < s by omega) with rfl | h
    · simp [sumTo]
    · exact (sumTo_ge (fwd_nn l y) h).2
  have h9 : ((4 ^ y : Nat) : Int) ≤ 281474976710656 := by
    have : 4 ^ y ≤ 4 ^ 24 := Nat.pow_le_pow_right (by decide) hy
    have e : (4 : Nat) ^ 24 = 281474976710656 := by decide
    omega
  have hk := ho.k4
  have e1 : sumTo (inG l (fwd l y) s c (outG l (fwd l y) s)) l.nx.length = sumTo (fwd l y) s * (l.k : Int) + fwd l y s * (c : Int) := by
    rw [← h4, ← h3, ← h2]
  have e2 : sumTo (fwd l y) s * (l.k : Int) ≤ sumTo (fwd l y) s * 4 := Int.mul_le_mul_of_nonneg_left (by omega) h8
  have e3 : fwd l y s * (c : Int) ≤ fwd l y s * 4 := Int.mul_le_mul_of_nonneg_left (by omega) h7
  omega
end Ytnjgglnpmhjmiaa
end Go.Proofs
