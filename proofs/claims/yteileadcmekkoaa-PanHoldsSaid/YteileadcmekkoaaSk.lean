/- Pans: steps that wait for nothing of the same strike are taken away again and again: plain Lean. -/
import Derived.Test.YteileadcmekkoaaRx
open Go Go.RowKit Go.YteileadcmekkoaaIt
namespace Go.Proofs
namespace Yteileadcmekkoaa
def freeX (d : Nat → Bool) (s : Nat) (x : Wa) : Bool := (x.t != (s : Int)) || decide (0 < x.b) || d x.f.toNat
def freeB (ws : List Wa) (d : Nat → Bool) (s : Nat) : Bool := ws.all (freeX d s)
def skS (ws : List Wa) (d : Nat → Bool) (s : Nat) : Nat → Bool := if freeB ws d s = true then fun v => if v = s then true else d v else d
def skR (ws : List Wa) (d : Nat → Bool) (j : Nat) : Nat → Bool := (List.range j).foldl (skS ws) d
def skN (ws : List Wa) (m : Nat) : Nat → Nat → Bool
  | 0 => fun _ => false
  | r + 1 => skR ws (skN ws m r) m
theorem skR_succ (ws : List Wa) (d : Nat → Bool) (j : Nat) : skR ws d (j + 1) = skS ws (skR ws d j) j := by
  unfold skR
  rw [List.range_succ, List.foldl_append]
  rfl
theorem skS_up {ws : List Wa} {d : Nat → Bool} {s v : Nat} (h : d v = true) : skS ws d s v = true := by
  unfold skS
  split
  · simp only
    split
    · rfl
    · exact h
  · exact h
theorem skR_up {ws : List Wa} {d : Nat → Bool} {v : Nat} (h : d v = true) : ∀ j, skR ws d j v = true
  | 0 => h
  | j + 1 => by rw [skR_succ]; exact skS_up (skR_up h j)
/-- Steps that are taken away can be ranked. -/
def Rkd (ws : List Wa) (d : Nat → Bool) : Prop := ∃ rk : Nat → Nat, ∀ x ∈ ws, x.b = 0 → d x.t.toNat = true → d x.f.toNat = true ∧ rk x.f.toNat < rk x.t.toNat
theorem Rkd.step {m : Nat} {ws : List Wa} (hv : Val m ws) {d : Nat → Bool} (h : Rkd ws d) (s : Nat) : Rkd ws (skS ws d s) := by
  unfold skS
  split
  · rename_i hf
    by_cases hd : d s = true
    · have e : (fun v => if v = s then true else d v) = d := by
        funext v
        by_cases hvs : v = s
        · subst hvs; simp [hd]
        · simp [hvs]
      rw [e]; exact h
    · obtain ⟨rk, hr⟩ := h
      obtain ⟨M, hM⟩ := bound_ex rk (m + 1)
      refine ⟨fun v => if v = s then M + 1 else rk v, fun x hx hb ht => ?_⟩
      obtain ⟨⟨hf0, hf1⟩, ⟨ht0, ht1⟩, -⟩ := (val_mem.1 hv).2.2 x hx
      simp only at ht ⊢
      by_cases hts : x.t.toNat = s
      · have h1 := List.all_eq_true.1 hf x hx
        unfold freeX at h1
        have h2 : (x.t != (s : Int)) = false := by rw [bne_eq_false_iff_eq]; omega
        rw [h2, hb] at h1
        simp only [Bool.false_or] at h1
        have h3 : d x.f.toNat = true := by simpa using h1
        have hfs : x.f.toNat ≠ s := fun e => hd (by rw [← e]; exact h3)
        rw [if_neg hfs, if_neg hfs, if_pos hts]
        have := hM x.f.toNat (by omega)
        exact ⟨h3, by omega⟩
      · rw [if_neg hts] at ht
        obtain ⟨h3, h4⟩ := hr x hx hb ht
        have hfs : x.f.toNat ≠ s := fun e => hd (by rw [← e]; exact h3)
        rw [if_neg hfs, if_neg hfs, if_neg hts]
        exact ⟨h3, h4⟩
  · exact h
theorem Rkd.all {m : Nat} {ws : List Wa} (hv : Val m ws) {d : Nat → Bool} (h : Rkd ws d) : ∀ j, Rkd ws (skR ws d j)
  | 0 => h
  | j + 1 => by rw [skR_succ]; exact (h.all hv j).step hv j
theorem skN_rkd {m : Nat} {ws : List Wa} (hv : Val m ws) : ∀ r, Rkd ws (skN ws m r)
  | 0 => ⟨fun _ => 0, fun x _ _ h => by simp [skN] at h⟩
  | r + 1 => (skN_rkd hv r).all hv m
theorem skN_rank {m : Nat} {ws : List Wa} (hv : Val m ws) {rk : Nat → Nat} (hrk : ∀ x ∈ ws, x.b = 0 → rk x.f.toNat < rk x.t.toNat) : ∀ r v, v < m → rk v < r → skN ws m r v = true
  | 0, _, _, h => by omega
  | r + 1, v, hvm, hr => by
    have key : skR ws (skN ws m r) (v + 1) v = true := by
      rw [skR_succ]
      unfold skS
      have hf : freeB ws (skR ws (skN ws m r) v) v = true := by
        refine List.all_eq_true.2 fun x hx => ?_
        obtain ⟨⟨hf0, hf1⟩, ⟨ht0, ht1⟩, -, -, hb0, -⟩ := (val_mem.1 hv).2.2 x hx
        unfold freeX
        by_cases ht : x.t = (v : Int)
        · by_cases hb : x.b = 0
          · have h1 := hrk x hx hb
            have h2 : x.t.toNat = v := by omega
            rw [h2] at h1
            rw [skR_up (skN_rank hv hrk r _ (by omega) (by omega)) v]
            simp
          · have : 0 < x.b := by omega
            simp [this]
        · have : (x.t != (v : Int)) = true := by rw [bne_iff_ne]; exact ht
          simp [this]
      rw [if_pos hf]
      simp
    have h4 : ∀ j, v + 1 ≤ j → skR ws (skN ws m r) j v = true := by
      intro j hj
      induction j with
      | zero => omega
      | succ j ih =>
        by_cases hji : v + 1 = j + 1
        · rw [← hji]; exact key
        · rw [skR_succ]; exact skS_up (ih (by omega))
    exact h4 m (by omega)
/-- All are taken away just if the work does not get stuck. -/
theorem sk_ns {m : Nat} {ws : List Wa} (hv : Val m ws) : (∀ v, v < m → skN ws m m v = true) ↔ NS ws := by
  constructor
  · intro h
    obtain ⟨rk, hr⟩ := skN_rkd hv m
    refine ns_mem.2 ⟨rk, fun x hx hb => ?_⟩
    obtain ⟨-, ⟨ht0, ht1⟩, -⟩ := (val_mem.1 hv).2.2 x hx
    exact (hr x hx hb (h _ (by omega))).2
  · intro hs
    obtain ⟨rk, hrk, hrm⟩ := ns_rank hv hs
    refine fun v hvm => skN_rank hv (rk := rk) (fun x hx hb => ?_) m v hvm (hrm v hvm)
    obtain ⟨i, hi, he⟩ := List.getElem_of_mem hx
    have := hrk i hi (by rw [at_lt hi, he]; exact hb)
    rwa [at_lt hi, he] at this
end Yteileadcmekkoaa
end Go.Proofs
