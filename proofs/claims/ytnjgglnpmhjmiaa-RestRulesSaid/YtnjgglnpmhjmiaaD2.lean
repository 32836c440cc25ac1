/- Laws of rotation: whether what was returned is a law with two crops. -/
import Derived.Test.YtnjgglnpmhjmiaaC4
open Go Go.RowKit Go.YtnjgglnpmhjmiaaIt
open Rest
namespace Go.Proofs
namespace Ytnjgglnpmhjmiaa
theorem valid_m {k n : Nat} (hk : k < n) : n - ((k + 1 : Nat) : Int).toNat < n - (k : Int).toNat := by omega
theorem valid_w {k n : Nat} (h : n ≤ 40) (hk : k < n) : wrap64 ((k : Int) + 1) = ((k + 1 : Nat) : Int) := IntWalk.wrap64_in _ (by omega)
theorem valid_m2 {k n : Nat} (h : n ≤ 40) (hk : k < n) : n - (intOf (Value.int .i64 (wrap64 ((k : Int) + 1)))).toNat < n - (intOf (Value.int .i64 (k : Int))).toNat := by rw [valid_w h hk]; exact valid_m hk
set_option maxRecDepth 100000 in
set_option maxHeartbeats 4000000 in
theorem valid_any {v : Value} {l : Lw} {w : World} (h : LawA w v l) (ho : l.Ok) (hk : l.k = 2) : Calls Try.prog 36 #[v] w fun e w' => e = .returned (.bool true) ∧ Below w.heap.size w w' := by
  obtain ⟨an, cn, ag, cg, rfl, hn, hg⟩ := LawA.form h
  have hX := LawA.box h 25
  have hB1 := (Below.refl w.heap.size w).alloc (Nat.le_refl _) (.cells #[.slice an l.nx.length cn, .slice ag l.gd.length cg] 25)
  obtain ⟨w1, hw1⟩ : ∃ q, q = w.alloc (.cells #[.slice an l.nx.length cn, .slice ag l.gd.length cg] 25) := ⟨_, rfl⟩
  obtain ⟨g, hgw⟩ : ∃ q, q = w.heap.size := ⟨_, rfl⟩
  have HO := Lib.hid ho
  have HK2 := Lib.hid hk
  go_enter Try.func36, Try.ntmps36
  refine wp_seq_k (fun K hK => ?_)
  have HK := Lib.hid hK; clear hK
  have HW := Lib.hid (And.intro hw1 hgw)
  clear hw1 hgw
  go_wp2
  refine HK.out _ _ ?_; clear HK
  obtain ⟨hw1, hgw⟩ := HW.out
  rw [← hw1] at hX hB1 ⊢
  rw [← hgw] at hX hB1 ⊢
  have c0 := cell_blk (i := 0) hX.blk
  have c1 := cell_blk (i := 1) hX.blk
  simp only [List.getElem?_toArray, List.getElem?_cons_zero, List.getElem?_cons_succ] at c0 c1
  have HX := Lib.hid hX
  have HXB := Lib.hid hX.blk
  have HB1 := Lib.hid hB1
  have hn1 : ¬ ((l.nx.length : Int) = 0) := by have := ho.n1; omega
  have hgn : ((l.gd.length : Int) != (l.nx.length : Int)) = false := by have := ho.gd; simp; omega
  have hz : ((l.nx.length : Int) == 0) = false := by simpa using hn1
  clear hw1 hgw HW hX hB1 hn hg h ho hk
  go_wp2
  clear c1 hz hgn hn1
  go_loopw [21] (fun i wr => ∃ k : Nat, k ≤ l.nx.length ∧ i = .int .i64 k ∧ Below w1.heap.size w1 wr) (fun i _ => l.nx.length - (intOf i).toNat)
  case atStart => exact ⟨0, Nat.zero_le _, rfl, Below.refl _ _⟩
  case round =>
    obtain ⟨k, hk, rfl, hb⟩ := hrel
    by_cases hkn : k < l.nx.length
    · have hki : (k : Int) < (l.nx.length : Int) := by omega
      have hX := HX.out.below hb
      obtain ⟨b, off, a, cc, rfl, hbl, hcell, hrow⟩ := hX.nx.row hkn
      have hlen : (l.nx[k]).length = 2 := by rw [HO.out.row k hkn, HK2.out]
      have hbd := HO.out.ent k hkn
      obtain ⟨r, hr⟩ : ∃ r, r = l.nx[k] := ⟨_, rfl⟩
      rw [← hr] at hcell hrow hlen hbd
      match r, hlen, hbd with
      | [x, y], _, hbd =>
      obtain ⟨x, rfl⟩ : ∃ m : Nat, x = (m : Int) := ⟨x.toNat, by have := hbd x (by simp); omega⟩
      obtain ⟨y, rfl⟩ : ∃ m : Nat, y = (m : Int) := ⟨y.toNat, by have := hbd y (by simp); omega⟩
      have hx1 : ¬ ((l.nx.length : Int) ≤ (x : Int)) := by have := (hbd (x : Int) (by simp)).2; omega
      have hy1 : ¬ ((l.nx.length : Int) ≤ (y : Int)) := by have := (hbd (y : Int) (by simp)).2; omega
      have hx0 : ¬ ((x : Int) < 0) := by omega
      have hxn : ¬ (l.nx.length ≤ x) := by omega
      have hyn : ¬ (l.nx.length ≤ y) := by omega
      have hy0 : ¬ ((y : Int) < 0) := by omega
      obtain ⟨ad, cap, e, -, -, hcc⟩ := hrow
      injection e with e1 e2 e3
      subst e1
      obtain ⟨b2, off2, rfl, hb2, hcell2⟩ := hcc (by simp)
      have k0 := hcell2 0 (by simp)
      have k1 := hcell2 1 (by simp)
      rw [at0_lt (by simp)] at k0 k1
      simp only [List.getElem_cons_zero, List.getElem_cons_succ] at k0 k1
      rw [Nat.add_zero] at k0
      have HC := Lib.hid (And.intro hb2 (And.intro k0 k1))
      have HCW := Lib.hid (And.intro hbl hcell)
      have HXB2 := Lib.hid hX.blk
      obtain ⟨wo, rfl⟩ : ∃ q, q = wr := ⟨_, rfl⟩
      have hcw : wo.cell? ⟨b, off + k, none⟩ = some (.slice (some ⟨b2, off2, none⟩) 2 cc) := hcell
      clear hr hX hcell hcell2 hcc k0 k1 e2 e3 hbd hlen hbl
      go_wp2
      clear hcw
      refine wp_region_x (R := fun U => Below wo.heap.size wo U) (S := fun _ => True) (z := 999) rfl ?_
      change wpAnyX _ _ _ _ _ _ _ _ _ _ wo.drew
      have Hq0 := Lib.hid (show Below wo.heap.size wo wo.drew from (Below.refl _ _).drew)
      obtain ⟨wq0, hwq⟩ : ∃ q, q = wo.drew := ⟨_, rfl⟩
      rw [← hwq] at Hq0 ⊢
      clear hwq
      refine wpAnyX_keep (i := 0) (oi := { dst := some 25, op := _, type := _, pos := _, after := _, guard := none }) (v := ?_) rfl (by kernel_rfl) (by kernel_rfl) (by kernel_rfl) (fun _ _ _ h => h) (Or.inl ⟨by rfl, ?_⟩) ⟨(by first | exact Hq4.out | exact Hq3.out | exact Hq2.out | exact Hq1.out | exact Hq0.out), fun _ => trivial⟩ ?_
      rotate_left
      · intro U hU
        go_simp
        all_goals with_reducible rfl
      simp only [Act.put, List.setIfInBounds_toArray, List.set_cons_zero, List.set_cons_succ]
      refine wpAnyX_keep (i := 1) (oi := { dst := some 26, op := _, type := _, pos := _, after := _, guard := none }) (v := ?_) rfl (by kernel_rfl) (by kernel_rfl) (by kernel_rfl) (fun _ _ _ h => h) (Or.inl ⟨by rfl, ?_⟩) ⟨(by first | exact Hq4.out | exact Hq3.out | exact Hq2.out | exact Hq1.out | exact Hq0.out), fun _ => trivial⟩ ?_
      rotate_left
      · intro U hU
        go_simp
        all_goals with_reducible rfl
      simp only [Act.put, List.setIfInBounds_toArray, List.set_cons_zero, List.set_cons_succ]
      refine wpAnyX_keep (i := 2) (oi := { dst := some 27, op := _, type := _, pos := _, after := _, guard := none }) (v := ?_) rfl (by kernel_rfl) (by kernel_rfl) (by kernel_rfl) (fun _ _ _ h => h) (Or.inl ⟨by rfl, ?_⟩) ⟨(by first | exact Hq4.out | exact Hq3.out | exact Hq2.out | exact Hq1.out | exact Hq0.out), fun _ => trivial⟩ ?_
      rotate_left
      · intro U hU
        go_simp
        all_goals with_reducible rfl
      simp only [Act.put, List.setIfInBounds_toArray, List.set_cons_zero, List.set_cons_succ]
      refine wpAnyX_keep (i := 3) (oi := { dst := some 28, op := _, type := _, pos := _, after := _, guard := none }) (v := ?_) rfl (by kernel_rfl) (by kernel_rfl) (by kernel_rfl) (fun _ _ _ h => h) (Or.inl ⟨by rfl, ?_⟩) ⟨(by first | exact Hq4.out | exact Hq3.out | exact Hq2.out | exact Hq1.out | exact Hq0.out), fun _ => trivial⟩ ?_
      rotate_left
      · intro U hU
        go_simp
        all_goals with_reducible rfl
      simp only [Act.put, List.setIfInBounds_toArray, List.set_cons_zero, List.set_cons_succ]
      refine wpAnyX_keep (i := 4) (oi := { dst := some 29, op := _, type := _, pos := _, after := _, guard := some (3, false) }) (v := ?_) rfl (by kernel_rfl) (by kernel_rfl) (by kernel_rfl) (fun _ _ _ h => h) (Or.inl ⟨by rfl, ?_⟩) ⟨(by first | exact Hq4.out | exact Hq3.out | exact Hq2.out | exact Hq1.out | exact Hq0.out), fun _ => trivial⟩ ?_
      rotate_left
      · intro U hU
        go_simp
        all_goals with_reducible rfl
      simp only [Act.put, List.setIfInBounds_toArray, List.set_cons_zero, List.set_cons_succ]
      refine wpAnyX_keep (i := 5) (oi := { dst := some 30, op := _, type := _, pos := _, after := _, guard := some (3, false) }) (v := ?_) rfl (by kernel_rfl) (by kernel_rfl) (by kernel_rfl) (fun _ _ _ h => h) (Or.inl ⟨by rfl, ?_⟩) ⟨(by first | exact Hq4.out | exact Hq3.out | exact Hq2.out | exact Hq1.out | exact Hq0.out), fun _ => trivial⟩ ?_
      rotate_left
      · intro U hU
        go_simp
        all_goals with_reducible rfl
      simp only [Act.put, List.setIfInBounds_toArray, List.set_cons_zero, List.set_cons_succ]
      refine wpAnyX_keep (i := 6) (oi := { dst := some 31, op := _, type := _, pos := _, after := _, guard := some (3, false) }) (v := ?_) rfl (by kernel_rfl) (by kernel_rfl) (by kernel_rfl) (fun _ _ _ h => h) (Or.inl ⟨by rfl, ?_⟩) ⟨(by first | exact Hq4.out | exact Hq3.out | exact Hq2.out | exact Hq1.out | exact Hq0.out), fun _ => trivial⟩ ?_
      rotate_left
      · intro U hU
        have u0 := (hU.cell (p := ⟨b2, off2, none⟩) HC.out.1).trans HC.out.2.1
        go_simp
        all_goals with_reducible rfl
      simp only [Act.put, List.setIfInBounds_toArray, List.set_cons_zero, List.set_cons_succ]
      refine wpAnyX_keep (i := 7) (oi := { dst := some 32, op := _, type := _, pos := _, after := _, guard := some (3, false) }) (v := ?_) rfl (by kernel_rfl) (by kernel_rfl) (by kernel_rfl) (fun _ _ _ h => h) (Or.inl ⟨by rfl, ?_⟩) ⟨(by first | exact Hq4.out | exact Hq3.out | exact Hq2.out | exact Hq1.out | exact Hq0.out), fun _ => trivial⟩ ?_
      rotate_left
      · intro U hU
        go_simp
        all_goals with_reducible rfl
      simp only [Act.put, List.setIfInBounds_toArray, List.set_cons_zero, List.set_cons_succ]
      refine wpAnyX_keep (i := 8) (oi := { dst := some 33, op := _, type := _, pos := _, after := _, guard := none }) (v := ?_) rfl (by kernel_rfl) (by kernel_rfl) (by kernel_rfl) (fun _ _ _ h => h) (Or.inl ⟨by rfl, ?_⟩) ⟨(by first | exact Hq4.out | exact Hq3.out | exact Hq2.out | exact Hq1.out | exact Hq0.out), fun _ => trivial⟩ ?_
      rotate_left
      · intro U hU
        go_simp
        all_goals with_reducible rfl
      simp only [Act.put, List.setIfInBounds_toArray, List.set_cons_zero, List.set_cons_succ]
      refine wpAnyX_keep (i := 9) (oi := { dst := some 34, op := _, type := _, pos := _, after := _, guard := none }) (v := ?_) rfl (by kernel_rfl) (by kernel_rfl) (by kernel_rfl) (fun _ _ _ h => h) (Or.inl ⟨by rfl, ?_⟩) ⟨(by first | exact Hq4.out | exact Hq3.out | exact Hq2.out | exact Hq1.out | exact Hq0.out), fun _ => trivial⟩ ?_
      rotate_left
      · intro U hU
        go_simp
        all_goals with_reducible rfl
      simp only [Act.put, List.setIfInBounds_toArray, List.set_cons_zero, List.set_cons_succ]
      refine wpAnyX_keep (i := 10) (oi := { dst := some 35, op := _, type := _, pos := _, after := _, guard := some (9, false) }) (v := ?_) rfl (by kernel_rfl) (by kernel_rfl) (by kernel_rfl) (fun _ _ _ h => h) (Or.inl ⟨by rfl, ?_⟩) ⟨(by first | exact Hq4.out | exact Hq3.out | exact Hq2.out | exact Hq1.out | exact Hq0.out), fun _ => trivial⟩ ?_
      rotate_left
      · intro U hU
        go_simp
        all_goals with_reducible rfl
      simp only [Act.put, List.setIfInBounds_toArray, List.set_cons_zero, List.set_cons_succ]
      refine wpAnyX_keep (i := 11) (oi := { dst := some 36, op := _, type := _, pos := _, after := _, guard := some (9, false) }) (v := ?_) rfl (by kernel_rfl) (by kernel_rfl) (by kernel_rfl) (fun _ _ _ h => h) (Or.inl ⟨by rfl, ?_⟩) ⟨(by first | exact Hq4.out | exact Hq3.out | exact Hq2.out | exact Hq1.out | exact Hq0.out), fun _ => trivial⟩ ?_
      rotate_left
      · intro U hU
        go_simp
        all_goals with_reducible rfl
      simp only [Act.put, List.setIfInBounds_toArray, List.set_cons_zero, List.set_cons_succ]
      refine wpAnyX_keep (i := 12) (oi := { dst := some 37, op := _, type := _, pos := _, after := _, guard := some (9, false) }) (v := ?_) rfl (by kernel_rfl) (by kernel_rfl) (by kernel_rfl) (fun _ _ _ h => h) (Or.inl ⟨by rfl, ?_⟩) ⟨(by first | exact Hq4.out | exact Hq3.out | exact Hq2.out | exact Hq1.out | exact Hq0.out), fun _ => trivial⟩ ?_
      rotate_left
      · intro U hU
        have u0 := (hU.cell (p := ⟨b2, off2, none⟩) HC.out.1).trans HC.out.2.1
        go_simp
        all_goals with_reducible rfl
      simp only [Act.put, List.setIfInBounds_toArray, List.set_cons_zero, List.set_cons_succ]
      refine wpAnyX_keep (i := 13) (oi := { dst := some 38, op := _, type := _, pos := _, after := _, guard := some (9, false) }) (v := ?_) rfl (by kernel_rfl) (by kernel_rfl) (by kernel_rfl) (fun _ _ _ h => h) (Or.inl ⟨by rfl, ?_⟩) ⟨(by first | exact Hq4.out | exact Hq3.out | exact Hq2.out | exact Hq1.out | exact Hq0.out), fun _ => trivial⟩ ?_
      rotate_left
      · intro U hU
        go_simp
        all_goals with_reducible rfl
      simp only [Act.put, List.setIfInBounds_toArray, List.set_cons_zero, List.set_cons_succ]
      refine wpAnyX_keep (i := 14) (oi := { dst := some 39, op := _, type := _, pos := _, after := _, guard := some (9, false) }) (v := ?_) rfl (by kernel_rfl) (by kernel_rfl) (by kernel_rfl) (fun _ _ _ h => h) (Or.inl ⟨by rfl, ?_⟩) ⟨(by first | exact Hq4.out | exact Hq3.out | exact Hq2.out | exact Hq1.out | exact Hq0.out), fun _ => trivial⟩ ?_
      rotate_left
      · intro U hU
        have u0 := cell_blk (i := 0) (blk_keep HXB2.out hU)
        simp only [List.getElem?_toArray, List.getElem?_cons_zero] at u0
        go_simp
        all_goals with_reducible rfl
      simp only [Act.put, List.setIfInBounds_toArray, List.set_cons_zero, List.set_cons_succ]
      refine wpAnyX_keep (i := 15) (oi := { dst := some 40, op := _, type := _, pos := _, after := _, guard := some (9, false) }) (v := ?_) rfl (by kernel_rfl) (by kernel_rfl) (by kernel_rfl) (fun _ _ _ h => h) (Or.inl ⟨by rfl, ?_⟩) ⟨(by first | exact Hq4.out | exact Hq3.out | exact Hq2.out | exact Hq1.out | exact Hq0.out), fun _ => trivial⟩ ?_
      rotate_left
      · intro U hU
        go_simp
        all_goals with_reducible rfl
      simp only [Act.put, List.setIfInBounds_toArray, List.set_cons_zero, List.set_cons_succ]
      refine wpAnyX_keep (i := 16) (oi := { dst := some 41, op := _, type := _, pos := _, after := _, guard := some (9, false) }) (v := ?_) rfl (by kernel_rfl) (by kernel_rfl) (by kernel_rfl) (fun _ _ _ h => h) (Or.inl ⟨by rfl, ?_⟩) ⟨(by first | exact Hq4.out | exact Hq3.out | exact Hq2.out | exact Hq1.out | exact Hq0.out), fun _ => trivial⟩ ?_
      rotate_left
      · intro U hU
        go_simp
        all_goals with_reducible rfl
      simp only [Act.put, List.setIfInBounds_toArray, List.set_cons_zero, List.set_cons_succ]
      refine wpAnyX_keep (i := 17) (oi := { dst := some 42, op := _, type := _, pos := _, after := _, guard := none }) (v := ?_) rfl (by kernel_rfl) (by kernel_rfl) (by kernel_rfl) (fun _ _ _ h => h) (Or.inl ⟨by rfl, ?_⟩) ⟨(by first | exact Hq4.out | exact Hq3.out | exact Hq2.out | exact Hq1.out | exact Hq0.out), fun _ => trivial⟩ ?_
      rotate_left
      · intro U hU
        go_simp
        all_goals with_reducible rfl
      simp only [Act.put, List.setIfInBounds_toArray, List.set_cons_zero, List.set_cons_succ]
      refine wpAnyX_keep (i := 18) (oi := { dst := some 43, op := _, type := _, pos := _, after := _, guard := none }) (v := ?_) rfl (by kernel_rfl) (by kernel_rfl) (by kernel_rfl) (fun _ _ _ h => h) (Or.inl ⟨by rfl, ?_⟩) ⟨(by first | exact Hq4.out | exact Hq3.out | exact Hq2.out | exact Hq1.out | exact Hq0.out), fun _ => trivial⟩ ?_
      rotate_left
      · intro U hU
        go_simp
        all_goals with_reducible rfl
      simp only [Act.put, List.setIfInBounds_toArray, List.set_cons_zero, List.set_cons_succ]
      refine wpAnyX_keep (i := 19) (oi := { dst := some 44, op := _, type := _, pos := _, after := _, guard := some (18, false) }) (v := ?_) rfl (by kernel_rfl) (by kernel_rfl) (by kernel_rfl) (fun _ _ _ h => h) (Or.inl ⟨by rfl, ?_⟩) ⟨(by first | exact Hq4.out | exact Hq3.out | exact Hq2.out | exact Hq1.out | exact Hq0.out), fun _ => trivial⟩ ?_
      rotate_left
      · intro U hU
        go_simp
        all_goals with_reducible rfl
      simp only [Act.put, List.setIfInBounds_toArray, List.set_cons_zero, List.set_cons_succ]
      refine wpAnyX_keep (i := 20) (oi := { dst := some 45, op := _, type := _, pos := _, after := _, guard := some (18, false) }) (v := ?_) rfl (by kernel_rfl) (by kernel_rfl) (by kernel_rfl) (fun _ _ _ h => h) (Or.inl ⟨by rfl, ?_⟩) ⟨(by first | exact Hq4.out | exact Hq3.out | exact Hq2.out | exact Hq1.out | exact Hq0.out), fun _ => trivial⟩ ?_
      rotate_left
      · intro U hU
        go_simp
        all_goals with_reducible rfl
      simp only [Act.put, List.setIfInBounds_toArray, List.set_cons_zero, List.set_cons_succ]
      refine wpAnyX_keep (i := 21) (oi := { dst := some 46, op := _, type := _, pos := _, after := _, guard := some (18, false) }) (v := ?_) rfl (by kernel_rfl) (by kernel_rfl) (by kernel_rfl) (fun _ _ _ h => h) (Or.inl ⟨by rfl, ?_⟩) ⟨(by first | exact Hq4.out | exact Hq3.out | exact Hq2.out | exact Hq1.out | exact Hq0.out), fun _ => trivial⟩ ?_
      rotate_left
      · intro U hU
        have u0 := (hU.cell (p := ⟨b2, off2 + 1, none⟩) HC.out.1).trans HC.out.2.2
        go_simp
        all_goals with_reducible rfl
      simp only [Act.put, List.setIfInBounds_toArray, List.set_cons_zero, List.set_cons_succ]
      refine wpAnyX_keep (i := 22) (oi := { dst := some 47, op := _, type := _, pos := _, after := _, guard := some (18, false) }) (v := ?_) rfl (by kernel_rfl) (by kernel_rfl) (by kernel_rfl) (fun _ _ _ h => h) (Or.inl ⟨by rfl, ?_⟩) ⟨(by first | exact Hq4.out | exact Hq3.out | exact Hq2.out | exact Hq1.out | exact Hq0.out), fun _ => trivial⟩ ?_
      rotate_left
      · intro U hU
        go_simp
        all_goals with_reducible rfl
      simp only [Act.put, List.setIfInBounds_toArray, List.set_cons_zero, List.set_cons_succ]
      refine wpAnyX_keep (i := 23) (oi := { dst := some 48, op := _, type := _, pos := _, after := _, guard := none }) (v := ?_) rfl (by kernel_rfl) (by kernel_rfl) (by kernel_rfl) (fun _ _ _ h => h) (Or.inl ⟨by rfl, ?_⟩) ⟨(by first | exact Hq4.out | exact Hq3.out | exact Hq2.out | exact Hq1.out | exact Hq0.out), fun _ => trivial⟩ ?_
      rotate_left
      · intro U hU
        go_simp
        all_goals with_reducible rfl
      simp only [Act.put, List.setIfInBounds_toArray, List.set_cons_zero, List.set_cons_succ]
      refine wpAnyX_keep (i := 24) (oi := { dst := some 49, op := _, type := _, pos := _, after := _, guard := none }) (v := ?_) rfl (by kernel_rfl) (by kernel_rfl) (by kernel_rfl) (fun _ _ _ h => h) (Or.inl ⟨by rfl, ?_⟩) ⟨(by first | exact Hq4.out | exact Hq3.out | exact Hq2.out | exact Hq1.out | exact Hq0.out), fun _ => trivial⟩ ?_
      rotate_left
      · intro U hU
        go_simp
        all_goals with_reducible rfl
      simp only [Act.put, List.setIfInBounds_toArray, List.set_cons_zero, List.set_cons_succ]
      refine wpAnyX_keep (i := 25) (oi := { dst := some 50, op := _, type := _, pos := _, after := _, guard := some (24, false) }) (v := ?_) rfl (by kernel_rfl) (by kernel_rfl) (by kernel_rfl) (fun _ _ _ h => h) (Or.inl ⟨by rfl, ?_⟩) ⟨(by first | exact Hq4.out | exact Hq3.out | exact Hq2.out | exact Hq1.out | exact Hq0.out), fun _ => trivial⟩ ?_
      rotate_left
      · intro U hU
        go_simp
        all_goals with_reducible rfl
      simp only [Act.put, List.setIfInBounds_toArray, List.set_cons_zero, List.set_cons_succ]
      refine wpAnyX_keep (i := 26) (oi := { dst := some 51, op := _, type := _, pos := _, after := _, guard := some (24, false) }) (v := ?_) rfl (by kernel_rfl) (by kernel_rfl) (by kernel_rfl) (fun _ _ _ h => h) (Or.inl ⟨by rfl, ?_⟩) ⟨(by first | exact Hq4.out | exact Hq3.out | exact Hq2.out | exact Hq1.out | exact Hq0.out), fun _ => trivial⟩ ?_
      rotate_left
      · intro U hU
        go_simp
        all_goals with_reducible rfl
      simp only [Act.put, List.setIfInBounds_toArray, List.set_cons_zero, List.set_cons_succ]
      refine wpAnyX_keep (i := 27) (oi := { dst := some 52, op := _, type := _, pos := _, after := _, guard := some (24, false) }) (v := ?_) rfl (by kernel_rfl) (by kernel_rfl) (by kernel_rfl) (fun _ _ _ h => h) (Or.inl ⟨by rfl, ?_⟩) ⟨(by first | exact Hq4.out | exact Hq3.out | exact Hq2.out | exact Hq1.out | exact Hq0.out), fun _ => trivial⟩ ?_
      rotate_left
      · intro U hU
        have u0 := (hU.cell (p := ⟨b2, off2 + 1, none⟩) HC.out.1).trans HC.out.2.2
        go_simp
        all_goals with_reducible rfl
      simp only [Act.put, List.setIfInBounds_toArray, List.set_cons_zero, List.set_cons_succ]
      refine wpAnyX_keep (i := 28) (oi := { dst := some 53, op := _, type := _, pos := _, after := _, guard := some (24, false) }) (v := ?_) rfl (by kernel_rfl) (by kernel_rfl) (by kernel_rfl) (fun _ _ _ h => h) (Or.inl ⟨by rfl, ?_⟩) ⟨(by first | exact Hq4.out | exact Hq3.out | exact Hq2.out | exact Hq1.out | exact Hq0.out), fun _ => trivial⟩ ?_
      rotate_left
      · intro U hU
        go_simp
        all_goals with_reducible rfl
      simp only [Act.put, List.setIfInBounds_toArray, List.set_cons_zero, List.set_cons_succ]
      refine wpAnyX_keep (i := 29) (oi := { dst := some 54, op := _, type := _, pos := _, after := _, guard := some (24, false) }) (v := ?_) rfl (by kernel_rfl) (by kernel_rfl) (by kernel_rfl) (fun _ _ _ h => h) (Or.inl ⟨by rfl, ?_⟩) ⟨(by first | exact Hq4.out | exact Hq3.out | exact Hq2.out | exact Hq1.out | exact Hq0.out), fun _ => trivial⟩ ?_
      rotate_left
      · intro U hU
        have u0 := cell_blk (i := 0) (blk_keep HXB2.out hU)
        simp only [List.getElem?_toArray, List.getElem?_cons_zero] at u0
        go_simp
        all_goals with_reducible rfl
      simp only [Act.put, List.setIfInBounds_toArray, List.set_cons_zero, List.set_cons_succ]
      refine wpAnyX_keep (i := 30) (oi := { dst := some 55, op := _, type := _, pos := _, after := _, guard := some (24, false) }) (v := ?_) rfl (by kernel_rfl) (by kernel_rfl) (by kernel_rfl) (fun _ _ _ h => h) (Or.inl ⟨by rfl, ?_⟩) ⟨(by first | exact Hq4.out | exact Hq3.out | exact Hq2.out | exact Hq1.out | exact Hq0.out), fun _ => trivial⟩ ?_
      rotate_left
      · intro U hU
        go_simp
        all_goals with_reducible rfl
      simp only [Act.put, List.setIfInBounds_toArray, List.set_cons_zero, List.set_cons_succ]
      refine wpAnyX_keep (i := 31) (oi := { dst := some 56, op := _, type := _, pos := _, after := _, guard := some (24, false) }) (v := ?_) rfl (by kernel_rfl) (by kernel_rfl) (by kernel_rfl) (fun _ _ _ h => h) (Or.inl ⟨by rfl, ?_⟩) ⟨(by first | exact Hq4.out | exact Hq3.out | exact Hq2.out | exact Hq1.out | exact Hq0.out), fun _ => trivial⟩ ?_
      rotate_left
      · intro U hU
        go_simp
        all_goals with_reducible rfl
      simp only [Act.put, List.setIfInBounds_toArray, List.set_cons_zero, List.set_cons_succ]
      refine wpAnyX_keep (i := 32) (oi := { dst := some 57, op := _, type := _, pos := _, after := _, guard := none }) (v := ?_) rfl (by kernel_rfl) (by kernel_rfl) (by kernel_rfl) (fun _ _ _ h => h) (Or.inl ⟨by rfl, ?_⟩) ⟨(by first | exact Hq4.out | exact Hq3.out | exact Hq2.out | exact Hq1.out | exact Hq0.out), fun _ => trivial⟩ ?_
      rotate_left
      · intro U hU
        go_simp
        all_goals with_reducible rfl
      simp only [Act.put, List.setIfInBounds_toArray, List.set_cons_zero, List.set_cons_succ]
      refine wpAnyX_done (by kernel_rfl) ?_ _
      have hbq := btr hb Hq0.out (Nat.le_refl _)
      clear Hq0 hb HCW HC HXB2
      go_wp2
      have hn40 := HO.out.n40
      clear hxn hyn hx0 hy0 hx1 hy1 hki hb2
      exact ⟨⟨k + 1, hkn, congrArg _ (valid_w hn40 hkn), hbq⟩, valid_m2 hn40 hkn⟩
    · have hke : ¬ (k : Int) < (l.nx.length : Int) := by omega
      have H52 := Lib.hid (check_any (HX.out.below hb).law)
      rw [ok_chkL HO.out] at H52
      have HXB2 := Lib.hid (HX.out.below hb).blk
      have HB := Lib.hid hb
      clear hb
      go_wp2_with (first | (refine wpList_load_blk rfl 25 _ rfl _ rfl HXB2.out Try.underlying25 rfl size25 rfl ?_) | (go_at_call 52; refine H52.out.mono ?_; rintro e w3 ⟨rfl, hb3⟩))
      go_ret
      exact ⟨rfl, HB1.out.trans ((btr HB.out hb3 (Nat.le_refl _)).mono (Nat.le_of_lt (lt_blk HXB.out)))⟩
end Ytnjgglnpmhjmiaa
end Go.Proofs
