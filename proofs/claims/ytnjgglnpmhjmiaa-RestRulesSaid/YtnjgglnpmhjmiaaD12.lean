/- Laws of rotation: whether a list is as a rule says. -/
import Derived.Test.YtnjgglnpmhjmiaaD11
import Derived.Test.YtnjgglnpmhjmiaaD9
open Go Go.RowKit Go.YtnjgglnpmhjmiaaIt
open Rest
namespace Go.Proofs
namespace Ytnjgglnpmhjmiaa
set_option maxRecDepth 100000 in
set_option maxHeartbeats 2000000 in
theorem rested39_any {v : Value} {ys : List Int} {c : Int} {n : Nat} {w : World} (h : SlI w v ys) (hl : ys.length ≤ 100) (hn : n ≤ 20) : Calls Try.prog 39 #[v, .int .i64 c, .int .i64 n] w fun e w' => e = .returned (.bool (restB c n ys 0 (-1))) ∧ Below w.heap.size w w' := by
  obtain ⟨ad, cap, rfl, -, -, hcc⟩ := h
  obtain ⟨R, hR⟩ : ∃ q, q = restB c n ys 0 (-1) := ⟨_, rfl⟩
  rw [← hR]
  have HCC := Lib.hid hcc
  have HR := Lib.hid hR
  clear hcc hR
  go_enter Try.func39, Try.ntmps39
  go_wp2
  go_loopw [7, 12] (fun f7 i wr => ∃ (k : Nat) (last : Int), k ≤ ys.length ∧ i = .int .i64 k ∧ f7 = .int .i64 last ∧ (-1 ≤ last ∧ last < k) ∧ Hid (R = restB c n (ys.drop k) k last) ∧ w = wr) (fun _ i _ => ys.length - (intOf i).toNat)
  case atStart => exact ⟨0, -1, Nat.zero_le _, rfl, rfl, by omega, Lib.hid HR.out, rfl⟩
  case round =>
    clear HR
    obtain ⟨k, last, hk, rfl, rfl, ⟨hl1, hl2⟩, HR, rfl⟩ := hrel
    by_cases hkn : k < ys.length
    · have hki : (k : Int) < (ys.length : Int) := by omega
      obtain ⟨b, off, rfl, hb, hcell⟩ := HCC.out (by omega)
      have hc := hcell k hkn
      rw [at0_lt hkn] at hc
      have hd := HR.out
      rw [List.drop_eq_getElem_cons hkn, restB] at hd
      obtain ⟨y, hy⟩ : ∃ y, y = ys[k] := ⟨_, rfl⟩
      rw [← hy] at hc hd
      have HD := Lib.hid hd
      clear hcell hd hy hb HR
      by_cases hyc : y = c
      · have hq : (y != c) = false := by simpa using hyc
        have HD2 := Lib.hid (HD.out.trans (if_pos hyc))
        clear HD hyc
        by_cases h0 : (0 : Int) ≤ last
        · by_cases h1 : (k : Int) - last - 1 < (n : Int)
          · have HV := Lib.hid (HD2.out.trans (if_pos ⟨h0, h1⟩))
            clear HD2
            go_wp2
            go_ret
            exact ⟨by rw [HV.out]; rfl, Below.refl _ _⟩
          · have HV := Lib.hid (HD2.out.trans (if_neg fun h => h1 h.2))
            clear HD2
            go_wp2
            exact ⟨⟨k + 1, k, by omega, by go_num, rfl, by omega, Lib.hid (by rw [HV.out]; rfl), trivial⟩, by simp only [intOf]; omega⟩
        · have HV := Lib.hid (HD2.out.trans (if_neg fun h => h0 h.1))
          clear HD2
          go_wp2
          exact ⟨⟨k + 1, k, by omega, by go_num, rfl, by omega, Lib.hid (by rw [HV.out]; rfl), trivial⟩, by simp only [intOf]; omega⟩
      · have hq : (y != c) = true := by simpa using hyc
        have HV := Lib.hid (HD.out.trans (if_neg hyc))
        clear HD hyc
        go_wp2
        exact ⟨⟨k + 1, last, by omega, by go_num, rfl, by omega, Lib.hid (by rw [HV.out]; rfl), trivial⟩, by simp only [intOf]; omega⟩
    · have hki : ¬ (k : Int) < (ys.length : Int) := by omega
      have hd := HR.out
      rw [List.drop_eq_nil_of_le (by omega), restB] at hd
      have HV := Lib.hid hd
      clear hd HR
      go_wp2
      go_ret
      exact ⟨by rw [HV.out]; rfl, Below.refl _ _⟩
set_option maxRecDepth 100000 in
set_option maxHeartbeats 2000000 in
theorem within41_any {v : Value} {ys : List Int} {c : Int} {n : Nat} {w : World} (h : SlI w v ys) (hl : ys.length ≤ 100) (hn1 : 1 ≤ n) (hn : n ≤ 20) : Calls Try.prog 41 #[v, .int .i64 c, .int .i64 n] w fun e w' => e = .returned (.bool (winB c n ys)) ∧ Below w.heap.size w w' := by
  obtain ⟨ad, cap, rfl, -, hcap, hcc⟩ := h
  obtain ⟨R, hR⟩ : ∃ q, q = winB c n ys := ⟨_, rfl⟩
  rw [← hR]
  have HCC := Lib.hid hcc
  have HR := Lib.hid hR
  clear hcc hR
  go_enter Try.func41, Try.ntmps41
  go_wp2
  go_loopw [7] (fun i wr => ∃ k : Nat, k ≤ ys.length ∧ i = .int .i64 k ∧ Hid (R = winB c n (ys.drop k)) ∧ w = wr) (fun i _ => ys.length - (intOf i).toNat)
  case atStart => exact ⟨0, Nat.zero_le _, rfl, Lib.hid HR.out, rfl⟩
  case round =>
    clear HR
    obtain ⟨k, hk, rfl, HR, rfl⟩ := hrel
    by_cases hkn : k + n ≤ ys.length
    · have hki : (k : Int) + (n : Int) ≤ (ys.length : Int) := by omega
      obtain ⟨b, off, rfl, hb, hcell⟩ := HCC.out (by omega)
      have hlen : (ys.drop k).length = ys.length - k := List.length_drop
      have hat : ∀ j, j < n → ∀ h : j < (ys.drop k).length, w.cell? ⟨b, off + k + j, none⟩ = some (.int .i64 (ys.drop k)[j]) := fun j hj h => by
        have := hcell (k + j) (by omega)
        rw [at0_lt (by omega), ← Nat.add_assoc] at this
        rw [List.getElem_drop]
        exact this
      have hne : ys.drop k ≠ [] := fun e => by rw [e] at hlen; simp at hlen; omega
      obtain ⟨L, hL⟩ : ∃ L, L = ys.drop k := ⟨_, rfl⟩
      rw [← hL] at hat hlen hne HR
      have HL := Lib.hid (And.intro hL hlen)
      have HAT := Lib.hid hat
      have hnl : n ≤ L.length := by omega
      have hf1 : (0 : Int) ≤ (k : Int) := by omega
      have hf2 : (k : Int) ≤ (k : Int) + (n : Int) := by omega
      have hf3 : (k : Int) + (n : Int) ≤ (cap : Int) := by omega
      have hf4 : ¬ cap = k := by omega
      clear hcell hat hL hlen hb
      have hn0 : Hid (([] : List Int).any (fun x => x == c) = false) := Lib.hid rfl
      go_wp2
      go_loopw [8, 26] (fun f8 i wr => ∃ j : Nat, j ≤ n ∧ i = .int .i64 j ∧ f8 = .bool ((L.take j).any (fun x => x == c)) ∧ w = wr) (fun _ i _ => n - (intOf i).toNat)
      case atStart => exact ⟨0, Nat.zero_le _, rfl, rfl, rfl⟩
      case round =>
        obtain ⟨j, hj, rfl, rfl, rfl⟩ := hrel
        by_cases hjn : j < n
        · have hji : (j : Int) < (n : Int) := by omega
          have hjl : j < L.length := by omega
          have hcj := HAT.out j hjn hjl
          have hst : (L.take (j + 1)).any (fun x => x == c) = ((L.take j).any (fun x => x == c) || (L[j] == c)) := by
            rw [List.take_succ_eq_append_getElem hjl, List.any_append]
            simp
          obtain ⟨y, hy⟩ : ∃ y, y = L[j] := ⟨_, rfl⟩
          obtain ⟨bF, hbF⟩ : ∃ q, q = (L.take j).any (fun x => x == c) := ⟨_, rfl⟩
          rw [← hy] at hcj hst
          rw [← hbF] at hst ⊢
          have HST := Lib.hid hst
          clear hst hy hbF
          cases bF with
          | true =>
            go_wp2
            exact ⟨⟨j + 1, by omega, by go_num, by rw [HST.out, Bool.true_or], trivial⟩, by simp only [intOf]; omega⟩
          | false =>
            go_wp2
            exact ⟨⟨j + 1, by omega, by go_num, by rw [HST.out, Bool.false_or], trivial⟩, by simp only [intOf]; omega⟩
        · have hji : ¬ (j : Int) < (n : Int) := by omega
          have hje : j = n := by omega
          subst hje
          obtain ⟨bF, hbF⟩ : ∃ q, q = (L.take j).any (fun x => x == c) := ⟨_, rfl⟩
          rw [← hbF]
          have hw : winB c j L = (bF && winB c j (ys.drop (k + 1))) := by
            rw [HL.out.1, List.drop_eq_getElem_cons (show k < ys.length by omega), winB, ← List.drop_eq_getElem_cons (show k < ys.length by omega), ← HL.out.1, ← hbF, decide_eq_false (by omega), Bool.false_or]
          have HW := Lib.hid (HR.out.trans hw)
          clear hw hbF HR HAT hnl
          cases bF with
          | true =>
            go_wp2
            exact ⟨⟨k + 1, by omega, by go_num, Lib.hid (by rw [HW.out, Bool.true_and]), trivial⟩, by simp only [intOf]; omega⟩
          | false =>
            go_wp2
            go_ret
            exact ⟨by rw [HW.out, Bool.false_and]; rfl, Below.refl _ _⟩
    · have hki : ¬ (k : Int) + (n : Int) ≤ (ys.length : Int) := by omega
      have hw := HR.out
      rw [winB_short (by rw [List.length_drop]; omega)] at hw
      have HW := Lib.hid hw
      clear hw HR
      go_wp2
      go_ret
      exact ⟨by rw [HW.out]; rfl, Below.refl _ _⟩
end Ytnjgglnpmhjmiaa
end Go.Proofs
