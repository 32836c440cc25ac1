/- Gangs: what checks fields; small functions. -/
import Derived.Test.YtnihopdglkhbnaaGenT
open Go Go.RowKit Go.YtnihopdglkhbnaaIt
namespace Go.Proofs
namespace Ytnihopdglkhbnaa
def tabR (tab : List (List Int)) (m : Nat) : List Int := tab.getD m []
theorem tabR_lt {tab : List (List Int)} {m : Nat} (h : m < tab.length) : tabR tab m = tab[m] := by simp [tabR, h]
theorem SlII.opened {w : World} {v : Value} {tab : List (List Int)} (h : SlII w v tab) : ∃ ad cap, v = .slice ad tab.length cap ∧ tab.length ≤ 17592186044416 ∧ tab.length ≤ cap ∧
    ∀ k, k < tab.length → ∃ b off ad2 cap2, ad = some ⟨b, off, none⟩ ∧ b < w.heap.size ∧ w.cell? ⟨b, off + k, none⟩ = some (.slice ad2 (tabR tab k).length cap2) ∧ SlI w (.slice ad2 (tabR tab k).length cap2) (tabR tab k) := by
  obtain ⟨vs, ⟨ad, cap, rfl, hm, hcp, hc⟩, hvl, hrow⟩ := h
  refine ⟨ad, cap, by rw [hvl], by omega, by omega, fun k hk => ?_⟩
  have hkv : k < vs.length := by omega
  obtain ⟨b, off, hb, hlt, hcell⟩ := hc (by omega)
  have hr := hrow k hkv hk
  have h1 := hcell k hkv
  rw [tabR_lt hk]
  obtain ⟨ad2, cap2, hv⟩ := slI_form hr
  rw [hv] at hr h1
  exact ⟨b, off, ad2, cap2, hb, hlt, h1, hr⟩
/-- The cells of a slice of numbers. -/
theorem slI_at {W : World} {ad : Option Addr} {n cap : Nat} {xs : List Int} (h : SlI W (.slice ad n cap) xs) {k : Nat} (hk : k < xs.length) : ∃ b off, ad = some ⟨b, off, none⟩ ∧ b < W.heap.size ∧ ∀ i, i < xs.length → W.cell? ⟨b, off + i, none⟩ = some (.int .i64 (at0 xs i)) := by
  obtain ⟨ad', cap', h1, _, h3⟩ := h
  obtain ⟨b', off', h4, h5, h6⟩ := h3 (by omega)
  injection h1 with e1 _ _
  exact ⟨b', off', e1.trans h4, h5, h6⟩
theorem gbetween_any (lo n hi : Int) (w : World) :
    Calls Try.prog 20 #[.int .i64 lo, .int .i64 n, .int .i64 hi] w fun e w' => e = .returned (.bool (btw lo n hi)) ∧ w = w' := by
  unfold btw
  by_cases h1 : lo ≤ n <;> by_cases h2 : n ≤ hi
  all_goals
    go_enter Try.func20, Try.ntmps20
    go_wp2
    go_ret
    simp [h1, h2]
theorem alike_any (n : Int) (w : World) : Calls Try.prog 22 #[.int .i64 n] w fun e w' => e = .returned (.int .i64 0) ∧ w = w' := by
  go_enter Try.func22, Try.ntmps22
  go_wp2
  go_ret
  exact ⟨rfl, rfl⟩
theorem good35_any (n : Int) (w : World) : Calls Try.prog 35 #[.int .i64 n] w fun e w' => e = .returned (.bool (btw 0 n 1000000)) ∧ w = w' := by
  go_enter Try.func35, Try.ntmps35
  go_wp2_with (go_at_call 20; refine (gbetween_any _ _ _ _).mono ?_; rintro e w2 ⟨rfl, rfl⟩)
  go_ret
  exact ⟨rfl, rfl⟩
theorem after36_any (n b : Int) (w : World) : Calls Try.prog 36 #[.int .i64 n, .int .i64 b] w fun e w' => e = .returned (.bool (decide (n ≤ b))) ∧ w = w' := by
  go_enter Try.func36, Try.ntmps36
  go_wp2
  go_ret
  exact ⟨rfl, rfl⟩
/-- Fields as the gangs' package asks for. -/
structure FOk (fs : List (List Int)) : Prop where
  n : fs.length ≤ 12
  row : ∀ i, i < fs.length → (tabR fs i).length ≤ 10
  good : ∀ i, i < fs.length → ∀ k, k < (tabR fs i).length → 0 ≤ at0 (tabR fs i) k ∧ at0 (tabR fs i) k ≤ 1000000
  after : ∀ i, i < fs.length → ∀ k, k + 1 < (tabR fs i).length → at0 (tabR fs i) (k + 1) ≤ at0 (tabR fs i) k
set_option maxRecDepth 100000 in
set_option maxHeartbeats 4000000 in
theorem gcheck_any (v : Value) (fs : List (List Int)) (w : World) (ok : FOk fs) (hv : SlII w v fs) :
    Calls Try.prog 34 #[v, .func (.func 35) #[] #[], .func (.func 36) #[] #[]] w fun e w' => e = .returned (.int .i64 0) ∧ Below w.heap.size w w' := by
  obtain ⟨ad, cap, rfl, hm, hcp, hc⟩ := hv.opened
  have HC := Lib.hid hc
  have hn := ok.n
  have HOK := Lib.hid ok
  clear hc hv ok
  obtain ⟨n, hn0⟩ : ∃ n, n = fs.length := ⟨_, rfl⟩
  rw [← hn0] at hm hcp hn ⊢
  have HN := Lib.hid hn0
  clear hn0
  go_enter Try.func34, Try.ntmps34
  go_wp2
  go_loopw [16] (fun i wr => ∃ k : Nat, k ≤ n ∧ i = .int .i64 k ∧ Below w.heap.size w wr) (fun i _ => n - (intOf i).toNat)
  case atStart => exact ⟨0, Nat.zero_le _, rfl, Below.refl _ _⟩
  case round =>
    obtain ⟨k, hk, rfl, hb⟩ := hrel
    by_cases hkn : k < n
    · have hkl : k < fs.length := by rw [← HN.out]; exact hkn
      obtain ⟨b, off, ad2, cap2, rfl, hlt, hcell, hrow⟩ := HC.out k hkl
      have c1 := (hb.cell (p := ⟨b, off + k, none⟩) hlt).trans hcell
      have hr10 := HOK.out.row k hkl
      have HG := Lib.hid (And.intro (HOK.out.good k hkl) (HOK.out.after k hkl))
      generalize tabR fs k = xs at *
      obtain ⟨L, hL⟩ : ∃ L, L = xs.length := ⟨_, rfl⟩
      rw [← hL] at hcell hr10 c1
      have HL := Lib.hid (And.intro hL hrow)
      clear hL hrow hcell
      go_wp2
      go_loopw [25] (fun i wr => ∃ j : Nat, j ≤ L ∧ i = .int .i64 j ∧ Below w.heap.size w wr) (fun i _ => L - (intOf i).toNat)
      case atStart => exact ⟨0, Nat.zero_le _, rfl, hb⟩
      case round =>
        clear hb c1
        obtain ⟨j, hj, rfl, hb⟩ := hrel
        by_cases hjL : j < L
        · have hjl : j < xs.length := by rw [← HL.out.1]; exact hjL
          have hrow := HL.out.2
          rw [← HL.out.1] at hrow
          obtain ⟨b2, off2, rfl, hlt2, hcells⟩ := slI_at hrow hjl
          have hg := HG.out.1 j hjl
          have c2 := (hb.cell (p := ⟨b2, off2 + j, none⟩) hlt2).trans (hcells j hjl)
          have hbt : btw 0 (at0 xs j) 1000000 = true := btw_true.2 hg
          rcases Nat.eq_zero_or_pos j with hj0 | hj0
          · subst hj0
            simp only [Nat.add_zero] at c2
            clear hcells hrow
            go_wp2_with (first | (go_at_call 35; refine (good35_any _ _).mono ?_; rintro e w2 ⟨rfl, rfl⟩))
            go_roundw
            case rel => exact ⟨1, hjL, by go_num, hb⟩
            case measure => simp [intOf]; omega
          · obtain ⟨jp, rfl⟩ : ∃ jp, j = jp + 1 := ⟨j - 1, by omega⟩
            have c3 := (hb.cell (p := ⟨b2, off2 + jp, none⟩) hlt2).trans (hcells jp (by omega))
            have hle : decide (at0 xs (jp + 1) ≤ at0 xs jp) = true := decide_eq_true (HG.out.2 jp hjl)
            clear hcells hrow
            generalize at0 xs (jp + 1) = x1 at *
            generalize at0 xs jp = x0 at *
            go_wp2_with (first | (go_at_call 35; refine (good35_any _ _).mono ?_; rintro e w2 ⟨rfl, rfl⟩) | (go_at_call 36; refine (after36_any _ _ _).mono ?_; rintro e w2 ⟨rfl, rfl⟩))
            go_roundw
            case rel => exact ⟨jp + 2, by omega, by go_num, hb⟩
            case measure => simp [intOf]; omega
        · have hjL2 : j = L := by omega
          subst hjL2
          go_wp2
          go_roundw
          case rel => exact ⟨k + 1, by omega, by go_num, hb⟩
          case measure => simp [intOf]; omega
    · have hkn2 : k = n := by omega
      subst hkn2
      go_wp2
      go_ret
      exact ⟨rfl, hb⟩
theorem gCheck_any (v : Value) (fs : List (List Int)) (w : World) (ok : FOk fs) (hv : SlII w v fs) :
    Calls Try.prog 19 #[v] w fun e w' => e = .returned (.int .i64 0) ∧ Below w.heap.size w w' := by
  have h := gcheck_any v fs w ok hv
  obtain ⟨ad, cap, rfl, -, -, -⟩ := hv.opened
  go_enter Try.func19, Try.ntmps19
  go_wp2_with (go_at_call 34; refine h.mono ?_; rintro e w2 ⟨rfl, hb⟩)
  go_ret
  exact ⟨rfl, hb⟩
theorem checked_any (v : Value) (fs : List (List Int)) (g : Int) (w : World) (ok : FOk fs) (hv : SlII w v fs) (hg : 0 ≤ g ∧ g ≤ 200) :
    Calls Try.prog 9 #[v, .int .i64 g] w fun e w' => e = .returned (.int .i64 0) ∧ Below w.heap.size w w' := by
  have h := gCheck_any v fs w ok hv
  have hb : btw 0 g 200 = true := btw_true.2 hg
  obtain ⟨ad, cap, rfl, -, -, -⟩ := hv.opened
  clear hg
  go_enter Try.func9, Try.ntmps9
  go_wp2_with (first | (go_at_call 19; refine h.mono ?_; rintro e w2 ⟨rfl, hb2⟩) | (go_at_call 20; refine (gbetween_any _ _ _ _).mono ?_; rintro e w2 ⟨rfl, rfl⟩))
  go_ret
  exact ⟨rfl, hb2⟩
set_option maxHeartbeats 1000000 in
theorem or_any (a b c : Int) (ad : Nat) (w : World) (h : w.heap[ad]? = some (.cells #[.int .i64 a, .int .i64 b, .int .i64 c] 3 (0, 0))) :
    Calls Try.prog 39 #[.slice (some ⟨ad, 0, none⟩) 3 3] w fun e w' => e = .returned (.int .i64 (if a ≠ 0 then a else if b ≠ 0 then b else c)) ∧ w' = w := by
  have c0 := cell_blk (i := 0) h
  have c1 := cell_blk (i := 1) h
  have c2 := cell_blk (i := 2) h
  simp only [List.getElem?_toArray, List.getElem?_cons_zero, List.getElem?_cons_succ] at c0 c1 c2
  obtain ⟨R, hR⟩ : ∃ R, R = (if a ≠ 0 then a else if b ≠ 0 then b else c) := ⟨_, rfl⟩
  rw [← hR]
  have HR := Lib.hid hR
  clear hR
  go_enter Try.func39, Try.ntmps39
  go_wp2
  go_loopw [8] (fun i wr => ∃ k : Nat, k ≤ 3 ∧ i = .int .i64 k ∧ wr = w ∧ (0 < k → a = 0) ∧ (1 < k → b = 0) ∧ (2 < k → c = 0)) (fun i _ => 3 - (intOf i).toNat)
  case atStart => exact ⟨0, by omega, rfl, rfl, fun h => by omega, fun h => by omega, fun h => by omega⟩
  case round =>
    obtain ⟨k, hk, rfl, rfl, h0, h1, h2⟩ := hrel
    rcases (show k = 0 ∨ k = 1 ∨ k = 2 ∨ k = 3 by omega) with hk2 | hk2 | hk2 | hk2
    · subst hk2
      by_cases hv : a = 0
      · have hv2 : (a != 0) = false := by simpa using hv
        go_wp2
        go_roundw
        case rel => exact ⟨1, by omega, by go_num, by trivial, fun _ => hv, fun h => by omega, fun h => by omega⟩
        case measure => simp [intOf]
      · have hv2 : (a != 0) = true := by simpa using hv
        go_wp2
        go_ret
        exact ⟨by rw [HR.out]; simp [*], rfl⟩
    · subst hk2
      by_cases hv : b = 0
      · have hv2 : (b != 0) = false := by simpa using hv
        go_wp2
        go_roundw
        case rel => exact ⟨2, by omega, by go_num, by trivial, fun _ => h0 (by omega), fun _ => hv, fun h => by omega⟩
        case measure => simp [intOf]
      · have hv2 : (b != 0) = true := by simpa using hv
        go_wp2
        go_ret
        exact ⟨by rw [HR.out]; simp [*], rfl⟩
    · subst hk2
      by_cases hv : c = 0
      · have hv2 : (c != 0) = false := by simpa using hv
        go_wp2
        go_roundw
        case rel => exact ⟨3, by omega, by go_num, by trivial, fun _ => h0 (by omega), fun _ => h1 (by omega), fun _ => hv⟩
        case measure => simp [intOf]
      · have hv2 : (c != 0) = true := by simpa using hv
        go_wp2
        go_ret
        exact ⟨by rw [HR.out]; simp [*], rfl⟩
    · subst hk2
      go_wp2
      go_ret
      exact ⟨by rw [HR.out]; simp [h0, h1, h2], rfl⟩
end Ytnihopdglkhbnaa
end Go.Proofs
