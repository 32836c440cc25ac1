/- slices.IndexFunc and slices.ContainsFunc, whatever the test. -/
import Derived.Test.YteijenefhoconaaSafe
open Go Go.RowKit Go.YteijenefhoconaaIt
namespace Go.Proofs
namespace Yteijenefhoconaa

/-- A function value answers p, and turns nothing old. -/
def Tests {α : Type} (g : Nat) (lb : Array Value) (enc : α → Value) (p : α → Bool) (w : World) : Prop :=
  (∀ args w, (callFunc g args).run Try.prog w = .ok (.enter g args) w) ∧
  ∀ x W, Below w.heap.size w W → Calls Try.prog g (#[enc x] ++ lb) W fun e W' => e = .returned (.bool (p x)) ∧ Below W.heap.size W W'
theorem Tests.below {α : Type} {g : Nat} {lb : Array Value} {enc : α → Value} {p : α → Bool} {w w' : World} (h : Tests g lb enc p w) (hb : Below w.heap.size w w') : Tests g lb enc p w' :=
  ⟨h.1, fun x W hW => h.2 x W (hb.trans (hW.mono hb.size))⟩
/-- Where the first is of which p holds, or -1. -/
def idx {α : Type} (p : α → Bool) : List α → Int
  | [] => -1
  | x :: xs => if p x then 0 else if idx p xs < 0 then -1 else idx p xs + 1
theorem idx_any {α : Type} (p : α → Bool) (xs : List α) : decide (0 ≤ idx p xs) = xs.any p := by
  induction xs with
  | nil => rfl
  | cons x xs ih =>
    simp only [idx, List.any_cons, ← ih]
    by_cases hx : p x = true
    · simp [hx]
    · simp only [hx, if_false, Bool.false_eq_true, Bool.false_or]
      split
      · simp; omega
      · simp; omega
theorem idx_at {α : Type} (p : α → Bool) {xs : List α} {k : Nat} (hk : k < xs.length) (hn : ∀ j (h : j < k), p (xs[j]'(by omega)) = false) (hp : p xs[k] = true) : idx p xs = k := by
  induction xs generalizing k with
  | nil => simp at hk
  | cons x xs ih =>
    cases k with
    | zero => simp at hp; simp [idx, hp]
    | succ k =>
      have h0 := hn 0 (by omega)
      simp at h0
      have := ih (k := k) (by simpa using hk) (fun j h => by have := hn (j + 1) (by omega); simpa using this) (by simpa using hp)
      simp [idx, h0, this]
      omega
theorem idx_none {α : Type} (p : α → Bool) {xs : List α} (hn : ∀ j (h : j < xs.length), p xs[j] = false) : idx p xs = -1 := by
  induction xs with
  | nil => rfl
  | cons x xs ih =>
    have h0 := hn 0 (by simp)
    simp at h0
    have := ih (fun j h => by have := hn (j + 1) (by simpa using h); simpa using this)
    simp [idx, h0, this]

set_option maxRecDepth 100000 in
set_option maxHeartbeats 1000000 in
theorem index22_any (v : Value) (xs : List Int) (g : Nat) (lb : Array Value) (p : Int → Bool) (w : World) (hv : SlI w v xs) (hp : Tests g lb (fun (x : Int) => .int .i64 x) p w) :
    Calls Try.prog 79 #[v, .func (.func g) #[] lb] w fun e w' => e = .returned (.int .i64 (idx p xs)) ∧ Below w.heap.size w w' := by
  obtain ⟨ad, cap, rfl, hm, hc⟩ := hv
  obtain ⟨eg, hp⟩ := hp
  obtain ⟨n, hn⟩ : ∃ n, n = xs.length := ⟨_, rfl⟩
  rw [← hn] at hm hc ⊢
  have HN := Lib.hid hn
  have HP := Lib.hid hp
  clear hn hp
  go_enter Try.func79, Try.ntmps79
  go_wp2
  go_loopw [8] (fun i wr => ∃ k : Nat, k ≤ n ∧ i = .int .i64 k ∧ (∀ j (h : j < k) (h2 : j < xs.length), p xs[j] = false) ∧ Below w.heap.size w wr) (fun i _ => n - (intOf i).toNat)
  case atStart => exact ⟨0, Nat.zero_le _, rfl, fun _ h => by omega, Below.refl _ _⟩
  case round =>
    obtain ⟨k, hk, rfl, hno, hb⟩ := hrel
    have HNO := Lib.hid hno
    clear hno
    by_cases hkn : k < n
    · obtain ⟨b, off, rfl, hlt, hcell⟩ := hc (by omega)
      have h1 := (hb.cell (p := ⟨b, off + k, none⟩) hlt).trans (hcell k hkn)
      have hx : at0 xs k = xs[k]'(by have := HN.out; omega) := at0_lt _
      have hcall := HP.out (at0 xs k) wr hb
      obtain ⟨pv, hpv⟩ : ∃ pv, pv = p (at0 xs k) := ⟨_, rfl⟩
      rw [← hpv] at hcall
      rw [hx] at hpv
      have HPV := Lib.hid hpv
      clear hcell hc hx hpv
      go_wp2_with fail
      refine hcall.mono ?_
      rintro e w2 ⟨rfl, hb2⟩
      have hb3 : Below w.heap.size w w2 := hb.trans (hb2.mono hb.size)
      clear hcall hb2 h1 hb
      cases pv
      · go_wp2
        go_roundw
        case rel => exact ⟨k + 1, by omega, by go_num, fun j h1 h2 => by rcases (show j < k ∨ j = k by omega) with h | rfl; exact HNO.out j h h2; exact HPV.out.symm, hb3⟩
        case measure => simp [intOf]; omega
      · have hi : idx p xs = k := idx_at p (by have := HN.out; omega) (fun j h => HNO.out j h (by have := HN.out; omega)) HPV.out.symm
        have HI := Lib.hid hi
        clear hi
        go_wp2
        go_ret
        exact ⟨by rw [HI.out]; rfl, hb3⟩
    · have hi : idx p xs = -1 := idx_none p (fun j h => HNO.out j (by have := HN.out; omega) h)
      have HI := Lib.hid hi
      clear hi
      go_wp2
      go_ret
      exact ⟨by rw [HI.out]; rfl, hb⟩

set_option maxRecDepth 100000 in
theorem any22_any (v : Value) (xs : List Int) (g : Nat) (lb : Array Value) (p : Int → Bool) (w : World) (hv : SlI w v xs) (hp : Tests g lb (fun (x : Int) => .int .i64 x) p w) :
    Calls Try.prog 57 #[v, .func (.func g) #[] lb] w fun e w' => e = .returned (.bool (xs.any p)) ∧ Below w.heap.size w w' := by
  have hi := idx_any p xs
  have HI := Lib.hid hi
  clear hi
  go_enter Try.func57, Try.ntmps57
  go_wp2_with (go_at_call 79; refine (index22_any v xs g lb p _ hv hp).mono ?_; rintro e w2 ⟨rfl, hb⟩)
  go_ret
  exact ⟨by rw [← HI.out]; rfl, hb⟩

set_option maxRecDepth 100000 in
set_option maxHeartbeats 1000000 in
theorem index23_any (v : Value) (xs : List Int) (g : Nat) (lb : Array Value) (p : Int → Bool) (w : World) (hv : SlI w v xs) (hp : Tests g lb (fun (x : Int) => .int .i64 x) p w) :
    Calls Try.prog 81 #[v, .func (.func g) #[] lb] w fun e w' => e = .returned (.int .i64 (idx p xs)) ∧ Below w.heap.size w w' := by
  obtain ⟨ad, cap, rfl, hm, hc⟩ := hv
  obtain ⟨eg, hp⟩ := hp
  obtain ⟨n, hn⟩ : ∃ n, n = xs.length := ⟨_, rfl⟩
  rw [← hn] at hm hc ⊢
  have HN := Lib.hid hn
  have HP := Lib.hid hp
  clear hn hp
  go_enter Try.func81, Try.ntmps81
  go_wp2
  go_loopw [8] (fun i wr => ∃ k : Nat, k ≤ n ∧ i = .int .i64 k ∧ (∀ j (h : j < k) (h2 : j < xs.length), p xs[j] = false) ∧ Below w.heap.size w wr) (fun i _ => n - (intOf i).toNat)
  case atStart => exact ⟨0, Nat.zero_le _, rfl, fun _ h => by omega, Below.refl _ _⟩
  case round =>
    obtain ⟨k, hk, rfl, hno, hb⟩ := hrel
    have HNO := Lib.hid hno
    clear hno
    by_cases hkn : k < n
    · obtain ⟨b, off, rfl, hlt, hcell⟩ := hc (by omega)
      have h1 := (hb.cell (p := ⟨b, off + k, none⟩) hlt).trans (hcell k hkn)
      have hx : at0 xs k = xs[k]'(by have := HN.out; omega) := at0_lt _
      have hcall := HP.out (at0 xs k) wr hb
      obtain ⟨pv, hpv⟩ : ∃ pv, pv = p (at0 xs k) := ⟨_, rfl⟩
      rw [← hpv] at hcall
      rw [hx] at hpv
      have HPV := Lib.hid hpv
      clear hcell hc hx hpv
      go_wp2_with fail
      refine hcall.mono ?_
      rintro e w2 ⟨rfl, hb2⟩
      have hb3 : Below w.heap.size w w2 := hb.trans (hb2.mono hb.size)
      clear hcall hb2 h1 hb
      cases pv
      · go_wp2
        go_roundw
        case rel => exact ⟨k + 1, by omega, by go_num, fun j h1 h2 => by rcases (show j < k ∨ j = k by omega) with h | rfl; exact HNO.out j h h2; exact HPV.out.symm, hb3⟩
        case measure => simp [intOf]; omega
      · have hi : idx p xs = k := idx_at p (by have := HN.out; omega) (fun j h => HNO.out j h (by have := HN.out; omega)) HPV.out.symm
        have HI := Lib.hid hi
        clear hi
        go_wp2
        go_ret
        exact ⟨by rw [HI.out]; rfl, hb3⟩
    · have hi : idx p xs = -1 := idx_none p (fun j h => HNO.out j (by have := HN.out; omega) h)
      have HI := Lib.hid hi
      clear hi
      go_wp2
      go_ret
      exact ⟨by rw [HI.out]; rfl, hb⟩

set_option maxRecDepth 100000 in
theorem any23_any (v : Value) (xs : List Int) (g : Nat) (lb : Array Value) (p : Int → Bool) (w : World) (hv : SlI w v xs) (hp : Tests g lb (fun (x : Int) => .int .i64 x) p w) :
    Calls Try.prog 65 #[v, .func (.func g) #[] lb] w fun e w' => e = .returned (.bool (xs.any p)) ∧ Below w.heap.size w w' := by
  have hi := idx_any p xs
  have HI := Lib.hid hi
  clear hi
  go_enter Try.func65, Try.ntmps65
  go_wp2_with (go_at_call 81; refine (index23_any v xs g lb p _ hv hp).mono ?_; rintro e w2 ⟨rfl, hb⟩)
  go_ret
  exact ⟨by rw [← HI.out]; rfl, hb⟩

end Yteijenefhoconaa
end Go.Proofs
