/- slices.IndexFunc and slices.ContainsFunc, whatever the test. -/
import Derived.Test.YtnihopdglkhbnaaSafe
open Go Go.RowKit Go.YtnihopdglkhbnaaIt
namespace Go.Proofs
namespace Ytnihopdglkhbnaa

/-- A function value answers p, and turns nothing old. -/
def Tests {α : Type} (g : Nat) (lb : Array Value) (enc : α → Value) (p : α → Bool) (w : World) : Prop :=
  (∀ args w, (callFunc g args).run Try.prog w = .ok (.enter g args) w) ∧
  ∀ x W, Below w.heap.size w W → Calls Try.prog g (#[enc x] ++ lb) W fun e W' => e = .returned (.bool (p x)) ∧ Below W.heap.size W W'
theorem Tests.below {α : Type} {g : Nat} {lb : Array Value} {enc : α → Value} {p : α → Bool} {w w' : World} (h : Tests g lb enc p w) (hb : Below w.heap.size w w') : Tests g lb enc p w' :=
  ⟨h.1, fun x W hW => h.2 x W (hb.trans (hW.mono hb.size))⟩
/-- Where the first is of which p holds, or -1. -/
def idx {α : Type} (p : α → Bool) : List α → Int
  | [] => -1
  | x :: xs => if p x then 0 else if idx p xs < 0 then -1 else idx p xs + 1
theorem idx_any {α : Type} (p : α → Bool) (xs : List α) : decide (0 ≤ idx p xs) = xs.any p := by
  induction xs with
  | nil => rfl
  | cons x xs ih =>
    simp only [idx, List.any_cons, ← ih]
    by_cases hx : p x = true
    · simp [hx]
    · simp only [hx, if_false, Bool.false_eq_true, Bool.false_or]
      split
      · simp; omega
      · simp; omega
theorem idx_at {α : Type} (p : α → Bool) {xs : List α} {k : Nat} (hk : k < xs.length) (hn : ∀ j (h : j < k), p (xs[j]'(by omega)) = false) (hp : p xs[k] = true) : idx p xs = k := by
  induction xs generalizing k with
  | nil => simp at hk
  | cons x xs ih =>
    cases k with
    | zero => simp at hp; simp [idx, hp]
    | succ k =>
      have h0 := hn 0 (by omega)
      simp at h0
      have := ih (k := k) (by simpa using hk) (fun j h => by have := hn (j + 1) (by omega); simpa using this) (by simpa using hp)
      simp [idx, h0, this]
      omega
theorem idx_none {α : Type} (p : α → Bool) {xs : List α} (hn : ∀ j (h : j < xs.length), p xs[j] = false) : idx p xs = -1 := by
  induction xs with
  | nil => rfl
  | cons x xs ih =>
    have h0 := hn 0 (by simp)
    simp at h0
    have := ih (fun j h => by have := hn (j + 1) (by simpa using h); simpa using this)
    simp [idx, h0, this]

set_option maxRecDepth 100000 in
set_option maxHeartbeats 1000000 in
theorem index22_any (v : Value) (xs : List Int) (g : Nat) (lb : Array Value) (p : Int → Bool) (w : World) (hv : SlI w v xs) (hp : Tests g lb (fun (x : Int) => .int .i64 x) p w) :
    Calls Try.prog 32 #[v, .func (.func g) #[] lb] w fun e w' => e = .returned (.int .i64 (idx p xs)) ∧ Below w.heap.size w w' := by
  obtain ⟨ad, cap, rfl, hm, hc⟩ := hv
  obtain ⟨eg, hp⟩ := hp
  obtain ⟨n, hn⟩ : ∃ n, n = xs.length := ⟨_, rfl⟩
  rw [← hn] at hm hc ⊢
  have HN := Lib.hid hn
  have HP := Lib.hid hp
  clear hn hp
  go_enter Try.func32, Try.ntmps32
  go_wp2
  go_loopw [8] (fun i wr => ∃ k : Nat, k ≤ n ∧ i = .int .i64 k ∧ (∀ j (h : j < k) (h2 : j < xs.length), p xs[j] = false) ∧ Below w.heap.size w wr) (fun i _ => n - (intOf i).toNat)
  case atStart => exact ⟨0, Nat.zero_le _, rfl, fun _ h => by omega, Below.refl _ _⟩
  case round =>
    obtain ⟨k, hk, rfl, hno, hb⟩ := hrel
    have HNO := Lib.hid hno
    clear hno
    by_cases hkn : k < n
    · obtain ⟨b, off, rfl, hlt, hcell⟩ := hc (by omega)
      have h1 := (hb.cell (p := ⟨b, off + k, none⟩) hlt).trans (hcell k hkn)
      have hx : at0 xs k = xs[k]'(by have := HN.out; omega) := at0_lt _
      have hcall := HP.out (at0 xs k) wr hb
      obtain ⟨pv, hpv⟩ : ∃ pv, pv = p (at0 xs k) := ⟨_, rfl⟩
      rw [← hpv] at hcall
      rw [hx] at hpv
      have HPV := Lib.hid hpv
      clear hcell hc hx hpv
      go_wp2_with fail
      refine hcall.mono ?_
      rintro e w2 ⟨rfl, hb2⟩
      have hb3 : Below w.heap.size w w2 := hb.trans (hb2.mono hb.size)
      clear hcall hb2 h1 hb
      cases pv
      · go_wp2
        go_roundw
        case rel => exact ⟨k + 1, by omega, by go_num, fun j h1 h2 => by rcases (show j < k ∨ j = k by omega) with h | rfl; exact HNO.out j h h2; exact HPV.out.symm, hb3⟩
        case measure => simp [intOf]; omega
      · have hi : idx p xs = k := idx_at p (by have := HN.out; omega) (fun j h => HNO.out j h (by have := HN.out; omega)) HPV.out.symm
        have HI := Lib.hid hi
        clear hi
        go_wp2
        go_ret
        exact ⟨by rw [HI.out]; rfl, hb3⟩
    · have hi : idx p xs = -1 := idx_none p (fun j h => HNO.out j (by have := HN.out; omega) h)
      have HI := Lib.hid hi
      clear hi
      go_wp2
      go_ret
      exact ⟨by rw [HI.out]; rfl, hb⟩

set_option maxRecDepth 100000 in
theorem any22_any (v : Value) (xs : List Int) (g : Nat) (lb : Array Value) (p : Int → Bool) (w : World) (hv : SlI w v xs) (hp : Tests g lb (fun (x : Int) => .int .i64 x) p w) :
    Calls Try.prog 13 #[v, .func (.func g) #[] lb] w fun e w' => e = .returned (.bool (xs.any p)) ∧ Below w.heap.size w w' := by
  have hi := idx_any p xs
  have HI := Lib.hid hi
  clear hi
  go_enter Try.func13, Try.ntmps13
  go_wp2_with (go_at_call 32; refine (index22_any v xs g lb p _ hv hp).mono ?_; rintro e w2 ⟨rfl, hb⟩)
  go_ret
  exact ⟨by rw [← HI.out]; rfl, hb⟩

set_option maxRecDepth 100000 in
set_option maxHeartbeats 1000000 in
theorem index23_any (v : Value) (xs : List Int) (g : Nat) (lb : Array Value) (p : Int → Bool) (w : World) (hv : SlI w v xs) (hp : Tests g lb (fun (x : Int) => .int .i64 x) p w) :
    Calls Try.prog 41 #[v, .func (.func g) #[] lb] w fun e w' => e = .returned (.int .i64 (idx p xs)) ∧ Below w.heap.size w w' := by
  obtain ⟨ad, cap, rfl, hm, hc⟩ := hv
  obtain ⟨eg, hp⟩ := hp
  obtain ⟨n, hn⟩ : ∃ n, n = xs.length := ⟨_, rfl⟩
  rw [← hn] at hm hc ⊢
  have HN := Lib.hid hn
  have HP := Lib.hid hp
  clear hn hp
  go_enter Try.func41, Try.ntmps41
  go_wp2
  go_loopw [8] (fun i wr => ∃ k : Nat, k ≤ n ∧ i = .int .i64 k ∧ (∀ j (h : j < k) (h2 : j < xs.length), p xs[j] = false) ∧ Below w.heap.size w wr) (fun i _ => n - (intOf i).toNat)
  case atStart => exact ⟨0, Nat.zero_le _, rfl, fun _ h => by omega, Below.refl _ _⟩
  case round =>
    obtain ⟨k, hk, rfl, hno, hb⟩ := hrel
    have HNO := Lib.hid hno
    clear hno
    by_cases hkn : k < n
    · obtain ⟨b, off, rfl, hlt, hcell⟩ := hc (by omega)
      have h1 := (hb.cell (p := ⟨b, off + k, none⟩) hlt).trans (hcell k hkn)
      have hx : at0 xs k = xs[k]'(by have := HN.out; omega) := at0_lt _
      have hcall := HP.out (at0 xs k) wr hb
      obtain ⟨pv, hpv⟩ : ∃ pv, pv = p (at0 xs k) := ⟨_, rfl⟩
      rw [← hpv] at hcall
      rw [hx] at hpv
      have HPV := Lib.hid hpv
      clear hcell hc hx hpv
      go_wp2_with fail
      refine hcall.mono ?_
      rintro e w2 ⟨rfl, hb2⟩
      have hb3 : Below w.heap.size w w2 := hb.trans (hb2.mono hb.size)
      clear hcall hb2 h1 hb
      cases pv
      · go_wp2
        go_roundw
        case rel => exact ⟨k + 1, by omega, by go_num, fun j h1 h2 => by rcases (show j < k ∨ j = k by omega) with h | rfl; exact HNO.out j h h2; exact HPV.out.symm, hb3⟩
        case measure => simp [intOf]; omega
      · have hi : idx p xs = k := idx_at p (by have := HN.out; omega) (fun j h => HNO.out j h (by have := HN.out; omega)) HPV.out.symm
        have HI := Lib.hid hi
        clear hi
        go_wp2
        go_ret
        exact ⟨by rw [HI.out]; rfl, hb3⟩
    · have hi : idx p xs = -1 := idx_none p (fun j h => HNO.out j (by have := HN.out; omega) h)
      have HI := Lib.hid hi
      clear hi
      go_wp2
      go_ret
      exact ⟨by rw [HI.out]; rfl, hb⟩

set_option maxRecDepth 100000 in
theorem any23_any (v : Value) (xs : List Int) (g : Nat) (lb : Array Value) (p : Int → Bool) (w : World) (hv : SlI w v xs) (hp : Tests g lb (fun (x : Int) => .int .i64 x) p w) :
    Calls Try.prog 24 #[v, .func (.func g) #[] lb] w fun e w' => e = .returned (.bool (xs.any p)) ∧ Below w.heap.size w w' := by
  have hi := idx_any p xs
  have HI := Lib.hid hi
  clear hi
  go_enter Try.func24, Try.ntmps24
  go_wp2_with (go_at_call 41; refine (index23_any v xs g lb p _ hv hp).mono ?_; rintro e w2 ⟨rfl, hb⟩)
  go_ret
  exact ⟨by rw [← HI.out]; rfl, hb⟩

end Ytnihopdglkhbnaa
end Go.Proofs
/- Lists of trains in memory. -/
open Go Go.RowKit Go.YtnihopdglkhbnaaIt
namespace Go.Proofs
namespace Ytnihopdglkhbnaa

abbrev Tn := Int × Int
def tAt (ts : List Tn) (i : Nat) : Int := (ts.getD i (0, 0)).1
def tTo (ts : List Tn) (i : Nat) : Int := (ts.getD i (0, 0)).2
theorem tAt_lt {ts : List Tn} {i : Nat} (h : i < ts.length) : tAt ts i = ts[i].1 := by simp [tAt, h]
theorem tTo_lt {ts : List Tn} {i : Nat} (h : i < ts.length) : tTo ts i = ts[i].2 := by simp [tTo, h]
def encT (t : Tn) : Value := .agg #[.int .i64 t.1, .int .i64 t.2]

/-- A slice value that reads as a list of trains. -/
def SlT (w : World) (v : Value) (ts : List Tn) : Prop :=
  ∃ ad cap, v = .slice ad ts.length cap ∧ ts.length ≤ 8796093022208 ∧
    (0 < ts.length → ∃ b off, ad = some ⟨b, off, none⟩ ∧ b < w.heap.size ∧ ∀ i, i < ts.length → w.cell? ⟨b, off + i * 2, none⟩ = some (.int .i64 (tAt ts i)) ∧ w.cell? ⟨b, off + i * 2 + 1, none⟩ = some (.int .i64 (tTo ts i)))
theorem SlT.below {w w' : World} {v : Value} {ts : List Tn} {B : Nat} (h : SlT w v ts) (hb : Below B w w') (hB : w.heap.size ≤ B) : SlT w' v ts := by
  obtain ⟨ad, cap, hv, hm, hc⟩ := h
  refine ⟨ad, cap, hv, hm, fun h0 => ?_⟩
  obtain ⟨b, off, ha, hlt, hcell⟩ := hc h0
  exact ⟨b, off, ha, Nat.lt_of_lt_of_le hlt hb.size, fun i hi => ⟨(hb.cell (p := ⟨b, off + i * 2, none⟩) (by simpa using by omega)).trans (hcell i hi).1, (hb.cell (p := ⟨b, off + i * 2 + 1, none⟩) (by simpa using by omega)).trans (hcell i hi).2⟩⟩

set_option maxRecDepth 100000 in
set_option maxHeartbeats 1000000 in
theorem index24_any (v : Value) (xs : List Tn) (g : Nat) (lb : Array Value) (p : Tn → Bool) (w : World) (hv : SlT w v xs) (hp : Tests g lb encT p w) :
    Calls Try.prog 42 #[v, .func (.func g) #[] lb] w fun e w' => e = .returned (.int .i64 (idx p xs)) ∧ Below w.heap.size w w' := by
  obtain ⟨ad, cap, rfl, hm, hc⟩ := hv
  obtain ⟨eg, hp⟩ := hp
  obtain ⟨n, hn⟩ : ∃ n, n = xs.length := ⟨_, rfl⟩
  rw [← hn] at hm hc ⊢
  have HN := Lib.hid hn
  have HP := Lib.hid hp
  clear hn hp
  go_enter Try.func42, Try.ntmps42
  go_wp2
  go_loopw [8] (fun i wr => ∃ k : Nat, k ≤ n ∧ i = .int .i64 k ∧ (∀ j (h : j < k) (h2 : j < xs.length), p xs[j] = false) ∧ Below w.heap.size w wr) (fun i _ => n - (intOf i).toNat)
  case atStart => exact ⟨0, Nat.zero_le _, rfl, fun _ h => by omega, Below.refl _ _⟩
  case round =>
    obtain ⟨k, hk, rfl, hno, hb⟩ := hrel
    have HNO := Lib.hid hno
    clear hno
    by_cases hkn : k < n
    · obtain ⟨b, off, rfl, hlt, hcell⟩ := hc (by omega)
      have h1 := (hb.cell (p := ⟨b, off + k * 2, none⟩) hlt).trans (hcell k hkn).1
      have h2 := (hb.cell (p := ⟨b, off + k * 2 + 1, none⟩) hlt).trans (hcell k hkn).2
      have hx : (tAt xs k, tTo xs k) = xs[k]'(by have := HN.out; omega) := by rw [tAt_lt, tTo_lt]
      have hcall := HP.out (tAt xs k, tTo xs k) wr hb
      simp only [encT] at hcall
      obtain ⟨pv, hpv⟩ : ∃ pv, pv = p (tAt xs k, tTo xs k) := ⟨_, rfl⟩
      rw [← hpv] at hcall
      rw [hx] at hpv
      have HPV := Lib.hid hpv
      clear hcell hc hx hpv
      go_wp2_with fail
      refine hcall.mono ?_
      rintro e w2 ⟨rfl, hb2⟩
      have hb3 : Below w.heap.size w w2 := hb.trans (hb2.mono hb.size)
      clear hcall hb2 h1 h2 hb
      cases pv
      · go_wp2
        go_roundw
        case rel => exact ⟨k + 1, by omega, by go_num, fun j h1 h2 => by rcases (show j < k ∨ j = k by omega) with h | rfl; exact HNO.out j h h2; exact HPV.out.symm, hb3⟩
        case measure => simp [intOf]; omega
      · have hi : idx p xs = k := idx_at p (by have := HN.out; omega) (fun j h => HNO.out j h (by have := HN.out; omega)) HPV.out.symm
        have HI := Lib.hid hi
        clear hi
        go_wp2
        go_ret
        exact ⟨by rw [HI.out]; rfl, hb3⟩
    · have hi : idx p xs = -1 := idx_none p (fun j h => HNO.out j (by have := HN.out; omega) h)
      have HI := Lib.hid hi
      clear hi
      go_wp2
      go_ret
      exact ⟨by rw [HI.out]; rfl, hb⟩

set_option maxRecDepth 100000 in
theorem any24_any (v : Value) (xs : List Tn) (g : Nat) (lb : Array Value) (p : Tn → Bool) (w : World) (hv : SlT w v xs) (hp : Tests g lb encT p w) :
    Calls Try.prog 26 #[v, .func (.func g) #[] lb] w fun e w' => e = .returned (.bool (xs.any p)) ∧ Below w.heap.size w w' := by
  have hi := idx_any p xs
  have HI := Lib.hid hi
  clear hi
  go_enter Try.func26, Try.ntmps26
  go_wp2_with (go_at_call 42; refine (index24_any v xs g lb p _ hv hp).mono ?_; rintro e w2 ⟨rfl, hb⟩)
  go_ret
  exact ⟨by rw [← HI.out]; rfl, hb⟩

/-! The tests of 'track'. -/
set_option maxRecDepth 100000 in
theorem out_any (b : Nat) (vL : Value) (L : List Int) (s : Int) (w : World) (hb : w.heap[b]? = some (.cells #[vL] 31 (0, 0))) (hL : SlI w vL L) :
    Calls Try.prog 23 #[.int .i64 s, .pointer (some ⟨b, 0, none⟩)] w fun e w' => e = .returned (.bool (!btw 0 s (L.length - 1))) ∧ Below w.heap.size w w' := by
  obtain ⟨ad, cap, rfl, hm, -⟩ := hL
  have c0 := cell_blk (i := 0) hb
  simp at c0
  go_enter Try.func23, Try.ntmps23
  go_wp2_with (go_at_call 15; refine (between_any _ _ _ _).mono ?_; rintro e w' ⟨rfl, rfl⟩)
  go_ret
  exact ⟨rfl, Below.refl _ _⟩
set_option maxRecDepth 100000 in
theorem room_test (s : Int) (w : World) :
    Calls Try.prog 25 #[.int .i64 s] w fun e w' => e = .returned (.bool (!btw 1 s 5)) ∧ Below w.heap.size w w' := by
  go_enter Try.func25, Try.ntmps25
  go_wp2_with (go_at_call 15; refine (between_any _ _ _ _).mono ?_; rintro e w' ⟨rfl, rfl⟩)
  go_ret
  exact ⟨rfl, Below.refl _ _⟩
set_option maxRecDepth 100000 in
set_option maxHeartbeats 1000000 in
theorem train_test (b b8 : Nat) (vL : Value) (L : List Int) (x : Tn) (w : World) (hb : w.heap[b]? = some (.cells #[vL] 31 (0, 0))) (hL : SlI w vL L)
    (h8 : w.heap[b8]? = some (.cells #[.func (.func 23) #[] #[.pointer (some ⟨b, 0, none⟩)]] 55 (0, 0))) :
    Calls Try.prog 27 #[encT x, .pointer (some ⟨b8, 0, none⟩)] w fun e w' => e = .returned (.bool (!btw 0 x.1 (L.length - 1) || !btw 0 x.2 (L.length - 1))) ∧ Below w.heap.size w w' := by
  have c8 := cell_blk (i := 0) h8
  simp at c8
  have h1 := fun W (h : Below w.heap.size w W) => out_any b vL L x.1 W (blk_below hb h (lt_blk hb)) (hL.below h (Nat.le_refl _))
  have h2 := fun W (h : Below w.heap.size w W) => out_any b vL L x.2 W (blk_below hb h (lt_blk hb)) (hL.below h (Nat.le_refl _))
  have H1 := Lib.hid h1
  have H2 := Lib.hid h2
  clear h1 h2
  have hl8 := lt_blk h8
  clear hb hL h8
  unfold encT
  go_enter Try.func27, Try.ntmps27
  refine wp_seq_k (fun K hK => ?_)
  have HK := Lib.hid hK; clear hK
  go_wp2
  refine HK.out _ _ ?_; clear HK K
  have hb1 : Below w.heap.size w (w.alloc (.cells #[.int .i64 x.1, .int .i64 x.2] 33)) := by go_grown
  obtain ⟨o1, ho1⟩ : ∃ o1, o1 = btw 0 x.1 (L.length - 1) := ⟨_, rfl⟩
  obtain ⟨o2, ho2⟩ : ∃ o2, o2 = btw 0 x.2 (L.length - 1) := ⟨_, rfl⟩
  rw [← ho1] at H1 ⊢
  rw [← ho2] at H2 ⊢
  clear ho1 ho2
  have hcx : (w.alloc (.cells #[.int .i64 x.1, .int .i64 x.2] 33)).cell? ⟨w.heap.size, 1, none⟩ = some (.int .i64 x.2) := by simp
  have hc8 := (hb1.cell (p := ⟨b8, 0, none⟩) hl8).trans c8
  cases o1
  all_goals
    go_wp2_with fail
    refine (H1.out _ hb1).mono ?_
    rintro e w2 ⟨rfl, hb2⟩
    have k8 := (hb2.cell (p := ⟨b8, 0, none⟩) (by simp; omega)).trans hc8
    have kx := (hb2.cell (p := ⟨w.heap.size, 1, none⟩) (by simp)).trans hcx
    have hb3 : Below w.heap.size w w2 := hb1.trans (hb2.mono (by simp))
    clear hb2 hb1 hcx hc8
  · go_wp2
    go_ret
    exact ⟨by simp, hb3⟩
  · go_wp2_with fail
    refine (H2.out _ hb3).mono ?_
    rintro e w3 ⟨rfl, hb4⟩
    go_wp2
    go_ret
    exact ⟨by simp, hb3.trans (hb4.mono hb3.size)⟩
end Ytnihopdglkhbnaa
end Go.Proofs

