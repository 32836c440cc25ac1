/- Fields: the laws' own small functions, the examples' fields. -/
import Derived.Test.YtgnjeefanbcbkaaC1
open Go Go.RowKit Go.YtgnjeefanbcbkaaIt
namespace Go.Proofs
namespace Ytgnjeefanbcbkaa
set_option maxRecDepth 100000 in
set_option maxHeartbeats 1000000 in
theorem numbers_any (v u : Value) (xs ys : List Int) (w : World) (hx : SlI w v xs) (hy : SlI w u ys) :
    Calls Try.prog 28 #[v, u] w fun e w' => e = .returned (.bool (decide (xs = ys))) ∧ Below w.heap.size w w' := by
  obtain ⟨ad, cap, rfl, hm, -, hc⟩ := hx
  obtain ⟨ad', cap', rfl, hm', -, hc'⟩ := hy
  obtain ⟨n, hn⟩ : ∃ n, n = xs.length := ⟨_, rfl⟩
  by_cases hl : xs.length = ys.length
  · rw [← hl] at hc' ⊢
    rw [← hn] at hm hc hc' ⊢
    have H := Lib.hid (And.intro hl hn)
    clear hl hn hm'
    go_enter Try.func28, Try.ntmps28
    go_wp2
    go_loopw [5] (fun i wr => ∃ k : Nat, k ≤ n ∧ i = .int .i64 k ∧ (∀ j, j < k → at0 xs j = at0 ys j) ∧ Below w.heap.size w wr) (fun i _ => n - (intOf i).toNat)
    case atStart => exact ⟨0, Nat.zero_le _, rfl, fun _ h => by omega, Below.refl _ _⟩
    case round =>
      obtain ⟨k, hk, rfl, heq, hb⟩ := hrel
      by_cases hkn : k < n
      · obtain ⟨b, off, rfl, hlt, hcell⟩ := hc (by omega)
        obtain ⟨b', off', rfl, hlt', hcell'⟩ := hc' (by omega)
        have h1 := (hb.cell (p := ⟨b, off + k, none⟩) hlt).trans (hcell k hkn)
        have h2 := (hb.cell (p := ⟨b', off' + k, none⟩) hlt').trans (hcell' k hkn)
        have HE := Lib.hid heq
        clear heq hcell hcell' hc hc'
        by_cases he : at0 xs k = at0 ys k
        · go_wp2
          go_quiet (fail)
          go_wp2
          go_roundw
          case rel => exact ⟨k + 1, by omega, by go_num, fun j hj => by rcases (show j < k ∨ j = k by omega) with h | rfl; exact HE.out j h; exact he, below_drewN hb _⟩
          case measure => simp [intOf]; omega
        · have hf : decide (xs = ys) = false := by simp; rintro rfl; exact he rfl
          have hne : (at0 xs k != at0 ys k) = true := by rw [bne_iff_ne]; exact he
          have HF := Lib.hid hf
          clear hf
          go_wp2
          go_quiet (fail)
          go_wp2
          go_ret
          exact ⟨by rw [HF.out]; rfl, below_drewN hb _⟩
      · have hf : decide (xs = ys) = true := by simp; exact eq_of_at0 H.out.1 (fun i hi => heq i (by have := H.out.2; omega))
        have HF := Lib.hid hf
        have HE := Lib.hid heq
        clear hf heq
        go_wp2
        go_ret
        exact ⟨by rw [HF.out]; rfl, hb⟩
  · have hf : decide (xs = ys) = false := by simp; rintro rfl; exact hl rfl
    have hb : ((xs.length : Int) != ys.length) = true := by rw [bne_iff_ne]; omega
    have HF := Lib.hid hf
    clear hf hl
    go_enter Try.func28, Try.ntmps28
    go_wp2
    go_ret
    exact ⟨by rw [HF.out]; rfl, Below.refl _ _⟩
theorem size23 : (Try.prog.info? 23).map (·.size) = some 2 := by kernel_rfl
theorem span_any (a b : Int) (w : World) : Calls Try.prog 37 #[.int .i64 a, .int .i64 b] w fun e w' => e = .returned (.agg #[.int .i64 a, .int .i64 b]) ∧ Below w.heap.size w w' := by
  go_enter Try.func37, Try.ntmps37
  go_wp2
  exact bodyPost_ret (results_blk rfl _ _ w.heap.size rfl (heap_newI rfl) Try.underlying23 rfl size23 rfl) rfl ⟨rfl, (Below.refl _ _).alloc (Nat.le_refl _) _⟩

def at2 (xs : List (Int × Int)) (i : Nat) : Int × Int := xs.getD i (0, 0)
theorem at2_lt {xs : List (Int × Int)} {i : Nat} (h : i < xs.length) : at2 xs i = xs[i] := by simp [at2, h]
theorem eq_of_at2 {xs ys : List (Int × Int)} (h : xs.length = ys.length) (he : ∀ i, i < xs.length → at2 xs i = at2 ys i) : xs = ys := by
  apply List.ext_getElem h
  intro i h1 h2
  have := he i h1
  rwa [at2_lt h1, at2_lt h2] at this
theorem p_cells {w : World} {b off : Nat} {xs : List (Int × Int)} (h : ∀ i (h : i < xs.length) f u, (encR xs[i])[f]? = some u → w.cell? ⟨b, off + i * 2 + f, none⟩ = some u) {i : Nat} (hi : i < xs.length) :
    w.cell? ⟨b, off + i * 2, none⟩ = some (.int .i64 (at2 xs i).1) ∧ w.cell? ⟨b, off + i * 2 + 1, none⟩ = some (.int .i64 (at2 xs i).2) := by
  rw [at2_lt hi]
  exact ⟨h i hi 0 _ rfl, h i hi 1 _ rfl⟩
set_option maxRecDepth 100000 in
set_option maxHeartbeats 1000000 in
theorem spans_any (v u : Value) (xs ys : List (Int × Int)) (w : World) (hx : SlR w v xs) (hy : SlR w u ys) :
    Calls Try.prog 17 #[v, u] w fun e w' => e = .returned (.bool (decide (xs = ys))) ∧ Below w.heap.size w w' := by
  obtain ⟨ad, cap, rfl, hm, -, hc⟩ := hx
  obtain ⟨ad', cap', rfl, hm', -, hc'⟩ := hy
  obtain ⟨n, hn⟩ : ∃ n, n = xs.length := ⟨_, rfl⟩
  by_cases hl : xs.length = ys.length
  · rw [← hl]
    have hl' := hl
    rw [← hn] at hm ⊢
    have H := Lib.hid (And.intro hl hn)
    clear hm'
    go_enter Try.func17, Try.ntmps17
    go_wp2
    go_loopw [5] (fun i wr => ∃ k : Nat, k ≤ n ∧ i = .int .i64 k ∧ (∀ j, j < k → at2 xs j = at2 ys j) ∧ Below w.heap.size w wr) (fun i _ => n - (intOf i).toNat)
    case atStart => exact ⟨0, Nat.zero_le _, rfl, fun _ h => by omega, Below.refl _ _⟩
    case round =>
      obtain ⟨k, hk, rfl, heq, hb⟩ := hrel
      by_cases hkn : k < n
      · obtain ⟨b, off, rfl, hlt, hcell⟩ := hc (by omega)
        obtain ⟨b', off', rfl, hlt', hcell'⟩ := hc' (by omega)
        obtain ⟨p1, p2⟩ := p_cells hcell (i := k) (by omega)
        obtain ⟨p3, p4⟩ := p_cells hcell' (i := k) (by omega)
        have h1 := (hb.cell (p := ⟨b, off + k * 2, none⟩) hlt).trans p1
        have h2 := (hb.cell (p := ⟨b, off + k * 2 + 1, none⟩) hlt).trans p2
        have h3 := (hb.cell (p := ⟨b', off' + k * 2, none⟩) hlt').trans p3
        have h4 := (hb.cell (p := ⟨b', off' + k * 2 + 1, none⟩) hlt').trans p4
        have HE := Lib.hid heq
        have hne2 : at2 xs k = at2 ys k ↔ ((at2 xs k).1 = (at2 ys k).1 ∧ (at2 xs k).2 = (at2 ys k).2) := Prod.ext_iff
        have HN := Lib.hid hne2
        have hdf : at2 xs k ≠ at2 ys k → decide (xs = ys) = false := fun he => by simp; rintro rfl; exact he rfl
        have HD := Lib.hid hdf
        clear heq hcell hcell' hc hc' p1 p2 p3 p4 hne2 hl hl' hn hdf
        generalize hxa : (at2 xs k).1 = xa at *
        generalize hxb : (at2 xs k).2 = xb at *
        generalize hya : (at2 ys k).1 = ya at *
        generalize hyb : (at2 ys k).2 = yb at *
        clear hxa hxb hya hyb
        by_cases he : xa = ya ∧ xb = yb
        · have hs := Lib.hid (HN.out.2 he)
          obtain ⟨rfl, rfl⟩ := he
          go_wp2
          go_quiet (fail)
          go_wp2
          go_roundw
          case rel => exact ⟨k + 1, by omega, by go_num, fun j hj => by rcases (show j < k ∨ j = k by omega) with h | rfl; exact HE.out j h; exact hs.out, below_drewN hb _⟩
          case measure => simp [intOf]; omega
        · have hf := Lib.hid (HD.out (fun h => he (HN.out.1 h)))
          by_cases he1 : xa = ya
          · subst he1
            have he2 : ¬ xb = yb := fun h => he ⟨rfl, h⟩
            clear he
            go_wp2
            go_quiet (fail)
            go_wp2
            go_ret
            exact ⟨by rw [hf.out]; rfl, below_drewN hb _⟩
          · clear he
            go_wp2
            go_quiet (fail)
            go_wp2
            go_ret
            exact ⟨by rw [hf.out]; rfl, below_drewN hb _⟩
      · have hf : decide (xs = ys) = true := by simp; exact eq_of_at2 H.out.1 (fun i hi => heq i (by have := H.out.2; omega))
        have HF := Lib.hid hf
        clear hf heq hl hl' hn hc hc'
        go_wp2
        go_ret
        exact ⟨by rw [HF.out]; rfl, hb⟩
  · have hf : decide (xs = ys) = false := by simp; rintro rfl; exact hl rfl
    have hb : ((xs.length : Int) != ys.length) = true := by rw [bne_iff_ne]; omega
    have HF := Lib.hid hf
    clear hf hl hc hc' hn n
    go_enter Try.func17, Try.ntmps17
    go_wp2
    go_ret
    exact ⟨by rw [HF.out]; rfl, Below.refl _ _⟩
end Ytgnjeefanbcbkaa
end Go.Proofs
