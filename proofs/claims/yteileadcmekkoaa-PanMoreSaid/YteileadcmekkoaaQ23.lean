/- Pans: lists of spans; what the examples are called with. -/
import Derived.Test.YteileadcmekkoaaQ22
open Go Go.RowKit Go.YteileadcmekkoaaIt
namespace Go.Proofs
namespace Yteileadcmekkoaa
def at2 (xs : List (Int × Int)) (i : Nat) : Int × Int := xs.getD i (0, 0)
theorem at2_lt {xs : List (Int × Int)} {i : Nat} (h : i < xs.length) : at2 xs i = xs[i] := by simp [at2, h]
theorem eq_of_at2 {xs ys : List (Int × Int)} (h : xs.length = ys.length) (he : ∀ i, i < xs.length → at2 xs i = at2 ys i) : xs = ys := by
  apply List.ext_getElem h
  intro i h1 h2
  have := he i h1
  rwa [at2_lt h1, at2_lt h2] at this
theorem p_cells {w : World} {b off : Nat} {xs : List (Int × Int)} (h : ∀ i (h : i < xs.length) f u, (encP xs[i])[f]? = some u → w.cell? ⟨b, off + i * 2 + f, none⟩ = some u) {i : Nat} (hi : i < xs.length) :
    w.cell? ⟨b, off + i * 2, none⟩ = some (.int .i64 (at2 xs i).1) ∧ w.cell? ⟨b, off + i * 2 + 1, none⟩ = some (.int .i64 (at2 xs i).2) := by
  rw [at2_lt hi]
  exact ⟨h i hi 0 _ rfl, h i hi 1 _ rfl⟩
set_option maxRecDepth 100000 in
set_option maxHeartbeats 1000000 in
theorem spans_any (v u : Value) (xs ys : List (Int × Int)) (w : World) (hx : SlP w v xs) (hy : SlP w u ys) :
    Calls Try.prog 35 #[v, u] w fun e w' => e = .returned (.bool (decide (xs = ys))) ∧ Below w.heap.size w w' := by
  obtain ⟨ad, cap, rfl, hm, -, hc⟩ := hx
  obtain ⟨ad', cap', rfl, hm', -, hc'⟩ := hy
  obtain ⟨n, hn⟩ : ∃ n, n = xs.length := ⟨_, rfl⟩
  by_cases hl : xs.length = ys.length
  · rw [← hl]
    have hl' := hl
    rw [← hn] at hm ⊢
    have H := Lib.hid (And.intro hl hn)
    clear hm'
    go_enter Try.func35, Try.ntmps35
    go_wp2
    go_loopw [5] (fun i wr => ∃ k : Nat, k ≤ n ∧ i = .int .i64 k ∧ (∀ j, j < k → at2 xs j = at2 ys j) ∧ Below w.heap.size w wr) (fun i _ => n - (intOf i).toNat)
    case atStart => exact ⟨0, Nat.zero_le _, rfl, fun _ h => by omega, Below.refl _ _⟩
    case round =>
      obtain ⟨k, hk, rfl, heq, hb⟩ := hrel
      by_cases hkn : k < n
      · obtain ⟨b, off, rfl, hlt, hcell⟩ := hc (by omega)
        obtain ⟨b', off', rfl, hlt', hcell'⟩ := hc' (by omega)
        obtain ⟨p1, p2⟩ := p_cells hcell (i := k) (by omega)
        obtain ⟨p3, p4⟩ := p_cells hcell' (i := k) (by omega)
        have h1 := (hb.cell (p := ⟨b, off + k * 2, none⟩) hlt).trans p1
        have h2 := (hb.cell (p := ⟨b, off + k * 2 + 1, none⟩) hlt).trans p2
        have h3 := (hb.cell (p := ⟨b', off' + k * 2, none⟩) hlt').trans p3
        have h4 := (hb.cell (p := ⟨b', off' + k * 2 + 1, none⟩) hlt').trans p4
        have HE := Lib.hid heq
        have hne2 : at2 xs k = at2 ys k ↔ ((at2 xs k).1 = (at2 ys k).1 ∧ (at2 xs k).2 = (at2 ys k).2) := Prod.ext_iff
        have HN := Lib.hid hne2
        have hdf : at2 xs k ≠ at2 ys k → decide (xs = ys) = false := fun he => by simp; rintro rfl; exact he rfl
        have HD := Lib.hid hdf
        clear heq hcell hcell' hc hc' p1 p2 p3 p4 hne2 hl hl' hn hdf
        generalize hxa : (at2 xs k).1 = xa at *
        generalize hxb : (at2 xs k).2 = xb at *
        generalize hya : (at2 ys k).1 = ya at *
        generalize hyb : (at2 ys k).2 = yb at *
        clear hxa hxb hya hyb
        by_cases he : xa = ya ∧ xb = yb
        · have hs := Lib.hid (HN.out.2 he)
          obtain ⟨rfl, rfl⟩ := he
          go_wp2
          go_quiet (fail)
          go_wp2
          go_roundw
          case rel => exact ⟨k + 1, by omega, by go_num, fun j hj => by rcases (show j < k ∨ j = k by omega) with h | rfl; exact HE.out j h; exact hs.out, below_drewN hb _⟩
          case measure => simp [intOf]; omega
        · have hf := Lib.hid (HD.out (fun h => he (HN.out.1 h)))
          by_cases he1 : xa = ya
          · subst he1
            have he2 : ¬ xb = yb := fun h => he ⟨rfl, h⟩
            clear he
            go_wp2
            go_quiet (fail)
            go_wp2
            go_ret
            exact ⟨by rw [hf.out]; rfl, below_drewN hb _⟩
          · clear he
            go_wp2
            go_quiet (fail)
            go_wp2
            go_ret
            exact ⟨by rw [hf.out]; rfl, below_drewN hb _⟩
      · have hf : decide (xs = ys) = true := by simp; exact eq_of_at2 H.out.1 (fun i hi => heq i (by have := H.out.2; omega))
        have HF := Lib.hid hf
        clear hf heq hl hl' hn hc hc'
        go_wp2
        go_ret
        exact ⟨by rw [HF.out]; rfl, hb⟩
  · have hf : decide (xs = ys) = false := by simp; rintro rfl; exact hl rfl
    have hb : ((xs.length : Int) != ys.length) = true := by rw [bne_iff_ne]; omega
    have HF := Lib.hid hf
    clear hf hl hc hc' hn n
    go_enter Try.func35, Try.ntmps35
    go_wp2
    go_ret
    exact ⟨by rw [HF.out]; rfl, Below.refl _ _⟩
end Yteileadcmekkoaa
end Go.Proofs
