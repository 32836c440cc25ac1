/- Verify: whether a table is accepted. -/
import Derived.Test.YtndmjginmomfiaaW18
open Go Go.RowKit Go.YtndmjginmomfiaaIt
namespace Go.Proofs
namespace Ytndmjginmomfiaa
set_option maxRecDepth 100000 in
set_option maxHeartbeats 1000000 in
theorem index69_any (v : Value) (xs : List Int) (g : Nat) (lb : Array Value) (p : Int → Bool) (w : World) (hv : SlI w v xs)
    (eg : ∀ args w, (callFunc g args).run Try.prog w = .ok (.enter g args) w) (hp : ∀ x ∈ xs, ∀ W, Below w.heap.size w W → Calls Try.prog g (#[.int .i64 x] ++ lb) W fun e W' => e = .returned (.bool (p x)) ∧ Below W.heap.size W W') :
    Calls Try.prog 69 #[v, .func (.func g) #[] lb] w fun e w' => e = .returned (.int .i64 (idx p xs)) ∧ Below w.heap.size w w' := by
  obtain ⟨ad, cap, rfl, hm, hcp, hc⟩ := hv
  have HP := Lib.hid hp
  have HC := Lib.hid hc
  clear hp hc
  go_enter Try.func69, Try.ntmps69
  go_wp2
  go_loopw [8] (fun i wr => ∃ k : Nat, k ≤ xs.length ∧ i = .int .i64 k ∧ (∀ j (h : j < k) (h2 : j < xs.length), p xs[j] = false) ∧ Below w.heap.size w wr) (fun i _ => xs.length - (intOf i).toNat)
  case atStart => exact ⟨0, Nat.zero_le _, rfl, fun _ h => by omega, Below.refl _ _⟩
  case round =>
    obtain ⟨k, hk, rfl, hno, hb⟩ := hrel
    have HNO := Lib.hid hno
    clear hno
    by_cases hkn : k < xs.length
    · obtain ⟨b, off, rfl, hlt, hcell⟩ := HC.out (by omega)
      have c0 := (hb.cell (p := ⟨b, off + k, none⟩) hlt).trans (hcell k hkn)
      rw [at0_lt hkn] at c0
      have hmem := List.getElem_mem hkn
      have hcall := HP.out xs[k] hmem wr hb
      obtain ⟨pv, hpv⟩ : ∃ pv, pv = p xs[k] := ⟨_, rfl⟩
      rw [← hpv] at hcall
      have HPV := Lib.hid hpv
      obtain ⟨x0, hx0⟩ : ∃ x0, x0 = xs[k] := ⟨_, rfl⟩
      rw [← hx0] at c0 hcall
      clear hx0
      clear hcell hpv hmem
      go_wp2_with fail
      refine hcall.mono ?_
      rintro e w2 ⟨rfl, hb2⟩
      have hb3 : Below w.heap.size w w2 := hb.trans (hb2.mono hb.size)
      clear hcall hb2 hb c0
      cases pv
      · go_wp2
        go_roundw
        case rel => exact ⟨k + 1, by omega, by go_num, fun j h1 h2 => by rcases (show j < k ∨ j = k by omega) with h | rfl; exact HNO.out j h h2; exact HPV.out.symm, hb3⟩
        case measure => simp [intOf]; omega
      · have hi : idx p xs = k := idx_at p hkn (fun j h => HNO.out j h (by omega)) HPV.out.symm
        have HI := Lib.hid hi
        clear hi
        go_wp2
        go_ret
        exact ⟨by rw [HI.out]; rfl, hb3⟩
    · have hi : idx p xs = -1 := idx_none p (fun j h => HNO.out j (by omega) h)
      have HI := Lib.hid hi
      clear hi
      go_wp2
      go_ret
      exact ⟨by rw [HI.out]; rfl, hb⟩
set_option maxRecDepth 100000 in
set_option maxHeartbeats 1000000 in
theorem index68_any (v : Value) (tab : List (List Int)) (g : Nat) (lb : Array Value) (p : List Int → Bool) (w : World) (hv : SlII w v tab)
    (eg : ∀ args w, (callFunc g args).run Try.prog w = .ok (.enter g args) w) (hp : ∀ k, k < tab.length → ∀ u W, Below w.heap.size w W → SlI W u (tabR tab k) → Calls Try.prog g (#[u] ++ lb) W fun e W' => e = .returned (.bool (p (tabR tab k))) ∧ Below W.heap.size W W') :
    Calls Try.prog 68 #[v, .func (.func g) #[] lb] w fun e w' => e = .returned (.int .i64 (idx p tab)) ∧ Below w.heap.size w w' := by
  obtain ⟨ad, cap, rfl, hm, hcp, hc⟩ := hv.opened
  have HP := Lib.hid hp
  have HC := Lib.hid hc
  clear hp hc hv
  go_enter Try.func68, Try.ntmps68
  go_wp2
  go_loopw [8] (fun i wr => ∃ k : Nat, k ≤ tab.length ∧ i = .int .i64 k ∧ (∀ j (h : j < k) (h2 : j < tab.length), p tab[j] = false) ∧ Below w.heap.size w wr) (fun i _ => tab.length - (intOf i).toNat)
  case atStart => exact ⟨0, Nat.zero_le _, rfl, fun _ h => by omega, Below.refl _ _⟩
  case round =>
    obtain ⟨k, hk, rfl, hno, hb⟩ := hrel
    have HNO := Lib.hid hno
    clear hno
    by_cases hkn : k < tab.length
    · obtain ⟨b, off, ad2, cap2, rfl, hlt, hcell, hrow⟩ := HC.out k hkn
      have c0 := (hb.cell (p := ⟨b, off + k, none⟩) hlt).trans hcell
      have hcall := HP.out k hkn _ wr hb (hrow.below hb (Nat.le_refl _))
      obtain ⟨pv, hpv⟩ : ∃ pv, pv = p (tabR tab k) := ⟨_, rfl⟩
      rw [← hpv] at hcall
      rw [tabR_lt hkn] at hpv
      have HPV := Lib.hid hpv
      generalize (tabR tab k).length = L at *
      clear hcell hpv hrow
      go_wp2_with fail
      refine hcall.mono ?_
      rintro e w2 ⟨rfl, hb2⟩
      have hb3 : Below w.heap.size w w2 := hb.trans (hb2.mono hb.size)
      clear hcall hb2 hb c0
      cases pv
      · go_wp2
        go_roundw
        case rel => exact ⟨k + 1, by omega, by go_num, fun j h1 h2 => by rcases (show j < k ∨ j = k by omega) with h | rfl; exact HNO.out j h h2; exact HPV.out.symm, hb3⟩
        case measure => simp [intOf]; omega
      · have hi : idx p tab = k := idx_at p hkn (fun j h => HNO.out j h (by omega)) HPV.out.symm
        have HI := Lib.hid hi
        clear hi
        go_wp2
        go_ret
        exact ⟨by rw [HI.out]; rfl, hb3⟩
    · have hi : idx p tab = -1 := idx_none p (fun j h => HNO.out j (by omega) h)
      have HI := Lib.hid hi
      clear hi
      go_wp2
      go_ret
      exact ⟨by rw [HI.out]; rfl, hb⟩
set_option maxRecDepth 100000 in
theorem cont50_any (v : Value) (xs : List Int) (g : Nat) (lb : Array Value) (p : Int → Bool) (w : World) (hv : SlI w v xs)
    (eg : ∀ args w, (callFunc g args).run Try.prog w = .ok (.enter g args) w) (hp : ∀ x ∈ xs, ∀ W, Below w.heap.size w W → Calls Try.prog g (#[.int .i64 x] ++ lb) W fun e W' => e = .returned (.bool (p x)) ∧ Below W.heap.size W W') :
    Calls Try.prog 50 #[v, .func (.func g) #[] lb] w fun e w' => e = .returned (.bool (xs.any p)) ∧ Below w.heap.size w w' := by
  have h := index69_any v xs g lb p w hv eg hp
  have hi := idx_any p xs
  generalize idx p xs = i at *
  have HI := Lib.hid hi
  clear hi
  go_enter Try.func50, Try.ntmps50
  go_wp2_with (go_at_call 69; refine h.mono ?_; rintro e w2 ⟨rfl, hb⟩)
  go_ret
  exact ⟨by rw [← HI.out]; rfl, hb⟩
set_option maxRecDepth 100000 in
theorem cont48_any (v : Value) (tab : List (List Int)) (g : Nat) (lb : Array Value) (p : List Int → Bool) (w : World) (hv : SlII w v tab)
    (eg : ∀ args w, (callFunc g args).run Try.prog w = .ok (.enter g args) w) (hp : ∀ k, k < tab.length → ∀ u W, Below w.heap.size w W → SlI W u (tabR tab k) → Calls Try.prog g (#[u] ++ lb) W fun e W' => e = .returned (.bool (p (tabR tab k))) ∧ Below W.heap.size W W') :
    Calls Try.prog 48 #[v, .func (.func g) #[] lb] w fun e w' => e = .returned (.bool (tab.any p)) ∧ Below w.heap.size w w' := by
  have h := index68_any v tab g lb p w hv eg hp
  have hi := idx_any p tab
  generalize idx p tab = i at *
  have HI := Lib.hid hi
  clear hi
  go_enter Try.func48, Try.ntmps48
  go_wp2_with (go_at_call 68; refine h.mono ?_; rintro e w2 ⟨rfl, hb⟩)
  go_ret
  exact ⟨by rw [← HI.out]; rfl, hb⟩
def badL (y : Yd) (r : List Int) : Bool := ((r.length : Int) != y.room + 1)
def badT (t : Int) : Bool := t != 1125899906842624 && !btw 0 t 1000
set_option maxRecDepth 100000 in
theorem test49_any (y : Yd) (v u : Value) (r : List Int) (bY : Nat) (w : World) (hr : -10 ≤ y.room ∧ y.room ≤ 100) (hu : SlI w u r) (hy : w.heap[bY]? = some (.cells (encY y v) 24 (0, 0))) :
    Calls Try.prog 49 #[u, .pointer (some ⟨bY, 0, none⟩)] w fun e w' => e = .returned (.bool (badL y r)) ∧ Below w.heap.size w w' := by
  obtain ⟨ad, cap, rfl, -, -, -⟩ := hu
  have c0 := cell_blk (i := 0) hy
  simp only [encY, List.getElem?_toArray, List.getElem?_cons_zero] at c0
  unfold badL
  go_enter Try.func49, Try.ntmps49
  go_wp2
  go_ret
  exact ⟨rfl, Below.refl _ _⟩
set_option maxRecDepth 100000 in
theorem test51_any (t : Int) (w : World) :
    Calls Try.prog 51 #[.int .i64 t] w fun e w' => e = .returned (.bool (badT t)) ∧ Below w.heap.size w w' := by
  unfold badT
  by_cases h : t = 1125899906842624
  · subst h
    go_enter Try.func51, Try.ntmps51
    go_wp2
    go_ret
    exact ⟨rfl, Below.refl _ _⟩
  · have h2 : (t != 1125899906842624) = true := bne_iff_ne.2 h
    clear h
    go_enter Try.func51, Try.ntmps51
    go_wp2_with (go_at_call 45; (with_reducible refine (between_any _ _ _ _).mono ?_); rintro e w' ⟨rfl, rfl⟩)
    go_ret
    exact ⟨by rw [h2]; rfl, Below.refl _ _⟩
def verE (y : Yd) (tab : List (List Int)) : Int :=
  if chkE y = 0 then (if tab.length ≠ y.ws.length ∨ tab.any (badL y) = true then 3 else if tab.any (fun r => r.any badT) = true then 2 else if holdsB y tab = true then 0 else 11) else chkE y
theorem shape_ok {y : Yd} (ok : Ok y) {tab : List (List Int)} (h1 : tab.length = y.ws.length) (h2 : tab.any (badL y) = false) : Sh tab ∧ ∀ m, m < tab.length → (tabR tab m).length = y.room.toNat + 1 := by
  have hr := ok.room0
  have h3 : ∀ m, m < tab.length → (tabR tab m).length = y.room.toNat + 1 := fun m hm => by
    rw [List.any_eq_false] at h2
    have := h2 _ (List.getElem_mem hm)
    rw [tabR_lt hm]
    simp [badL] at this
    omega
  refine ⟨⟨by have := ok.n1; omega, fun m hm => ?_⟩, h3⟩
  rw [h3 m hm]
  have := ok.room1
  omega
theorem range_ok {tab : List (List Int)} (h : tab.any (fun r => r.any badT) = false) : Rg tab := by
  intro m hm s hs
  rw [List.any_eq_false] at h
  have h1 := h _ (List.getElem_mem hm)
  rw [← tabR_lt hm] at h1
  have h2 : (tabR tab m).any badT = false := by simpa using h1
  rw [List.any_eq_false] at h2
  have h3 := h2 _ (List.getElem_mem hs)
  rw [at0_lt hs]
  unfold never
  simp [badT, btw] at h3
  omega
set_option maxRecDepth 100000 in
set_option maxHeartbeats 2000000 in
theorem verify_any (y : Yd) (v : Value) (tab : List (List Int)) (vt : Value) (w : World) (hw : SlW w v y.ws) (ht : SlII w vt tab) :
    Calls Try.prog 23 #[.agg (encY y v), vt] w fun e w' => e = .returned (.int .i64 (verE y tab)) ∧ Below w.heap.size w w' := by
  have hmf := hmf
  have hy4 : (encY y v).size = 4 := rfl
  have hcc := fun W hW => check_any y v W (hw.below (w' := W) hW (Nat.le_refl _))
  have hve : verE y tab = if chkE y = 0 then (if tab.length ≠ y.ws.length ∨ tab.any (badL y) = true then 3 else if tab.any (fun r => r.any badT) = true then 2 else if holdsB y tab = true then 0 else 11) else chkE y := rfl
  obtain ⟨R, hR⟩ : ∃ R, R = verE y tab := ⟨_, rfl⟩
  rw [← hR] at hve ⊢
  have HVE := Lib.hid hve
  have hok := chk_ok (y := y)
  have hhold := fun W ok hsh hrg (hW : Below w.heap.size w W) => holds_any y v tab vt W ok hsh hrg (hw.below hW (Nat.le_refl _)) (ht.below hW (Nat.le_refl _))
  have HH := Lib.hid hhold
  clear hve hR hhold
  have hv0 := hw
  obtain ⟨adw, capw, rfl, -, -, -⟩ := hw
  have ht0 := ht
  obtain ⟨ad, cap, rfl, hmx, hcp, hop⟩ := ht.opened
  have hlt48 := hmx
  have HOP := Lib.hid hop
  have HVE2 := HVE
  generalize hC : chkE y = C at *
  have HCe := Lib.hid hC
  have HOK := Lib.hid hok
  have HCC := Lib.hid hcc
  clear hok hcc hC hop ht HVE2
  go_enter Try.func23, Try.ntmps23
  refine wp_seq_k (fun K hK => ?_)
  have HK := Lib.hid hK; clear hK
  go_wp2
  refine HK.out _ _ ?_; clear HK K
  generalize hw1 : World.alloc _ _ = w1
  obtain ⟨b1, hB, hs1⟩ := blk1 hw1
  clear hw1
  have hcc := HCC.out w1 hB
  by_cases h0 : C = 0
  rotate_left
  · have h0b : (C != 0) = true := bne_iff_ne.2 h0
    have HR := Lib.hid (show R = C by rw [HVE.out, if_neg h0])
    clear h0
    go_wp2_with (first | (refine wpList_load_blk rfl 24 _ rfl _ rfl b1 Try.underlying24 rfl size24 hy4 ?_) | (go_at_call 21; refine hcc.mono ?_; rintro e w2 ⟨rfl, hb2⟩))
    go_ret
    exact ⟨by rw [HR.out]; rfl, hB.trans (hb2.mono (by omega))⟩
  subst h0
  have ok := HOK.out.1 rfl
  have hr0 := ok.room0
  have hr1 := ok.room1
  have hve := HVE.out
  rw [if_pos rfl] at hve
  clear HVE
  have HV2 := Lib.hid hve
  clear hve HOK HCe
  refine wp_seq_k (fun K hK => ?_)
  have HK := Lib.hid hK; clear hK
  go_wp2_with (first | (refine wpList_load_blk rfl 24 _ rfl _ rfl b1 Try.underlying24 rfl size24 hy4 ?_) | (go_at_call 21; refine hcc.mono ?_; rintro e w2 ⟨rfl, hb2⟩))
  refine HK.out _ _ ?_; clear HK K
  replace b1 := blk_keep b1 hb2
  replace hB := hB.trans (hb2.mono (by omega))
  clear hb2 hcc hs1 HCC
  have c3 := cell_blk (i := 3) b1
  simp only [encY, List.getElem?_toArray, List.getElem?_cons_zero, List.getElem?_cons_succ] at c3
  by_cases hle : tab.length = y.ws.length
  rotate_left
  · have hnb : ((tab.length : Int) != (y.ws.length : Int)) = true := bne_iff_ne.2 (by omega)
    have HR := Lib.hid (show R = 3 by rw [HV2.out, if_pos (Or.inl hle)])
    clear hle HV2
    go_wp2
    go_ret
    exact ⟨by rw [HR.out]; rfl, hB⟩
  have hnb : ((tab.length : Int) != (y.ws.length : Int)) = false := by rw [hle]; simp
  have HLE := Lib.hid hle
  clear hle
  have h48 := cont48_any _ tab 49 #[.pointer (some ⟨w.heap.size, 0, none⟩)] (badL y) w2 (ht0.below hB (Nat.le_refl _)) (enters_of Try.func49 (by kernel_rfl) rfl) (fun k _ u W hW hu => test49_any y _ u (tabR tab k) _ W (by omega) hu (blk_keep b1 hW))
  cases e1 : tab.any (badL y)
  rotate_left
  · rw [e1] at h48
    have HR := Lib.hid (show R = 3 by rw [HV2.out, if_pos (Or.inr e1)])
    clear HV2
    clear e1
    go_wp2_with (go_at_call 48; refine h48.mono ?_; rintro e w3 ⟨rfl, hb3⟩)
    go_ret
    exact ⟨by rw [HR.out]; rfl, hB.trans (hb3.mono hB.size)⟩
  rw [e1] at h48
  have hve := HV2.out
  rw [if_neg (show ¬ (tab.length ≠ y.ws.length ∨ tab.any (badL y) = true) from fun h => h.elim (fun h => h HLE.out) (fun h => by rw [e1] at h; cases h))] at hve
  obtain ⟨hsh, hlens⟩ := shape_ok ok HLE.out e1
  have HSH := Lib.hid (And.intro hsh hlens)
  clear HV2
  have HV3 := Lib.hid hve
  have hl4 : tab.length ≤ 4 := hsh.1
  clear hve e1 hsh hlens
  refine wp_seq_k (fun K hK => ?_)
  have HK := Lib.hid hK; clear hK
  go_wp2_with (go_at_call 48; refine h48.mono ?_; rintro e w3 ⟨rfl, hb3⟩)
  refine HK.out _ _ ?_; clear HK K
  replace b1 := blk_keep b1 hb3
  replace hB := hB.trans (hb3.mono hB.size)
  clear hb3 h48 c3
  go_wp2
  go_loopw [26] (fun i wr => ∃ k : Nat, k ≤ tab.length ∧ i = .int .i64 k ∧ (∀ j, j < k → (tabR tab j).any badT = false) ∧ Below w.heap.size w wr ∧ wr.heap[w.heap.size]? = some (.cells (encY y (.slice adw y.ws.length capw)) 24 (0, 0))) (fun i _ => tab.length - (intOf i).toNat)
  case atStart => exact ⟨0, Nat.zero_le _, rfl, fun _ h => by omega, hB, b1⟩
  case round =>
    clear hB b1
    obtain ⟨k, hk, rfl, hno, hB, b1⟩ := hrel
    have HNO := Lib.hid hno
    clear hno
    by_cases hkn : k < tab.length
    · obtain ⟨b, off, ad2, cap2, rfl, hlt, hcell, hrow⟩ := HOP.out k hkn
      have hc0 := (hB.cell (p := ⟨b, off + k, none⟩) hlt).trans hcell
      have h50 := cont50_any _ (tabR tab k) 51 #[] badT wr (hrow.below hB (Nat.le_refl _)) (enters_of Try.func51 (by kernel_rfl) rfl) (fun x _ W _ => test51_any x W)
      clear hcell hrow
      cases e1 : (tabR tab k).any badT
      · rw [e1] at h50
        have HE := Lib.hid e1
        have HX := Lib.hid (And.intro hB b1)
        clear e1 hB b1
        go_wp2_with (go_at_call 50; refine h50.mono ?_; rintro e w5 ⟨rfl, hb5⟩)
        obtain ⟨hB, b1⟩ := HX.out
        go_roundw
        case rel => exact ⟨k + 1, by omega, by go_num, fun j hj => by rcases (show j < k ∨ j = k by omega) with h | rfl; exact HNO.out j h; exact HE.out, hB.trans (hb5.mono hB.size), blk_keep b1 hb5⟩
        case measure => simp [intOf]; omega
      · rw [e1] at h50
        have hany : tab.any (fun r => r.any badT) = true := List.any_eq_true.2 ⟨_, List.getElem_mem hkn, by rw [← tabR_lt hkn]; exact e1⟩
        have HR := Lib.hid (show R = 2 by rw [HV3.out, if_pos hany])
        clear e1 hany HV3
        go_wp2_with (go_at_call 50; refine h50.mono ?_; rintro e w5 ⟨rfl, hb5⟩)
        go_ret
        exact ⟨by rw [HR.out]; rfl, hB.trans (hb5.mono hB.size)⟩
    · have hany : tab.any (fun r => r.any badT) = false := List.any_eq_false.2 fun r hr => by
        obtain ⟨j, hj, rfl⟩ := List.getElem_of_mem hr
        rw [← tabR_lt hj, HNO.out j (by omega)]
        decide
      have hrg := range_ok hany
      have hve := HV3.out
      rw [hany] at hve
      have hho := HH.out wr ok HSH.out.1 hrg hB
      clear hany hrg HV3
      cases e1 : holdsB y tab
      · rw [e1] at hho hve
        have HR := Lib.hid (show R = 11 from hve)
        clear e1 hve
        go_wp2_with (first | (refine wpList_load_blk rfl 24 _ rfl _ rfl b1 Try.underlying24 rfl size24 hy4 ?_) | (go_at_call 52; refine hho.mono ?_; rintro e w5 ⟨rfl, hb5⟩))
        go_ret
        exact ⟨by rw [HR.out]; rfl, hB.trans (hb5.mono hB.size)⟩
      · rw [e1] at hho hve
        have HR := Lib.hid (show R = 0 from hve)
        clear e1 hve
        go_wp2_with (first | (refine wpList_load_blk rfl 24 _ rfl _ rfl b1 Try.underlying24 rfl size24 hy4 ?_) | (go_at_call 52; refine hho.mono ?_; rintro e w5 ⟨rfl, hb5⟩))
        go_ret
        exact ⟨by rw [HR.out]; rfl, hB.trans (hb5.mono hB.size)⟩
end Ytndmjginmomfiaa
end Go.Proofs
