/- Pans: whether a timetable is accepted. -/
import Derived.Test.YteileadcmekkoaaQ15
open Go Go.RowKit Go.YteileadcmekkoaaIt
namespace Go.Proofs
namespace Yteileadcmekkoaa
def idx {α : Type} (p : α → Bool) : List α → Int
  | [] => -1
  | x :: xs => if p x then 0 else if idx p xs < 0 then -1 else idx p xs + 1
theorem idx_any {α : Type} (p : α → Bool) (xs : List α) : decide (0 ≤ idx p xs) = xs.any p := by
  induction xs with
  | nil => rfl
  | cons x xs ih =>
    simp only [idx, List.any_cons, ← ih]
    by_cases hx : p x = true
    · simp [hx]
    · simp only [hx, if_false, Bool.false_eq_true, Bool.false_or]
      split
      · simp; omega
      · simp; omega
theorem idx_at {α : Type} (p : α → Bool) {xs : List α} {k : Nat} (hk : k < xs.length) (hn : ∀ j (h : j < k), p (xs[j]'(by omega)) = false) (hp : p xs[k] = true) : idx p xs = k := by
  induction xs generalizing k with
  | nil => simp at hk
  | cons x xs ih =>
    cases k with
    | zero => simp at hp; simp [idx, hp]
    | succ k =>
      have h0 := hn 0 (by omega)
      simp at h0
      have := ih (k := k) (by simpa using hk) (fun j h => by have := hn (j + 1) (by omega); simpa using this) (by simpa using hp)
      simp [idx, h0, this]
      omega
theorem idx_none {α : Type} (p : α → Bool) {xs : List α} (hn : ∀ j (h : j < xs.length), p xs[j] = false) : idx p xs = -1 := by
  induction xs with
  | nil => rfl
  | cons x xs ih =>
    have h0 := hn 0 (by simp)
    simp at h0
    have := ih (fun j h => by have := hn (j + 1) (by simpa using h); simpa using this)
    simp [idx, h0, this]
set_option maxRecDepth 100000 in
set_option maxHeartbeats 1000000 in
theorem index78_any (v : Value) (xs : List Int) (g : Nat) (lb : Array Value) (p : Int → Bool) (w : World) (hv : SlI w v xs)
    (eg : ∀ args w, (callFunc g args).run Try.prog w = .ok (.enter g args) w) (hp : ∀ x ∈ xs, ∀ W, Below w.heap.size w W → Calls Try.prog g (#[.int .i64 x] ++ lb) W fun e W' => e = .returned (.bool (p x)) ∧ Below W.heap.size W W') :
    Calls Try.prog 78 #[v, .func (.func g) #[] lb] w fun e w' => e = .returned (.int .i64 (idx p xs)) ∧ Below w.heap.size w w' := by
  obtain ⟨ad, cap, rfl, hm, hcp, hc⟩ := hv
  have HP := Lib.hid hp
  have HC := Lib.hid hc
  clear hp hc
  go_enter Try.func78, Try.ntmps78
  go_wp2
  go_loopw [8] (fun i wr => ∃ k : Nat, k ≤ xs.length ∧ i = .int .i64 k ∧ (∀ j (h : j < k) (h2 : j < xs.length), p xs[j] = false) ∧ Below w.heap.size w wr) (fun i _ => xs.length - (intOf i).toNat)
  case atStart => exact ⟨0, Nat.zero_le _, rfl, fun _ h => by omega, Below.refl _ _⟩
  case round =>
    obtain ⟨k, hk, rfl, hno, hb⟩ := hrel
    have HNO := Lib.hid hno
    clear hno
    by_cases hkn : k < xs.length
    · obtain ⟨b, off, rfl, hlt, hcell⟩ := HC.out (by omega)
      have c0 := (hb.cell (p := ⟨b, off + k, none⟩) hlt).trans (hcell k hkn)
      rw [at0_lt hkn] at c0
      have hmem := List.getElem_mem hkn
      have hcall := HP.out xs[k] hmem wr hb
      obtain ⟨pv, hpv⟩ : ∃ pv, pv = p xs[k] := ⟨_, rfl⟩
      rw [← hpv] at hcall
      have HPV := Lib.hid hpv
      obtain ⟨x0, hx0⟩ : ∃ x0, x0 = xs[k] := ⟨_, rfl⟩
      rw [← hx0] at c0 hcall
      clear hx0
      clear hcell hpv hmem
      go_wp2_with fail
      refine hcall.mono ?_
      rintro e w2 ⟨rfl, hb2⟩
      have hb3 : Below w.heap.size w w2 := hb.trans (hb2.mono hb.size)
      clear hcall hb2 hb c0
      cases pv
      · go_wp2
        go_roundw
        case rel => exact ⟨k + 1, by omega, by go_num, fun j h1 h2 => by rcases (show j < k ∨ j = k by omega) with h | rfl; exact HNO.out j h h2; exact HPV.out.symm, hb3⟩
        case measure => simp [intOf]; omega
      · have hi : idx p xs = k := idx_at p hkn (fun j h => HNO.out j h (by omega)) HPV.out.symm
        have HI := Lib.hid hi
        clear hi
        go_wp2
        go_ret
        exact ⟨by rw [HI.out]; rfl, hb3⟩
    · have hi : idx p xs = -1 := idx_none p (fun j h => HNO.out j (by omega) h)
      have HI := Lib.hid hi
      clear hi
      go_wp2
      go_ret
      exact ⟨by rw [HI.out]; rfl, hb⟩
set_option maxRecDepth 100000 in
theorem cont68_any (v : Value) (xs : List Int) (g : Nat) (lb : Array Value) (p : Int → Bool) (w : World) (hv : SlI w v xs)
    (eg : ∀ args w, (callFunc g args).run Try.prog w = .ok (.enter g args) w) (hp : ∀ x ∈ xs, ∀ W, Below w.heap.size w W → Calls Try.prog g (#[.int .i64 x] ++ lb) W fun e W' => e = .returned (.bool (p x)) ∧ Below W.heap.size W W') :
    Calls Try.prog 68 #[v, .func (.func g) #[] lb] w fun e w' => e = .returned (.bool (xs.any p)) ∧ Below w.heap.size w w' := by
  have h := index78_any v xs g lb p w hv eg hp
  have hi := idx_any p xs
  generalize idx p xs = i at *
  have HI := Lib.hid hi
  clear hi
  go_enter Try.func68, Try.ntmps68
  go_wp2_with (go_at_call 78; refine h.mono ?_; rintro e w2 ⟨rfl, hb⟩)
  go_ret
  exact ⟨by rw [← HI.out]; rfl, hb⟩
set_option maxRecDepth 100000 in
set_option maxHeartbeats 1000000 in
/-- Where a number stands first. -/
theorem index76_any (v : Value) (xs : List Int) (x : Int) (w : World) (hv : SlI w v xs) :
    Calls Try.prog 76 #[v, .int .i64 x] w fun e w' => e = .returned (.int .i64 (idx (fun y => x == y) xs)) ∧ Below w.heap.size w w' := by
  obtain ⟨ad, cap, rfl, hm, hcp, hc⟩ := hv
  have HC := Lib.hid hc
  clear hc
  go_enter Try.func76, Try.ntmps76
  go_wp2
  go_loopw [8] (fun i wr => ∃ k : Nat, k ≤ xs.length ∧ i = .int .i64 k ∧ (∀ j (h : j < k) (h2 : j < xs.length), (x == xs[j]) = false) ∧ Below w.heap.size w wr) (fun i _ => xs.length - (intOf i).toNat)
  case atStart => exact ⟨0, Nat.zero_le _, rfl, fun _ h => by omega, Below.refl _ _⟩
  case round =>
    obtain ⟨k, hk, rfl, hno, hb⟩ := hrel
    have HNO := Lib.hid hno
    clear hno
    by_cases hkn : k < xs.length
    · obtain ⟨b, off, rfl, hlt, hcell⟩ := HC.out (by omega)
      have c0 := (hb.cell (p := ⟨b, off + k, none⟩) hlt).trans (hcell k hkn)
      rw [at0_lt hkn] at c0
      obtain ⟨x0, hx0⟩ : ∃ x0, x0 = xs[k] := ⟨_, rfl⟩
      rw [← hx0] at c0
      have HX := Lib.hid hx0
      clear hx0 hcell
      by_cases hxe : (x == x0) = true
      · have hi : idx (fun y => x == y) xs = k := idx_at _ hkn (fun j h => HNO.out j h (by omega)) (by rw [← HX.out]; exact hxe)
        have HI := Lib.hid hi
        clear hi
        go_wp2
        go_ret
        exact ⟨by rw [HI.out]; rfl, hb⟩
      · have hxe' : (x == x0) = false := by simpa using hxe
        have HE := Lib.hid hxe'
        clear hxe
        go_wp2
        go_roundw
        case rel => exact ⟨k + 1, by omega, by go_num, fun j h1 h2 => by rcases (show j < k ∨ j = k by omega) with h | rfl; exact HNO.out j h h2; rw [← HX.out]; exact HE.out, hb⟩
        case measure => simp [intOf]; omega
    · have hi : idx (fun y => x == y) xs = -1 := idx_none _ (fun j h => HNO.out j (by omega) h)
      have HI := Lib.hid hi
      clear hi
      go_wp2
      go_ret
      exact ⟨by rw [HI.out]; rfl, hb⟩
set_option maxRecDepth 100000 in
theorem cont64_any (v : Value) (xs : List Int) (x : Int) (w : World) (hv : SlI w v xs) :
    Calls Try.prog 64 #[v, .int .i64 x] w fun e w' => e = .returned (.bool (xs.any fun y => x == y)) ∧ Below w.heap.size w w' := by
  have h := index76_any v xs x w hv
  have hi := idx_any (fun y => x == y) xs
  generalize idx (fun y => x == y) xs = i at *
  have HI := Lib.hid hi
  clear hi
  go_enter Try.func64, Try.ntmps64
  go_wp2_with (go_at_call 76; refine h.mono ?_; rintro e w2 ⟨rfl, hb⟩)
  go_ret
  exact ⟨by rw [← HI.out]; rfl, hb⟩
theorem big_any (x : Int) (w : World) : Calls Try.prog 69 #[.int .i64 x] w fun e w' => e = .returned (.bool (!btw 0 x 1000000000)) ∧ Below w.heap.size w w' := by
  have h := between_any 0 x 1000000000 w
  go_enter Try.func69, Try.ntmps69
  go_wp2_with (go_at_call 58; refine h.mono ?_; rintro e w2 ⟨rfl, hw2⟩; subst hw2)
  go_ret
  exact ⟨rfl, Below.refl _ _⟩
/-- A wait that a timetable does not keep. -/
def lateB (num den : Int) (tab : List Int) (x : Wa) : Bool := decide (at0 tab x.t.toNat < at0 tab x.f.toNat + x.hi * den - x.b * num)
/-- What is wrong with a timetable. -/
noncomputable def verE (n : Int) (ws : List Wa) (num den : Int) (tab : List Int) : Int :=
  if chkE n ws ≠ 0 then chkE n ws else if goodP num den = false then 2 else if (tab.length : Int) ≠ n then 3 else if (tab.any fun x => !btw 0 x 1000000000) = true then 2 else if (ws.any (lateB num den tab)) = true then 11 else 0
set_option maxRecDepth 100000 in
set_option maxHeartbeats 4000000 in
theorem verify_any (n : Int) (v vt : Value) (ws : List Wa) (num den : Int) (tab : List Int) (w : World) (hv : SlA w v ws) (ht : SlI w vt tab) :
    Calls Try.prog 31 #[.agg #[.int .i64 n, v], .agg #[.int .i64 num, .int .i64 den], vt] w fun e w' => e = .returned (.int .i64 (verE n ws num den tab)) ∧ Below w.heap.size w w' := by
  have HV := Lib.hid (And.intro hv ht)
  obtain ⟨ad, cap, rfl, -, -, -⟩ := hv
  obtain ⟨at_', ct, rfl, hmt, -, -⟩ := ht
  go_enter Try.func31, Try.ntmps31
  refine wp_seq_k (fun K hK => ?_)
  have HK := Lib.hid hK; clear hK
  go_wp2
  refine HK.out _ _ ?_; clear HK K
  generalize hw1 : World.alloc _ _ = w1
  obtain ⟨b1, b2, hB, hs1⟩ := blk2 hw1
  clear hw1
  have h22 := check_any n _ ws w1 (HV.out.1.below hB (Nat.le_refl _))
  obtain ⟨E, hE⟩ : ∃ E, E = chkE n ws := ⟨_, rfl⟩
  rw [← hE] at h22
  unfold verE
  rw [← hE]
  have HE := Lib.hid hE
  clear hE
  by_cases h0 : E = 0
  · obtain ⟨m, rfl, hV, -⟩ := chk_ok (HE.out.symm.trans h0)
    subst h0
    rw [if_neg (by simp : ¬ ((0 : Int) ≠ 0))]
    refine wp_seq_k (fun K hK => ?_)
    have HK := Lib.hid hK; clear hK
    go_wp2_with (first | (refine wpList_load_blk rfl 24 _ rfl _ rfl b1 Try.underlying24 rfl size24 rfl ?_) | (go_at_call 22; refine h22.mono ?_; rintro e w2 ⟨rfl, hb2⟩))
    refine HK.out _ _ ?_; clear HK K h22
    replace b1 := blk_keep b1 hb2
    replace b2 := blk_keep b2 hb2
    replace hB := btr hB hb2 (Nat.le_refl _)
    clear hb2
    have h54 := fun W => pgood_any num den W
    obtain ⟨G, hG⟩ : ∃ G, G = goodP num den := ⟨_, rfl⟩
    rw [← hG] at h54 ⊢
    have HG := Lib.hid hG
    clear hG
    cases G
    · rw [if_pos rfl]
      go_wp2_with (first | (refine wpList_load_blk rfl 26 _ rfl _ rfl b2 Try.underlying26 rfl size26 rfl ?_) | (go_at_call 54; refine (h54 _).mono ?_; rintro e w4 ⟨rfl, hb4⟩))
      go_ret
      exact ⟨rfl, btr hB hb4 (Nat.le_refl _)⟩
    · rw [if_neg (by simp)]
      have hg := HG.out.symm
      unfold goodP at hg
      rw [Bool.and_eq_true, btw_true, btw_true] at hg
      obtain ⟨⟨g1, g2⟩, g3, g4⟩ := hg
      have H54 := Lib.hid h54
      clear h54
      by_cases hl : (tab.length : Int) = m
      · rw [if_neg (by simpa using hl)]
        have hlb : ((tab.length : Int) != (m : Int)) = false := by simpa using hl
        have HL := Lib.hid hl
        clear hl
        have h68 := fun W (hW : Below w.heap.size w W) => cont68_any (.slice at_' tab.length ct) tab 69 #[] (fun x => !btw 0 x 1000000000) W (HV.out.2.below hW (Nat.le_refl _)) (enters_of Try.func69 (by kernel_rfl) rfl) (fun x _ W' _ => big_any x W')
        obtain ⟨B, hB'⟩ : ∃ B, B = tab.any fun x => !btw 0 x 1000000000 := ⟨_, rfl⟩
        rw [← hB'] at h68 ⊢
        have HBB := Lib.hid hB'
        have H68 := Lib.hid h68
        clear hB' h68
        cases B
        · rw [if_neg (by simp)]
          refine wp_seq_k (fun K hK => ?_)
          have HK := Lib.hid hK; clear hK
          go_wp2_with (first | (refine wpList_load_blk rfl 26 _ rfl _ rfl b2 Try.underlying26 rfl size26 rfl ?_) | (go_at_call 54; refine (H54.out _).mono ?_; rintro e w4 ⟨rfl, hb4⟩; have b14 := blk_keep b1 hb4; have hB4 := btr hB hb4 (Nat.le_refl _); have e0 := cell_blk (i := 0) b14; simp only [List.getElem?_toArray, List.getElem?_cons_zero] at e0; have z1 := lt_blk b14) | (go_at_call 68; refine (H68.out _ hB4).mono ?_; rintro e w5 ⟨rfl, hb5⟩))
          refine HK.out _ _ ?_; clear HK K H54 H68
          replace b1 := blk_keep b14 hb5
          replace b2 := blk_keep (blk_keep b2 hb4) hb5
          replace hB := btr hB4 hb5 (Nat.le_refl _)
          clear b14 hB4 e0 z1 hb4 hb5
          have hbig : ∀ x ∈ tab, 0 ≤ x ∧ x ≤ 1000000000 := fun x hx => by
            have h := List.any_eq_false.1 HBB.out.symm x hx
            have h2 : btw 0 x 1000000000 = true := by simpa using h
            exact btw_true.1 h2
          have HBIG := Lib.hid hbig
          clear hbig
          have e1 := cell_blk (i := 1) b1
          simp only [List.getElem?_toArray, List.getElem?_cons_zero, List.getElem?_cons_succ] at e1
          have z1 := lt_blk b1
          obtain ⟨R, hR⟩ : ∃ R : Int, R = if (ws.any (lateB num den tab)) = true then 11 else 0 := ⟨_, rfl⟩
          rw [← hR]
          have HR := Lib.hid hR
          clear hR
          go_wp2
          go_loopw [31] (fun i wr => ∃ k : Nat, i = .int .i64 k ∧ k ≤ ws.length ∧ (ws.take k).any (lateB num den tab) = false ∧ wr.heap[w.heap.size]? = some (.cells #[.int .i64 m, .slice ad ws.length cap] 24 (0, 0)) ∧ wr.heap[w.heap.size + 1]? = some (.cells #[.int .i64 num, .int .i64 den] 26 (0, 0)) ∧ Below w.heap.size w wr) (fun i _ => ws.length - (intOf i).toNat)
          case atStart => exact ⟨0, rfl, Nat.zero_le _, rfl, b1, b2, hB⟩
          case round =>
            clear b1 b2 hB e1 z1
            obtain ⟨k, rfl, hk, hno, b1, b2, hB⟩ := hrel
            by_cases hkl : k < ws.length
            · have hva := hV.ok k hkl
              have hlen := hV.len
              have htk : (ws.take (k + 1)).any (lateB num den tab) = ((ws.take k).any (lateB num den tab) || lateB num den tab (at_ ws k)) := by
                rw [List.take_succ_eq_append_getElem hkl, List.any_append, at_lt hkl]; simp
              have hmem : lateB num den tab (at_ ws k) = true → R = 11 := fun h => by
                rw [HR.out, if_pos]
                rw [List.any_eq_true]
                exact ⟨at_ ws k, by rw [at_lt hkl]; exact List.getElem_mem hkl, h⟩
              have HTK := Lib.hid (And.intro htk (And.intro hmem hno))
              clear htk hmem hno
              obtain ⟨aw, cw, hw, -, -, hww⟩ := HV.out.1
              obtain ⟨bw, ow, rfl, hlw, hcw⟩ := hww (by omega)
              injection hw with hw1 hw2 hw3
              subst hw1
              obtain ⟨q0, q1, q2, q3, q4⟩ := a_cells hcw (n := k) hkl rfl
              have r0 := (hB.cell (p := ⟨bw, ow + k * 5, none⟩) hlw).trans q0
              have r1 := (hB.cell (p := ⟨bw, ow + k * 5 + 1, none⟩) hlw).trans q1
              have r2 := (hB.cell (p := ⟨bw, ow + k * 5 + 2, none⟩) hlw).trans q2
              have r3 := (hB.cell (p := ⟨bw, ow + k * 5 + 3, none⟩) hlw).trans q3
              have r4 := (hB.cell (p := ⟨bw, ow + k * 5 + 4, none⟩) hlw).trans q4
              clear hcw q0 q1 q2 q3 q4 hww hw2 hw3
              generalize at_ ws k = x at *
              obtain ⟨x0, x1, x2, x3, x4⟩ := x
              simp only at r0 r1 r2 r3 r4 hva
              obtain ⟨⟨f0, f1⟩, ⟨t0, t1⟩, ⟨l0, l1⟩, l2, ⟨bk0, bk1⟩⟩ := hva
              obtain ⟨fn, rfl⟩ := Int.eq_ofNat_of_zero_le f0
              obtain ⟨tn, rfl⟩ := Int.eq_ofNat_of_zero_le t0
              have htl := HL.out
              obtain ⟨a2, c2, ha2, -, -, hcc⟩ := HV.out.2
              obtain ⟨bc, oc, rfl, hlc, hcell⟩ := hcc (by omega)
              injection ha2 with ha3 ha4 ha5
              subst ha3
              have d0 := (hB.cell (p := ⟨bc, oc + fn, none⟩) hlc).trans (hcell fn (by omega))
              have d1 := (hB.cell (p := ⟨bc, oc + tn, none⟩) hlc).trans (hcell tn (by omega))
              have y0 := HBIG.out (at0 tab fn) (by rw [at0_lt (by omega : fn < tab.length)]; exact List.getElem_mem _)
              have y1 := HBIG.out (at0 tab tn) (by rw [at0_lt (by omega : tn < tab.length)]; exact List.getElem_mem _)
              have hlat : lateB num den tab ⟨fn, tn, x2, x3, x4⟩ = decide (at0 tab tn < at0 tab fn + x3 * den - x4 * num) := rfl
              clear hcell hcc ha4 ha5
              have zz0 : fn < tab.length := by omega
              have zz1 : tn < tab.length := by omega
              clear htl
              generalize hyf : at0 tab fn = yf at *
              generalize hyt : at0 tab tn = yt at *
              clear hyf hyt
              have p1 : 0 ≤ x3 * den := Int.mul_nonneg (by omega) (by omega)
              have p2 : x3 * den ≤ 10000 * 1000 := Int.mul_le_mul l2 g4 (by omega) (by omega)
              have p3 : 0 ≤ x4 * num := Int.mul_nonneg bk0 g1
              have p4 : x4 * num ≤ 4 * 1000000000 := Int.mul_le_mul bk1 g2 g1 (by omega)
              have s1 : IntKind.i64.wrap (x3 * den) = x3 * den := by rw [IntKind.wrap_i64]; omega
              have s2 : IntKind.i64.wrap (yf + x3 * den) = yf + x3 * den := by rw [IntKind.wrap_i64]; omega
              have s3 : IntKind.i64.wrap (x4 * num) = x4 * num := by rw [IntKind.wrap_i64]; omega
              have s4 : IntKind.i64.wrap (yf + x3 * den - x4 * num) = yf + x3 * den - x4 * num := by rw [IntKind.wrap_i64]; omega
              have e0 := cell_blk (i := 0) b2
              have e1 := cell_blk (i := 1) b2
              simp only [List.getElem?_toArray, List.getElem?_cons_zero, List.getElem?_cons_succ] at e0 e1
              have z2 := lt_blk b2
              have hlt : bw < wr.heap.size := Nat.lt_of_lt_of_le hlw hB.size
              have hlt2 : bc < wr.heap.size := Nat.lt_of_lt_of_le hlc hB.size
              have HLAT := Lib.hid hlat
              clear p1 p2 p3 p4 hlat y0 y1
              have hE : Below wr.heap.size wr (wr.alloc (Obj.cells #[Value.int IntKind.i64 fn, Value.int IntKind.i64 tn, Value.int IntKind.i64 x2, Value.int IntKind.i64 x3, Value.int IntKind.i64 x4] 82)) := (Below.refl _ _).alloc (Nat.le_refl _) _
              have hB2 := btr hB hE (Nat.le_refl _)
              have b12 := blk_keep b1 hE
              have b22 := blk_keep b2 hE
              by_cases hlate : yt < yf + x3 * den - x4 * num
              · have hRv : R = 11 := HTK.out.2.1 (by rw [HLAT.out]; simpa using hlate)
                subst hRv
                clear HR
                go_wp2
                go_quiet (fail)
                go_wp2
                go_ret
                exact ⟨rfl, below_drewN hB2 _⟩
              · have hnx : (ws.take (k + 1)).any (lateB num den tab) = false := by rw [HTK.out.1, HTK.out.2.2, HLAT.out]; simpa using hlate
                have HNX := Lib.hid hnx
                clear hnx
                go_wp2
                go_quiet (fail)
                go_wp2
                go_roundw
                case rel => exact ⟨k + 1, by go_num, by omega, HNX.out, b12, b22, below_drewN hB2 _⟩
                case measure => simp [intOf]; omega
            · have hke : k = ws.length := by omega
              have hRv : R = 0 := by
                rw [HR.out, if_neg]
                rw [hke, List.take_length] at hno
                rw [hno]; simp
              subst hRv
              clear HR hno hke
              go_wp2
              go_ret
              exact ⟨rfl, hB⟩
        · rw [if_pos rfl]
          go_wp2_with (first | (refine wpList_load_blk rfl 26 _ rfl _ rfl b2 Try.underlying26 rfl size26 rfl ?_) | (go_at_call 54; refine (H54.out _).mono ?_; rintro e w4 ⟨rfl, hb4⟩; have b14 := blk_keep b1 hb4; have hB4 := btr hB hb4 (Nat.le_refl _); have e0 := cell_blk (i := 0) b14; simp only [List.getElem?_toArray, List.getElem?_cons_zero] at e0; have z1 := lt_blk b14) | (go_at_call 68; refine (H68.out _ hB4).mono ?_; rintro e w5 ⟨rfl, hb5⟩))
          go_ret
          exact ⟨rfl, btr hB4 hb5 (Nat.le_refl _)⟩
      · rw [if_pos hl]
        have hlb : ((tab.length : Int) != (m : Int)) = true := by simpa using hl
        clear hl
        go_wp2_with (first | (refine wpList_load_blk rfl 26 _ rfl _ rfl b2 Try.underlying26 rfl size26 rfl ?_) | (go_at_call 54; refine (H54.out _).mono ?_; rintro e w4 ⟨rfl, hb4⟩; have b14 := blk_keep b1 hb4; have e0 := cell_blk (i := 0) b14; simp only [List.getElem?_toArray, List.getElem?_cons_zero] at e0; have z1 := lt_blk b14))
        go_ret
        exact ⟨rfl, btr hB hb4 (Nat.le_refl _)⟩
  · have hne : (E != 0) = true := by simpa using h0
    have H22 := Lib.hid h22
    rw [if_pos h0]
    clear h22 h0
    go_wp2_with (first | (refine wpList_load_blk rfl 24 _ rfl _ rfl b1 Try.underlying24 rfl size24 rfl ?_) | (go_at_call 22; refine H22.out.mono ?_; rintro e w2 ⟨rfl, hb2⟩; have hB2 := btr hB hb2 (Nat.le_refl _)))
    go_ret
    exact ⟨rfl, hB2⟩
end Yteileadcmekkoaa
end Go.Proofs
