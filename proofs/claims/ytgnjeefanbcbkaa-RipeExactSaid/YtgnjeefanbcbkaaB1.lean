/- Fields: samples, what is wrong with a field, lows and highs. -/
import Derived.Test.YtgnjeefanbcbkaaA10
open Go Go.RowKit Go.YtgnjeefanbcbkaaIt
namespace Go.Proofs
namespace Ytgnjeefanbcbkaa
/-- A sample. -/
structure Smp where
  week : Int
  val : Int
  off : Int
def encS (x : Smp) : List Value := [.int .i64 x.week, .int .i64 x.val, .int .i64 x.off]
theorem encS_len (x : Smp) : (encS x).length = 3 := rfl
abbrev SlS (w : World) (v : Value) (ss : List Smp) : Prop := SlG encS 3 w v ss
def at_ (ss : List Smp) (i : Nat) : Smp := ss.getD i ⟨0, 0, 0⟩
theorem at_lt {ss : List Smp} {i : Nat} (h : i < ss.length) : at_ ss i = ss[i] := by simp [at_, h]
theorem s_cells {w : World} {b off n : Nat} {ss : List Smp} (h : ∀ i (h : i < ss.length) f u, (encS ss[i])[f]? = some u → w.cell? ⟨b, off + i * 3 + f, none⟩ = some u) {i : Nat} (hi : i < ss.length) (hn : n = i) :
    w.cell? ⟨b, off + n * 3, none⟩ = some (.int .i64 (at_ ss i).week) ∧ w.cell? ⟨b, off + n * 3 + 1, none⟩ = some (.int .i64 (at_ ss i).val) ∧ w.cell? ⟨b, off + n * 3 + 2, none⟩ = some (.int .i64 (at_ ss i).off) := by
  subst hn
  rw [at_lt hi]
  exact ⟨h n hi 0 _ rfl, h n hi 1 _ rfl, h n hi 2 _ rfl⟩
/-- What is wrong with a sample, with a field. -/
def badE (n : Int) (x : Smp) : Int := if btw 0 x.week (n - 1) = false then 5 else if (!btw 0 x.val 30000 || !btw 0 x.off 30000) = true then 2 else 0
def rowsE (n : Int) : List Smp → Int
  | [] => 0
  | x :: l => if badE n x = 0 then rowsE n l else badE n x
def headB (n lo hi : Int) : Bool := !btw 1 n 30 || !btw 0 lo hi || decide (hi > 30000)
def chkE (n lo hi : Int) (ss : List Smp) : Int := if headB n lo hi = true then 2 else if 100 < ss.length then 1 else rowsE n ss
theorem badE_zero {n : Int} {x : Smp} : badE n x = 0 ↔ (0 ≤ x.week ∧ x.week < n) ∧ (0 ≤ x.val ∧ x.val ≤ 30000) ∧ (0 ≤ x.off ∧ x.off ≤ 30000) := by
  unfold badE btw
  by_cases h1 : (0 ≤ x.week ∧ x.week ≤ n - 1) <;> by_cases h2 : (0 ≤ x.val ∧ x.val ≤ 30000) <;> by_cases h3 : (0 ≤ x.off ∧ x.off ≤ 30000) <;> simp [h1, h2, h3] <;> omega
theorem rowsE_zero {n : Int} : ∀ {ss : List Smp}, rowsE n ss = 0 ↔ ∀ i, i < ss.length → badE n (at_ ss i) = 0
  | [] => ⟨fun _ i hi => by simp at hi, fun _ => rfl⟩
  | x :: l => by
    unfold rowsE
    by_cases h : badE n x = 0
    · rw [if_pos h, rowsE_zero]
      refine ⟨fun hl i hi => ?_, fun hl i hi => ?_⟩
      · cases i with
        | zero => exact h
        | succ i => exact hl i (by simpa using hi)
      · exact hl (i + 1) (by simpa using hi)
    · rw [if_neg h]
      exact ⟨fun h2 => absurd h2 h, fun hl => absurd (hl 0 (by simp)) h⟩
theorem rowsE_drop {n : Int} {ss : List Smp} {k : Nat} (hk : k < ss.length) : rowsE n (ss.drop k) = if badE n (at_ ss k) = 0 then rowsE n (ss.drop (k + 1)) else badE n (at_ ss k) := by
  rw [List.drop_eq_getElem_cons hk, at_lt hk]; rfl
/-- A valid field. -/
structure Val (n : Nat) (lo hi : Int) (ss : List Smp) : Prop where
  n1 : 1 ≤ n
  n30 : n ≤ 30
  r0 : 0 ≤ lo
  r1 : lo ≤ hi
  r2 : hi ≤ 30000
  len : ss.length ≤ 100
  ok : ∀ i, i < ss.length → (0 ≤ (at_ ss i).week ∧ (at_ ss i).week < n) ∧ (0 ≤ (at_ ss i).val ∧ (at_ ss i).val ≤ 30000) ∧ (0 ≤ (at_ ss i).off ∧ (at_ ss i).off ≤ 30000)
theorem chk_ok {n lo hi : Int} {ss : List Smp} (h : chkE n lo hi ss = 0) : ∃ m : Nat, n = m ∧ Val m lo hi ss := by
  unfold chkE at h
  by_cases h1 : headB n lo hi = true
  · rw [if_pos h1] at h; omega
  · rw [if_neg h1] at h
    by_cases h2 : 100 < ss.length
    · rw [if_pos h2] at h; omega
    · rw [if_neg h2] at h
      have h3 : btw 1 n 30 = true ∧ btw 0 lo hi = true ∧ hi ≤ 30000 := by
        unfold headB at h1
        cases e1 : btw 1 n 30 <;> cases e2 : btw 0 lo hi <;> by_cases e3 : hi > 30000 <;> simp_all
      have e1 := btw_true.1 h3.1
      have e2 := btw_true.1 h3.2.1
      obtain ⟨m, rfl⟩ := Int.eq_ofNat_of_zero_le (show 0 ≤ n by omega)
      exact ⟨m, rfl, by omega, by omega, by omega, by omega, h3.2.2, by omega, fun i hi => badE_zero.1 (rowsE_zero.1 h i hi)⟩
theorem chk_val {m : Nat} {lo hi : Int} {ss : List Smp} (h : Val m lo hi ss) : chkE m lo hi ss = 0 := by
  have h0 := h.n1
  have h1 := h.n30
  have h2 := h.r0
  have h3 := h.r1
  have h4 := h.r2
  have h5 := h.len
  have e1 : btw 1 m 30 = true := btw_true.2 (by omega)
  have e2 : btw 0 lo hi = true := btw_true.2 (by omega)
  unfold chkE headB
  rw [e1, e2, if_neg (by simp; omega), if_neg (by omega)]
  exact rowsE_zero.2 fun i hi => badE_zero.2 (h.ok i hi)
/-- The low and the high of a week. -/
def lowAt (lo : Int) (ss : List Smp) (w : Nat) : Int := ss.foldl (fun a s => if s.week = (w : Int) then max a (s.val - s.off) else a) lo
def highAt (hi : Int) (ss : List Smp) (w : Nat) : Int := ss.foldl (fun a s => if s.week = (w : Int) then min a (s.val + s.off) else a) hi
theorem low_push (lo : Int) (ss : List Smp) (s : Smp) (w : Nat) : lowAt lo (ss ++ [s]) w = if s.week = (w : Int) then max (lowAt lo ss w) (s.val - s.off) else lowAt lo ss w := by simp [lowAt]
theorem high_push (hi : Int) (ss : List Smp) (s : Smp) (w : Nat) : highAt hi (ss ++ [s]) w = if s.week = (w : Int) then min (highAt hi ss w) (s.val + s.off) else highAt hi ss w := by simp [highAt]
theorem low_bd {lo : Int} {ss : List Smp} {w : Nat} (h0 : 0 ≤ lo) (h1 : lo ≤ 30000) (h : ∀ s ∈ ss, (0 ≤ s.val ∧ s.val ≤ 30000) ∧ (0 ≤ s.off ∧ s.off ≤ 30000)) : 0 ≤ lowAt lo ss w ∧ lowAt lo ss w ≤ 30000 := by
  induction ss generalizing lo with
  | nil => exact ⟨h0, h1⟩
  | cons s ss ih =>
    have hs := h s (List.mem_cons_self ..)
    show 0 ≤ lowAt (if s.week = (w : Int) then max lo (s.val - s.off) else lo) ss w ∧ lowAt (if s.week = (w : Int) then max lo (s.val - s.off) else lo) ss w ≤ 30000
    refine ih ?_ ?_ fun s' hs' => h s' (List.mem_cons_of_mem _ hs')
    · split <;> omega
    · split <;> omega
theorem high_bd {hi : Int} {ss : List Smp} {w : Nat} (h0 : 0 ≤ hi) (h1 : hi ≤ 30000) (h : ∀ s ∈ ss, (0 ≤ s.val ∧ s.val ≤ 30000) ∧ (0 ≤ s.off ∧ s.off ≤ 30000)) : 0 ≤ highAt hi ss w ∧ highAt hi ss w ≤ 30000 := by
  induction ss generalizing hi with
  | nil => exact ⟨h0, h1⟩
  | cons s ss ih =>
    have hs := h s (List.mem_cons_self ..)
    show 0 ≤ highAt (if s.week = (w : Int) then min hi (s.val + s.off) else hi) ss w ∧ highAt (if s.week = (w : Int) then min hi (s.val + s.off) else hi) ss w ≤ 30000
    refine ih ?_ ?_ fun s' hs' => h s' (List.mem_cons_of_mem _ hs')
    · split <;> omega
    · split <;> omega
theorem Val.mem {n : Nat} {lo hi : Int} {ss : List Smp} (h : Val n lo hi ss) : ∀ s ∈ ss, (0 ≤ s.val ∧ s.val ≤ 30000) ∧ (0 ≤ s.off ∧ s.off ≤ 30000) := by
  intro s hs
  obtain ⟨i, hi, rfl⟩ := List.getElem_of_mem hs
  have := h.ok i hi
  rw [at_lt hi] at this
  exact this.2
theorem Val.bds {n : Nat} {lo hi : Int} {ss : List Smp} (h : Val n lo hi ss) : Bds n (lowAt lo ss) (highAt hi ss) :=
  ⟨h.n1, h.n30, fun _ _ => low_bd h.r0 (by have := h.r1; have := h.r2; omega) h.mem, fun _ _ => high_bd (by have := h.r0; have := h.r1; omega) h.r2 h.mem⟩
theorem size26 : (Try.prog.info? 26).map (·.size) = some 4 := by kernel_rfl
set_option maxRecDepth 100000 in
set_option maxHeartbeats 4000000 in
theorem check_any (n lo hi : Int) (v : Value) (ss : List Smp) (w : World) (hv : SlS w v ss) :
    Calls Try.prog 18 #[.agg #[.int .i64 n, .int .i64 lo, .int .i64 hi, v]] w fun e w' => e = .returned (.int .i64 (chkE n lo hi ss)) ∧ Below w.heap.size w w' := by
  have HV := Lib.hid hv
  obtain ⟨ad, cap, rfl, hm, hcp, hc⟩ := hv
  obtain ⟨R, hR⟩ : ∃ R, R = chkE n lo hi ss := ⟨_, rfl⟩
  rw [← hR]
  have HR := Lib.hid hR
  clear hR
  go_enter Try.func18, Try.ntmps18
  refine wp_seq_k (fun K hK => ?_)
  have HK := Lib.hid hK; clear hK
  go_wp2
  refine HK.out _ _ ?_; clear HK K
  generalize hw1 : World.alloc _ _ = w1
  obtain ⟨b1, hB, hs1⟩ := blk1 hw1
  clear hw1
  have c0 := cell_blk (i := 0) b1
  have c1 := cell_blk (i := 1) b1
  have c2 := cell_blk (i := 2) b1
  have c3 := cell_blk (i := 3) b1
  simp only [List.getElem?_toArray, List.getElem?_cons_zero, List.getElem?_cons_succ] at c0 c1 c2 c3
  have h51 := fun (a x b : Int) W => between_any a x b W
  have H51 := Lib.hid h51
  clear h51
  obtain ⟨q1, hq1⟩ : ∃ q, q = btw 1 n 30 := ⟨_, rfl⟩
  obtain ⟨q2, hq2⟩ : ∃ q, q = btw 0 lo hi := ⟨_, rfl⟩
  obtain ⟨q3, hq3⟩ : ∃ q, q = decide (hi > 30000) := ⟨_, rfl⟩
  have hhd : headB n lo hi = (!q1 || !q2 || q3) := by unfold headB; rw [← hq1, ← hq2, ← hq3]
  have HHD := Lib.hid hhd
  have HQ3 := Lib.hid hq3
  replace hq1 := hq1.symm
  replace hq2 := hq2.symm
  replace hq3 := hq3.symm
  clear hhd
  cases q1 <;> cases q2 <;> cases q3
  case true.true.false =>
    have hq4 : ¬ (hi > 30000) := by simpa using hq3
    by_cases hl : 100 < ss.length
    · have hRv : R = 1 := by rw [HR.out]; unfold chkE; rw [if_neg (by rw [HHD.out]; simp), if_pos hl]
      clear HR
      subst hRv
      have hlb : ((ss.length : Int) > 100) = True := by simp; omega
      go_wp2_with (go_at_call 51; refine (H51.out _ _ _ _).mono ?_; rintro e w2 ⟨rfl, rfl⟩)
      go_ret
      exact ⟨rfl, hB⟩
    · have hRv : R = rowsE n ss := by rw [HR.out]; unfold chkE; rw [if_neg (by rw [HHD.out]; simp), if_neg hl]
      have HRV := Lib.hid hRv
      have hn := btw_true.1 hq1
      have hlb : ((ss.length : Int) > 100) = False := by simp; omega
      clear hRv
      go_wp2_with (go_at_call 51; refine (H51.out _ _ _ _).mono ?_; rintro e w2 ⟨rfl, rfl⟩)
      go_loopw [34] (fun i wr => ∃ k : Nat, i = .int .i64 k ∧ k ≤ ss.length ∧ rowsE n ss = rowsE n (ss.drop k) ∧ wr.heap[w.heap.size]? = some (.cells #[.int .i64 n, .int .i64 lo, .int .i64 hi, .slice ad ss.length cap] 26 (0, 0)) ∧ Below w.heap.size w wr) (fun i _ => ss.length - (intOf i).toNat)
      case atStart => exact ⟨0, rfl, Nat.zero_le _, rfl, b1, hB⟩
      case round =>
        clear b1 hB c0 c1 c2 c3
        obtain ⟨k, rfl, hk, hrow, b1, hB⟩ := hrel
        have HROW := Lib.hid hrow
        clear hrow
        by_cases hkl : k < ss.length
        · obtain ⟨b, off, rfl, hlt, hcell⟩ := hc (by omega)
          obtain ⟨p0, p1, p2⟩ := s_cells hcell (n := k) hkl rfl
          have r0 := (hB.cell (p := ⟨b, off + k * 3, none⟩) hlt).trans p0
          have r1 := (hB.cell (p := ⟨b, off + k * 3 + 1, none⟩) hlt).trans p1
          have r2 := (hB.cell (p := ⟨b, off + k * 3 + 2, none⟩) hlt).trans p2
          have hdr := rowsE_drop (n := n) hkl
          clear hcell hc p0 p1 p2
          have e0 := cell_blk (i := 0) b1
          simp only [List.getElem?_toArray, List.getElem?_cons_zero] at e0
          have hbe : badE n (at_ ss k) = if btw 0 (at_ ss k).week (n - 1) = false then 5 else if (!btw 0 (at_ ss k).val 30000 || !btw 0 (at_ ss k).off 30000) = true then 2 else 0 := rfl
          obtain ⟨E, hE⟩ : ∃ E, E = badE n (at_ ss k) := ⟨_, rfl⟩
          rw [← hE] at hdr hbe
          have HDR := Lib.hid hdr
          clear hdr hE
          generalize (at_ ss k).week = x0 at *
          generalize (at_ ss k).val = x1 at *
          generalize (at_ ss k).off = x2 at *
          have hw1 : IntKind.i64.wrap (n - 1) = n - 1 := by rw [IntKind.wrap_i64]; omega
          have hEb : Below wr.heap.size wr (wr.alloc (Obj.cells #[Value.int IntKind.i64 x0, Value.int IntKind.i64 x1, Value.int IntKind.i64 x2] 82)) := (Below.refl _ _).alloc (Nat.le_refl _) _
          have hB2 := btr hB hEb (Nat.le_refl _)
          have b12 := blk_keep b1 hEb
          have hl1 := lt_blk b1
          have hRR : E ≠ 0 → R = E := fun h => by rw [HRV.out, HROW.out, HDR.out, if_neg h]
          have hRZ : E = 0 → rowsE n ss = rowsE n (ss.drop (k + 1)) := fun h => by rw [HROW.out, HDR.out, if_pos h]
          have HRR := Lib.hid hRR
          have HRZ := Lib.hid hRZ
          have HBE := Lib.hid hbe
          clear hRR hRZ hbe
          obtain ⟨p1, hp1⟩ : ∃ q, q = btw 0 x0 (n - 1) := ⟨_, rfl⟩
          obtain ⟨p2, hp2⟩ : ∃ q, q = btw 0 x1 30000 := ⟨_, rfl⟩
          obtain ⟨p3, hp3⟩ : ∃ q, q = btw 0 x2 30000 := ⟨_, rfl⟩
          have HP1 := Lib.hid hp1
          have HP2 := Lib.hid hp2
          have HP3 := Lib.hid hp3
          replace hp1 := hp1.symm
          replace hp2 := hp2.symm
          replace hp3 := hp3.symm
          cases p1
          · have hRv : R = 5 := by rw [HRR.out (by rw [HBE.out, ← HP1.out]; simp), HBE.out, ← HP1.out]; simp
            clear HRR HRZ HBE HRV HR HROW HDR
            subst hRv
            go_wp2_with (go_at_call 51; refine (H51.out _ _ _ _).mono ?_; rintro e w2 ⟨rfl, rfl⟩)
            go_ret
            exact ⟨rfl, hB2⟩
          · cases p2
            · have hRv : R = 2 := by rw [HRR.out (by rw [HBE.out, ← HP1.out, ← HP2.out]; simp), HBE.out, ← HP1.out, ← HP2.out]; simp
              clear HRR HRZ HBE HRV HR HROW HDR
              subst hRv
              go_wp2_with (go_at_call 51; refine (H51.out _ _ _ _).mono ?_; rintro e w2 ⟨rfl, rfl⟩)
              go_ret
              exact ⟨rfl, hB2⟩
            · cases p3
              · have hRv : R = 2 := by rw [HRR.out (by rw [HBE.out, ← HP1.out, ← HP2.out, ← HP3.out]; simp), HBE.out, ← HP1.out, ← HP2.out, ← HP3.out]; simp
                clear HRR HRZ HBE HRV HR HROW HDR
                subst hRv
                go_wp2_with (go_at_call 51; refine (H51.out _ _ _ _).mono ?_; rintro e w2 ⟨rfl, rfl⟩)
                go_ret
                exact ⟨rfl, hB2⟩
              · have hz := Lib.hid (HRZ.out (by rw [HBE.out, ← HP1.out, ← HP2.out, ← HP3.out]; simp))
                clear HRR HRZ HBE HROW HDR
                go_wp2_with (go_at_call 51; refine (H51.out _ _ _ _).mono ?_; rintro e w2 ⟨rfl, rfl⟩)
                go_roundw
                case rel => exact ⟨k + 1, by go_num, by omega, hz.out, b12, hB2⟩
                case measure => simp [intOf]; omega
        · have hke : k = ss.length := by omega
          have hr0 : R = 0 := by rw [HRV.out, HROW.out, hke, List.drop_length]; rfl
          clear HROW HRV HR hke
          subst hr0
          go_wp2
          go_ret
          exact ⟨rfl, hB⟩
  all_goals
    have hRv : R = 2 := by rw [HR.out]; unfold chkE; rw [if_pos (by rw [HHD.out]; rfl)]
    clear HR
    subst hRv
    go_wp2_with (go_at_call 51; refine (H51.out _ _ _ _).mono ?_; rintro e w2 ⟨rfl, rfl⟩)
    go_ret
    exact ⟨rfl, hB⟩
end Ytgnjeefanbcbkaa
end Go.Proofs
