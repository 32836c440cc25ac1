/- For each work and number of strikes the law PanRuns returns true. -/
import Derived.Test.YteileadcmekkoaaRq
import Derived.Test.YteileadcmekkoaaGv
import Derived.Test.YteileadcmekkoaaLawLg
open Go Go.RowKit Go.YteileadcmekkoaaIt
namespace Go.Proofs
namespace Yteileadcmekkoaa
theorem ab_cell2 {w : World} {p : Addr} {v : Value} (h : w.cell? p = some v) (X : Ab w.heap.size w) : X.val.cell? p = some v := (X.ok.cell (p := p) (World.block_lt_of_cell? w p h)).trans h
theorem slPP_get {w : World} {ad : Option Addr} {N c : Nat} {rows : List (List (Int × Int))} (h : SlPP w (.slice ad N c) rows) (h0 : 0 < rows.length) :
    ∃ b off, ad = some ⟨b, off, none⟩ ∧ b < w.heap.size ∧ ∀ k (h : k < rows.length), ∃ a d, w.cell? ⟨b, off + k, none⟩ = some (.slice a rows[k].length d) ∧ SlP w (.slice a rows[k].length d) rows[k] := by
  obtain ⟨vs, ⟨ad', cap, hv, -, -, hc⟩, hl, hr⟩ := h
  injection hv with h1 _ _
  subst h1
  obtain ⟨b, off, rfl, hb, hcell⟩ := hc (by omega)
  refine ⟨b, off, rfl, hb, fun k hk => ?_⟩
  have h2 := hr k (by omega) hk
  have h3 := h2
  obtain ⟨a, d, e, -, -, -⟩ := h3
  rw [e] at h2
  exact ⟨a, d, by rw [hcell k (by omega), e], h2⟩
set_option maxRecDepth 100000 in
set_option maxHeartbeats 8000000 in
theorem panruns_any (n st : Int) (v : Value) (ws : List Wa) (w : World) (hv : SlA w v ws) :
    Calls Try.prog 6 #[.agg #[.int .i64 n, v], .int .i64 st] w fun e w' => e = .returned (.bool true) ∧ Below w.heap.size w w' := by
  have HV := Lib.hid hv
  obtain ⟨ad, cap, rfl, -, -, -⟩ := hv
  go_enter Try.func6, Try.ntmps6
  refine wp_seq_k (fun K hK => ?_)
  have HK := Lib.hid hK; clear hK
  go_wp2
  refine HK.out _ _ ?_; clear HK K
  generalize hw1 : World.alloc _ _ = w1
  obtain ⟨b5, B, hs1⟩ := blk1 hw1
  clear hw1
  replace HV := Lib.hid (HV.out.below B (Nat.le_refl _))
  have c51 := cell_blk (i := 1) b5
  simp only [List.getElem?_toArray, List.getElem?_cons_zero, List.getElem?_cons_succ] at c51
  by_cases hbig : (ws.length : Int) > 80
  · go_wp2_with (go_at_call 16; refine (works_any _).mono ?_; rintro e w9 ⟨rfl, hb9⟩)
    go_ret
    exact ⟨rfl, btr B hb9 (Nat.le_refl _)⟩
  · by_cases hst : st > 20
    · by_cases hst2 : st ≤ 200
      · go_wp2_with (go_at_call 16; refine (works_any _).mono ?_; rintro e w9 ⟨rfl, hb9⟩)
        go_ret
        exact ⟨rfl, btr B hb9 (Nat.le_refl _)⟩
      · refine wp_seq_k (fun K hK => ?_)
        have HK := Lib.hid hK; clear hK
        go_wp2
        refine HK.out _ _ ?_; clear HK K
        have hrr := runs_any n (.slice ad ws.length cap) ws st w1 HV.out
        have HRR := Lib.hid hrr
        clear hrr c51
        refine wp_seq_k (fun K hK => ?_)
        have HK := Lib.hid hK; clear hK
        go_wp2_with (first | (refine wpList_load_blk rfl 24 _ rfl _ rfl b5 Try.underlying24 rfl size24 rfl ?_) | (go_at_call 33; refine HRR.out.mono ?_; rintro e w6 ⟨⟨vl, rows, rfl, hrows, herr, hok⟩, hb⟩; obtain ⟨al, cl, hvl⟩ := slPP_form hrows; subst hvl))
        refine HK.out _ _ ?_; clear HK K
        replace b5 := blk_keep b5 hb
        have HV := Lib.hid (HV.out.below hb (Nat.le_refl _))
        replace B := btr B hb (Nat.le_refl _)
        have HROW := Lib.hid hrows
        have HOK := Lib.hid (And.intro herr hok)
        clear hb hrows herr hok HRR
        obtain ⟨E0, hE0⟩ : ∃ E0, E0 = runsE n ws st := ⟨_, rfl⟩
        rw [← hE0]
        have HE0 := Lib.hid hE0
        clear hE0
        by_cases hE : E0 = 0
        · obtain ⟨m, N, R, rfl, rfl, hvm, hns, h200, hreq, hrw, hp⟩ := HOK.out.2 (by rw [← HE0.out]; exact hE)
          subst hE
          subst hrw
          have HQ := Lib.hid (And.intro hvm (And.intro hns (And.intro hreq hp)))
          clear hvm hns hreq hp
          refine wp_seq_k (fun K hK => ?_)
          have HK := Lib.hid hK; clear hK
          go_wp2_with (first | (refine wpList_load_blk rfl 24 _ rfl _ rfl b5 Try.underlying24 rfl size24 rfl ?_) | (go_at_call 17; refine (given_any _ _ ws _ HV.out (by omega)).mono ?_; rintro e w7 ⟨⟨v7, rfl, hv7⟩, hb⟩) | (go_at_call 34; refine (rruns_ok m N _ ws R _ hv7 HQ.out.1 HQ.out.2.1 h200 HQ.out.2.2.1 HQ.out.2.2.2).mono ?_; rintro e w8 ⟨⟨ov, rfl, hov⟩, hb8⟩; have hov0 := hov; obtain ⟨ao, co, rfl⟩ := slPP_form hov))
          refine HK.out _ _ ?_; clear HK K
          have HR1 := Lib.hid ((HROW.out.below hb (Nat.le_refl _)).below hb8 (Nat.le_refl _))
          have HR2 := Lib.hid hov0
          replace B := btr (btr B hb (Nat.le_refl _)) hb8 (Nat.le_refl _)
          clear hb hb8 hov hov0 HROW hv7
          refine wp_seq_k (fun K hK => ?_)
          have HK := Lib.hid hK; clear hK
          go_wp2
          refine HK.out _ _ ?_; clear HK K
          refine wp_seq_k (fun K hK => ?_)
          have HK := Lib.hid hK; clear hK
          go_wp2
          go_loopw [9] (fun i wr => ∃ k : Nat, k ≤ N ∧ i = .int .i64 k ∧ Below w8.heap.size w8 wr) (fun i _ => N - (intOf i).toNat)
          case atStart => exact ⟨0, Nat.zero_le _, rfl, Below.refl _ _⟩
          case round =>
            obtain ⟨k, hk, rfl, hBk⟩ := hrel
            by_cases hkN : k < N
            · have hki : (k : Int) < (N : Int) := by omega
              obtain ⟨b1, o1, e1, l1, f1⟩ := slPP_get HR1.out (by simp; omega)
              obtain ⟨b2, o2, e2, l2, f2⟩ := slPP_get HR2.out (by simp; omega)
              subst e1 e2
              obtain ⟨a1, d1, g1, p1⟩ := f1 k (by simpa using hkN)
              obtain ⟨a2, d2, g2, p2⟩ := f2 k (by simpa using hkN)
              simp only [List.getElem_map, List.getElem_range, List.length_map, List.length_range] at g1 g2 p1 p2
              have A1 := ab_cell2 ((hBk.cell (p := ⟨b1, o1 + k, none⟩) l1).trans g1)
              have A2 := ab_cell2 ((hBk.cell (p := ⟨b2, o2 + k, none⟩) l2).trans g2)
              have p1w := p1.below hBk (Nat.le_refl _)
              have p2w := p2.below hBk (Nat.le_refl _)
              have hsp := fun (X : Ab wr.heap.size wr) => spans_any _ _ _ _ X.val (p1w.below X.ok (Nat.le_refl _)) (p2w.below X.ok (Nat.le_refl _))
              simp only [decide_true] at hsp
              have HSP := Lib.hid hsp
              clear hsp p1 p2 p1w p2w f1 f2 g1 g2
              go_wp2
              refine wp_region_ab wr.heap.size wr (by kernel_rfl) (by kernel_rfl) (Below.refl _ _) ?_
              unfold AbC
              repeat go_big_quiet_step (first | (go_at_call 35; exact Calls.ab _ (Nat.le_refl _) (HSP.out _)))
              refine wpQuiet_nil ?_
              rintro W' ⟨X0, rfl⟩
              have hX := X0.ok
              go_wp2
              go_roundw
              case rel => exact ⟨k + 1, by omega, by go_num, hBk.trans (hX.mono hBk.size)⟩
              case measure => simp [intOf]; omega
            · have hki : ¬ ((k : Int) < (N : Int)) := by omega
              replace B := btr B hBk (Nat.le_refl _)
              go_wp2
              refine HK.out _ _ ?_; clear HK
              go_wp2_with (go_at_call 16; refine (works_any _).mono ?_; rintro e w9 ⟨rfl, hb9⟩)
              go_ret
              exact ⟨rfl, btr B hb9 (Nat.le_refl _)⟩
        · have hr0 : rows = [] := HOK.out.1 (by rw [← HE0.out]; exact hE)
          subst hr0
          refine wp_seq_k (fun K hK => ?_)
          have HK := Lib.hid hK; clear hK
          go_wp2_with (first | (refine wpList_load_blk rfl 24 _ rfl _ rfl b5 Try.underlying24 rfl size24 rfl ?_) | (go_at_call 17; refine (given_any _ _ ws _ HV.out (by omega)).mono ?_; rintro e w7 ⟨⟨v7, rfl, hv7⟩, hb⟩) | (go_at_call 34; refine (rruns_err n _ ws st _ hv7 (by rw [← HE0.out]; exact hE)).mono ?_; rintro e w8 ⟨rfl, hb8⟩; rw [← HE0.out]))
          refine HK.out _ _ ?_; clear HK K
          replace B := btr (btr B hb (Nat.le_refl _)) hb8 (Nat.le_refl _)
          clear hb hb8
          refine wp_seq_k (fun K hK => ?_)
          have HK := Lib.hid hK; clear hK
          go_wp2
          refine HK.out _ _ ?_; clear HK K
          refine wp_seq_k (fun K hK => ?_)
          have HK := Lib.hid hK; clear hK
          go_wp2
          go_loopw [9] (fun i wr => i = .int .i64 0 ∧ Below w8.heap.size w8 wr) (fun i _ => 0)
          case atStart => exact ⟨rfl, Below.refl _ _⟩
          case round =>
            obtain ⟨rfl, hBk⟩ := hrel
            replace B := btr B hBk (Nat.le_refl _)
            go_wp2
            refine HK.out _ _ ?_; clear HK
            go_wp2_with (go_at_call 16; refine (works_any _).mono ?_; rintro e w9 ⟨rfl, hb9⟩)
            go_ret
            exact ⟨rfl, btr B hb9 (Nat.le_refl _)⟩
    · refine wp_seq_k (fun K hK => ?_)
      have HK := Lib.hid hK; clear hK
      go_wp2
      refine HK.out _ _ ?_; clear HK K
      have hrr := runs_any n (.slice ad ws.length cap) ws st w1 HV.out
      have HRR := Lib.hid hrr
      clear hrr c51
      refine wp_seq_k (fun K hK => ?_)
      have HK := Lib.hid hK; clear hK
      go_wp2_with (first | (refine wpList_load_blk rfl 24 _ rfl _ rfl b5 Try.underlying24 rfl size24 rfl ?_) | (go_at_call 33; refine HRR.out.mono ?_; rintro e w6 ⟨⟨vl, rows, rfl, hrows, herr, hok⟩, hb⟩; obtain ⟨al, cl, hvl⟩ := slPP_form hrows; subst hvl))
      refine HK.out _ _ ?_; clear HK K
      replace b5 := blk_keep b5 hb
      have HV := Lib.hid (HV.out.below hb (Nat.le_refl _))
      replace B := btr B hb (Nat.le_refl _)
      have HROW := Lib.hid hrows
      have HOK := Lib.hid (And.intro herr hok)
      clear hb hrows herr hok HRR
      obtain ⟨E0, hE0⟩ : ∃ E0, E0 = runsE n ws st := ⟨_, rfl⟩
      rw [← hE0]
      have HE0 := Lib.hid hE0
      clear hE0
      by_cases hE : E0 = 0
      · obtain ⟨m, N, R, rfl, rfl, hvm, hns, h200, hreq, hrw, hp⟩ := HOK.out.2 (by rw [← HE0.out]; exact hE)
        subst hE
        subst hrw
        have HQ := Lib.hid (And.intro hvm (And.intro hns (And.intro hreq hp)))
        clear hvm hns hreq hp
        refine wp_seq_k (fun K hK => ?_)
        have HK := Lib.hid hK; clear hK
        go_wp2_with (first | (refine wpList_load_blk rfl 24 _ rfl _ rfl b5 Try.underlying24 rfl size24 rfl ?_) | (go_at_call 17; refine (given_any _ _ ws _ HV.out (by omega)).mono ?_; rintro e w7 ⟨⟨v7, rfl, hv7⟩, hb⟩) | (go_at_call 34; refine (rruns_ok m N _ ws R _ hv7 HQ.out.1 HQ.out.2.1 h200 HQ.out.2.2.1 HQ.out.2.2.2).mono ?_; rintro e w8 ⟨⟨ov, rfl, hov⟩, hb8⟩; have hov0 := hov; obtain ⟨ao, co, rfl⟩ := slPP_form hov))
        refine HK.out _ _ ?_; clear HK K
        have HR1 := Lib.hid ((HROW.out.below hb (Nat.le_refl _)).below hb8 (Nat.le_refl _))
        have HR2 := Lib.hid hov0
        replace B := btr (btr B hb (Nat.le_refl _)) hb8 (Nat.le_refl _)
        clear hb hb8 hov hov0 HROW hv7
        refine wp_seq_k (fun K hK => ?_)
        have HK := Lib.hid hK; clear hK
        go_wp2
        refine HK.out _ _ ?_; clear HK K
        refine wp_seq_k (fun K hK => ?_)
        have HK := Lib.hid hK; clear hK
        go_wp2
        go_loopw [9] (fun i wr => ∃ k : Nat, k ≤ N ∧ i = .int .i64 k ∧ Below w8.heap.size w8 wr) (fun i _ => N - (intOf i).toNat)
        case atStart => exact ⟨0, Nat.zero_le _, rfl, Below.refl _ _⟩
        case round =>
          obtain ⟨k, hk, rfl, hBk⟩ := hrel
          by_cases hkN : k < N
          · have hki : (k : Int) < (N : Int) := by omega
            obtain ⟨b1, o1, e1, l1, f1⟩ := slPP_get HR1.out (by simp; omega)
            obtain ⟨b2, o2, e2, l2, f2⟩ := slPP_get HR2.out (by simp; omega)
            subst e1 e2
            obtain ⟨a1, d1, g1, p1⟩ := f1 k (by simpa using hkN)
            obtain ⟨a2, d2, g2, p2⟩ := f2 k (by simpa using hkN)
            simp only [List.getElem_map, List.getElem_range, List.length_map, List.length_range] at g1 g2 p1 p2
            have A1 := ab_cell2 ((hBk.cell (p := ⟨b1, o1 + k, none⟩) l1).trans g1)
            have A2 := ab_cell2 ((hBk.cell (p := ⟨b2, o2 + k, none⟩) l2).trans g2)
            have p1w := p1.below hBk (Nat.le_refl _)
            have p2w := p2.below hBk (Nat.le_refl _)
            have hsp := fun (X : Ab wr.heap.size wr) => spans_any _ _ _ _ X.val (p1w.below X.ok (Nat.le_refl _)) (p2w.below X.ok (Nat.le_refl _))
            simp only [decide_true] at hsp
            have HSP := Lib.hid hsp
            clear hsp p1 p2 p1w p2w f1 f2 g1 g2
            go_wp2
            refine wp_region_ab wr.heap.size wr (by kernel_rfl) (by kernel_rfl) (Below.refl _ _) ?_
            unfold AbC
            repeat go_big_quiet_step (first | (go_at_call 35; exact Calls.ab _ (Nat.le_refl _) (HSP.out _)))
            refine wpQuiet_nil ?_
            rintro W' ⟨X0, rfl⟩
            have hX := X0.ok
            go_wp2
            go_roundw
            case rel => exact ⟨k + 1, by omega, by go_num, hBk.trans (hX.mono hBk.size)⟩
            case measure => simp [intOf]; omega
          · have hki : ¬ ((k : Int) < (N : Int)) := by omega
            replace B := btr B hBk (Nat.le_refl _)
            go_wp2
            refine HK.out _ _ ?_; clear HK
            go_wp2_with (go_at_call 16; refine (works_any _).mono ?_; rintro e w9 ⟨rfl, hb9⟩)
            go_ret
            exact ⟨rfl, btr B hb9 (Nat.le_refl _)⟩
      · have hr0 : rows = [] := HOK.out.1 (by rw [← HE0.out]; exact hE)
        subst hr0
        refine wp_seq_k (fun K hK => ?_)
        have HK := Lib.hid hK; clear hK
        go_wp2_with (first | (refine wpList_load_blk rfl 24 _ rfl _ rfl b5 Try.underlying24 rfl size24 rfl ?_) | (go_at_call 17; refine (given_any _ _ ws _ HV.out (by omega)).mono ?_; rintro e w7 ⟨⟨v7, rfl, hv7⟩, hb⟩) | (go_at_call 34; refine (rruns_err n _ ws st _ hv7 (by rw [← HE0.out]; exact hE)).mono ?_; rintro e w8 ⟨rfl, hb8⟩; rw [← HE0.out]))
        refine HK.out _ _ ?_; clear HK K
        replace B := btr (btr B hb (Nat.le_refl _)) hb8 (Nat.le_refl _)
        clear hb hb8
        refine wp_seq_k (fun K hK => ?_)
        have HK := Lib.hid hK; clear hK
        go_wp2
        refine HK.out _ _ ?_; clear HK K
        refine wp_seq_k (fun K hK => ?_)
        have HK := Lib.hid hK; clear hK
        go_wp2
        go_loopw [9] (fun i wr => i = .int .i64 0 ∧ Below w8.heap.size w8 wr) (fun i _ => 0)
        case atStart => exact ⟨rfl, Below.refl _ _⟩
        case round =>
          obtain ⟨rfl, hBk⟩ := hrel
          replace B := btr B hBk (Nat.le_refl _)
          go_wp2
          refine HK.out _ _ ?_; clear HK
          go_wp2_with (go_at_call 16; refine (works_any _).mono ?_; rintro e w9 ⟨rfl, hb9⟩)
          go_ret
          exact ⟨rfl, btr B hb9 (Nat.le_refl _)⟩
end Yteileadcmekkoaa
end Go.Proofs
