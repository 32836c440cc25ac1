/- Fields, outright: a crop by numbers: the field, and how sweet it is in truth. -/
import Derived.Test.YtgnjeefanbcbkaaD6
import Derived.Test.YtgnjeefanbcbkaaR2
import Derived.Test.YtgnjeefanbcbkaaC3
open Go Go.RowKit Go.YtgnjeefanbcbkaaIt
namespace Go.Proofs
namespace Ytgnjeefanbcbkaa
structure BoxP (p : Prop) : Prop where
  out : p
theorem cutme {p : Prop} (h : BoxP p) : p := h.out
theorem c33 {q : Int} (h : -4000000 ≤ q ∧ q < 4000000) : IntKind.i64.wrap q = q := by
  rw [IntWalk.i64_left]
  exact IntWalk.wrap64_in _ (by omega)
theorem d33 {s : Int} (h : 0 ≤ s) (n : Int) : s.tmod n = s % n := Int.tmod_eq_emod_of_nonneg h
theorem sl_ints {W : World} {base : Nat} {e : TypeId} {v : Value} {n : Nat} {T : Nat → Int} (h : W.ownsRow base e 1 v n (((List.range n).map T).map (.int .i64))) (hn : n ≤ 20) : SlI W v ((List.range n).map T) := slI_own h (by simp) (by simp; omega)
theorem sl_putO {W : World} {b bq oq n cq : Nat} {o : Obj} {xs : List Int} (h : SlI W (.slice (some ⟨bq, oq, none⟩) n cq) xs) (hne : bq ≠ b) : SlI (W.putObj b o) (.slice (some ⟨bq, oq, none⟩) n cq) xs := by
  obtain ⟨ad, cap, e, h1, h2, h3⟩ := h
  refine ⟨ad, cap, e, h1, h2, fun h0 => ?_⟩
  obtain ⟨b', off, ha, hlt, hc⟩ := h3 h0
  injection e with e1 e2 e3
  rw [ha] at e1
  injection e1 with e1
  injection e1 with e1 e4 e5
  subst e1 e4
  exact ⟨_, _, ha, by simpa using hlt, fun i hi => (World.cell?_of_block (w := W) (a := ⟨bq, oq + i, none⟩) (World.putObj_heap_other hne)).trans (hc i hi)⟩
theorem row_lower {W : World} {B B' : Nat} {e : TypeId} {sz : Nat} {v : Value} {n : Nat} {xs : List Value} (h : W.ownsRow B' e sz v n xs) (hB : B ≤ B') : W.ownsRow B e sz v n xs := by
  refine ⟨h.1, ?_⟩
  rcases h.2 with h | ⟨g, cap, cur, rfl, hg, hh, r1, r2, r3, r4⟩
  · exact .inl h
  · exact .inr ⟨g, cap, cur, rfl, Nat.le_trans hB hg, hh, r1, r2, r3, r4⟩
theorem push_T (T : Nat → Int) (k : Nat) : ((List.range (k + 1)).map T).map (Value.int .i64) = ((List.range k).map T).map (Value.int .i64) ++ [.int .i64 (T k)] := by simp [List.range_succ]
theorem info82 : (Try.prog.info? 82).map (fun i => (i.zero, i.size, i.bytes)) = some (some (.agg #[.int .i64 0, .int .i64 0, .int .i64 0]), 3, 24) := by kernel_rfl
set_option maxRecDepth 100000 in
set_option maxHeartbeats 8000000 in
theorem made_own (wk fs st ra rb : Int) (vf vs : Value) (falls : List Int) (sm : List B3) (w : World) (hwk : 0 ≤ wk ∧ wk < 256) (hfs : 0 ≤ fs ∧ fs < 256) (hst : 0 ≤ st ∧ st < 256) (hr0 : 0 ≤ ra ∧ ra < 256) (hr1 : 0 ≤ rb ∧ rb < 256) (hf : SlB w vf falls) (hs : SlT w vs sm) :
    Calls Try.prog 33 #[.agg #[.int .u8 wk, .int .u8 fs, .int .u8 st, vf, .int .u8 ra, .int .u8 rb, vs]] w fun e w' => ∃ n lo hi v ss p T, e = .returned (.tuple #[.agg #[.int .i64 (n : Nat), .int .i64 lo, .int .i64 hi, v], p]) ∧ SlS w' v ss ∧ SlI w' p ((List.range n).map T) ∧ Right n lo hi ss T ∧ ss.length ≤ 15 ∧ w'.ownsRow w.heap.size 82 3 v ss.length (ss.flatMap encS) ∧ Below w.heap.size w w' := by
  obtain ⟨n, hn⟩ : ∃ n : Nat, (n : Int) = 1 + wk % 12 := ⟨(1 + wk % 12).toNat, by omega⟩
  have hn1 : 1 ≤ n ∧ n ≤ 12 := by omega
  have HN := Lib.hid hn
  have hbd := hf.2
  obtain ⟨T, hTe⟩ : ∃ T, T = sweetC fs st falls := ⟨_, rfl⟩
  obtain ⟨S, hSe⟩ : ∃ S, S = stepC st falls := ⟨_, rfl⟩
  have HCO := Lib.hid (show Conc n T by rw [hTe]; exact sweetC_conc hbd n)
  have HT := Lib.hid (show ∀ k, k ≤ 11 → 1015 ≤ T k ∧ T k ≤ 18710 by rw [hTe]; exact fun k hk => sweetC_bd hfs hst hbd hk)
  have HST := Lib.hid (show ∀ k : Nat, k ≤ 11 → -1400 ≤ S k ∧ S k ≤ 510 by rw [hSe]; exact fun k hk => by have := stepC_bd hst hbd k; omega)
  have HT1 := Lib.hid (show ∀ k, T (k + 1) = T k + S k by rw [hTe, hSe]; exact fun _ => rfl)
  have HS1 := Lib.hid (show ∀ k, S (k + 1) = if k + 1 ≤ falls.length then S k - at0 falls k / 2 else S k by rw [hSe]; exact fun _ => rfl)
  have HT0 := Lib.hid (show T 0 = 8000 + 20 * fs by rw [hTe]; rfl)
  have HS0 := Lib.hid (show S 0 = 2 * st by rw [hSe]; rfl)
  have HBD := Lib.hid hbd
  have HF := Lib.hid hf.1
  have HS := Lib.hid hs
  obtain ⟨⟨af, cf, rfl, hmf, -⟩, -⟩ := hf
  obtain ⟨⟨sx, cx, rfl, hms, -⟩, -⟩ := hs
  obtain ⟨i3, hi3, hz1, hz2, hz3⟩ := info_parts info3
  have HI := Lib.hid (And.intro hi3 (And.intro hz1 (And.intro hz2 hz3)))
  clear hi3 hz1 hz2 hz3 hn hbd hTe hSe
  go_enter Try.func33, Try.ntmps33
  refine wp_seq_k (fun K hK => ?_)
  have HK := Lib.hid hK; clear hK
  go_wp2
  refine HK.out _ _ ?_; clear HK K
  generalize hw1 : World.alloc _ _ = w1
  obtain ⟨b1, b2, hB1, hs1⟩ := blk2 hw1
  clear hw1
  have c0 := cell_blk (i := 0) b1
  have c1 := cell_blk (i := 1) b1
  have c2 := cell_blk (i := 2) b1
  simp only [List.getElem?_toArray, List.getElem?_cons_zero, List.getElem?_cons_succ] at c0 c1 c2
  have k1 := c33 (q := wk) (by omega)
  have k2 := d33 hwk.1 12
  have k3 := c33 (q := 1 + wk % 12) (by omega)
  refine wp_seq_k (fun K hK => ?_)
  have HK := Lib.hid hK; clear hK
  go_wp2
  refine HK.out _ _ ?_; clear HK K
  try rw [k1]
  try rw [k2]
  try rw [k3]
  rw [← HN.out]
  clear k1 k2 k3
  have k1 := c33 (q := fs) (by omega)
  have k2 := c33 (q := 20 * fs) (by omega)
  have k3 := c33 (q := 8000 + 20 * fs) (by omega)
  refine wp_seq_k (fun K hK => ?_)
  have HK := Lib.hid hK; clear hK
  go_wp2
  refine HK.out _ _ ?_; clear HK K
  try rw [k1]
  try rw [k2]
  try rw [k3]
  rw [← HT0.out]
  clear k1 k2 k3
  have ro := World.ownsRow_lit (base := w1.heap.size) (e := 3) (size := 1) w1 #[.int .i64 (T 0)] 1 (Nat.le_refl _) (by decide) rfl
  generalize hw2 : World.alloc _ _ = w2 at *
  obtain ⟨-, hB2, hs2⟩ := blk1 hw2
  clear hw2
  replace b1 := blk_keep b1 hB2
  replace b2 := blk_keep b2 hB2
  have hB := hB1.trans (hB2.mono hB1.size)
  have hsz := hB2.size
  have lz := hB1.size
  have lw1 : w.heap.size + 2 ≤ w1.heap.size := by omega
  clear hB1 hB2 hs1 hs2
  generalize w1.heap.size = g5 at *
  clear c0 c1 c2
  have c0 := cell_blk (i := 0) b1
  have c1 := cell_blk (i := 1) b1
  have c2 := cell_blk (i := 2) b1
  simp only [List.getElem?_toArray, List.getElem?_cons_zero, List.getElem?_cons_succ] at c0 c1 c2
  have k1 := c33 (q := st) (by omega)
  have k2 := c33 (q := 2 * st) (by omega)
  refine wp_seq_k (fun K hK => ?_)
  have HK := Lib.hid hK; clear hK
  go_wp2
  refine HK.out _ _ ?_; clear HK K
  try rw [k1]
  try rw [k2]
  rw [← HS0.out]
  clear k1 k2 c0 c1 c2
  refine wp_seq_k (fun K hK => ?_)
  have HK := Lib.hid hK; clear hK
  go_wp2
  go_loopw [5, 6, 7] (fun q s i wr => ∃ k : Nat, k + 1 ≤ n ∧ s = .int .i64 (S k) ∧ i = .int .i64 ((k : Int) + 1) ∧ wr.heap[w.heap.size]? = some (.cells #[.int .u8 wk, .int .u8 fs, .int .u8 st, .slice af falls.length cf, .int .u8 ra, .int .u8 rb, .slice sx sm.length cx] 63 (0, 0)) ∧ wr.heap[w.heap.size + 1]? = some (.cells #[.int .i64 0, .int .i64 0, .int .i64 0, .slice none 0 0] 26 (0, 0)) ∧ wr.ownsRow g5 3 1 q (k + 1) (((List.range (k + 1)).map T).map (.int .i64)) ∧ Below w.heap.size w wr ∧ g5 ≤ wr.heap.size) (fun _ _ i _ => n - (intOf i).toNat)
  case atStart => exact ⟨0, by omega, rfl, rfl, b1, b2, ro, hB, hsz⟩
  case round =>
    clear b1 b2 ro hB hsz
    obtain ⟨k, hk, rfl, rfl, b1, b2, ro, hB, hsz⟩ := hrel
    have c3 := cell_blk (i := 3) b1
    simp only [List.getElem?_toArray, List.getElem?_cons_zero, List.getElem?_cons_succ] at c3
    by_cases hkn : k + 1 < n
    · have hki : (k : Int) + 1 < (n : Int) := by omega
      have hsl := sl_ints ro (by omega)
      obtain ⟨aq, cq, rfl⟩ := form_of ro
      obtain ⟨a', c', e', -, -, hcc⟩ := hsl
      simp only [List.length_map, List.length_range] at e' hcc
      injection e' with e1 _ e3
      subst e1 e3
      obtain ⟨bq, oq, rfl, hltq, hcell⟩ := hcc (by omega)
      have q1 := hcell k (by omega)
      rw [at0_lt (by simp)] at q1
      simp only [List.getElem_map, List.getElem_range] at q1
      clear hcell hcc
      have ht := HT.out k (by omega)
      have hs := HST.out k (by omega)
      have k1 : IntKind.i64.wrap ((k : Int) + 1 - 1) = (k : Int) := by rw [c33 (by omega)]; omega
      have k2 := c33 (q := T k + S k) (by omega)
      have hlt1 : (k : Int) < (k : Int) + 1 := by omega
      have k3 := c33 (q := (k : Int) + 1 + 1) (by omega)
      have hr7 : ∀ (W : World) (v : Value), W.ownsRow g5 3 1 v (k + 1 + 1) (((List.range (k + 1)).map T).map (.int .i64) ++ [.int .i64 (T k + S k)]) → W.ownsRow g5 3 1 v (k + 1 + 1) (((List.range (k + 1 + 1)).map T).map (.int .i64)) := fun W v h => by rw [push_T T (k + 1), HT1.out]; exact h
      have HR7 := Lib.hid hr7
      clear hr7
      by_cases hfl : k + 1 ≤ falls.length
      · have hfi : (k : Int) + 1 ≤ (falls.length : Int) := by omega
        have hfk : (k : Int) < (falls.length : Int) := by omega
        have hS1 : S (k + 1) = S k - at0 falls k / 2 := by rw [HS1.out, if_pos hfl]
        obtain ⟨af', cf', e', -, hcf⟩ := HF.out
        injection e' with e1 _ e3
        subst e1 e3
        obtain ⟨bf, of, rfl, hltf, hcellf⟩ := hcf (by omega)
        have f1 := hcellf k (by omega)
        have hb := HBD.out k (by omega)
        generalize at0 falls k = z at *
        have k4 := c33 (q := z) (by omega)
        have k5 := d33 hb.1 2
        have k6 := c33 (q := z / 2) (by omega)
        have k7 := c33 (q := S k - z / 2) (by omega)
        have HS1k := Lib.hid hS1
        clear hS1 hcellf hcf
        go_wp2_with (refine wpList_append_own _ rfl _ _ 41 rfl g5 3 i3 (.int .i64 0) 1 8 Try.underlying41 HI.out.1 HI.out.2.1 HI.out.2.2.1 HI.out.2.2.2 rfl (by decide) _ _ _ rfl (ro.alloc _) ⟨wr.heap.size, 0, none⟩ 1 1 [.int .i64 (T k + S k)] rfl rfl (cell_newL rfl) (by intro u hu; simp at hu; subst hu; rfl) (Nat.le_trans (by omega : k + 1 + 1 ≤ 200) (by decide)) (by omega) (by rw [World.size_alloc]; omega) ?_; intro v' w7 r1 r2 _; obtain ⟨hk7, hs7, ee1, ee2, ee3⟩ := append_same1 ro r2; have hB7 : Below w.heap.size w w7 := ⟨ee1.trans hB.os, ee2.trans hB.tape, ee3.trans hB.output, by omega, fun b hb => (hk7 b (by omega) (fun e => by have := (ro.lt _ e).1; omega)).trans (hB.block b hb)⟩; have d1 := (hk7 w.heap.size (lt_blk b1) (own_ne ro b1 (by decide))).trans b1; have d2 := (hk7 (w.heap.size + 1) (lt_blk b2) (own_ne ro b2 (by decide))).trans b2; have d3 := cell_blk (i := 3) d1; simp only [List.getElem?_toArray, List.getElem?_cons_zero, List.getElem?_cons_succ] at d3; have d4 := (hB7.cell (p := ⟨bf, of + k, none⟩) hltf).trans f1)
        have r3 := HR7.out _ _ r1
        clear r1 r2 hk7 ee1 ee2 ee3 d3 d4
        go_roundw
        case rel => exact ⟨k + 1, by omega, by rw [HS1k.out], by go_num, d1, d2, r3, hB7, by omega⟩
        case measure => simp [intOf]; omega
      · have hfi : ¬ (k : Int) + 1 ≤ (falls.length : Int) := by omega
        have hS1 : S (k + 1) = S k := by rw [HS1.out, if_neg hfl]
        have HS1k := Lib.hid hS1
        clear hS1
        go_wp2_with (refine wpList_append_own _ rfl _ _ 41 rfl g5 3 i3 (.int .i64 0) 1 8 Try.underlying41 HI.out.1 HI.out.2.1 HI.out.2.2.1 HI.out.2.2.2 rfl (by decide) _ _ _ rfl (ro.alloc _) ⟨wr.heap.size, 0, none⟩ 1 1 [.int .i64 (T k + S k)] rfl rfl (cell_newL rfl) (by intro u hu; simp at hu; subst hu; rfl) (Nat.le_trans (by omega : k + 1 + 1 ≤ 200) (by decide)) (by omega) (by rw [World.size_alloc]; omega) ?_; intro v' w7 r1 r2 _; obtain ⟨hk7, hs7, ee1, ee2, ee3⟩ := append_same1 ro r2; have hB7 : Below w.heap.size w w7 := ⟨ee1.trans hB.os, ee2.trans hB.tape, ee3.trans hB.output, by omega, fun b hb => (hk7 b (by omega) (fun e => by have := (ro.lt _ e).1; omega)).trans (hB.block b hb)⟩; have d1 := (hk7 w.heap.size (lt_blk b1) (own_ne ro b1 (by decide))).trans b1; have d2 := (hk7 (w.heap.size + 1) (lt_blk b2) (own_ne ro b2 (by decide))).trans b2; have d3 := cell_blk (i := 3) d1; simp only [List.getElem?_toArray, List.getElem?_cons_zero, List.getElem?_cons_succ] at d3)
        have r3 := HR7.out _ _ r1
        clear r1 r2 hk7 ee1 ee2 ee3 d3
        go_roundw
        case rel => exact ⟨k + 1, by omega, by rw [HS1k.out], by go_num, d1, d2, r3, hB7, by omega⟩
        case measure => simp [intOf]; omega
    · have hkk : n = k + 1 := by omega
      have hki : ¬ (k : Int) + 1 < (n : Int) := by omega
      have hsl := sl_ints ro (by omega)
      rw [← hkk] at hsl ro
      obtain ⟨aq, cq, rfl⟩ := form_of ro
      obtain ⟨a', c', e', -, -, hcc⟩ := id hsl
      simp only [List.length_map, List.length_range] at e' hcc
      injection e' with e1 _ e3
      subst e1 e3
      obtain ⟨bq, oq, rfl, hltq, hcell⟩ := hcc (by omega)
      have hcq : ∀ i, i < n → wr.cell? ⟨bq, oq + i, none⟩ = some (.int .i64 (T i)) := fun i hi => by
        have := hcell i hi
        rw [at0_lt (by simpa using hi)] at this
        simpa only [List.getElem_map, List.getElem_range] using this
      have HCQ := Lib.hid hcq
      have HSL := Lib.hid hsl
      have HRO := Lib.hid ro
      have q0 : wr.cell? ⟨bq, oq, none⟩ = some (.int .i64 (T 0)) := hcq 0 (by omega)
      have hn0 : 0 < n := by omega
      have hn00 : (0 : Int) < (n : Int) := by omega
      have hq5 : g5 ≤ bq := (ro.lt bq rfl).1
      clear hcell hcc hcq hsl ro c3 hk
      clear hkk
      go_wp2
      refine HK.out _ _ ?_; clear HK
      refine wp_seq_k (fun K hK => ?_)
      have HK := Lib.hid hK; clear hK
      go_wp2
      go_quiet (fail)
      go_wp2
      refine HK.out _ _ ?_; clear HK
      refine wp_seq_k (fun K hK => ?_)
      have HK := Lib.hid hK; clear hK
      go_wp2
      replace b1 : (wr.drewN nq).heap[w.heap.size]? = _ := b1
      replace b2 : (wr.drewN nq).heap[w.heap.size + 1]? = _ := b2
      replace hB : Below w.heap.size w (wr.drewN nq) := below_drewN hB _
      replace hsz : g5 ≤ (wr.drewN nq).heap.size := hsz
      replace HCQ : Hid (∀ i, i < n → (wr.drewN nq).cell? ⟨bq, oq + i, none⟩ = some (.int .i64 (T i))) := HCQ
      replace HSL := Lib.hid (HSL.out.below (below_drewN (Below.refl _ _) nq) (Nat.le_refl _))
      replace hltq : bq < (wr.drewN nq).heap.size := hltq
      generalize wr.drewN nq = w3 at *
      clear q0 HRO
      go_loopw [8, 9, 69] (fun a c i wq => ∃ (j : Nat) (m M : Int), j ≤ n ∧ a = .int .i64 m ∧ c = .int .i64 M ∧ i = .int .i64 j ∧ Hid ((∀ i, i < j → m ≤ T i ∧ T i ≤ M) ∧ 1015 ≤ m ∧ m ≤ 18710 ∧ 1015 ≤ M ∧ M ≤ 18710) ∧ wq = w3) (fun _ _ i _ => n - (intOf i).toNat)
      case atStart => exact ⟨0, _, _, Nat.zero_le _, rfl, rfl, rfl, Lib.hid (show (∀ i, i < 0 → T 0 ≤ T i ∧ T i ≤ T 0) ∧ 1015 ≤ T 0 ∧ T 0 ≤ 18710 ∧ 1015 ≤ T 0 ∧ T 0 ≤ 18710 from ⟨fun i hi => by omega, by have := HT.out 0 (by omega); omega⟩), rfl⟩
      case round =>
        obtain ⟨j, m, M, hj, rfl, rfl, rfl, HM, rfl⟩ := hrel
        by_cases hjn : j < n
        · have hji : (j : Int) < (n : Int) := by omega
          have q0 := HCQ.out j hjn
          have htj := HT.out j (by omega)
          have HM2 : Hid ((∀ i, i < j + 1 → min m (T j) ≤ T i ∧ T i ≤ max M (T j)) ∧ 1015 ≤ min m (T j) ∧ min m (T j) ≤ 18710 ∧ 1015 ≤ max M (T j) ∧ max M (T j) ≤ 18710) := Lib.hid (by
            obtain ⟨h1, h2⟩ := HM.out
            refine ⟨fun i hi => ?_, by omega⟩
            rcases (show i < j ∨ i = j by omega) with h | rfl
            · have := h1 i h; omega
            · omega)
          go_wp2_with (first | (refine wpList_min rfl _ _ _ rfl rfl rfl ?_) | (refine wpList_max rfl _ _ _ rfl rfl rfl ?_))
          go_roundw
          case rel => exact ⟨j + 1, _, _, by omega, rfl, rfl, by go_num, HM2, trivial⟩
          case measure => simp [intOf]; omega
        · have hji : ¬ (j : Int) < (n : Int) := by omega
          have hjj : j = n := by omega
          replace HM : Hid ((∀ i, i < n → m ≤ T i ∧ T i ≤ M) ∧ 1015 ≤ m ∧ m ≤ 18710 ∧ 1015 ≤ M ∧ M ≤ 18710) := Lib.hid (by rw [hjj] at HM; exact HM.out)
          clear hjj
          go_wp2
          refine HK.out _ _ ?_; clear HK
          have c4 := cell_blk (i := 4) b1
          have c5 := cell_blk (i := 5) b1
          simp only [List.getElem?_toArray, List.getElem?_cons_zero, List.getElem?_cons_succ] at c4 c5
          have hm := HM.out.2
          have k1 := c33 (q := ra) (by omega)
          have k2 := c33 (q := 10 * ra) (by omega)
          have k3 := c33 (q := m - 10 * ra) (by omega)
          have k4 := c33 (q := rb) (by omega)
          have k5 := c33 (q := 10 * rb) (by omega)
          have k6 := c33 (q := M + 10 * rb) (by omega)
          refine wp_seq_k (fun K hK => ?_)
          have HK := Lib.hid hK; clear hK
          go_wp2_with (first | (refine wpList_max rfl _ _ _ rfl rfl rfl ?_) | (go_at_call 37; refine (span_any _ _ _).mono ?_; rintro e w4 ⟨rfl, hb4⟩; replace b1 := blk_keep b1 hb4; have c4 := cell_blk (i := 4) b1; have c5 := cell_blk (i := 5) b1; simp only [List.getElem?_toArray, List.getElem?_cons_zero, List.getElem?_cons_succ] at c4 c5))
          refine HK.out _ _ ?_; clear HK
          obtain ⟨lo, hlo⟩ : ∃ lo, lo = max 0 (m - 10 * ra) := ⟨_, rfl⟩
          obtain ⟨hi, hhi⟩ : ∃ hi, hi = M + 10 * rb := ⟨_, rfl⟩
          rw [← hlo, ← hhi]
          have hlb : 0 ≤ lo ∧ lo ≤ m ∧ M ≤ hi ∧ hi ≤ 21260 := by omega
          have HLB := Lib.hid hlb
          clear k1 k2 k3 k4 k5 k6 hlo hhi hlb hm c4 c5
          replace b2 := blk_keep b2 hb4
          replace hB := btr hB hb4 (Nat.le_refl _)
          replace HSL := Lib.hid (HSL.out.below hb4 (Nat.le_refl _))
          have HCQ4 : Hid (∀ i, i < n → w4.cell? ⟨bq, oq + i, none⟩ = some (.int .i64 (T i))) := Lib.hid (fun i hi => (hb4.cell (p := ⟨bq, oq + i, none⟩) hltq).trans (HCQ.out i hi))
          clear HCQ
          have hs4 := hb4.size
          replace hltq : bq < w4.heap.size := by omega
          have l4 : w.heap.size + 2 ≤ w4.heap.size := by omega
          clear hb4 hs4 hsz
          have b12 : (w4.alloc (.cells #[.int .i64 n, .int .i64 lo, .int .i64 hi, .slice none 0 0] 26)).heap[w4.heap.size]? = some (.cells #[.int .i64 n, .int .i64 lo, .int .i64 hi, .slice none 0 0] 26 (0, 0)) := heap_newI rfl
          have hb5 : Below w4.heap.size w4 (w4.alloc (.cells #[.int .i64 n, .int .i64 lo, .int .i64 hi, .slice none 0 0] 26)) := (Below.refl _ _).alloc (Nat.le_refl _) _
          have hs5 : (w4.alloc (.cells #[.int .i64 n, .int .i64 lo, .int .i64 hi, .slice none 0 0] 26)).heap.size = w4.heap.size + 1 := World.size_alloc ..
          generalize World.alloc _ _ = w5 at *
          obtain ⟨g, hg⟩ : ∃ g, g = w4.heap.size := ⟨_, rfl⟩
          rw [← hg] at hs5 b12 hb5 l4 hltq ⊢
          have HG := Lib.hid hg
          obtain ⟨N, hN⟩ : ∃ N : Nat, N = min 15 sm.length := ⟨_, rfl⟩
          have HNN := Lib.hid hN
          clear hN hg
          obtain ⟨i82, hi82, hz1, hz2, hz3⟩ := info_parts info82
          have HI2 := Lib.hid (And.intro hi82 (And.intro hz1 (And.intro hz2 hz3)))
          clear hi82 hz1 hz2 hz3
          refine wp_seq_k (fun K hK => ?_)
          have HK := Lib.hid hK; clear hK
          go_wp2
          go_loopw [13] (fun i wr => ∃ (k : Nat) (q : Value) (ss : List Smp), k ≤ N ∧ i = .int .i64 k ∧ Hid (ss.length = k ∧ ∀ s ∈ ss, (0 ≤ s.week ∧ s.week < n) ∧ (0 ≤ s.off ∧ s.off ≤ 255) ∧ T s.week.toNat - s.off ≤ s.val ∧ s.val ≤ T s.week.toNat + s.off) ∧ wr.heap[g]? = some (.cells #[.int .i64 n, .int .i64 lo, .int .i64 hi, q] 26 (0, 0)) ∧ wr.ownsRow (g + 1) 82 3 q k (ss.flatMap encS) ∧ Below g w4 wr ∧ g + 1 ≤ wr.heap.size) (fun i _ => N - (intOf i).toNat)
          case atStart => exact ⟨0, _, [], Nat.zero_le _, rfl, Lib.hid ⟨rfl, fun s hs => by simp at hs⟩, b12, World.ownsRow_nil _ _ _ _, hb5, by omega⟩
          case round =>
            clear b12 hb5 hs5
            obtain ⟨k, q, ss, hk, rfl, HSS, b12, ro, hb4, hsz⟩ := hrel
            have bb1 := blk_keep b1 (HG.out ▸ hb4)
            have bb2 := blk_keep b2 (HG.out ▸ hb4)
            have c6 := cell_blk (i := 6) bb1
            simp only [List.getElem?_toArray, List.getElem?_cons_zero, List.getElem?_cons_succ] at c6
            by_cases hkN : k < N
            · have hks : k < sm.length := by have := HNN.out; omega
              have hk15 : (k : Int) < 15 := by have := HNN.out; omega
              have hksi : (k : Int) < (sm.length : Int) := by omega
              obtain ⟨⟨sx', cx', e', -, hcs⟩, hok⟩ := HS.out
              injection e' with e1 _ e3
              subst e1 e3
              obtain ⟨bs, os, rfl, hlts, hcells⟩ := hcs (by omega)
              have hx := hok _ (List.getElem_mem hks)
              have q0 := hcells k hks 0 _ rfl
              have q1 := hcells k hks 1 _ rfl
              have q2 := hcells k hks 2 _ rfl
              have hBr : Below w.heap.size w wr := btr hB (HG.out ▸ hb4) (Nat.le_refl _)
              replace q0 := (hBr.cell (p := ⟨bs, os + k * 3, none⟩) hlts).trans q0
              replace q1 := (hBr.cell (p := ⟨bs, os + k * 3 + 1, none⟩) hlts).trans q1
              replace q2 := (hBr.cell (p := ⟨bs, os + k * 3 + 2, none⟩) hlts).trans q2
              generalize sm[k] = x at *
              obtain ⟨xa, xb, xc⟩ := x
              simp only at q0 q1 q2
              unfold B3.ok at hx
              simp only at hx
              clear hcells hcs hok
              go_wp2
              rename_i K0 hK0 _
              have HK0 := Lib.hid hK0; clear hK0
              clear q0 q1 q2 c6 hksi hk15 hlts
              have ro7 := row_below ro ((Below.refl _ wr).alloc (Nat.le_refl _) (.cells #[.int .u8 xa, .int .u8 xb, .int .u8 xc] 80))
              generalize hw7 : World.alloc _ _ = w7 at *
              obtain ⟨b14, hb7, hs7⟩ := blk1 hw7
              clear hw7
              replace b12 := blk_keep b12 hb7
              replace hb4 : Below g w4 w7 := hb4.trans (hb7.mono (by omega))
              replace hBr : Below w.heap.size w w7 := btr hBr hb7 (Nat.le_refl _)
              have hsz7 : g + 1 ≤ w7.heap.size := by omega
              have hg14 : g + 1 ≤ wr.heap.size := hsz
              clear hb7 hsz ro bb1 bb2
              generalize wr.heap.size = g14 at *
              have e0 := cell_blk (i := 0) b14
              have e1 := cell_blk (i := 1) b14
              simp only [List.getElem?_toArray, List.getElem?_cons_zero, List.getElem?_cons_succ] at e0 e1
              have hm0 : ¬ (n : Int) = 0 := by omega
              have hm0' : ¬ n = 0 := by omega
              have k1 := c33 (q := xa) (by omega)
              have k2 := d33 hx.1.1 (n : Int)
              have k3 := c33 (q := xb) (by omega)
              have HB7 := Lib.hid (And.intro hb4 (And.intro hBr (And.intro ro7 (And.intro b12 hm0))))
              have HXX := Lib.hid hx
              clear hb4 hBr ro7 b12 hm0
              refine wp_region_alloc (obj := .cells #[.int .i64 0, .int .i64 0, .int .i64 0] 82 (0, 0)) (p := .pointer (some ⟨w7.heap.size, 0, none⟩)) 9 10 (on := _) (ot := _) (by kernel_rfl) (by kernel_rfl) rfl rfl rfl rfl (by kernel_rfl) ?hal ?_
              case hal => kernel_rfl
              simp only [struckS, List.set_cons_succ, List.set_cons_zero]
              have f0 : ∀ x : Tw w7.drew (w7.alloc (.cells #[.int .i64 0, .int .i64 0, .int .i64 0] 82 (0, 0))).drew, x.val.cell? ⟨g14, 0, none⟩ = _ := fun x => (tw_cell x (by simp; omega)).trans e0
              have f1 : ∀ x : Tw w7.drew (w7.alloc (.cells #[.int .i64 0, .int .i64 0, .int .i64 0] 82 (0, 0))).drew, x.val.cell? ⟨g14, 1, none⟩ = _ := fun x => (tw_cell x (by simp; omega)).trans e1
              repeat go_big_quiet_step (fail)
              refine wpQuiet_nil ?_
              go_wp2
              refine HK0.out _ _ ?_; clear HK0 K0
              obtain ⟨wn, hwn⟩ : ∃ wn : Nat, (wn : Int) = xa % (n : Int) := ⟨(xa % (n : Int)).toNat, by have := Int.emod_nonneg xa (b := (n : Int)) (by omega); omega⟩
              have hwl : (wn : Int) < (n : Int) := by rw [hwn]; exact Int.emod_lt_of_pos _ (by omega)
              rw [← hwn]
              obtain ⟨hb4, hBr, ro7, b12, -⟩ := HB7.out
              clear HB7 f0 f1 e0 e1 k1 k2 k3 hwn
              have hb8 : Below w7.heap.size w7 (w7.alloc (.cells #[.int .i64 wn, .int .i64 0, .int .i64 xb] 82)).drew := ((Below.refl _ _).alloc (Nat.le_refl _) _).drew
              have b15 : (w7.alloc (.cells #[.int .i64 wn, .int .i64 0, .int .i64 xb] 82)).drew.heap[w7.heap.size]? = some (.cells #[.int .i64 wn, .int .i64 0, .int .i64 xb] 82 (0, 0)) := heap_newI rfl
              have hs8 : w7.heap.size + 1 ≤ (w7.alloc (.cells #[.int .i64 wn, .int .i64 0, .int .i64 xb] 82)).drew.heap.size := Nat.le_of_eq (World.size_alloc ..).symm
              generalize World.drew _ = w8 at *
              replace b12 := blk_keep b12 hb8
              replace b14 := blk_keep b14 hb8
              have ro8 := row_below ro7 hb8
              have hne15 : ∀ e, (q.ownBlock = some e → e < w7.heap.size) := fun e he => by have := (ro7.lt _ he).2; omega
              replace hb4 : Below g w4 w8 := hb4.trans (hb8.mono (by omega))
              replace hBr : Below w.heap.size w w8 := btr hBr hb8 (Nat.le_refl _)
              have hsz8 : g + 1 ≤ w8.heap.size := by omega
              have hg15 : g + 1 ≤ w7.heap.size := hsz7
              have hd145 : g14 < w7.heap.size := by omega
              clear hb8 ro7 hs7 hsz7
              generalize w7.heap.size = g15 at *
              have hqw := (hb4.cell (p := ⟨bq, oq + wn, none⟩) hltq).trans (HCQ4.out wn (by omega))
              have e0 := cell_blk (i := 0) b15
              have e1 := cell_blk (i := 2) b15
              have e2 := cell_blk (i := 2) b14
              have ef := free_blk (i := 1) b15
              simp only [List.getElem?_toArray, List.getElem?_cons_zero, List.getElem?_cons_succ] at e0 e1 e2
              have hTw := HT.out wn (by omega)
              have hxb := HXX.out.2.1
              have hxc := HXX.out.2.2
              have hz0 : ¬ 2 * xb + 1 = 0 := by omega
              have hmod : 0 ≤ xc % (2 * xb + 1) ∧ xc % (2 * xb + 1) < 2 * xb + 1 := ⟨Int.emod_nonneg _ hz0, Int.emod_lt_of_pos _ (by omega)⟩
              have k1 := c33 (q := T wn - xb) (by omega)
              have k2 := c33 (q := xc) (by omega)
              have k3 := c33 (q := 2 * xb) (by omega)
              have k4 := c33 (q := 2 * xb + 1) (by omega)
              have k5 := d33 hxc.1 (2 * xb + 1)
              have k6 := c33 (q := T wn - xb + xc % (2 * xb + 1)) (by omega)
              refine wp_seq_k (fun K hK => ?_)
              have HK2 := Lib.hid hK; clear hK
              refine wp_region_still_tail 19 (by kernel_rfl) (by kernel_rfl) ?_
              simp only [List.take_succ_cons, List.take_zero, List.drop_succ_cons, List.drop_zero]
              change wpStill _ _ (World.drew w8) _ _ _
              repeat (first | (refine wpStill_max rfl (.const (.int .i64 0)) (.tmp 139) _ rfl rfl rfl ?_) | still_step)
              refine wpStill_nil ?_
              change wpList _ _ _ _ _ (World.drew w8)
              replace ef : (World.drew w8).frozen? _ = _ := ef
              have e15 : (World.drew w8).cell? ⟨g15, 1, none⟩ = some (.int .i64 0) := (cell_blk (i := 1) b15).trans rfl
              clear e0 e1 e2 hqw k1 k2 k3 k4 k5 k6
              go_wp2
              refine HK2.out _ _ ?_; clear HK2 K
              clear e15 ef
              obtain ⟨val, hval⟩ : ∃ val, val = max 0 (T wn - xb + xc % (2 * xb + 1)) := ⟨_, rfl⟩
              rw [← hval]
              have HVL := Lib.hid (show T wn - xb ≤ val ∧ val ≤ T wn + xb by omega)
              clear hval hmod hz0
              have b15' : (w8.setCell ⟨g15, 1, none⟩ (.int .i64 val)).drew.heap[g15]? = some (.cells #[.int .i64 wn, .int .i64 val, .int .i64 xb] 82 (0, 0)) := (heap_set_blk (W := w8) b15).trans rfl
              have b12' : (w8.setCell ⟨g15, 1, none⟩ (.int .i64 val)).drew.heap[g]? = _ := (heap_set_other (W := w8) (v := .int .i64 val) (b' := g15) (i := 1) (show g ≠ g15 by omega)).trans b12
              have ro9 : (w8.setCell ⟨g15, 1, none⟩ (.int .i64 val)).drew.ownsRow _ _ _ _ _ _ := row_set_other (W := w8) (b := g15) (i := 1) (x := .int .i64 val) ro8 (fun e => by have := hne15 _ e; omega)
              have hb9 : Below g w4 (w8.setCell ⟨g15, 1, none⟩ (.int .i64 val)).drew := (hb4.setCell (p := ⟨g15, 1, none⟩) (by simp; omega) _).drew
              have hsz9 : w8.heap.size ≤ (w8.setCell ⟨g15, 1, none⟩ (.int .i64 val)).drew.heap.size := Nat.le_of_eq (World.size_setCell ..).symm
              generalize World.drew _ = w9 at *
              clear ro8 b15 b12 b14 hb4 hBr
              have hsz10 : g + 1 ≤ w9.heap.size := by omega
              obtain ⟨aq, cq', rfl⟩ := form_of ro9
              have e12 := cell_blk (i := 3) b12'
              simp only [List.getElem?_toArray, List.getElem?_cons_zero, List.getElem?_cons_succ] at e12
              have hkk := hkN
              have hN15 : N ≤ 15 := by have := HNN.out; omega
              go_wp2_with (first | (refine wpList_load_blk rfl 82 _ rfl _ rfl b15' Try.underlying82 rfl size82 rfl ?_) | (at_builtin; refine cutme ?_))
              refine ⟨?_⟩
              refine wpList_append_own _ rfl _ _ 24 rfl (g + 1) 82 i82 (.agg #[.int .i64 0, .int .i64 0, .int .i64 0]) 3 24 Try.underlying24 HI2.out.1 HI2.out.2.1 HI2.out.2.2.1 HI2.out.2.2.2 rfl (by decide) _ _ _ rfl (ro9.alloc _) ⟨w9.heap.size, 0, none⟩ 1 1 (encS ⟨wn, val, xb⟩) rfl rfl (cell_newL (xs := encS ⟨wn, val, xb⟩) rfl) (by intro u hu; simp [encS] at hu; rcases hu with rfl | rfl | rfl <;> rfl) (Nat.le_trans (by omega : k + 1 ≤ 200) (by decide)) (by omega) (by rw [World.size_alloc]; omega) ?_
              intro v' w10 r1 r2 _
              obtain ⟨hk10, hs10, ee1, ee2, ee3⟩ := append_same1 ro9 r2
              have d12 := (hk10 g (lt_blk b12') (own_ne ro9 b12' (by decide))).trans b12'
              have d13 := cell_blk (i := 3) d12
              have d14 := free_blk (i := 3) d12
              simp only [List.getElem?_toArray, List.getElem?_cons_zero, List.getElem?_cons_succ] at d13
              obtain ⟨a10, c10, rfl⟩ := form_of r1
              go_wp2
              have n12 : (w10.setCell ⟨g, 3, none⟩ (.slice a10 (k + 1) c10)).heap[g]? = some (.cells #[.int .i64 n, .int .i64 lo, .int .i64 hi, .slice a10 (k + 1) c10] 26 (0, 0)) := (heap_set_blk d12).trans rfl
              have nr := row_set_other (b := g) (i := 3) (x := (.slice a10 (k + 1) c10)) r1 (own_ne r1 d12 (by decide))
              have nB : Below g w4 (w10.setCell ⟨g, 3, none⟩ (.slice a10 (k + 1) c10)) := (show Below g w4 w10 from ⟨ee1.trans hb9.os, ee2.trans hb9.tape, ee3.trans hb9.output, by have := hb9.size; omega, fun b hb => (hk10 b (by omega) (fun e => by have := (ro9.lt _ e).1; omega)).trans (hb9.block b hb)⟩).setCell (p := ⟨g, 3, none⟩) (by simp) _
              have nW : g + 1 ≤ (w10.setCell ⟨g, 3, none⟩ (.slice a10 (k + 1) c10)).heap.size := by rw [World.size_setCell]; omega
              have hSS2 : (ss ++ [(⟨wn, val, xb⟩ : Smp)]).length = k + 1 ∧ ∀ s ∈ ss ++ [(⟨wn, val, xb⟩ : Smp)], (0 ≤ s.week ∧ s.week < n) ∧ (0 ≤ s.off ∧ s.off ≤ 255) ∧ T s.week.toNat - s.off ≤ s.val ∧ s.val ≤ T s.week.toNat + s.off := by
                refine ⟨by simp [HSS.out.1], fun s hs => ?_⟩
                rcases List.mem_append.1 hs with h | h
                · exact HSS.out.2 s h
                · have : s = ⟨wn, val, xb⟩ := by simpa using h
                  subst this
                  have := HVL.out
                  simp only [Int.toNat_natCast]
                  omega
              have HSS2 := Lib.hid hSS2
              have e8 : (ss ++ [(⟨wn, val, xb⟩ : Smp)]).flatMap encS = ss.flatMap encS ++ encS ⟨wn, val, xb⟩ := by simp
              rw [← e8] at nr
              clear r1 r2 hk10 d12 d13 d14 e8 hSS2 b12' e12 ro9 hb9 b15'
              generalize World.setCell _ _ _ = w11 at *
              go_roundw
              case rel => exact ⟨k + 1, _, _, by omega, by go_num, HSS2, n12, nr, nB, nW⟩
              case measure => simp [intOf]; omega
            · have hBr : Below w.heap.size w wr := btr hB (HG.out ▸ hb4) (Nat.le_refl _)
              have HSL4 := Lib.hid (HSL.out.below hb4 (Nat.le_of_eq HG.out.symm))
              have hR : Right n lo hi ss T := ⟨hn1.1, hn1.2, HCO.out, HLB.out.1, HLB.out.2.2.2, fun i hi' => by have := HM.out.1 i hi'; have := HLB.out; have := HT.out i (by omega); omega, by rw [HSS.out.1]; have := HNN.out; omega, HSS.out.2⟩
              have h15 : ss.length ≤ 15 := by rw [HSS.out.1]; have := HNN.out; omega
              have HR := Lib.hid (And.intro hR h15)
              have lb2 := lt_blk bb2
              obtain ⟨aq, cq', rfl⟩ := form_of ro
              clear hR h15
              by_cases hk15 : (k : Int) < (sm.length : Int)
              · have hks : ¬ (k : Int) < 15 := by have := HNN.out; omega
                go_wp2
                refine HK.out _ _ ?_; clear HK
                refine wp_seq_k (fun K hK => ?_)
                have HK := Lib.hid hK; clear hK
                go_wp2_with (first | (refine wpList_load_blk rfl 26 _ rfl _ rfl b12 Try.underlying26 rfl size26 rfl ?_) | (refine wpList_store_blk rfl 26 _ _ rfl _ rfl rfl bb2 size26 rfl rfl (by simp [Value.oneCell']) ?_))
                refine HK.out _ _ ?_; clear HK
                refine wp_ret ?_
                try simp +zetaDelta only [Exit.then, Exit.inBlock]
                exact bodyPost_ret (results_agg_tmp rfl _ _ (w.heap.size + 1) rfl (World.putObj_heap_same (lt_blk bb2)) Try.underlying26 rfl size26 rfl) rfl ⟨n, lo, hi, _, ss, _, T, rfl, slG_own encS_len (row_putO ro (by omega)) HSS.out.1.symm (by rw [HSS.out.1]; have := HNN.out; omega), sl_putO HSL4.out (by omega), HR.out.1, HR.out.2, (by rw [HSS.out.1]; exact row_lower (row_putO ro (by omega)) (by omega)), below_putObj hBr (by omega)⟩
              · skip
                go_wp2
                refine HK.out _ _ ?_; clear HK
                refine wp_seq_k (fun K hK => ?_)
                have HK := Lib.hid hK; clear hK
                go_wp2_with (first | (refine wpList_load_blk rfl 26 _ rfl _ rfl b12 Try.underlying26 rfl size26 rfl ?_) | (refine wpList_store_blk rfl 26 _ _ rfl _ rfl rfl bb2 size26 rfl rfl (by simp [Value.oneCell']) ?_))
                refine HK.out _ _ ?_; clear HK
                refine wp_ret ?_
                try simp +zetaDelta only [Exit.then, Exit.inBlock]
                exact bodyPost_ret (results_agg_tmp rfl _ _ (w.heap.size + 1) rfl (World.putObj_heap_same (lt_blk bb2)) Try.underlying26 rfl size26 rfl) rfl ⟨n, lo, hi, _, ss, _, T, rfl, slG_own encS_len (row_putO ro (by omega)) HSS.out.1.symm (by rw [HSS.out.1]; have := HNN.out; omega), sl_putO HSL4.out (by omega), HR.out.1, HR.out.2, (by rw [HSS.out.1]; exact row_lower (row_putO ro (by omega)) (by omega)), below_putObj hBr (by omega)⟩
theorem made_any (wk fs st ra rb : Int) (vf vs : Value) (falls : List Int) (sm : List B3) (w : World) (hwk : 0 ≤ wk ∧ wk < 256) (hfs : 0 ≤ fs ∧ fs < 256) (hst : 0 ≤ st ∧ st < 256) (hr0 : 0 ≤ ra ∧ ra < 256) (hr1 : 0 ≤ rb ∧ rb < 256) (hf : SlB w vf falls) (hs : SlT w vs sm) :
    Calls Try.prog 33 #[.agg #[.int .u8 wk, .int .u8 fs, .int .u8 st, vf, .int .u8 ra, .int .u8 rb, vs]] w fun e w' => ∃ n lo hi v ss p T, e = .returned (.tuple #[.agg #[.int .i64 (n : Nat), .int .i64 lo, .int .i64 hi, v], p]) ∧ SlS w' v ss ∧ SlI w' p ((List.range n).map T) ∧ Right n lo hi ss T ∧ ss.length ≤ 15 ∧ Below w.heap.size w w' := by
  refine (made_own wk fs st ra rb vf vs falls sm w hwk hfs hst hr0 hr1 hf hs).mono ?_
  rintro e w' ⟨n, lo, hi, v, ss, p, T, he, h1, h2, h3, h4, -, h5⟩
  exact ⟨n, lo, hi, v, ss, p, T, he, h1, h2, h3, h4, h5⟩
end Ytgnjeefanbcbkaa
end Go.Proofs
