/- The reference: Orders. -/
import Derived.Test.YtndmjginmomfiaaR4
open Go Go.RowKit Go.YtndmjginmomfiaaIt
namespace Go.Proofs
namespace Ytndmjginmomfiaa
/-- What Orders answers. -/
def OrdR (c : Int) (l : List Int) (e : Ending) (w' : World) : Prop :=
  (c ≠ 0 ∧ e = .returned (.tuple #[.slice none 0 0, .int .i64 c])) ∨ (c = 0 ∧ ∃ u, e = .returned (.tuple #[u, .int .i64 0]) ∧ SlI w' u l)
theorem ordE_ok {y : Yd} {s m d : Int} (h : ordE y s m d = 0) : (Ok y ∧ (0 ≤ s ∧ s ≤ y.room) ∧ (0 ≤ m ∧ m < y.ws.length)) ∧ 1 ≤ d ∧ d ≤ 1000 := by
  unfold ordE at h
  by_cases h1 : stE y s m = 0
  · rw [if_pos h1] at h
    refine ⟨stE_ok.1 h1, ?_⟩
    by_cases h2 : btw 1 d 1000 = true
    · exact btw_true.1 h2
    · rw [if_neg h2] at h; cases h
  · rw [if_neg h1] at h; exact absurd h h1
theorem worst_tab {y : Yd} (ok : Ok y) {d : Nat} (hd : d ≤ 10000) {s : Int} {m : Nat} {o : Int} : decide ((d : Int) ≤ worstP y (tabP y) s m o) = leadsB y (lay y d) s m o := by
  rw [Bool.eq_iff_iff, decide_eq_true_eq, worst_iff ok (tabP_tb y) (by omega) (by unfold never; omega), least_tab ok hd]
set_option maxRecDepth 100000 in
set_option maxHeartbeats 4000000 in
theorem rorders_any (y : Yd) (v : Value) (s m d : Int) (w : World) (hw : SlW w v y.ws) :
    Calls Try.prog 26 #[.agg (encY y v), .int .i64 s, .int .i64 m, .int .i64 d] w fun e w' => Below w.heap.size w w' ∧ OrdR (ordE y s m d) (ordK y (d - 1).toNat s.toNat m.toNat) e w' := by
  have hy4 : (encY y v).size = 4 := rfl
  have hcc := fun W hW => rdayed_any y v s m d W (hw.below (w' := W) hW (Nat.le_refl _))
  have hok := fun h => ordE_ok (y := y) (s := s) (m := m) (d := d) h
  generalize ordE y s m d = C at *
  obtain ⟨L, hL⟩ : ∃ L, L = ordK y (d - 1).toNat s.toNat m.toNat := ⟨_, rfl⟩
  rw [← hL]
  have HL := Lib.hid hL
  clear hL
  have HT := Lib.hid (fun W (ok : Ok y) (hW : Below w.heap.size w W) => rterms_any y v W ok (hw.below hW (Nat.le_refl _)))
  have HOK := Lib.hid hok
  have HCC := Lib.hid hcc
  have HWS := Lib.hid hw
  clear hok hcc hw
  go_enter Try.func26, Try.ntmps26
  refine wp_seq_k (fun K hK => ?_)
  have HK := Lib.hid hK; clear hK
  go_wp2
  refine HK.out _ _ ?_; clear HK K
  generalize hw1 : World.alloc _ _ = w1
  obtain ⟨b1, hB, hs1⟩ := blk1 hw1
  clear hw1
  have hcc := HCC.out w1 hB
  clear HCC
  by_cases h0 : C = 0
  rotate_left
  · have h0b : (C != 0) = true := bne_iff_ne.2 h0
    have HN := Lib.hid h0
    clear h0
    go_wp2_with (first | (refine wpList_load_blk rfl 31 _ rfl _ rfl b1 Try.underlying31 rfl size31 hy4 ?_) | (go_at_call 57; refine hcc.mono ?_; rintro e w2 ⟨rfl, hb2⟩))
    go_ret2
    exact ⟨hB.trans (hb2.mono (by omega)), .inl ⟨HN.out, rfl⟩⟩
  subst h0
  obtain ⟨⟨ok, hs, hm⟩, hd0, hd1⟩ := HOK.out rfl
  obtain ⟨sn, rfl⟩ := Int.eq_ofNat_of_zero_le hs.1
  obtain ⟨mn, rfl⟩ := Int.eq_ofNat_of_zero_le hm.1
  have hml : mn < y.ws.length := by omega
  have hs60 : (sn : Int) ≤ 60 := by have := ok.room1; omega
  have hte := HT.out
  refine wp_seq_k (fun K hK => ?_)
  have HK := Lib.hid hK; clear hK
  go_wp2_with (first | (refine wpList_load_blk rfl 31 _ rfl _ rfl b1 Try.underlying31 rfl size31 hy4 ?_) | (go_at_call 57; refine hcc.mono ?_; rintro e w2 ⟨rfl, hb2⟩))
  refine HK.out _ _ ?_; clear HK K
  replace b1 := blk_keep b1 hb2
  replace hB := hB.trans (hb2.mono (by omega))
  have ht := hte w2 ok hB
  clear hb2 hcc hs1 hte HT HOK
  go_wp2_with (refine wpList_load_blk rfl 31 _ rfl _ rfl b1 Try.underlying31 rfl size31 hy4 ?_)
  refine ht.mono ?_
  rintro e w3 ⟨u, rfl, hu, hb3⟩
  replace b1 := blk_keep b1 hb3
  replace hB := hB.trans (hb3.mono hB.size)
  clear hb3 ht
  obtain ⟨dn, hdn⟩ : ∃ dn : Nat, dn = (d - 1).toNat := ⟨_, rfl⟩
  have hwd : d - 1 = (dn : Int) := by omega
  have hd9 : dn ≤ 1000 := by omega
  have HWST := Lib.hid (fun (o : Int) (ho : 0 ≤ o ∧ o ≤ 80) W (hW : Below w3.heap.size w3 W) => worst_any y v u (tabP y) (sn : Int) mn o W ok (tabP_tb y) hml (by omega) ho (HWS.out.below (hB.trans (hW.mono hB.size)) (Nat.le_refl _)) (hu.below hW (Nat.le_refl _)))
  have HLD := Lib.hid (fun (o : Int) => worst_tab ok (d := dn) (by omega) (s := (sn : Int)) (m := mn) (o := o))
  have HOB := Lib.hid (fun k (hk : k ≤ ordC y) => ord_bound ok hk)
  have HOC := Lib.hid (fun k => ordC_le ok (k := k))
  have h41 := ordC_41 ok
  have hl0 := ok.lots0
  have hl1 := ok.lots1
  have hm1 := ok.most1
  have HKN := Lib.hid (fun k (h : k < (ordL y).length) => ordKN_succ (d := dn) (s := sn) (m := mn) h)
  have HKL := Lib.hid (fun k => ordKN_len y dn sn mn k)
  have HOL := Lib.hid (ordL_len y)
  have HOE := Lib.hid (show ordKN y dn sn mn (ordC y) = ordK y dn sn mn by unfold ordKN ordK; rw [← ordL_len, List.take_length])
  obtain ⟨i3, hi3, hz1, hz2, hz3⟩ := info_parts info3
  have HI := Lib.hid (And.intro hi3 (And.intro hz1 (And.intro hz2 hz3)))
  clear hi3 hz1 hz2 hz3
  have HLE := Lib.hid (show L = ordK y dn sn mn by rw [HL.out, hdn]; rfl)
  clear hdn HL
  go_wp2
  go_loopw [12, 13] (fun q i wr => ∃ k : Nat, k ≤ ordC y ∧ i = .int .i64 ((k : Int) * y.lots) ∧ wr.ownsRow w3.heap.size 3 1 q (ordKN y dn sn mn k).length ((ordKN y dn sn mn k).map (.int .i64)) ∧ Below w3.heap.size w3 wr) (fun _ i _ => 100 - (intOf i).toNat)
  case atStart => exact ⟨0, Nat.zero_le _, by simp, World.ownsRow_nil _ _ _ _, Below.refl _ _⟩
  case round =>
    obtain ⟨k, hk, rfl, hrow, hBk⟩ := hrel
    have hbk := HOB.out k hk
    have b1r := blk_keep b1 hBk
    have c1 := cell_blk (i := 1) b1r
    have c2 := cell_blk (i := 2) b1r
    simp only [encY, List.getElem?_toArray, List.getElem?_cons_zero, List.getElem?_cons_succ] at c1 c2
    obtain ⟨o, ho⟩ : ∃ o : Int, o = k * y.lots := ⟨_, rfl⟩
    rw [← ho] at hbk ⊢
    by_cases hkn : k < ordC y
    · have hle : o ≤ y.most := by rw [ho]; exact (HOC.out k).2 hkn
      have hkl : k < (ordL y).length := by rw [HOL.out]; exact hkn
      have hks := HKN.out k hkl
      have hov : (ordL y)[k] = o := by rw [ho]; simp [ordL]
      rw [hov] at hks
      have hnx : o + y.lots = ((k + 1 : Nat) : Int) * y.lots := by rw [ho]; push_cast; rw [Int.add_mul]; omega
      have hwo := HWST.out o hbk wr hBk
      have hld := HLD.out o
      have hkln := HKL.out k
      generalize worstP y (tabP y) (sn : Int) mn o = wo at *
      obtain ⟨ar, cr, rfl⟩ := form_of hrow
      cases hlb : leadsB y (lay y dn) (sn : Int) mn o
      · rw [hlb] at hks hld
        simp only [Bool.false_eq_true, if_false, List.append_nil] at hks
        have hnle : ¬ (dn : Int) ≤ wo := of_decide_eq_false hld
        have HN := Lib.hid (And.intro hnx hks)
        clear hnx hks ho hov hlb hld
        go_wp2_with (first | (refine wpList_load_blk rfl 31 _ rfl _ rfl b1r Try.underlying31 rfl size31 hy4 ?_) | (go_at_call 58; refine hwo.mono ?_; rintro e w5 ⟨rfl, hb5⟩; have b15 := blk_keep b1r hb5; have c2 := cell_blk (i := 2) b15; simp only [encY, List.getElem?_toArray, List.getElem?_cons_zero, List.getElem?_cons_succ] at c2))
        go_roundw
        case rel => exact ⟨k + 1, by omega, by rw [HN.out.1], by rw [HN.out.2]; exact row_below hrow hb5, hBk.trans (hb5.mono hBk.size)⟩
        case measure => simp [intOf]; omega
      · rw [hlb] at hks hld
        simp only [if_true] at hks
        have hnle : (dn : Int) ≤ wo := of_decide_eq_true hld
        have HN := Lib.hid (And.intro hnx hks)
        clear hnx hks ho hov hlb hld
        go_wp2_with (first
          | (refine wpList_load_blk rfl 31 _ rfl _ rfl b1r Try.underlying31 rfl size31 hy4 ?_)
          | (go_at_call 58; refine hwo.mono ?_; rintro e w5 ⟨rfl, hb5⟩; have b15 := blk_keep b1r hb5; have c2 := cell_blk (i := 2) b15; simp only [encY, List.getElem?_toArray, List.getElem?_cons_zero, List.getElem?_cons_succ] at c2; have hrow5 := row_below hrow hb5; have hs5 := hb5.size; have hss := hBk.size; have hlt5 := lt_blk b15; have b1x := b15)
          | (at_builtin; (refine wpList_append_own _ rfl _ _ 28 rfl w3.heap.size 3 i3 (.int .i64 0) 1 8 Try.underlying28 HI.out.1 HI.out.2.1 HI.out.2.2.1 HI.out.2.2.2 rfl (by decide) _ _ _ rfl (hrow5.alloc _) ⟨w5.heap.size, 0, none⟩ 1 1 [.int .i64 o] rfl rfl (cell_new1 rfl) (by simp [Value.oneCell']) (Nat.le_trans (by omega : (ordKN y dn sn mn k).length + 1 ≤ 200) (by decide)) (by omega) (by rw [World.size_alloc]; omega) ?_; intro v' w6 r1 r2 _; have hbn : Below w3.heap.size w3 w6 := grown_below1 r2 hrow5 (Nat.le_refl _) (by omega) (hBk.trans (hb5.mono hss)); have b16 := blk_keep b1 hbn; have c2 := cell_blk (i := 2) b16; simp only [encY, List.getElem?_toArray, List.getElem?_cons_zero, List.getElem?_cons_succ] at c2)))
        go_roundw
        case rel => exact ⟨k + 1, by omega, by rw [HN.out.1], by rw [HN.out.2, List.map_append, List.length_append]; exact r1, hbn⟩
        case measure => simp [intOf]; omega
    · have hgt : ¬ o ≤ y.most := by rw [ho]; exact fun h => hkn ((HOC.out k).1 h)
      have hke : k = ordC y := by omega
      have hkln := HKL.out k
      rw [hke, HOE.out, ← HLE.out] at hrow
      have hsl := slI_own hrow rfl (by rw [HLE.out, ← HOE.out, ← hke]; omega)
      have HSL := Lib.hid hsl
      clear hke ho hrow hsl
      go_wp2
      go_ret2
      exact ⟨hB.trans (hBk.mono hB.size), .inr ⟨rfl, _, rfl, HSL.out⟩⟩
end Ytndmjginmomfiaa
end Go.Proofs
