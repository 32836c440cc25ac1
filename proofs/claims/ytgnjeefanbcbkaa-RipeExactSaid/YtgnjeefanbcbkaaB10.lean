/- Fields: the weeks that are sweet enough. -/
import Derived.Test.YtgnjeefanbcbkaaB9
import Derived.Laws.EntriesVeiled
open Go Go.RowKit Go.YtgnjeefanbcbkaaIt
namespace Go.Proofs
namespace Ytgnjeefanbcbkaa
/-- Ripe's inner closure, of whatever bound. -/
theorem reach_any {p3 p2 f : Nat} {x : Nat} {y z : Fr} {b : Nat} {w : World} (hy : Big y) (hz : Big z) (ef : ∀ args w, (callFunc f args).run Try.prog w = .ok (.enter f args) w)
    (hf : ∀ W, Below w.heap.size w W → Calls Try.prog f #[.pointer (some ⟨b, 0, none⟩), .int .i64 (x : Int)] W fun e w' => e = .returned (enc y) ∧ Below W.heap.size W w')
    (h3 : w.heap[p3]? = some (.cells #[.func (.func f) #[.pointer (some ⟨b, 0, none⟩)] #[]] 94 (0, 0))) (h2 : w.heap[p2]? = some (.cells #[.int .i64 z.o, .int .i64 z.u] 93 (0, 0))) :
    Calls Try.prog 67 #[.int .i64 (x : Int), .pointer (some ⟨p3, 0, none⟩), .pointer (some ⟨p2, 0, none⟩)] w fun e w' => e = .returned (.bool (!y.lt z)) ∧ Below w.heap.size w w' := by
  have c3 := cell_blk (i := 0) h3
  simp only [List.getElem?_toArray, List.getElem?_cons_zero] at c3
  have l3 := lt_blk h3
  have hge := geB y z
  have h63 := fun (X : Ab w.heap.size w) => Calls.ab X (Nat.le_refl _) (compare_any y z X.val hy hz)
  have h41 := fun (X : Ab w.heap.size w) => Calls.ab X (Nat.le_refl _) (hf X.val X.ok)
  rw [← hge]
  have H41 := Lib.hid h41
  have H63 := Lib.hid h63
  have e3 := fun X : Ab w.heap.size w => (X.ok.cell (p := ⟨p3, 0, none⟩) l3).trans c3
  have B2 : ∀ W, AbC w.heap.size w W → W.heap[p2]? = _ := fun W ⟨X, hX⟩ => hX ▸ blk_keep h2 X.ok
  generalize cmpI y z = cc at *
  clear h41 h63 hge hy hz hf c3 h3
  go_enter Try.func67, Try.ntmps67
  refine wp_seq_k (fun K hK => ?_)
  have HK := Lib.hid hK; clear hK
  go_wp2
  refine HK.out _ _ ?_; clear HK K
  refine wp_seq_k (fun K hK => ?_)
  have HK := Lib.hid hK; clear hK
  refine wp_region_ab w.heap.size w (by kernel_rfl) (by kernel_rfl) (Below.refl _ _) ?_
  unfold AbC at *
  repeat (first | (refine wpQuiet_load_blk rfl 93 _ rfl _ rfl B2 Try.underlying93 rfl size93 rfl ?_; simp only [Act.put, List.setIfInBounds_toArray, List.set_cons_succ, List.set_cons_zero]) | go_big_quiet_step (first | (go_at_call 63; with_reducible exact H63.out _) | exact H41.out _))
  refine wpQuiet_nil ?_
  rintro W' ⟨X, rfl⟩
  refine HK.out _ _ ?_
  go_wp2
  go_ret
  exact ⟨rfl, X.ok⟩
def goalF (least : Int) : Int := min (max least (-1)) 30001
set_option maxRecDepth 100000 in
set_option maxHeartbeats 4000000 in
theorem reaches_any {p7 p8 n f b : Nat} {L H : Nat → Int} {val : Nat → Fr} {z : Fr} {w : World} (hn30 : n ≤ 30) (hval : ∀ x, x < n → Big (val x)) (hz : Big z) (hy : Yr w b n L H) (ef : ∀ args w, (callFunc f args).run Try.prog w = .ok (.enter f args) w)
    (hf : ∀ x, x < n → ∀ W, Below w.heap.size w W → Calls Try.prog f #[.pointer (some ⟨b, 0, none⟩), .int .i64 (x : Int)] W fun e w' => e = .returned (enc (val x)) ∧ Below W.heap.size W w')
    (h7 : w.heap[p7]? = some (.cells #[.pointer (some ⟨b, 0, none⟩)] 89 (0, 0))) (h8 : w.heap[p8]? = some (.cells #[.int .i64 z.o, .int .i64 z.u] 93 (0, 0))) :
    Calls Try.prog 66 #[.func (.func f) #[.pointer (some ⟨b, 0, none⟩)] #[], .pointer (some ⟨p7, 0, none⟩), .pointer (some ⟨p8, 0, none⟩)] w fun e w' => ∃ v, e = .returned v ∧ SlI w' v (chosenL (fun x => !(val x).lt z) n) ∧ Below w.heap.size w w' := by
  have hmf : ∀ (fn : Fn) (first cap : Array Value) (w : World), (Instr.makeFunc fn first cap).run Try.prog w = .ok (.func fn first cap) w := fun _ _ _ _ => rfl
  go_enter Try.func66, Try.ntmps66
  refine wp_seq_k (fun K hK => ?_)
  have HK := Lib.hid hK; clear hK
  go_wp2
  refine HK.out _ _ ?_; clear HK K
  generalize hw1 : World.alloc _ _ = w1
  obtain ⟨b3, hB, hs1⟩ := blk1 hw1
  clear hw1
  have c7 := cell_blk (i := 0) (blk_keep h7 hB)
  simp only [List.getElem?_toArray, List.getElem?_cons_zero] at c7
  have h61 := chosen_any 67 #[.pointer (some ⟨w.heap.size, 0, none⟩), .pointer (some ⟨p8, 0, none⟩)] (fun x => !(val x).lt z) hn30 (hy.keep hB) (enters_of Try.func67 (by kernel_rfl) rfl) (fun x hx W2 hW2 =>
    reach_any (p3 := w.heap.size) (p2 := p8) (f := f) (b := b) (hval x hx) hz ef (fun W3 hW3 => hf x hx W3 (btr (btr hB hW2 (Nat.le_refl _)) hW3 (Nat.le_refl _))) (blk_keep b3 hW2) (blk_keep (blk_keep h8 hB) hW2))
  have H61 := Lib.hid h61
  clear h61 h7 h8 hy hf hval b3
  go_wp2_with (go_at_call 61; refine H61.out.mono ?_; rintro e w5 ⟨v5, rfl, hsl, hb5⟩)
  go_ret
  exact ⟨_, rfl, hsl, btr hB hb5 (Nat.le_refl _)⟩
def surelyL (n lo hi : Int) (ss : List Smp) (least : Int) : List Int := if posE n lo hi ss = 0 then chosenL (fun x => !(lowerF (lowAt lo ss) n.toNat x).lt (whole (goalF least))) n.toNat else []
def perhapsL (n lo hi : Int) (ss : List Smp) (least : Int) : List Int := if posE n lo hi ss = 0 then chosenL (fun x => !(upperF (lowAt lo ss) (highAt hi ss) n.toNat x).lt (whole (goalF least))) n.toNat else []
theorem goal_big (least : Int) : Big (whole (goalF least)) := ⟨by show _ ≤ goalF least; unfold goalF; omega, by show goalF least ≤ _; unfold goalF; omega, whole_pos _, by show (1 : Int) ≤ _; decide⟩
set_option maxRecDepth 100000 in
set_option maxHeartbeats 8000000 in
theorem ripe_any (n lo hi : Int) (v : Value) (ss : List Smp) (least : Int) (w : World) (hv : SlS w v ss) :
    Calls Try.prog 26 #[.agg #[.int .i64 n, .int .i64 lo, .int .i64 hi, v], .int .i64 least] w fun e w' => ∃ p q, e = .returned (.tuple #[p, q, .int .i64 (posE n lo hi ss)]) ∧ SlI w' p (surelyL n lo hi ss least) ∧ SlI w' q (perhapsL n lo hi ss least) ∧ Below w.heap.size w w' := by
  have HV := Lib.hid hv
  obtain ⟨ad, cap, rfl, -, -, -⟩ := hv
  go_enter Try.func26, Try.ntmps26
  refine wp_seq_k (fun K hK => ?_)
  have HK := Lib.hid hK; clear hK
  go_wp2
  refine HK.out _ _ ?_; clear HK K
  generalize hw1 : World.alloc _ _ = w1
  obtain ⟨b1, hB, hs1⟩ := blk1 hw1
  clear hw1
  obtain ⟨E, hE⟩ : ∃ E, E = posE n lo hi ss := ⟨_, rfl⟩
  have HE := Lib.hid hE
  by_cases h0 : E = 0
  · have h40 := possible_ok (HV.out.below hB (Nat.le_refl _)) (hE.symm.trans h0)
    have H40 := Lib.hid h40
    subst h0
    clear h40 hE
    refine wp_seq_k (fun K hK => ?_)
    have HK := Lib.hid hK; clear hK
    go_wp2_with (first | (refine wpList_load_blk rfl 26 _ rfl _ rfl b1 Try.underlying26 rfl size26 rfl ?_) | (go_at_call 40; refine H40.out.mono ?_; rintro e w2 ⟨m, b, rfl, hnm, hV, -, hyr, hb2⟩))
    refine HK.out _ _ ?_; clear HK K H40
    replace hB := btr hB hb2 (Nat.le_refl _)
    subst hnm
    clear b1 hs1
    generalize hw3 : World.alloc _ _ = w3
    obtain ⟨b7, hB3, hs3⟩ := blk1 hw3
    clear hw3
    replace hyr := hyr.keep hB3
    have hBB := btr hB hB3 (Nat.le_refl _)
    generalize w2.heap.size = p7 at *
    have hn30 := hV.n30
    have HB := Lib.hid hV.bds
    have hs := (show surelyL m lo hi ss least = chosenL (fun x => !(lowerF (lowAt lo ss) m x).lt (whole (goalF least))) m by unfold surelyL; rw [if_pos HE.out.symm]; rfl)
    have hp := (show perhapsL m lo hi ss least = chosenL (fun x => !(upperF (lowAt lo ss) (highAt hi ss) m x).lt (whole (goalF least))) m by unfold perhapsL; rw [if_pos HE.out.symm]; rfl)
    have HS := Lib.hid hs
    have HP := Lib.hid hp
    have hmf : ∀ (fn : Fn) (first cap : Array Value) (w : World), (Instr.makeFunc fn first cap).run Try.prog w = .ok (.func fn first cap) w := fun _ _ _ _ => rfl
    clear hV hb2 hB hB3 hs3 hs hp
    have h59 := whole_any (goalF least) w3
    have H59 := Lib.hid h59
    clear h59
    have hgd : min (max least (-1)) 30001 = goalF least := rfl
    obtain ⟨G, hG⟩ : ∃ G, G = goalF least := ⟨_, rfl⟩
    rw [← hG] at hgd H59 HS HP
    have HGB : Hid (Big (whole G)) := Lib.hid (by rw [hG]; exact goal_big least)
    clear hG
    refine wp_seq_k (fun K hK => ?_)
    have HK := Lib.hid hK; clear hK
    go_wp2
    refine HK.out _ _ ?_; clear HK K
    refine wp_seq_k (fun K hK => ?_)
    have HK := Lib.hid hK; clear hK
    have HGD := Lib.hid hgd
    clear hgd
    go_wp2_with (first | (refine wpList_max rfl _ _ _ rfl rfl rfl ?_) | (refine wpList_min rfl _ _ _ rfl rfl rfl ?_; rw [HGD.out]) | (go_at_call 59; refine H59.out.mono ?_; rintro e w4 ⟨rfl, hb4⟩))
    refine HK.out _ _ ?_; clear HK K H59
    generalize hw5 : World.alloc _ _ = w5
    obtain ⟨b8, hB5, hs5⟩ := blk1 hw5
    clear hw5
    replace hB5 := btr hb4 hB5 (Nat.le_refl _)
    replace b7 := blk_keep b7 hB5
    replace hyr := hyr.keep hB5
    replace hBB := btr hBB hB5 (Nat.le_refl _)
    generalize w4.heap.size = p8 at *
    clear hb4 hB5 hs5
    refine wp_seq_k (fun K hK => ?_)
    have HK := Lib.hid hK; clear hK
    go_wp2
    refine HK.out _ _ ?_; clear HK K
    refine wp_seq_k (fun K hK => ?_)
    have HK := Lib.hid hK; clear hK
    have h66a := fun W (hW : Below w5.heap.size w5 W) => reaches_any (p7 := p7) (p8 := p8) (f := 41) (b := b) (val := fun x => lowerF (lowAt lo ss) m x) hn30 (fun x hx => toBig (lower_bd HB.out hx)) HGB.out (hyr.keep hW) (enters_of Try.func41 (by kernel_rfl) rfl) (fun x hx W2 hW2 => lower_any HB.out hx ((hyr.keep hW).keep hW2)) (blk_keep b7 hW) (blk_keep b8 hW)
    have h66b := fun W (hW : Below w5.heap.size w5 W) => reaches_any (p7 := p7) (p8 := p8) (f := 43) (b := b) (val := fun x => upperF (lowAt lo ss) (highAt hi ss) m x) hn30 (fun x hx => toBig (upper_bd HB.out hx)) HGB.out (hyr.keep hW) (enters_of Try.func43 (by kernel_rfl) rfl) (fun x hx W2 hW2 => upper_any HB.out hx ((hyr.keep hW).keep hW2)) (blk_keep b7 hW) (blk_keep b8 hW)
    have H66a := Lib.hid h66a
    have H66b := Lib.hid h66b
    clear h66a h66b
    have q7 := cell_blk (i := 0) b7
    simp only [List.getElem?_toArray, List.getElem?_cons_zero] at q7
    have ql := lt_blk b7
    have hS0 : Below w5.heap.size w5 w5.drew := (Below.refl _ _).drew
    refine wp_region_held (S := fun U => Below w5.heap.size w5 U) (by kernel_rfl) ?_
    change wpAnyH _ _ _ _ _ _ _ _ (World.drew w5)
    have hBwq := hS0
    generalize World.drew w5 = wq at *
    refine wpAnyH_take (i := 0) (oi := { dst := some 23, op := _, type := _, pos := _, after := _, guard := none }) (v := ?_) rfl (by kernel_rfl) (by kernel_rfl) (by kernel_rfl) (fun _ _ _ h => h) (Or.inl ⟨by rfl, ?_⟩) (by first | exact hS0 | assumption) ?_
    rotate_left
    · intro U hU
      go_simp
      all_goals with_reducible rfl
    simp only [Act.put, List.setIfInBounds_toArray, List.set_cons_zero, List.set_cons_succ]
    refine wpAnyH_take (i := 1) (oi := { dst := some 24, op := _, type := _, pos := _, after := _, guard := none }) (v := ?_) rfl (by kernel_rfl) (by kernel_rfl) (by kernel_rfl) (fun _ _ _ h => h) (Or.inl ⟨by rfl, ?_⟩) (by first | exact hS0 | assumption) ?_
    rotate_left
    · intro U hU
      have u7 := (hU.cell (p := ⟨p7, 0, none⟩) ql).trans q7
      go_simp
      all_goals with_reducible rfl
    simp only [Act.put, List.setIfInBounds_toArray, List.set_cons_zero, List.set_cons_succ]
    refine wpAnyH_take (i := 2) (oi := { dst := some 25, op := _, type := _, pos := _, after := _, guard := none }) (v := ?_) rfl (by kernel_rfl) (by kernel_rfl) (by kernel_rfl) (fun _ _ _ h => h) (Or.inl ⟨by rfl, ?_⟩) (by first | exact hS0 | assumption) ?_
    rotate_left
    · intro U hU
      go_simp
      all_goals with_reducible rfl
    simp only [Act.put, List.setIfInBounds_toArray, List.set_cons_zero, List.set_cons_succ]
    refine wpAnyH_take (i := 4) (oi := { dst := some 27, op := _, type := _, pos := _, after := _, guard := none }) (v := ?_) rfl (by kernel_rfl) (by kernel_rfl) (by kernel_rfl) (fun _ _ _ h => h) (Or.inl ⟨by rfl, ?_⟩) (by first | exact hS0 | assumption) ?_
    rotate_left
    · intro U hU
      go_simp
      all_goals with_reducible rfl
    simp only [Act.put, List.setIfInBounds_toArray, List.set_cons_zero, List.set_cons_succ]
    refine wpAnyH_take (i := 5) (oi := { dst := some 28, op := _, type := _, pos := _, after := _, guard := none }) (v := ?_) rfl (by kernel_rfl) (by kernel_rfl) (by kernel_rfl) (fun _ _ _ h => h) (Or.inl ⟨by rfl, ?_⟩) (by first | exact hS0 | assumption) ?_
    rotate_left
    · intro U hU
      have u7 := (hU.cell (p := ⟨p7, 0, none⟩) ql).trans q7
      go_simp
      all_goals with_reducible rfl
    simp only [Act.put, List.setIfInBounds_toArray, List.set_cons_zero, List.set_cons_succ]
    refine wpAnyH_take (i := 6) (oi := { dst := some 29, op := _, type := _, pos := _, after := _, guard := none }) (v := ?_) rfl (by kernel_rfl) (by kernel_rfl) (by kernel_rfl) (fun _ _ _ h => h) (Or.inl ⟨by rfl, ?_⟩) (by first | exact hS0 | assumption) ?_
    rotate_left
    · intro U hU
      go_simp
      all_goals with_reducible rfl
    simp only [Act.put, List.setIfInBounds_toArray, List.set_cons_zero, List.set_cons_succ]
    refine wpAnyH_one (i := 3) (o := { dst := some 26, op := _, type := _, pos := _, after := _, guard := none }) (by kernel_rfl) rfl (by rfl) (fun K1 hK1 => ?_)
    have HK1 := Lib.hid hK1; clear hK1
    refine oper_callg (c := .tmp 23) (f := 66) (lb := #[.pointer (some ⟨p7, 0, none⟩), .pointer (some ⟨p8, 0, none⟩)]) (xs := #[.tmp 25]) (ts := _) rfl rfl (enters_of Try.func66 (by kernel_rfl) rfl) rfl (R := fun v w' => SlI w' v _ ∧ Below wq.heap.size wq w') (H66a.out wq hBwq) ?_
    rintro v1 wz ⟨hs1, hb1⟩
    have hB1 := btr hBwq hb1 (Nat.le_refl _)
    refine HK1.out _ _ (hB1) ?_
    clear HK1 K1
    try simp only [Act.put, List.setIfInBounds_toArray, List.set_cons_zero, List.set_cons_succ]
    refine wpAnyH_one (i := 7) (o := { dst := some 30, op := _, type := _, pos := _, after := _, guard := none }) (by kernel_rfl) rfl (by rfl) (fun K1 hK1 => ?_)
    have HK1 := Lib.hid hK1; clear hK1
    refine oper_callg (c := .tmp 27) (f := 66) (lb := #[.pointer (some ⟨p7, 0, none⟩), .pointer (some ⟨p8, 0, none⟩)]) (xs := #[.tmp 29]) (ts := _) rfl rfl (enters_of Try.func66 (by kernel_rfl) rfl) rfl (R := fun v w' => SlI w' v _ ∧ Below wz.heap.size wz w') (H66b.out wz hB1) ?_
    rintro v2 wy ⟨hs2, hb2⟩
    have hB2 := btr hB1 hb2 (Nat.le_refl _)
    refine HK1.out _ _ (hB2) ?_
    clear HK1 K1
    try simp only [Act.put, List.setIfInBounds_toArray, List.set_cons_zero, List.set_cons_succ]
    refine wpAnyH_one (i := 8) (o := { dst := some 4, op := _, type := _, pos := _, after := _, guard := none }) (by kernel_rfl) rfl (by rfl) (fun K1 hK1 => ?_)
    have HK1 := Lib.hid hK1; clear hK1
    go_simp
    refine HK1.out _ _ (hB2) ?_
    clear HK1 K1
    try simp only [Act.put, List.setIfInBounds_toArray, List.set_cons_zero, List.set_cons_succ]
    refine wpAnyH_one (i := 9) (o := { dst := some 5, op := _, type := _, pos := _, after := _, guard := none }) (by kernel_rfl) rfl (by rfl) (fun K1 hK1 => ?_)
    have HK1 := Lib.hid hK1; clear hK1
    go_simp
    refine HK1.out _ _ (hB2) ?_
    clear HK1 K1
    try simp only [Act.put, List.setIfInBounds_toArray, List.set_cons_zero, List.set_cons_succ]
    refine wpAnyH_one (i := 10) (o := { dst := some 6, op := _, type := _, pos := _, after := _, guard := none }) (by kernel_rfl) rfl (by rfl) (fun K1 hK1 => ?_)
    have HK1 := Lib.hid hK1; clear hK1
    go_simp
    refine HK1.out _ _ (hB2) ?_
    clear HK1 K1
    try simp only [Act.put, List.setIfInBounds_toArray, List.set_cons_zero, List.set_cons_succ]
    refine wpAnyH_done (by kernel_rfl) ?_ _
    clear H66a H66b hyr b7 b8 HGB
    show K _ _
    refine HK.out _ _ ?_
    go_wp2
    go_ret3
    exact ⟨_, _, by rw [← HE.out]; rfl, by rw [HS.out]; exact hs1.below hb2 (Nat.le_refl _), by rw [HP.out]; exact hs2, btr hBB hB2 (Nat.le_refl _)⟩
  · have hne : (E != 0) = true := by simpa using h0
    have h40 := possible_err (HV.out.below hB (Nat.le_refl _)) (by rw [← hE]; exact h0)
    rw [← hE] at h40
    have H40 := Lib.hid h40
    have hs := (show surelyL n lo hi ss least = [] by unfold surelyL; rw [if_neg (by rw [← HE.out]; exact h0)])
    have hp := (show perhapsL n lo hi ss least = [] by unfold perhapsL; rw [if_neg (by rw [← HE.out]; exact h0)])
    have HS := Lib.hid hs
    have HP := Lib.hid hp
    clear h40 hE hs hp h0
    go_wp2_with (first | (refine wpList_load_blk rfl 26 _ rfl _ rfl b1 Try.underlying26 rfl size26 rfl ?_) | (go_at_call 40; refine H40.out.mono ?_; rintro e w2 ⟨rfl, hb2⟩; have hal := fun o => (Below.refl w2.heap.size w2).alloc (Nat.le_refl _) o))
    go_ret3
    exact ⟨_, _, by rw [HE.out]; rfl, by rw [HS.out]; exact slI_nil _, by rw [HP.out]; exact slI_nil _, btr (btr hB hb2 (Nat.le_refl _)) (hal _) (Nat.le_refl _)⟩
end Ytgnjeefanbcbkaa
end Go.Proofs
