/- slices.Clone of a plan; the closure that recovers; plan; Plan. -/
import Derived.Test.YteijenefhoconaaSrch
import Derived.Lib.SliceRun
import Derived.RecoverIn
open Go Go.RowKit Go.YteijenefhoconaaIt
namespace Go.Proofs
namespace Yteijenefhoconaa
theorem addr_block (a : Addr) (j : Nat) : (a.add j).block = a.block := by unfold Addr.add; split <;> rfl
set_option maxRecDepth 100000 in
theorem clone_any (v : Value) (xs : List Int) (base : Nat) (w : World) (h : w.ownsRow base 3 1 v xs.length (xs.map (.int .i64))) (hl : xs.length ≤ 2000) :
    Calls Try.prog 77 #[v] w fun e w' => ∃ v', e = .returned v' ∧ SlI w' v' xs ∧ Below w.heap.size w w' := by
  rcases Joins.ownsRow_forms h with ⟨rfl, h0⟩ | ⟨g, cap, rfl⟩
  · have heq := fun (w : World) => Lib.run_eql_slice_nil (P := Try.prog) w 123 3 none 0 0 0 0 Try.underlying123
    simp only [Option.isNone_none] at heq
    have H0 := Lib.hid h0
    clear h0
    go_enter Try.func77, Try.ntmps77
    go_wp2
    go_ret
    exact ⟨_, rfl, ⟨none, 0, by rw [H0.out]; rfl, by omega, fun h1 => by have := H0.out; omega⟩, Below.refl _ _⟩
  · have heq := fun (w : World) => Lib.run_eql_slice_nil (P := Try.prog) w 123 3 (some ⟨g, 0, none⟩) xs.length cap 0 0 Try.underlying123
    simp only [Option.isNone_some] at heq
    have hce := h.cells rfl
    have HCE := Lib.hid hce
    clear hce
    have hlt := (h.lt g rfl).2
    go_enter Try.func77, Try.ntmps77
    obtain ⟨i3, hi3, hz1, hz2, hz3⟩ := info_parts info3
    have hcn : ∀ j u, (xs.map (Value.int .i64))[j]? = some u → (w.alloc (.cells #[] 3)).cell? ((⟨g, 0, none⟩ : Addr).add j) = some u := fun j u hj => (World.cell?_of_block (w := w) (heap_oldI (by rw [addr_block]; exact hlt))).trans (HCE.out j u hj)
    have HCN := Lib.hid hcn
    clear hcn
    go_wp2_with (at_builtin; refine wpList_append_own _ rfl (.tmp 5) (.tmp 6) 123 rfl w.heap.size 3 i3 (.int .i64 0) 1 8 Try.underlying123 hi3 hz1 hz2 hz3 rfl (by decide) _ _ _ rfl (World.ownsRow_made w #[] 0 (Nat.le_refl _) (by decide) rfl) ⟨g, 0, none⟩ xs.length cap (xs.map (.int .i64)) rfl (by simp) HCN.out (by simp [Value.oneCell']) (Nat.le_trans (by omega : 0 + xs.length ≤ 2000) (by decide)) (by omega) (by rw [World.size_alloc]; omega) ?_; intro v' w6 r1 r2 _)
    go_ret
    have hs : w.heap.size + 1 ≤ w6.heap.size := by have := r2.size; simpa using this
    refine ⟨v', rfl, slI_own (base := w.heap.size) (W := w6) (by simpa using r1) (by omega) (Nat.le_refl _) (fun _ _ _ => rfl), r2.os, r2.tape, r2.output, by omega, fun k hk => ?_⟩
    rw [r2.block k (by simp; omega) (fun h2 => by have h3 : some k = some w.heap.size := h2; injection h3; omega)]
    exact heap_oldI hk
end Yteijenefhoconaa
end Go.Proofs
/- The closure that recovers; plan; Plan. -/
open Go Go.RowKit Go.YteijenefhoconaaIt
namespace Go.Proofs
namespace Yteijenefhoconaa
theorem planF_le (L T : List Int) : ∀ (n : Nat) (A : List Int), (planF n L T A).length ≤ n
  | 0, _ => by simp [planF]
  | n + 1, A => by
    unfold planF
    split
    · simp
    · rename_i i _
      have := planF_le L T n (after L T A i)
      simp only [List.length_cons]
      omega
theorem planL_le (L T A : List Int) : (planL L T A).length ≤ left A T := planF_le L T _ A
theorem hta (v : Value) (w : World) : (Instr.typeAssert (.iface 123 v) 20 123 true).run Try.prog w = .ok (.tuple #[v, .bool true]) w := by
  unfold Instr.typeAssert
  simp [Sem.run_bind, run_underlying Try.underlying123, Result.andThen]
set_option maxRecDepth 100000 in
theorem catch_any (b4 : Nat) (v : Value) (xs : List Int) (base : Nat) (w : World) (h : w.ownsRow base 3 1 v xs.length (xs.map (.int .i64))) (hl : xs.length ≤ 2000)
    (h4 : w.heap[b4]? = some (.cells #[.slice none 0 0] 22 (0, 0))) :
    CallsDIn (fw none) 0 Try.prog 76 #[.pointer (some ⟨b4, 0, none⟩)] (.panicking [{ v := .iface 123 v, recovered := false }]) w fun e u' w' =>
      e = .returned (.tuple #[]) ∧ u' = .panicking [{ v := .iface 123 v, recovered := true }] ∧ ∃ v' wc, SlI wc v' xs ∧ Below w.heap.size w wc ∧ w' = wc.setCell ⟨b4, 0, none⟩ v' := by
  have hcl := clone_any v xs base w h hl
  have HCL := Lib.hid hcl
  clear hcl
  refine callsDIn_of_wpSIn Try.func76 rfl trivial fun c₀ cs hu => ?_
  simp only [Try.ntmps76, List.size_toArray, List.length_cons, List.length_nil, Nat.reduceAdd, Nat.reduceSub, Array.replicate_succ, Array.replicate_zero, List.push_toArray, List.append_toArray, List.nil_append, List.cons_append]
  apply wpSIn_seq
  apply wpSIn_region
  simp [wpOpsSIn, go_sem, recoverD, hu, Exit.thenS, hta]
  apply wpSIn_seq
  apply wpSIn_region
  simp [wpOpsSIn, go_sem, Exit.thenS]
  refine wpSIn_cond (t := true) rfl ?_
  simp only [if_true]
  refine wpSIn_of_wpIn rfl ?_
  have l4 := lt_blk h4
  gi_wp2_with (gi_at_call 77; refine callsTo HCL.out ?_; rintro e wc ⟨v', rfl, ⟨ad, cap, rfl, hs1, hs2⟩, hbc⟩; have g4 := blk_below h4 hbc l4; have c4 := cell_blk (i := 0) g4; have z4 := free_blk (i := 0) g4; simp at c4)
  exact ⟨rfl, _, rfl, _, results_none rfl _ _ _, rfl, rfl, _, wc, ⟨ad, cap, rfl, hs1, hs2⟩, hbc, rfl⟩
theorem leavesInM_fn {P : Program} {fn : Func} {tmps : Array Value} {R : Ending → World → Prop} {fv : Fn} {cap dargs : Array Value} {ds : List Deferred} {u : FrameMode} {w : World} {f : FuncId} {args : Array Value}
    (hu : u ≠ .run) (hi : (invoke (.fn fv cap) dargs).run P w = .ok (.enter f args) w)
    (h : CallsDIn (fw none) 0 P f args u w fun
      | .returned _, u', w' => LeavesInM (fw none) 0 P fn tmps R ds (settle u') w'
      | .panicked chain, u', w' => LeavesInM (fw none) 0 P fn tmps R ds (raised u' chain) w'
      | .outgrown, _, w' => R .outgrown w') : LeavesInM (fw none) 0 P fn tmps R ({ target := .fn fv cap, args := dargs } :: ds) u w :=
  ⟨hu, .inr ⟨fun h => by simp at h, fv, cap, f, args, rfl, hi, fun _ _ => trivial, h⟩⟩
set_option maxRecDepth 100000 in
set_option maxHeartbeats 4000000 in
theorem plan_any (bx bm : Nat) (vL vT : Value) (L T A : List Int) (w : World) (ok : Okt L T A) (hsafe : safeB L T A = true) (hT : Tk w bx bm vL vT L T) (hM : Memo w bm (GSafe L T)) (hl : left A T ≤ 900) :
    Calls Try.prog 54 #[.pointer (some ⟨bx, 0, none⟩), .agg (arr A)] w fun e w' => ∃ v, e = .returned v ∧ SlI w' v (planL L T A) ∧ Bm bm w.heap.size w w' := by
  have hmf : ∀ (fn : Fn) (first cap : Array Value) (w : World), (Instr.makeFunc fn first cap).run Try.prog w = .ok (.func fn first cap) w := fun _ _ _ _ => rfl
  have hA5 : (arr A).size = 5 := by rw [arr_size, ok.a5]
  refine calls_of_wpM Try.func54 rfl ?_
  simp only [Try.ntmps54, List.size_toArray, List.length_cons, List.length_nil, Nat.reduceAdd, Nat.reduceSub, Array.replicate_succ, Array.replicate_zero, List.push_toArray, List.append_toArray, List.nil_append, List.cons_append]
  iterate 4
    refine wpIn_seq_k (fun K hK => ?_)
    have HK := Lib.hid hK; clear hK
    gi_wp2
    refine HK.out _ _ ?_; clear HK K
  generalize hw1 : World.alloc _ _ = w1
  have b2 : w1.heap[w.heap.size]? = some (.cells #[.pointer (some ⟨bx, 0, none⟩)] 82 (0, 0)) := by rw [← hw1]; simp (disch := first | omega | (simp only [World.size_alloc]; done) | (simp only [World.size_alloc]; omega)) only [heap_newI, heap_oldI]
  have b3 : w1.heap[w.heap.size + 1]? = some (.cells (arr A) 84 (0, 0)) := by rw [← hw1]; simp (disch := first | omega | (simp only [World.size_alloc]; done) | (simp only [World.size_alloc]; omega)) only [heap_newI, heap_oldI]
  have b4 : w1.heap[w.heap.size + 1 + 1]? = some (.cells #[.slice none 0 0] 22 (0, 0)) := by rw [← hw1]; simp (disch := first | omega | (simp only [World.size_alloc]; done) | (simp only [World.size_alloc]; omega)) only [heap_newI, heap_oldI]
  have b5 : w1.heap[w.heap.size + 1 + 1 + 1]? = some (.cells #[.func (.func 78) #[] #[.pointer (some ⟨w.heap.size, 0, none⟩), .pointer (some ⟨w.heap.size + 1 + 1 + 1, 0, none⟩)]] 126 (0, 0)) := by rw [← hw1]; simp (disch := first | omega | (simp only [World.size_alloc]; done) | (simp only [World.size_alloc]; omega)) only [heap_newI]
  have hb1 : Below w.heap.size w w1 := by rw [← hw1]; go_grown
  have hs1 : w.heap.size + 4 = w1.heap.size := by rw [← hw1]; simp
  clear hw1
  have hlm := hM.lt
  have hT1 := hT.below hb1 (Nat.le_refl _)
  have hM1 := hM.below hb1 hlm
  have h78 := search_any bx bm w.heap.size (w.heap.size + 1 + 1 + 1) w1.heap.size vL vT L T w1 rfl hT1 hM1 A [] (.slice none 0 0) w1 ok hsafe (Bm.refl _ _ _) hM1 b2 b5 (World.ownsRow_nil _ _ _ _) (by omega) (by omega) (by omega) (Nat.le_refl _) (by simp; omega)
  simp only [List.nil_append] at h78
  have H78 := Lib.hid h78
  have c5 := cell_blk (i := 0) b5
  simp at c5
  have hs4 := Lib.hid hs1
  have hs1' : w.heap.size + 4 ≤ w1.heap.size := by omega
  clear h78 hs1
  gi_wp2_with (first | (refine wpListIn_load_blk rfl 84 _ rfl _ rfl b3 Try.underlying84 rfl size84 hA5 ?_) | (gi_at_call 78; refine callsTo H78.out ?_; rintro e w7 ⟨v, rfl, y1, y2, -⟩))
  have q4 := (y2.block (w.heap.size + 1 + 1) (by omega) (by omega)).trans b4
  have hpl : (planL L T A).length ≤ 2000 := Nat.le_trans (planL_le L T A) (by omega)
  show LeavesInM (fw none) 0 Try.prog Try.f54 _ _ [{ target := .fn (.func 76) #[.pointer (some ⟨w.heap.size + 1 + 1, 0, none⟩)], args := #[] }] (.panicking [{ v := .iface 123 v, recovered := false }]) w7
  have hinv : (invoke (.fn (.func 76) #[.pointer (some ⟨w.heap.size + 1 + 1, 0, none⟩)]) #[]).run Try.prog w7 = .ok (.enter 76 #[.pointer (some ⟨w.heap.size + 1 + 1, 0, none⟩)]) w7 := enters_of Try.func76 (by kernel_rfl) rfl _ _
  refine leavesInM_fn (by simp) hinv ?_
  refine (catch_any (w.heap.size + 1 + 1) v _ _ w7 y1 hpl q4).mono ?_
  rintro e u' w8 ⟨rfl, rfl, v', wc, hs, hbc, rfl⟩
  obtain ⟨ad, cap, rfl, hs1, hs2⟩ := hs
  have hs : SlI wc (.slice ad (planL L T A).length cap) (planL L T A) := ⟨ad, cap, rfl, hs1, hs2⟩
  have q5 := blk_below q4 hbc (lt_blk q4)
  have q6 : (wc.setCell ⟨w.heap.size + 1 + 1, 0, none⟩ (.slice ad (planL L T A).length cap)).heap[w.heap.size + 1 + 1]? = some (.cells #[.slice ad (planL L T A).length cap] 22 (0, 0)) := by rw [heap_set_blk q5]; rfl
  show ∃ x, (results Try.f54 _).run Try.prog _ = Result.ok x _ ∧ _
  refine ⟨_, results_one rfl _ _ (w.heap.size + 1 + 1) rfl (by rw [cell_blk q6]; rfl) Try.underlying22 rfl, _, rfl, ?_, ?_⟩
  · have ha : wc.heap.size ≤ (wc.setCell ⟨w.heap.size + 1 + 1, 0, none⟩ (.slice ad (planL L T A).length cap)).heap.size := by simp
    refine ⟨ad, cap, rfl, hs1, fun h0 => ?_⟩
    obtain ⟨b, off, rfl, hlt, hcell⟩ := hs2 h0
    have hne : b ≠ w.heap.size + 1 + 1 := by
      rintro rfl
      have h2 := hcell 0 h0
      rw [cell_blk q5] at h2
      rcases Nat.eq_zero_or_pos off with rfl | ho
      · simp at h2
      · rw [Array.getElem?_eq_none (by simp; omega)] at h2; cases h2
    exact ⟨b, off, rfl, by simpa using hlt, fun i hi => (World.cell?_of_block (w := wc) (heap_set_other hne)).trans (hcell i hi)⟩
  · have h1 : Bm bm w.heap.size w w7 := (Bm.of hb1).trans (y2.mono (by omega))
    exact h1.trans (Bm.of ((hbc.mono h1.size).setCell (by simp; omega) _))
end Yteijenefhoconaa
end Go.Proofs
/- Plan. -/
open Go Go.RowKit Go.YteijenefhoconaaIt
namespace Go.Proofs
namespace Yteijenefhoconaa
theorem sum_le {l : List Nat} {b : Nat} (h : ∀ x ∈ l, x ≤ b) : l.sum ≤ l.length * b := by
  induction l with
  | nil => simp
  | cons x l ih =>
    have h1 := h x (by simp)
    have h2 := ih (fun y hy => h y (by simp [hy]))
    simp only [List.sum_cons, List.length_cons, Nat.add_mul]
    omega
theorem left_le {L T A : List Int} (ok : Okt L T A) : left A T ≤ 40 := by
  unfold left
  have h := sum_le (l := (List.range T.length).map fun i => (at0 A i - at0 T i).natAbs) (b := 8) (fun x hx => by
    simp only [List.mem_map, List.mem_range] at hx
    obtain ⟨i, hi, rfl⟩ := hx
    have h1 := ok.at_ i hi
    have h2 := ok.to_ i hi
    have h3 := ok.l8
    omega)
  have := ok.t5
  simp only [List.length_map, List.length_range] at h
  omega
set_option maxRecDepth 100000 in
set_option maxHeartbeats 4000000 in
theorem planX_any (vL vt : Value) (L : List Int) (ts : List Tn) (w : World) (hL : SlI w vL L) (ht : SlT w vt ts) :
    Calls Try.prog 20 #[vL, vt] w fun e w' => Below w.heap.size w w' ∧
      ((lineE L ts ≠ 0 ∧ e = .returned (.tuple #[.slice none 0 0, .int .i64 (lineE L ts)])) ∨
       (lineE L ts = 0 ∧ safeB L (tos ts) (pos ts) = false ∧ e = .returned (.tuple #[.slice none 0 0, .int .i64 16])) ∨
       (lineE L ts = 0 ∧ safeB L (tos ts) (pos ts) = true ∧ ∃ v, e = .returned (.tuple #[v, .int .i64 0]) ∧ SlI w' v (planL L (tos ts) (pos ts)))) := by
  have h48 := track_any vL vt L ts w hL ht
  have H := Lib.hid h48
  clear h48
  have hP : (arr (pos ts)).size = 5 := by rw [arr_size]; exact posK_len _ _
  go_enter Try.func20, Try.ntmps20
  iterate 2
    refine wp_seq_k (fun K hK => ?_)
    have HK := Lib.hid hK; clear hK
    go_wp2_with (first | (refine wpList_store_blk rfl 84 _ _ rfl _ rfl rfl (heap_newI rfl) size84 (by first | exact (arr_size _).trans hA | exact hP) rfl (arr_one _) ?_) | (go_at_call 48; refine H.out.mono ?_; rintro e w2 ⟨hb2, hcs⟩; rcases hcs with ⟨hne, A, hA, rfl⟩ | ⟨he, bx, bm, vT, rfl, hT2, hM2, hbm⟩))
    all_goals refine HK.out _ _ ?_; clear HK K
  · have hneb : (lineE L ts != 0) = true := bne_iff_ne.2 hne
    go_wp2
    go_ret2
    exact ⟨below_putObj (hb2.alloc hb2.size _) hb2.size, .inl ⟨hne, rfl⟩⟩
  generalize hw3 : World.putObj _ _ _ = w3
  have b7 : w3.heap[w2.heap.size]? = some (.cells (arr (pos ts)) 84 (0, 0)) := by rw [← hw3]; exact World.putObj_heap_same (by rw [World.size_alloc]; omega)
  have hbf : Below w2.heap.size w2 w3 := by rw [← hw3]; exact below_putObj ((Below.refl _ _).alloc (Nat.le_refl _) _) (Nat.le_refl _)
  have hB3 : Below w.heap.size w w3 := hb2.trans (hbf.mono hb2.size)
  have hT3 : Tk w3 bx bm vL vT L (tos ts) := hT2.below hbf (Nat.le_refl _)
  have hM3 : Memo w3 bm (GSafe L (tos ts)) := hM2.below hbf hM2.lt
  have hs3 : w2.heap.size + 1 ≤ w3.heap.size := by rw [← hw3]; simp
  have hlm := hM2.lt
  have ok := okt_of he
  have he0 : (lineE L ts != 0) = false := by simp [he]
  clear hw3
  have h49 := safe_any bx bm vL vT L (tos ts) (pos ts) w3 ok hT3 hM3
  obtain ⟨sb, hsb⟩ : ∃ sb, sb = safeB L (tos ts) (pos ts) := ⟨_, rfl⟩
  rw [← hsb] at h49
  have HSB := Lib.hid hsb
  clear hsb
  have hl40 := left_le ok
  have hB4 : ∀ W, Bm bm w3.heap.size w3 W → Below w.heap.size w W := fun W h => hB3.trans ⟨h.os, h.tape, h.output, h.size, fun k hk => h.block k (Nat.lt_of_lt_of_le hk hB3.size) (by omega)⟩
  cases sb
  · go_wp2_with (first
      | (go_at_call 49; refine h49.mono ?_; rintro e w4 ⟨rfl, -, hb4⟩)
      | (refine wpList_load_blk rfl 84 _ rfl _ rfl b7 Try.underlying84 rfl size84 hP ?_))
    go_ret2
    exact ⟨hB4 _ hb4, .inr (.inl ⟨he, HSB.out.symm, rfl⟩)⟩
  · have hsf := Lib.hid HSB.out.symm
    go_wp2_with (first
      | (go_at_call 49; refine h49.mono ?_; rintro e w4 ⟨rfl, hM4, hb4⟩; have b7' := (hb4.block _ (lt_blk b7) (by omega)).trans b7; have h54 := plan_any bx bm vL vT L (tos ts) (pos ts) w4 ok hsf.out (hT3.bm hM3 hb4) hM4 (by omega))
      | (refine wpList_load_blk rfl 84 _ rfl _ rfl b7 Try.underlying84 rfl size84 hP ?_)
      | (refine wpList_load_blk rfl 84 _ rfl _ rfl b7' Try.underlying84 rfl size84 hP ?_)
      | (go_at_call 54; refine h54.mono ?_; rintro e w5 ⟨v, rfl, hv, hb5⟩))
    go_ret2
    exact ⟨hB4 _ (hb4.trans (hb5.mono hb4.size)), .inr (.inr ⟨he, hsf.out, v, rfl, hv⟩)⟩
end Yteijenefhoconaa
end Go.Proofs
