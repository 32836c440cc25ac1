/- What can be kept, by trying all that can be ordered and all that can follow. -/
import Derived.Test.YtndmjginmomfiaaStp
import Derived.Test.YtndmjginmomfiaaOp6
import Derived.Test.YtndmjginmomfiaaLawK
open Go Go.RowKit Go.YtndmjginmomfiaaIt
namespace Go.Proofs
namespace Ytndmjginmomfiaa
/-- A look-up whose run is known yields the same in each such world. -/
theorem yields_lookup {P : Program} {S : World → Prop} {a : Act} {o : Oper} (t : TypeId) (m k : Operand) (ok : Bool) (ho : o.op = .lookup t m k ok) {mv kv v : Value} (hm : a.eval m = mv) (hk : a.eval k = kv)
    (hrun : ∀ W, S W → (Instr.lookup t mv kv ok).run P W = .ok v W) : ∀ w, S w → (execOp a.eval o).run P w = .ok (.value v) w := by
  intro W hW
  unfold execOp
  simp only [ho, hm, hk, Sem.run_bind, hrun W hW, Result.andThen_ok, Sem.run_pure]
theorem oper_mapUpdate_run {P : Program} {o : Oper} {a : Act} {w w' : World} {K : Act → World → Prop} {Q : Exit → Act → World → Prop} (t : TypeId) (m k v : Operand) (ho : o.op = .mapUpdate t m k v)
    {mv kv vv : Value} (hm : a.eval m = mv) (hk : a.eval k = kv) (hv : a.eval v = vv) (hrun : (Instr.mapUpdate t mv kv vv).run P w = .ok () w') (h : K (a.put o.dst undef) w') : Oper.wp P o a w K Q := by
  unfold Oper.wp execOp
  simp only [ho, hm, hk, hv, Sem.run_bind, hrun, Result.andThen_ok, Sem.run_pure]
  exact h
theorem key124 : WideMaps.ArrKey Try.prog 124 3 3 := ⟨Try.underlying124, by kernel_rfl, by kernel_rfl, by kernel_rfl⟩
theorem keyed124 : Maps.Keyed Try.prog 124 := Maps.Keyed.of_law key124.law
theorem tsizeY : ∃ m, Try.prog.types.size = m + 1 := ⟨Try.prog.types.size - 1, by decide +kernel⟩
theorem zero4 (w : World) : (zeroValue 4).run Try.prog w = .ok (.bool false) w := by kernel_rfl
theorem size124 : (Try.prog.info? 124).map (·.size) = some 3 := by kernel_rfl
def K3 (s m d : Int) : Array Value := #[.int .i64 s, .int .i64 m, .int .i64 d]
/-- An entry: what is known of a state and a number of days. -/
def GK (y : Yd) (k v : Value) : Prop := ∃ s m d : Nat, (s ≤ 1000 ∧ m ≤ 1000 ∧ d ≤ 100000) ∧ k = .agg (K3 s m d) ∧ v = .bool (keepB y d s m)
theorem k3key {s m d : Nat} (h : s ≤ 1000 ∧ m ≤ 1000 ∧ d ≤ 100000) : ∃ l, keyOf Try.prog 124 (.agg (K3 s m d)) = some l :=
  keyOf_ints key124 Try.underlying3 tsizeY (xs := [(s : Int), (m : Int), (d : Int)]) rfl (fun x hx => by
    simp only [List.mem_cons, List.not_mem_nil, or_false] at hx
    rcases hx with rfl | rfl | rfl <;> simp [Lit.wf, IntKind.min, IntKind.max, IntKind.signed, IntKind.bits] <;> omega)
theorem gkkey {y : Yd} {k v : Value} (h : GK y k v) : ∃ l, keyOf Try.prog 124 k = some l := by
  obtain ⟨s, m, d, hb, rfl, _⟩ := h
  exact k3key hb
theorem eval_gk {y : Yd} {s m d : Nat} {v : Value} (h : GK y (.agg (K3 s m d)) v) : v = .bool (keepB y d s m) := by
  obtain ⟨s', m', d', _, h1, h2⟩ := h
  simp [K3] at h1
  obtain ⟨e1, e2, e3⟩ := h1
  have e1 : s = s' := by omega
  have e2 : m = m' := by omega
  have e3 : d = d' := by omega
  subst e1 e2 e3
  exact h2
/-- The game: the yard, and what is known. -/
structure Gf (W : World) (y : Yd) (v : Value) (bg bm : Nat) : Prop where
  blk : W.heap[bg]? = some (.cells #[.int .i64 y.room, .int .i64 y.most, .int .i64 y.lots, v, .map (some bm)] 123 (0, 0))
  ws : SlW W v y.ws
  me : Memo W bm (GK y)
theorem Gf.ne {W : World} {y : Yd} {v : Value} {bg bm : Nat} (h : Gf W y v bg bm) : bg ≠ bm := by
  rintro rfl
  obtain ⟨es, clock, h1, _⟩ := h.me
  have := h.blk
  rw [h1] at this; cases this
theorem Gf.bm {W W' : World} {y : Yd} {v : Value} {bg bm : Nat} (h : Gf W y v bg bm) (hb : Bm bm W.heap.size W W') (hm : Memo W' bm (GK y)) : Gf W' y v bg bm :=
  ⟨(hb.block _ (lt_blk h.blk) h.ne).trans h.blk, SlG.memo (enc := encW) (sz := 4) (fun _ => rfl) (by decide) h.ws h.me hb, hm⟩
theorem Gf.below {W W' : World} {y : Yd} {v : Value} {bg bm : Nat} (h : Gf W y v bg bm) (hb : Below W.heap.size W W') : Gf W' y v bg bm := h.bm (Bm.of hb) (h.me.below hb h.me.lt)
theorem sls_memo {w : World} {v : Value} {X : List Stp} {m : Nat} {G : Value → Value → Prop} (hM : Memo w m G) (h : SlS w v X) (h0 : 0 < X.length) : ∃ b off cap, v = .slice (some ⟨b, off, none⟩) X.length cap ∧ X.length ≤ cap ∧ X.length ≤ 8796093022208 ∧ b < w.heap.size ∧ ∀ W, Bm m w.heap.size w W → ∀ i (h : i < X.length) f u, (encS X[i])[f]? = some u → W.cell? ⟨b, off + i * 4 + f, none⟩ = some u := by
  obtain ⟨es, clock, hmb, _⟩ := hM
  obtain ⟨ad, cap, hv, hmx, hp, hc⟩ := h
  obtain ⟨b, off, rfl, hlt, hcell⟩ := hc h0
  have hn : b ≠ m := by rintro rfl; have := hcell 0 h0 0 _ rfl; simp [World.cell?, hmb] at this
  exact ⟨b, off, cap, hv, hp, hmx, hlt, fun W hB i hi f u hu => (World.cell?_of_block (w := w) (hB.block b hlt hn)).trans (hcell i hi f u hu)⟩
/-- The contract of keeps for d days. -/
def Keeps (y : Yd) (v : Value) (bg bm d : Nat) : Prop := ∀ (W : World) (s m : Nat), Gf W y v bg bm → (s : Int) ≤ y.room → m < y.ws.length →
    Calls Try.prog 34 #[.pointer (some ⟨bg, 0, none⟩), .int .i64 s, .int .i64 m, .int .i64 d] W fun e w' => e = .returned (.bool (keepB y d s m)) ∧ Memo w' bm (GK y) ∧ Bm bm W.heap.size W w'
set_option maxRecDepth 100000 in
set_option maxHeartbeats 4000000 in
theorem order_step (y : Yd) (v : Value) (bg bm d : Nat) (ok : Ok y) (hd : d ≤ 5000) (hk : Keeps y v bg bm d) (w : World) (s m : Nat) (o : Int) (hg : Gf w y v bg bm) (hs : (s : Int) ≤ y.room) (hm : m < y.ws.length) (ho : 0 ≤ o ∧ o ≤ 40) :
    Calls Try.prog 35 #[.pointer (some ⟨bg, 0, none⟩), .int .i64 s, .int .i64 m, .int .i64 o, .int .i64 ((d : Int) + 1)] w fun e w' => e = .returned (.bool (leadsB y (lay y d) s m o)) ∧ Memo w' bm (GK y) ∧ Bm bm w.heap.size w w' := by
  have hr1 := ok.room1
  have HG := Lib.hid hg
  have HK0 := Lib.hid hk
  have HOK := Lib.hid ok
  have h37 := steps_any y v s m o w ok hg.ws hm (by omega) ho
  have c0 := cell_blk (i := 0) hg.blk
  have c1 := cell_blk (i := 1) hg.blk
  have c2 := cell_blk (i := 2) hg.blk
  have c3 := cell_blk (i := 3) hg.blk
  simp only [List.getElem?_toArray, List.getElem?_cons_zero, List.getElem?_cons_succ] at c0 c1 c2 c3
  obtain ⟨LB, hLB⟩ : ∃ LB, LB = leadsB y (lay y d) s m o := ⟨_, rfl⟩
  have hno : ∀ z ∈ stpL y s m o, intoB (lay y d) z = false → LB = false := fun z hz h => by
    rw [hLB, Bool.eq_false_iff]; intro h2
    have := (leads_stp ok).1 h2 z hz
    rw [h] at this; cases this
  have hyes : (∀ z ∈ stpL y s m o, intoB (lay y d) z = true) → LB = true := fun h => by rw [hLB]; exact (leads_stp ok).2 h
  rw [← hLB]
  have HLB := Lib.hid (And.intro hno hyes)
  have hX0 : 0 < (stpL y s m o).length := List.length_pos_iff.2 (stpL_ne ok hm)
  clear hno hyes hLB hg hk ok
  simp only [encY] at h37
  go_enter Try.func35, Try.ntmps35
  refine wp_seq_k (fun K hK => ?_)
  have HK := Lib.hid hK; clear hK
  go_wp2
  refine HK.out _ _ ?_; clear HK K
  go_wp2_with (go_at_call 37; refine h37.mono ?_; rintro e w2 ⟨u2, rfl, hu2, hb2⟩; obtain ⟨b5, off5, cap5, rfl, hp5, hm5, hlt5, hcell5⟩ := sls_memo (HG.out.below hb2).me hu2 hX0)
  have HC5 := Lib.hid hcell5
  have HG2 := Lib.hid (HG.out.below hb2)
  clear hcell5 hu2 h37 c0 c1 c2 c3
  obtain ⟨n5, hn5⟩ : ∃ n5, n5 = (stpL y s m o).length := ⟨_, rfl⟩
  rw [← hn5] at hm5 hp5 hX0 ⊢
  have HN5 := Lib.hid hn5
  clear hn5
  go_loopw [22] (fun i wr => ∃ k : Nat, i = .int .i64 k ∧ k ≤ n5 ∧ (∀ j z, j < k → (stpL y s m o)[j]? = some z → intoB (lay y d) z = true) ∧ Memo wr bm (GK y) ∧ Bm bm w2.heap.size w2 wr) (fun i _ => n5 - (intOf i).toNat)
  case atStart => exact ⟨0, rfl, Nat.zero_le _, fun j z h => by omega, HG2.out.me, Bm.refl _ _ _⟩
  case round =>
    obtain ⟨k, rfl, hkn, hall, hM, hB⟩ := hrel
    have HALL := Lib.hid hall
    clear hall
    have hBw : Bm bm w.heap.size w wr := (Bm.of hb2).trans (hB.mono hb2.size)
    by_cases hk5 : k < n5
    · have hil : k < (stpL y s m o).length := by rw [← HN5.out]; exact hk5
      obtain ⟨c0, c1, c2, c3⟩ := s_cells (HC5.out wr hB) hil rfl
      have hzm := List.getElem_mem hil
      have hze := List.getElem?_eq_getElem hil
      generalize (stpL y s m o)[k] = z at *
      have hlt6 := Nat.lt_of_lt_of_le hlt5 hB.size
      have hgr : Gf wr y v bg bm := HG2.out.bm hB hM
      have hin := into_lay HOK.out (d := d) hzm
      obtain ⟨⟨wz, hwz, hwlt⟩, hsz⟩ := stp_facts hzm
      rw [hwz] at c0
      cases hgz : z.g
      · have hF := HLB.out.1 z hzm (by rw [Bool.eq_false_iff]; intro h; have := (hin.1 h).1; rw [hgz] at this; cases this)
        rw [hgz] at c3
        have HF := Lib.hid hF
        clear hF hin hsz hzm hze hgz hgr
        go_wp2
        go_ret
        exact ⟨by rw [HF.out]; rfl, hM.below ((Below.refl _ _).alloc (Nat.le_refl _) _) hM.lt, hBw.trans (Bm.of ((Below.refl _ _).alloc hBw.size _))⟩
      · rw [hgz] at c3
        have hsz := hsz hgz
        obtain ⟨sz, hsz2⟩ : ∃ sz : Nat, z.s = sz := ⟨z.s.toNat, by omega⟩
        have hin2 : intoB (lay y d) z = keepB y d sz wz := by
          rw [Bool.eq_iff_iff, hin, hwz, hsz2, Int.toNat_natCast, Int.toNat_natCast]; simp [hgz]
        rw [hsz2] at c2 hsz
        generalize hwa : wr.alloc (.cells #[.int .i64 wz, .int .i64 z.c, .int .i64 sz, .bool true] 77) = wa
        have h34 := HK0.out wa sz wz (by rw [← hwa]; exact hgr.below ((Below.refl _ _).alloc (Nat.le_refl _) _)) hsz.2 hwlt
        subst hwa
        have hno := HLB.out.1 z hzm
        rw [hin2] at hno
        have HNO := Lib.hid hno
        have HIN := Lib.hid hin2
        clear hno hin hin2 hsz hwz hsz2 hgz hgr hzm
        generalize keepB y d sz wz = kb at *
        have HZE := Lib.hid hze
        clear hze
        cases kb
        · have HF := Lib.hid (HNO.out rfl)
          clear HNO
          go_wp2_with (go_at_call 34; refine h34.mono ?_; rintro e w6 ⟨rfl, hM6, hB6⟩)
          go_ret
          exact ⟨by rw [HF.out]; rfl, hM6, hBw.trans ((Bm.of ((Below.refl _ _).alloc hBw.size _)).trans (hB6.mono (by rw [World.size_alloc]; have := hBw.size; omega)))⟩
        · go_wp2_with (go_at_call 34; refine h34.mono ?_; rintro e w6 ⟨rfl, hM6, hB6⟩)
          go_roundw
          case rel => exact ⟨k + 1, by go_num, by omega, fun j x hj hx => by
            rcases (show j < k ∨ j = k by omega) with h | rfl
            · exact HALL.out j x h hx
            · rw [HZE.out] at hx; cases hx; exact HIN.out, hM6, hB.trans ((Bm.of ((Below.refl _ _).alloc hB.size _)).trans (hB6.mono (by rw [World.size_alloc]; have := hB.size; omega)))⟩
          case measure => simp [intOf]; omega
    · have hT := HLB.out.2 (fun z hz => by
        obtain ⟨j, hj, he⟩ := List.getElem_of_mem hz
        refine HALL.out j z ?_ (by rw [List.getElem?_eq_getElem hj, he])
        rw [← HN5.out] at hj; omega)
      have HF := Lib.hid hT
      clear hT
      go_wp2
      go_ret
      exact ⟨by rw [HF.out]; rfl, hM, hBw⟩
theorem ordL_get {y : Yd} {k : Nat} (h : k < (ordL y).length) : (ordL y)[k] = (k : Int) * y.lots := by simp [ordL]
def anyO (y : Yd) (d s m k : Nat) : Bool := ((ordL y).take k).any (leadsB y (lay y d) s m)
theorem anyO_succ {y : Yd} {d s m k : Nat} (h : k < ordC y) : anyO y d s m (k + 1) = (anyO y d s m k || leadsB y (lay y d) s m ((k : Int) * y.lots)) := by
  have hl : k < (ordL y).length := by rw [ordL_len]; exact h
  unfold anyO
  rw [List.take_succ_eq_append_getElem hl, List.any_append, ordL_get hl]
  simp
theorem anyO_all {y : Yd} {d s m : Nat} : anyO y d s m (ordC y) = stB y (lay y d) m s := by
  unfold anyO stB
  rw [← ordL_len, List.take_length]
theorem anyO_true {y : Yd} {d s m k : Nat} (h : anyO y d s m k = true) : stB y (lay y d) m s = true := by
  unfold anyO at h
  obtain ⟨o, ho, hl⟩ := List.any_eq_true.1 h
  exact List.any_eq_true.2 ⟨o, List.mem_of_mem_take ho, hl⟩
set_option maxRecDepth 100000 in
set_option maxHeartbeats 4000000 in
theorem keeps_any (y : Yd) (v : Value) (bg bm : Nat) (ok : Ok y) : ∀ d : Nat, d ≤ 5000 → Keeps y v bg bm d
  | 0, _ => by
    intro w s m hG hs hm
    have hk0 : keepB y 0 s m = true := by rw [keep0 ok]; simp [hm]; omega
    have HK0 := Lib.hid hk0
    clear hk0
    go_enter Try.func34, Try.ntmps34
    go_wp2
    go_ret
    exact ⟨by rw [HK0.out]; rfl, hG.me, Bm.refl _ _ _⟩
  | d + 1, hd => by
    have ih := keeps_any y v bg bm ok d (by omega)
    intro w s m hG hs hm
    have hr1 := ok.room1
    have hn1 := ok.n1
    have hl0 := ok.lots0
    have hl1 := ok.lots1
    have hm0 := ok.most0
    have hm1 := ok.most1
    have hks := keep_succ ok d s m
    have hs2 : s ≤ y.room.toNat := by omega
    rw [decide_eq_true hm, decide_eq_true hs2, Bool.true_and, Bool.true_and] at hks
    have hord := fun (W : World) (o : Int) (hg : Gf W y v bg bm) (ho : 0 ≤ o ∧ o ≤ 40) => order_step y v bg bm d ok (by omega) ih W s m o hg hs hm ho
    have HORD := Lib.hid hord
    have HOC := Lib.hid (fun k => ordC_le ok (k := k))
    have HG := Lib.hid hG
    clear ih hord
    have hkl : ∃ l, keyOf Try.prog 124 (.agg (K3 s m (d + 1))) = some l := k3key (s := s) (m := m) (d := d + 1) (by omega)
    have hev := fun u (h : GK y (.agg (K3 s m (d + 1))) u) => eval_gk (s := s) (m := m) (d := d + 1) h
    have hgk : GK y (.agg (K3 s m (d + 1))) (.bool (keepB y (d + 1) s m)) := ⟨s, m, d + 1, by omega, rfl, rfl⟩
    have HD := Lib.hid (show (d : Int) + 1 ≤ 5001 by omega)
    obtain ⟨kl, hkl⟩ := hkl
    have hlt := hG.me.lt
    have hne := hG.ne
    have hltg := lt_blk hG.blk
    clear hG
    have hdd : (((d + 1 : Nat) : Int)) = (d : Int) + 1 := rfl
    rw [hdd]
    clear hdd
    generalize keepB y (d + 1) s m = KB at *
    have HKS := Lib.hid hks
    have HGK := Lib.hid hgk
    have HEV := Lib.hid hev
    clear hks hgk hev
    go_enter Try.func34, Try.ntmps34
    have hd1 : ¬ ((d : Int) + 1 = 0) := by omega
    have hd2 : ((d : Int) + 1 == 0) = false := by simp; omega
    go_wp2
    generalize hw1 : World.alloc _ _ = w1
    obtain ⟨b1, hB1, hs1⟩ := blk1 hw1
    clear hw1
    have hG1 := HG.out.below hB1
    rename_i K hK
    have HK := Lib.hid hK; clear hK
    have hb1 : w1.heap[w.heap.size]? = some (.cells (K3 s m (d + 1)) 124 (0, 0)) := b1
    clear b1
    have hS : w1.heap[bg]? = some (.cells #[.int .i64 y.room, .int .i64 y.most, .int .i64 y.lots, v, .map (some bm)] 123 (0, 0)) ∧ w1.heap[w.heap.size]? = some (.cells (K3 s m (d + 1)) 124 (0, 0)) ∧ w1.heap[bm]? = w1.heap[bm]? := ⟨hG1.blk, hb1, rfl⟩
    have hlk0 : (∀ W, W.heap[bm]? = w1.heap[bm]? → (Instr.lookup 121 (.map (some bm)) (.agg (K3 s m (d + 1))) true).run Try.prog W = .ok (.tuple #[.bool false, .bool false]) W) ∨
        (∀ W, W.heap[bm]? = w1.heap[bm]? → (Instr.lookup 121 (.map (some bm)) (.agg (K3 s m (d + 1))) true).run Try.prog W = .ok (.tuple #[.bool KB, .bool true]) W) := by
      rcases hG1.me.look keyed124 Try.underlying121 zero4 (fun _ _ => gkkey) hkl with h | h
      · exact .inl h
      · refine .inr fun W hW => ?_
        obtain ⟨u, hu, hr⟩ := h W hW
        rw [HEV.out u hu] at hr; exact hr
    rcases hlk0 with hlk | hlk
    · have HLK := Lib.hid hlk
      clear hlk
      refine wp_region_held (S := fun U => U.heap[bg]? = some (.cells #[.int .i64 y.room, .int .i64 y.most, .int .i64 y.lots, v, .map (some bm)] 123 (0, 0)) ∧ U.heap[w.heap.size]? = some (.cells (K3 s m (d + 1)) 124 (0, 0)) ∧ U.heap[bm]? = w1.heap[bm]?) (by kernel_rfl) ?_
      change wpAnyH _ _ _ _ _ _ _ _ (World.drew w1)
      refine wpAnyH_take (i := 0) (oi := { dst := some 21, op := _, type := _, pos := _, after := _, guard := none }) (v := ?_) rfl (by kernel_rfl) (by kernel_rfl) (by kernel_rfl) (fun _ _ _ h => h) (Or.inl ⟨by rfl, ?_⟩) hS ?_
      rotate_left
      · intro U hU
        go_simp
        all_goals with_reducible rfl
      simp only [Act.put, List.setIfInBounds_toArray, List.set_cons_zero, List.set_cons_succ]
      refine wpAnyH_take (i := 1) (oi := { dst := some 22, op := _, type := _, pos := _, after := _, guard := none }) (v := ?_) rfl (by kernel_rfl) (by kernel_rfl) (by kernel_rfl) (fun _ _ _ h => h) (Or.inl ⟨by rfl, ?_⟩) hS ?_
      rotate_left
      · intro U hU
        go_simp
        all_goals with_reducible rfl
      simp only [Act.put, List.setIfInBounds_toArray, List.set_cons_zero, List.set_cons_succ]
      refine wpAnyH_take (i := 2) (oi := { dst := some 23, op := _, type := _, pos := _, after := _, guard := none }) (v := ?_) rfl (by kernel_rfl) (by kernel_rfl) (by kernel_rfl) (fun _ _ _ h => h) (Or.inl ⟨by rfl, ?_⟩) hS ?_
      rotate_left
      · intro U hU
        go_simp
        all_goals with_reducible rfl
      simp only [Act.put, List.setIfInBounds_toArray, List.set_cons_zero, List.set_cons_succ]
      refine wpAnyH_take (i := 3) (oi := { dst := some 24, op := _, type := _, pos := _, after := _, guard := none }) (v := ?_) rfl (by kernel_rfl) (by kernel_rfl) (by kernel_rfl) (fun _ _ _ h => h) (Or.inl ⟨by rfl, ?_⟩) hS ?_
      rotate_left
      · intro U hU
        have c := cell_blk (i := 4) hU.1
        simp only [List.getElem?_toArray, List.getElem?_cons_zero, List.getElem?_cons_succ] at c
        go_simp
        all_goals with_reducible rfl
      simp only [Act.put, List.setIfInBounds_toArray, List.set_cons_zero, List.set_cons_succ]
      refine wpAnyH_take (i := 4) (oi := { dst := some 25, op := _, type := _, pos := _, after := _, guard := none }) (v := .agg (K3 s m (d + 1))) rfl (by kernel_rfl) (by kernel_rfl) (by kernel_rfl) (fun _ _ _ h => h) (Or.inl ⟨by rfl, ?_⟩) hS ?_
      · exact yields_load_blk 124 (.tmp 9) rfl w.heap.size rfl (fun W hW => hW.2.1) Try.underlying124 rfl size124 rfl
      simp only [Act.put, List.setIfInBounds_toArray, List.set_cons_zero, List.set_cons_succ]
      refine wpAnyH_take (i := 5) (oi := { dst := some 26, op := _, type := _, pos := _, after := _, guard := none }) (v := .tuple #[.bool false, .bool false]) rfl (by kernel_rfl) (by kernel_rfl) (by kernel_rfl) (fun _ _ _ h => h) (Or.inl ⟨by rfl, ?_⟩) hS ?_
      · exact yields_lookup 121 (.tmp 24) (.tmp 25) true rfl rfl rfl (fun W hW => HLK.out W hW.2.2)
      simp only [Act.put, List.setIfInBounds_toArray, List.set_cons_zero, List.set_cons_succ]
      refine wpAnyH_take (i := 6) (oi := { dst := some 20, op := _, type := _, pos := _, after := _, guard := none }) (v := ?_) rfl (by kernel_rfl) (by kernel_rfl) (by kernel_rfl) (fun _ _ _ h => h) (Or.inl ⟨by rfl, ?_⟩) hS ?_
      rotate_left
      · intro U hU
        go_simp
        all_goals with_reducible rfl
      simp only [Act.put, List.setIfInBounds_toArray, List.set_cons_zero, List.set_cons_succ]
      refine wpAnyH_take (i := 7) (oi := { dst := some 27, op := _, type := _, pos := _, after := _, guard := none }) (v := ?_) rfl (by kernel_rfl) (by kernel_rfl) (by kernel_rfl) (fun _ _ _ h => h) (Or.inl ⟨by rfl, ?_⟩) hS ?_
      rotate_left
      · intro U hU
        go_simp
        all_goals with_reducible rfl
      simp only [Act.put, List.setIfInBounds_toArray, List.set_cons_zero, List.set_cons_succ]
      refine wpAnyH_take (i := 8) (oi := { dst := some 28, op := _, type := _, pos := _, after := _, guard := none }) (v := ?_) rfl (by kernel_rfl) (by kernel_rfl) (by kernel_rfl) (fun _ _ _ h => h) (Or.inl ⟨by rfl, ?_⟩) hS ?_
      rotate_left
      · intro U hU
        go_simp
        all_goals with_reducible rfl
      simp only [Act.put, List.setIfInBounds_toArray, List.set_cons_zero, List.set_cons_succ]
      refine wpAnyH_take (i := 9) (oi := { dst := some 10, op := _, type := _, pos := _, after := _, guard := none }) (v := ?_) rfl (by kernel_rfl) (by kernel_rfl) (by kernel_rfl) (fun _ _ _ h => h) (Or.inl ⟨by rfl, ?_⟩) hS ?_
      rotate_left
      · intro U hU
        go_simp
        all_goals with_reducible rfl
      simp only [Act.put, List.setIfInBounds_toArray, List.set_cons_zero, List.set_cons_succ]
      refine wpAnyH_take (i := 10) (oi := { dst := some 11, op := _, type := _, pos := _, after := _, guard := none }) (v := ?_) rfl (by kernel_rfl) (by kernel_rfl) (by kernel_rfl) (fun _ _ _ h => h) (Or.inl ⟨by rfl, ?_⟩) hS ?_
      rotate_left
      · intro U hU
        go_simp
        all_goals with_reducible rfl
      simp only [Act.put, List.setIfInBounds_toArray, List.set_cons_zero, List.set_cons_succ]
      refine wpAnyH_done (by kernel_rfl) ?_ _
      refine HK.out _ _ ?_; clear HK HLK
      generalize hw2 : World.drew w1 = w2
      have hB2 : Below w1.heap.size w1 w2 := by rw [← hw2]; exact (Below.refl _ _).drew
      have hG2 := hG1.below hB2
      have hb2 := blk_keep hb1 hB2
      have hs2' : w.heap.size + 1 ≤ w2.heap.size := Nat.le_trans hs1 hB2.size
      have hB12 := btr hB1 hB2 (Nat.le_refl _)
      clear hw2 hb1 hG1 hS hB1 hB2 hs1
      go_wp2
      go_loopw [12, 13] (fun b o wr => ∃ k : Nat, k ≤ ordC y ∧ b = .bool (anyO y d s m k) ∧ o = .int .i64 ((k : Int) * y.lots) ∧ Memo wr bm (GK y) ∧ Bm bm w2.heap.size w2 wr) (fun _ o _ => ordC y - (intOf o / y.lots).toNat)
      case atStart => exact ⟨0, Nat.zero_le _, rfl, by simp, hG2.me, Bm.refl _ _ _⟩
      case round =>
        obtain ⟨k, hk, rfl, rfl, hM, hB⟩ := hrel
        have hgr := hG2.bm hB hM
        have c1 := cell_blk (i := 1) hgr.blk
        have c2 := cell_blk (i := 2) hgr.blk
        have c4 := cell_blk (i := 4) hgr.blk
        simp only [List.getElem?_toArray, List.getElem?_cons_zero, List.getElem?_cons_succ] at c1 c2 c4
        have hocl := HOC.out k
        obtain ⟨O, hO⟩ : ∃ O, O = (k : Int) * y.lots := ⟨_, rfl⟩
        have hO0 : 0 ≤ O := by rw [hO]; exact Int.mul_nonneg (by omega) (by omega)
        rw [← hO] at hocl ⊢
        have HO := Lib.hid hO
        clear hO
        have hB2w : Bm bm w.heap.size w wr := (Bm.of hB12).trans (hB.mono (by omega))
        cases hb : anyO y d s m k
        · by_cases hkc : k < ordC y
          · have hO1 : O ≤ y.most := hocl.2 hkc
            have hsu := anyO_succ (y := y) (d := d) (s := s) (m := m) hkc
            rw [hb, Bool.false_or, ← HO.out] at hsu
            have h35 := HORD.out wr O hgr (by omega)
            generalize leadsB y (lay y d) s m O = LB at *
            have HSU := Lib.hid hsu
            clear hsu hocl hb
            go_wp2_with (go_at_call 35; refine h35.mono ?_; rintro e w4 ⟨rfl, hM4, hB4⟩; have hgr4 := hgr.bm hB4 hM4; have c24 := cell_blk (i := 2) hgr4.blk; simp only [List.getElem?_toArray, List.getElem?_cons_zero, List.getElem?_cons_succ] at c24)
            go_roundw
            case rel => exact ⟨k + 1, by omega, by rw [HSU.out], by rw [HO.out]; congr 1; push_cast; rw [Int.add_mul, Int.one_mul], hM4, hB.trans (hB4.mono hB.size)⟩
            case measure =>
              have hO2 := HO.out
              simp only [intOf]
              have e1 : O / y.lots = k := by rw [hO2]; exact Int.mul_ediv_cancel _ (by omega)
              have e2 : (O + y.lots) / y.lots = k + 1 := by rw [hO2, Int.add_ediv_of_dvd_right (Int.dvd_refl _), Int.mul_ediv_cancel _ (by omega), Int.ediv_self (by omega)]
              rw [e1, e2]
              omega
          · have hO1 : ¬ O ≤ y.most := fun h => hkc (hocl.1 h)
            have hkb : KB = false := by
              have : k = ordC y := by omega
              rw [HKS.out, ← anyO_all, ← this, hb]
            clear hocl hb
            subst hkb
            as_aux_lemma =>
            go_wp2
            rename_i K hK
            have HK := Lib.hid hK; clear hK
            have hb3 := (hB.block w.heap.size (by omega) (by omega)).trans hb2
            obtain ⟨es', clock', hrun, hes'⟩ := Memo.update (P := Try.prog) (w := wr.drew) (hM.below (Below.refl _ wr).drew hM.lt) keyed124 Try.underlying121 (fun _ _ => gkkey) hkl (v := .bool false) HGK.out
            have HRUN := Lib.hid hrun
            clear hrun
            have hS : wr.heap[bg]? = some (.cells #[.int .i64 y.room, .int .i64 y.most, .int .i64 y.lots, v, .map (some bm)] 123 (0, 0)) ∧ wr.heap[w.heap.size]? = some (.cells (K3 s m (d + 1)) 124 (0, 0)) := ⟨hgr.blk, hb3⟩
            refine wp_region_held (S := fun U => U.heap[bg]? = some (.cells #[.int .i64 y.room, .int .i64 y.most, .int .i64 y.lots, v, .map (some bm)] 123 (0, 0)) ∧ U.heap[w.heap.size]? = some (.cells (K3 s m (d + 1)) 124 (0, 0))) (by kernel_rfl) ?_
            change wpAnyH _ _ _ _ _ _ _ _ (World.drew wr)
            refine wpAnyH_take (i := 0) (oi := { dst := some 55, op := _, type := _, pos := _, after := _, guard := none }) (v := ?_) rfl (by kernel_rfl) (by kernel_rfl) (by kernel_rfl) (fun _ _ _ h => h) (Or.inl ⟨by rfl, ?_⟩) hS ?_
            rotate_left
            · intro U hU
              go_simp
              all_goals with_reducible rfl
            simp only [Act.put, List.setIfInBounds_toArray, List.set_cons_zero, List.set_cons_succ]
            refine wpAnyH_take (i := 1) (oi := { dst := some 56, op := _, type := _, pos := _, after := _, guard := none }) (v := ?_) rfl (by kernel_rfl) (by kernel_rfl) (by kernel_rfl) (fun _ _ _ h => h) (Or.inl ⟨by rfl, ?_⟩) hS ?_
            rotate_left
            · intro U hU
              go_simp
              all_goals with_reducible rfl
            simp only [Act.put, List.setIfInBounds_toArray, List.set_cons_zero, List.set_cons_succ]
            refine wpAnyH_take (i := 2) (oi := { dst := some 57, op := _, type := _, pos := _, after := _, guard := none }) (v := ?_) rfl (by kernel_rfl) (by kernel_rfl) (by kernel_rfl) (fun _ _ _ h => h) (Or.inl ⟨by rfl, ?_⟩) hS ?_
            rotate_left
            · intro U hU
              go_simp
              all_goals with_reducible rfl
            simp only [Act.put, List.setIfInBounds_toArray, List.set_cons_zero, List.set_cons_succ]
            refine wpAnyH_take (i := 3) (oi := { dst := some 58, op := _, type := _, pos := _, after := _, guard := none }) (v := ?_) rfl (by kernel_rfl) (by kernel_rfl) (by kernel_rfl) (fun _ _ _ h => h) (Or.inl ⟨by rfl, ?_⟩) hS ?_
            rotate_left
            · intro U hU
              have c := cell_blk (i := 4) hU.1
              simp only [List.getElem?_toArray, List.getElem?_cons_zero, List.getElem?_cons_succ] at c
              go_simp
              all_goals with_reducible rfl
            simp only [Act.put, List.setIfInBounds_toArray, List.set_cons_zero, List.set_cons_succ]
            refine wpAnyH_take (i := 4) (oi := { dst := some 59, op := _, type := _, pos := _, after := _, guard := none }) (v := .agg (K3 s m (d + 1))) rfl (by kernel_rfl) (by kernel_rfl) (by kernel_rfl) (fun _ _ _ h => h) (Or.inl ⟨by rfl, ?_⟩) hS ?_
            · exact yields_load_blk 124 (.tmp 9) rfl w.heap.size rfl (fun W hW => hW.2) Try.underlying124 rfl size124 rfl
            simp only [Act.put, List.setIfInBounds_toArray, List.set_cons_zero, List.set_cons_succ]
            refine wpAnyH_take (i := 5) (oi := { dst := some 60, op := _, type := _, pos := _, after := _, guard := none }) (v := ?_) rfl (by kernel_rfl) (by kernel_rfl) (by kernel_rfl) (fun _ _ _ h => h) (Or.inl ⟨by rfl, ?_⟩) hS ?_
            rotate_left
            · intro U hU
              go_simp
              all_goals with_reducible rfl
            simp only [Act.put, List.setIfInBounds_toArray, List.set_cons_zero, List.set_cons_succ]
            refine wpAnyH_one (i := 6) (o := { dst := none, op := Op.mapUpdate 121 (Operand.tmp 58) (Operand.tmp 59) (Operand.tmp 60), type := _, pos := _, after := _, guard := none }) (by kernel_rfl) rfl (by rfl) (fun K1 hK1 => ?_)
            have HK1 := Lib.hid hK1; clear hK1
            refine oper_mapUpdate_run 121 _ _ _ rfl rfl rfl rfl HRUN.out ?_
            refine HK1.out _ _ ⟨(World.putObj_heap_other hne).trans hgr.blk, (World.putObj_heap_other (by omega)).trans hb3⟩ ?_
            clear HK1 K1
            refine wpAnyH_done (by kernel_rfl) ?_ _
            refine HK.out _ _ ?_; clear HK HRUN hS
            have hM9 : Memo (wr.drew.putObj bm (.map es' clock')) bm (GK y) := ⟨es', clock', World.putObj_heap_same (w := wr.drew) (show bm < wr.drew.heap.size from hM.lt), hes'⟩
            have hB9 : Bm bm w.heap.size w (wr.drew.putObj bm (.map es' clock')) := (hB2w.trans (Bm.of (Below.refl _ wr).drew)).trans (Bm.put _ _)
            generalize World.putObj wr.drew _ _ = w9 at *
            go_wp2
            go_ret
            exact ⟨rfl, hM9, hB9⟩
        · have hkb : KB = true := by rw [HKS.out]; exact anyO_true hb
          clear hocl hb
          subst hkb
          as_aux_lemma =>
          by_cases hO1 : O ≤ y.most
          · go_wp2
            rename_i K hK
            have HK := Lib.hid hK; clear hK
            have hb3 := (hB.block w.heap.size (by omega) (by omega)).trans hb2
            obtain ⟨es', clock', hrun, hes'⟩ := Memo.update (P := Try.prog) (w := wr.drew) (hM.below (Below.refl _ wr).drew hM.lt) keyed124 Try.underlying121 (fun _ _ => gkkey) hkl (v := .bool true) HGK.out
            have HRUN := Lib.hid hrun
            clear hrun
            have hS : wr.heap[bg]? = some (.cells #[.int .i64 y.room, .int .i64 y.most, .int .i64 y.lots, v, .map (some bm)] 123 (0, 0)) ∧ wr.heap[w.heap.size]? = some (.cells (K3 s m (d + 1)) 124 (0, 0)) := ⟨hgr.blk, hb3⟩
            refine wp_region_held (S := fun U => U.heap[bg]? = some (.cells #[.int .i64 y.room, .int .i64 y.most, .int .i64 y.lots, v, .map (some bm)] 123 (0, 0)) ∧ U.heap[w.heap.size]? = some (.cells (K3 s m (d + 1)) 124 (0, 0))) (by kernel_rfl) ?_
            change wpAnyH _ _ _ _ _ _ _ _ (World.drew wr)
            refine wpAnyH_take (i := 0) (oi := { dst := some 55, op := _, type := _, pos := _, after := _, guard := none }) (v := ?_) rfl (by kernel_rfl) (by kernel_rfl) (by kernel_rfl) (fun _ _ _ h => h) (Or.inl ⟨by rfl, ?_⟩) hS ?_
            rotate_left
            · intro U hU
              go_simp
              all_goals with_reducible rfl
            simp only [Act.put, List.setIfInBounds_toArray, List.set_cons_zero, List.set_cons_succ]
            refine wpAnyH_take (i := 1) (oi := { dst := some 56, op := _, type := _, pos := _, after := _, guard := none }) (v := ?_) rfl (by kernel_rfl) (by kernel_rfl) (by kernel_rfl) (fun _ _ _ h => h) (Or.inl ⟨by rfl, ?_⟩) hS ?_
            rotate_left
            · intro U hU
              go_simp
              all_goals with_reducible rfl
            simp only [Act.put, List.setIfInBounds_toArray, List.set_cons_zero, List.set_cons_succ]
            refine wpAnyH_take (i := 2) (oi := { dst := some 57, op := _, type := _, pos := _, after := _, guard := none }) (v := ?_) rfl (by kernel_rfl) (by kernel_rfl) (by kernel_rfl) (fun _ _ _ h => h) (Or.inl ⟨by rfl, ?_⟩) hS ?_
            rotate_left
            · intro U hU
              go_simp
              all_goals with_reducible rfl
            simp only [Act.put, List.setIfInBounds_toArray, List.set_cons_zero, List.set_cons_succ]
            refine wpAnyH_take (i := 3) (oi := { dst := some 58, op := _, type := _, pos := _, after := _, guard := none }) (v := ?_) rfl (by kernel_rfl) (by kernel_rfl) (by kernel_rfl) (fun _ _ _ h => h) (Or.inl ⟨by rfl, ?_⟩) hS ?_
            rotate_left
            · intro U hU
              have c := cell_blk (i := 4) hU.1
              simp only [List.getElem?_toArray, List.getElem?_cons_zero, List.getElem?_cons_succ] at c
              go_simp
              all_goals with_reducible rfl
            simp only [Act.put, List.setIfInBounds_toArray, List.set_cons_zero, List.set_cons_succ]
            refine wpAnyH_take (i := 4) (oi := { dst := some 59, op := _, type := _, pos := _, after := _, guard := none }) (v := .agg (K3 s m (d + 1))) rfl (by kernel_rfl) (by kernel_rfl) (by kernel_rfl) (fun _ _ _ h => h) (Or.inl ⟨by rfl, ?_⟩) hS ?_
            · exact yields_load_blk 124 (.tmp 9) rfl w.heap.size rfl (fun W hW => hW.2) Try.underlying124 rfl size124 rfl
            simp only [Act.put, List.setIfInBounds_toArray, List.set_cons_zero, List.set_cons_succ]
            refine wpAnyH_take (i := 5) (oi := { dst := some 60, op := _, type := _, pos := _, after := _, guard := none }) (v := ?_) rfl (by kernel_rfl) (by kernel_rfl) (by kernel_rfl) (fun _ _ _ h => h) (Or.inl ⟨by rfl, ?_⟩) hS ?_
            rotate_left
            · intro U hU
              go_simp
              all_goals with_reducible rfl
            simp only [Act.put, List.setIfInBounds_toArray, List.set_cons_zero, List.set_cons_succ]
            refine wpAnyH_one (i := 6) (o := { dst := none, op := Op.mapUpdate 121 (Operand.tmp 58) (Operand.tmp 59) (Operand.tmp 60), type := _, pos := _, after := _, guard := none }) (by kernel_rfl) rfl (by rfl) (fun K1 hK1 => ?_)
            have HK1 := Lib.hid hK1; clear hK1
            refine oper_mapUpdate_run 121 _ _ _ rfl rfl rfl rfl HRUN.out ?_
            refine HK1.out _ _ ⟨(World.putObj_heap_other hne).trans hgr.blk, (World.putObj_heap_other (by omega)).trans hb3⟩ ?_
            clear HK1 K1
            refine wpAnyH_done (by kernel_rfl) ?_ _
            refine HK.out _ _ ?_; clear HK HRUN hS
            have hM9 : Memo (wr.drew.putObj bm (.map es' clock')) bm (GK y) := ⟨es', clock', World.putObj_heap_same (w := wr.drew) (show bm < wr.drew.heap.size from hM.lt), hes'⟩
            have hB9 : Bm bm w.heap.size w (wr.drew.putObj bm (.map es' clock')) := (hB2w.trans (Bm.of (Below.refl _ wr).drew)).trans (Bm.put _ _)
            generalize World.putObj wr.drew _ _ = w9 at *
            go_wp2
            go_ret
            exact ⟨rfl, hM9, hB9⟩
          · go_wp2
            rename_i K hK
            have HK := Lib.hid hK; clear hK
            have hb3 := (hB.block w.heap.size (by omega) (by omega)).trans hb2
            obtain ⟨es', clock', hrun, hes'⟩ := Memo.update (P := Try.prog) (w := wr.drew) (hM.below (Below.refl _ wr).drew hM.lt) keyed124 Try.underlying121 (fun _ _ => gkkey) hkl (v := .bool true) HGK.out
            have HRUN := Lib.hid hrun
            clear hrun
            have hS : wr.heap[bg]? = some (.cells #[.int .i64 y.room, .int .i64 y.most, .int .i64 y.lots, v, .map (some bm)] 123 (0, 0)) ∧ wr.heap[w.heap.size]? = some (.cells (K3 s m (d + 1)) 124 (0, 0)) := ⟨hgr.blk, hb3⟩
            refine wp_region_held (S := fun U => U.heap[bg]? = some (.cells #[.int .i64 y.room, .int .i64 y.most, .int .i64 y.lots, v, .map (some bm)] 123 (0, 0)) ∧ U.heap[w.heap.size]? = some (.cells (K3 s m (d + 1)) 124 (0, 0))) (by kernel_rfl) ?_
            change wpAnyH _ _ _ _ _ _ _ _ (World.drew wr)
            refine wpAnyH_take (i := 0) (oi := { dst := some 55, op := _, type := _, pos := _, after := _, guard := none }) (v := ?_) rfl (by kernel_rfl) (by kernel_rfl) (by kernel_rfl) (fun _ _ _ h => h) (Or.inl ⟨by rfl, ?_⟩) hS ?_
            rotate_left
            · intro U hU
              go_simp
              all_goals with_reducible rfl
            simp only [Act.put, List.setIfInBounds_toArray, List.set_cons_zero, List.set_cons_succ]
            refine wpAnyH_take (i := 1) (oi := { dst := some 56, op := _, type := _, pos := _, after := _, guard := none }) (v := ?_) rfl (by kernel_rfl) (by kernel_rfl) (by kernel_rfl) (fun _ _ _ h => h) (Or.inl ⟨by rfl, ?_⟩) hS ?_
            rotate_left
            · intro U hU
              go_simp
              all_goals with_reducible rfl
            simp only [Act.put, List.setIfInBounds_toArray, List.set_cons_zero, List.set_cons_succ]
            refine wpAnyH_take (i := 2) (oi := { dst := some 57, op := _, type := _, pos := _, after := _, guard := none }) (v := ?_) rfl (by kernel_rfl) (by kernel_rfl) (by kernel_rfl) (fun _ _ _ h => h) (Or.inl ⟨by rfl, ?_⟩) hS ?_
            rotate_left
            · intro U hU
              go_simp
              all_goals with_reducible rfl
            simp only [Act.put, List.setIfInBounds_toArray, List.set_cons_zero, List.set_cons_succ]
            refine wpAnyH_take (i := 3) (oi := { dst := some 58, op := _, type := _, pos := _, after := _, guard := none }) (v := ?_) rfl (by kernel_rfl) (by kernel_rfl) (by kernel_rfl) (fun _ _ _ h => h) (Or.inl ⟨by rfl, ?_⟩) hS ?_
            rotate_left
            · intro U hU
              have c := cell_blk (i := 4) hU.1
              simp only [List.getElem?_toArray, List.getElem?_cons_zero, List.getElem?_cons_succ] at c
              go_simp
              all_goals with_reducible rfl
            simp only [Act.put, List.setIfInBounds_toArray, List.set_cons_zero, List.set_cons_succ]
            refine wpAnyH_take (i := 4) (oi := { dst := some 59, op := _, type := _, pos := _, after := _, guard := none }) (v := .agg (K3 s m (d + 1))) rfl (by kernel_rfl) (by kernel_rfl) (by kernel_rfl) (fun _ _ _ h => h) (Or.inl ⟨by rfl, ?_⟩) hS ?_
            · exact yields_load_blk 124 (.tmp 9) rfl w.heap.size rfl (fun W hW => hW.2) Try.underlying124 rfl size124 rfl
            simp only [Act.put, List.setIfInBounds_toArray, List.set_cons_zero, List.set_cons_succ]
            refine wpAnyH_take (i := 5) (oi := { dst := some 60, op := _, type := _, pos := _, after := _, guard := none }) (v := ?_) rfl (by kernel_rfl) (by kernel_rfl) (by kernel_rfl) (fun _ _ _ h => h) (Or.inl ⟨by rfl, ?_⟩) hS ?_
            rotate_left
            · intro U hU
              go_simp
              all_goals with_reducible rfl
            simp only [Act.put, List.setIfInBounds_toArray, List.set_cons_zero, List.set_cons_succ]
            refine wpAnyH_one (i := 6) (o := { dst := none, op := Op.mapUpdate 121 (Operand.tmp 58) (Operand.tmp 59) (Operand.tmp 60), type := _, pos := _, after := _, guard := none }) (by kernel_rfl) rfl (by rfl) (fun K1 hK1 => ?_)
            have HK1 := Lib.hid hK1; clear hK1
            refine oper_mapUpdate_run 121 _ _ _ rfl rfl rfl rfl HRUN.out ?_
            refine HK1.out _ _ ⟨(World.putObj_heap_other hne).trans hgr.blk, (World.putObj_heap_other (by omega)).trans hb3⟩ ?_
            clear HK1 K1
            refine wpAnyH_done (by kernel_rfl) ?_ _
            refine HK.out _ _ ?_; clear HK HRUN hS
            have hM9 : Memo (wr.drew.putObj bm (.map es' clock')) bm (GK y) := ⟨es', clock', World.putObj_heap_same (w := wr.drew) (show bm < wr.drew.heap.size from hM.lt), hes'⟩
            have hB9 : Bm bm w.heap.size w (wr.drew.putObj bm (.map es' clock')) := (hB2w.trans (Bm.of (Below.refl _ wr).drew)).trans (Bm.put _ _)
            generalize World.putObj wr.drew _ _ = w9 at *
            go_wp2
            go_ret
            exact ⟨rfl, hM9, hB9⟩
    · have HLK := Lib.hid hlk
      clear hlk
      refine wp_region_held (S := fun U => U.heap[bg]? = some (.cells #[.int .i64 y.room, .int .i64 y.most, .int .i64 y.lots, v, .map (some bm)] 123 (0, 0)) ∧ U.heap[w.heap.size]? = some (.cells (K3 s m (d + 1)) 124 (0, 0)) ∧ U.heap[bm]? = w1.heap[bm]?) (by kernel_rfl) ?_
      change wpAnyH _ _ _ _ _ _ _ _ (World.drew w1)
      refine wpAnyH_take (i := 0) (oi := { dst := some 21, op := _, type := _, pos := _, after := _, guard := none }) (v := ?_) rfl (by kernel_rfl) (by kernel_rfl) (by kernel_rfl) (fun _ _ _ h => h) (Or.inl ⟨by rfl, ?_⟩) hS ?_
      rotate_left
      · intro U hU
        go_simp
        all_goals with_reducible rfl
      simp only [Act.put, List.setIfInBounds_toArray, List.set_cons_zero, List.set_cons_succ]
      refine wpAnyH_take (i := 1) (oi := { dst := some 22, op := _, type := _, pos := _, after := _, guard := none }) (v := ?_) rfl (by kernel_rfl) (by kernel_rfl) (by kernel_rfl) (fun _ _ _ h => h) (Or.inl ⟨by rfl, ?_⟩) hS ?_
      rotate_left
      · intro U hU
        go_simp
        all_goals with_reducible rfl
      simp only [Act.put, List.setIfInBounds_toArray, List.set_cons_zero, List.set_cons_succ]
      refine wpAnyH_take (i := 2) (oi := { dst := some 23, op := _, type := _, pos := _, after := _, guard := none }) (v := ?_) rfl (by kernel_rfl) (by kernel_rfl) (by kernel_rfl) (fun _ _ _ h => h) (Or.inl ⟨by rfl, ?_⟩) hS ?_
      rotate_left
      · intro U hU
        go_simp
        all_goals with_reducible rfl
      simp only [Act.put, List.setIfInBounds_toArray, List.set_cons_zero, List.set_cons_succ]
      refine wpAnyH_take (i := 3) (oi := { dst := some 24, op := _, type := _, pos := _, after := _, guard := none }) (v := ?_) rfl (by kernel_rfl) (by kernel_rfl) (by kernel_rfl) (fun _ _ _ h => h) (Or.inl ⟨by rfl, ?_⟩) hS ?_
      rotate_left
      · intro U hU
        have c := cell_blk (i := 4) hU.1
        simp only [List.getElem?_toArray, List.getElem?_cons_zero, List.getElem?_cons_succ] at c
        go_simp
        all_goals with_reducible rfl
      simp only [Act.put, List.setIfInBounds_toArray, List.set_cons_zero, List.set_cons_succ]
      refine wpAnyH_take (i := 4) (oi := { dst := some 25, op := _, type := _, pos := _, after := _, guard := none }) (v := .agg (K3 s m (d + 1))) rfl (by kernel_rfl) (by kernel_rfl) (by kernel_rfl) (fun _ _ _ h => h) (Or.inl ⟨by rfl, ?_⟩) hS ?_
      · exact yields_load_blk 124 (.tmp 9) rfl w.heap.size rfl (fun W hW => hW.2.1) Try.underlying124 rfl size124 rfl
      simp only [Act.put, List.setIfInBounds_toArray, List.set_cons_zero, List.set_cons_succ]
      refine wpAnyH_take (i := 5) (oi := { dst := some 26, op := _, type := _, pos := _, after := _, guard := none }) (v := .tuple #[.bool KB, .bool true]) rfl (by kernel_rfl) (by kernel_rfl) (by kernel_rfl) (fun _ _ _ h => h) (Or.inl ⟨by rfl, ?_⟩) hS ?_
      · exact yields_lookup 121 (.tmp 24) (.tmp 25) true rfl rfl rfl (fun W hW => HLK.out W hW.2.2)
      simp only [Act.put, List.setIfInBounds_toArray, List.set_cons_zero, List.set_cons_succ]
      refine wpAnyH_take (i := 6) (oi := { dst := some 20, op := _, type := _, pos := _, after := _, guard := none }) (v := ?_) rfl (by kernel_rfl) (by kernel_rfl) (by kernel_rfl) (fun _ _ _ h => h) (Or.inl ⟨by rfl, ?_⟩) hS ?_
      rotate_left
      · intro U hU
        go_simp
        all_goals with_reducible rfl
      simp only [Act.put, List.setIfInBounds_toArray, List.set_cons_zero, List.set_cons_succ]
      refine wpAnyH_take (i := 7) (oi := { dst := some 27, op := _, type := _, pos := _, after := _, guard := none }) (v := ?_) rfl (by kernel_rfl) (by kernel_rfl) (by kernel_rfl) (fun _ _ _ h => h) (Or.inl ⟨by rfl, ?_⟩) hS ?_
      rotate_left
      · intro U hU
        go_simp
        all_goals with_reducible rfl
      simp only [Act.put, List.setIfInBounds_toArray, List.set_cons_zero, List.set_cons_succ]
      refine wpAnyH_take (i := 8) (oi := { dst := some 28, op := _, type := _, pos := _, after := _, guard := none }) (v := ?_) rfl (by kernel_rfl) (by kernel_rfl) (by kernel_rfl) (fun _ _ _ h => h) (Or.inl ⟨by rfl, ?_⟩) hS ?_
      rotate_left
      · intro U hU
        go_simp
        all_goals with_reducible rfl
      simp only [Act.put, List.setIfInBounds_toArray, List.set_cons_zero, List.set_cons_succ]
      refine wpAnyH_take (i := 9) (oi := { dst := some 10, op := _, type := _, pos := _, after := _, guard := none }) (v := ?_) rfl (by kernel_rfl) (by kernel_rfl) (by kernel_rfl) (fun _ _ _ h => h) (Or.inl ⟨by rfl, ?_⟩) hS ?_
      rotate_left
      · intro U hU
        go_simp
        all_goals with_reducible rfl
      simp only [Act.put, List.setIfInBounds_toArray, List.set_cons_zero, List.set_cons_succ]
      refine wpAnyH_take (i := 10) (oi := { dst := some 11, op := _, type := _, pos := _, after := _, guard := none }) (v := ?_) rfl (by kernel_rfl) (by kernel_rfl) (by kernel_rfl) (fun _ _ _ h => h) (Or.inl ⟨by rfl, ?_⟩) hS ?_
      rotate_left
      · intro U hU
        go_simp
        all_goals with_reducible rfl
      simp only [Act.put, List.setIfInBounds_toArray, List.set_cons_zero, List.set_cons_succ]
      refine wpAnyH_done (by kernel_rfl) ?_ _
      refine HK.out _ _ ?_; clear HK HLK
      generalize hw2 : World.drew w1 = w2
      have hB2 : Below w1.heap.size w1 w2 := by rw [← hw2]; exact (Below.refl _ _).drew
      have hG2 := hG1.below hB2
      have hb2 := blk_keep hb1 hB2
      have hs2' : w.heap.size + 1 ≤ w2.heap.size := Nat.le_trans hs1 hB2.size
      have hB12 := btr hB1 hB2 (Nat.le_refl _)
      clear hw2 hb1 hG1 hS hB1 hB2 hs1
      go_wp2
      go_ret
      exact ⟨rfl, hG2.me, Bm.of hB12⟩
end Ytndmjginmomfiaa
end Go.Proofs
