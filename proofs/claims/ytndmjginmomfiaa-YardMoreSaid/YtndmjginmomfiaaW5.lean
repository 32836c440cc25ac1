/- What leads to a layer: before. -/
import Derived.Test.YtndmjginmomfiaaW4
open Go Go.RowKit Go.YtndmjginmomfiaaIt
namespace Go.Proofs
namespace Ytndmjginmomfiaa
def befM (y : Yd) (l : List Nat) (k : Nat) : List Nat := (List.range 4).map fun m => if m < k ∧ m < y.ws.length then bw (stB y l m) (y.room.toNat + 1) else 0
def befS (y : Yd) (l : List Nat) (k s : Nat) : List Nat := (befM y l k).set k (bw (stB y l k) s)
theorem befM_len (y : Yd) (l : List Nat) (k : Nat) : (befM y l k).length = 4 := by simp [befM]
theorem befS_len (y : Yd) (l : List Nat) (k s : Nat) : (befS y l k s).length = 4 := by simp [befS, befM]
theorem befM_zero (y : Yd) (l : List Nat) : befM y l 0 = [0, 0, 0, 0] := by simp [befM]; decide
theorem befM_end (y : Yd) (l : List Nat) : befM y l y.ws.length = bef y l := by simp [befM, bef]
theorem befM_get (y : Yd) (l : List Nat) (k : Nat) {m : Nat} (h : m < 4) : (befM y l k)[m]? = some (if m < k ∧ m < y.ws.length then bw (stB y l m) (y.room.toNat + 1) else 0) := by simp [befM, h]
theorem befS_zero (y : Yd) (l : List Nat) (k : Nat) : befS y l k 0 = befM y l k := by
  apply List.ext_getElem?
  intro m
  unfold befS
  rw [List.getElem?_set]
  by_cases h : k = m
  · subst h
    rw [if_pos rfl]
    by_cases h4 : k < 4
    · rw [if_pos (by rw [befM_len]; exact h4), befM_get _ _ _ h4, if_neg (by omega)]; rfl
    · rw [if_neg (by rw [befM_len]; exact h4), List.getElem?_eq_none (by rw [befM_len]; omega)]
  · rw [if_neg h]
theorem befS_end (y : Yd) (l : List Nat) {k : Nat} (hk : k < y.ws.length) : befS y l k (y.room.toNat + 1) = befM y l (k + 1) := by
  apply List.ext_getElem?
  intro m
  unfold befS
  rw [List.getElem?_set]
  by_cases h4 : m < 4
  · by_cases h : k = m
    · subst h
      rw [if_pos rfl, if_pos (by rw [befM_len]; exact h4), befM_get _ _ _ h4, if_pos ⟨by omega, hk⟩]
    · rw [if_neg h, befM_get _ _ _ h4, befM_get _ _ _ h4]
      congr 1
      by_cases h5 : m < k
      · by_cases h6 : m < y.ws.length
        · rw [if_pos ⟨h5, h6⟩, if_pos ⟨by omega, h6⟩]
        · rw [if_neg (fun h => h6 h.2), if_neg (fun h => h6 h.2)]
      · rw [if_neg (fun h => h5 h.1), if_neg (fun h => by omega)]
  · have e1 : (befM y l (k + 1))[m]? = none := List.getElem?_eq_none (by rw [befM_len]; omega)
    have e2 : (befM y l k)[m]? = none := List.getElem?_eq_none (by rw [befM_len]; omega)
    rw [e1]
    by_cases h : k = m
    · rw [if_pos h, if_neg (by rw [befM_len]; omega)]
    · rw [if_neg h, e2]
theorem befS_get (y : Yd) (l : List Nat) {k : Nat} (s : Nat) (h : k < 4) : (befS y l k s)[k]? = some (bw (stB y l k) s) := by
  unfold befS
  rw [List.getElem?_set, if_pos rfl, if_pos (by rw [befM_len]; exact h)]
theorem befS_yes (y : Yd) (l : List Nat) {k s : Nat} (h : stB y l k s = true) : (befS y l k s).set k (bw (stB y l k) s ||| 2 ^ s) = befS y l k (s + 1) := by
  unfold befS
  rw [List.set_set]
  simp only [bw, h, if_true]
theorem befS_no (y : Yd) (l : List Nat) {k s : Nat} (h : stB y l k s = false) : befS y l k s = befS y l k (s + 1) := by
  unfold befS
  simp only [bw, h, Bool.false_eq_true, if_false]
theorem encL_set (l : List Nat) (k x : Nat) : encL (l.set k x) = (encL l).setIfInBounds k (.int .u64 x) := by
  unfold encL
  rw [List.map_set]
  simp
theorem or_val {x s : Nat} (hx : x < 2 ^ s) (hs : s ≤ 60) : bits .or .u64 x (IntKind.u64.wrap (2 ^ s)) = ((x ||| 2 ^ s : Nat) : Int) := by
  have h1 : 2 ^ s ≤ 2 ^ 60 := Nat.pow_le_pow_right (by omega) hs
  have e : ((2 : Int) ^ s) = ((2 ^ s : Nat) : Int) := by push_cast; rfl
  have e2 : IntKind.u64.wrap (2 ^ s) = ((2 ^ s : Nat) : Int) := by
    rw [e]
    generalize 2 ^ s = z at *
    simp only [IntKind.wrap, IntKind.bits, IntKind.signed, Bool.false_and, Bool.false_eq_true, if_false]
    omega
  rw [e2, bits_or_u64_nat _ _ (by omega) (by omega)]
/-- What holds all along. -/
structure BfI (w : World) (y : Yd) (v : Value) (l out : List Nat) (W : World) : Prop where
  yd : W.heap[w.heap.size]? = some (.cells (encY y v) 24 (0, 0))
  ly : W.heap[w.heap.size + 1]? = some (.cells (encL l) 110 (0, 0))
  rs : ∃ cs : List Nat, cs.length = 4 ∧ W.heap[w.heap.size + 1 + 1]? = some (.cells (encL cs) 110 (0, 0))
  ot : W.heap[w.heap.size + 1 + 1 + 1]? = some (.cells (encL out) 110 (0, 0))
  be : Below w.heap.size w W
theorem BfI.keep {w : World} {y : Yd} {v : Value} {l out : List Nat} {W W' : World} (h : BfI w y v l out W) (hb : Below W.heap.size W W') : BfI w y v l out W' :=
  ⟨blk_keep h.yd hb, blk_keep h.ly hb, (by obtain ⟨cs, h1, h2⟩ := h.rs; exact ⟨cs, h1, blk_keep h2 hb⟩), blk_keep h.ot hb, h.be.trans (hb.mono h.be.size)⟩
theorem BfI.stb {w : World} {y : Yd} {v : Value} {l out : List Nat} {n : Nat} (hn : w.heap.size ≤ n) : Stb n (BfI w y v l out) := fun W W' g h =>
  ⟨Stb.cells (B := n) W W' g h.yd, Stb.cells (B := n) W W' g h.ly, (by obtain ⟨cs, h1, h2⟩ := h.rs; exact ⟨cs, h1, Stb.cells (B := n) W W' g h2⟩), Stb.cells (B := n) W W' g h.ot, Stb.below hn (Nat.le_refl _) W W' g h.be⟩
theorem Kx.drew {B : Nat} {TT : TypeId → Prop} {X Y : World} (h : Kx B TT X Y) : Kx B TT X Y.drew := ⟨h.size, h.same, h.typed⟩
theorem Mk.drew {B : Nat} {ds : List Nat} {W : World} (h : Mk B ds W) : Mk B ds W.drew := ⟨h.nd, h.at_⟩
theorem BfI.put {w : World} {y : Yd} {v : Value} {l out : List Nat} {W : World} (h : BfI w y v l out W) (k x : Nat) : BfI w y v l (out.set k x) (W.setCell ⟨w.heap.size + 1 + 1 + 1, k, none⟩ (.int .u64 x)).drew :=
  ⟨(heap_set_other (by omega)).trans h.yd, (heap_set_other (by omega)).trans h.ly, (by obtain ⟨cs, h1, h2⟩ := h.rs; exact ⟨cs, h1, (heap_set_other (by omega)).trans h2⟩), (by
    show (W.setCell _ _).heap[_]? = _
    rw [heap_set_blk h.ot, encL_set]), (h.be.setCell (by simp; omega) _).drew⟩
set_option maxRecDepth 100000 in
set_option maxHeartbeats 4000000 in
theorem before_any (y : Yd) (v : Value) (l : List Nat) (w : World) (ok : Ok y) (hl : Lw l) (hw : SlW w v y.ws) :
    Calls Try.prog 65 #[.agg (encY y v), .agg (encL l)] w fun e w' => e = .returned (.agg (encL (bef y l))) ∧ Below w.heap.size w w' := by
  refine calls_of_wpM Try.func65 rfl ?_
  simp only [Try.ntmps65, List.size_toArray, List.length_cons, List.length_nil, Nat.reduceAdd, Nat.reduceSub, Array.replicate_succ, Array.replicate_zero, List.push_toArray, List.append_toArray, List.nil_append, List.cons_append]
  have hl4 : (encL l).size = 4 := by rw [encL_size, hl.len]
  have hy4 : (encY y v).size = 4 := rfl
  have hw0 := hw
  obtain ⟨ad, cap, rfl, hmx, hcp, -⟩ := hw
  iterate 2
    refine wpIn_seq_k (fun K hK => ?_)
    have HK := Lib.hid hK; clear hK
    gi_wp2
    refine HK.out _ _ ?_; clear HK K
  generalize hw1 : World.alloc _ _ = w1
  obtain ⟨b1, b2, b3, b4, hb1, hs1⟩ := blk4 hw1
  clear hw1
  have hi0 : BfI w y (.slice ad y.ws.length cap) l (befM y l 0) w1 := ⟨b1, b2, ⟨[0, 0, 0, 0], rfl, b3⟩, by rw [befM_zero]; exact b4, hb1⟩
  have hr0 := ok.room0
  have hr1 := ok.room1
  have hn1 := ok.n1
  have c3 := cell_blk (i := 3) b1
  have c0 := cell_blk (i := 0) b1
  simp only [encY, List.getElem?_toArray, List.getElem?_cons_zero, List.getElem?_cons_succ] at c3 c0
  refine wpIn_seq_k (fun K hK => ?_)
  have HK := Lib.hid hK; clear hK
  gi_wp2
  refine wpIn_loop (fun a wr => ∃ (u6 u7 u8 u12 u13 u14 u15 u16 u17 u18 u19 u20 u21 u22 u23 u24 u25 u26 u27 u28 u29 u30 u31 u32 u33 u34 u35 u36 u37 u38 u39 : Value) (ds : List Nat), (∃ k : Nat, k ≤ y.ws.length ∧ u12 = .int .i64 k ∧ BfI w y (.slice ad y.ws.length cap) l (befM y l k) wr ∧ Mk (w.heap.size + 4) ds wr) ∧ a = ⟨(.agg (encY y (.slice ad y.ws.length cap)) :: .agg (encL l) :: .pointer (some ⟨w.heap.size, 0, none⟩) :: .pointer (some ⟨w.heap.size + 1, 0, none⟩) :: .pointer (some ⟨w.heap.size + 1 + 1, 0, none⟩) :: .pointer (some ⟨w.heap.size + 1 + 1 + 1, 0, none⟩) :: u6 :: u7 :: u8 :: .pointer (some ⟨w.heap.size, 3, none⟩) :: (.slice ad y.ws.length cap) :: .int .i64 y.ws.length :: u12 :: u13 :: u14 :: u15 :: u16 :: u17 :: u18 :: u19 :: u20 :: u21 :: u22 :: u23 :: u24 :: u25 :: u26 :: u27 :: u28 :: u29 :: u30 :: u31 :: u32 :: u33 :: u34 :: u35 :: u36 :: u37 :: u38 :: u39 :: []).toArray, (ds.map mk)⟩) (fun a _ => y.ws.length - (intOf (a.tmps.getD 12 undef)).toNat) ⟨_, _, _, _, _, _, _, _, _, _, _, _, _, _, _, _, _, _, _, _, _, _, _, _, _, _, _, _, _, _, _, [], ⟨0, Nat.zero_le _, rfl, hi0, Mk.nil _ _⟩, rfl⟩ ?_
  rintro a wr ⟨u6, u7, u8, u12, u13, u14, u15, u16, u17, u18, u19, u20, u21, u22, u23, u24, u25, u26, u27, u28, u29, u30, u31, u32, u33, u34, u35, u36, u37, u38, u39, ds, hrel, rfl⟩
  obtain ⟨k, hk, rfl, hI, hM⟩ := hrel
  obtain ⟨wo, rfl⟩ : ∃ wo, wo = wr := ⟨_, rfl⟩
  clear b1 b2 b3 b4 hb1 hs1 hi0 c3 c0
  have hso := hI.be.size
  by_cases hkn : k < y.ws.length
  · have c0 := cell_blk (i := 0) hI.yd
    simp only [encY, List.getElem?_toArray, List.getElem?_cons_zero] at c0
    have hlt := lt_blk hI.yd
    have hlt3 := lt_blk hI.ot
    gi_wp2
    obtain ⟨e6, hb2, hs2⟩ := blk1 (w := wo) (a := .cells #[.int .i64 k] 3) rfl
    have hi2 : BfI w y (.slice ad y.ws.length cap) l (befS y l k 0) (wo.alloc (.cells #[.int .i64 k] 3)) := by rw [befS_zero]; exact hI.keep hb2
    have hM2 := hM.below hb2
    clear c0
    refine wpIn_loop (fun a wr => ∃ (u7 u8 u18 u19 u20 u21 u22 u23 u24 u25 u26 u27 u28 u29 u30 u31 u32 u33 u34 u35 u36 u37 u38 u39 : Value) (ds : List Nat), (∃ s : Nat, s ≤ y.room.toNat + 1 ∧ u18 = .int .i64 s ∧ BfI w y (.slice ad y.ws.length cap) l (befS y l k s) wr ∧ wr.heap[wo.heap.size]? = some (.cells #[.int .i64 k] 3 (0, 0)) ∧ Mk (w.heap.size + 4) ds wr) ∧ a = ⟨(.agg (encY y (.slice ad y.ws.length cap)) :: .agg (encL l) :: .pointer (some ⟨w.heap.size, 0, none⟩) :: .pointer (some ⟨w.heap.size + 1, 0, none⟩) :: .pointer (some ⟨w.heap.size + 1 + 1, 0, none⟩) :: .pointer (some ⟨w.heap.size + 1 + 1 + 1, 0, none⟩) :: .pointer (some ⟨wo.heap.size, 0, none⟩) :: u7 :: u8 :: .pointer (some ⟨w.heap.size, 3, none⟩) :: (.slice ad y.ws.length cap) :: .int .i64 y.ws.length :: .int .i64 k :: .bool true :: .int .i64 k :: .pointer (some ⟨w.heap.size, 0, none⟩) :: .int .i64 y.room :: .int .i64 (y.room + 1) :: u18 :: u19 :: u20 :: u21 :: u22 :: u23 :: u24 :: u25 :: u26 :: u27 :: u28 :: u29 :: u30 :: u31 :: u32 :: u33 :: u34 :: u35 :: u36 :: u37 :: u38 :: u39 :: []).toArray, (ds.map mk)⟩) (fun a _ => 100 - (intOf (a.tmps.getD 18 undef)).toNat) ⟨_, _, _, _, _, _, _, _, _, _, _, _, _, _, _, _, _, _, _, _, _, _, _, _, ds, ⟨0, Nat.zero_le _, rfl, hi2, e6, hM2⟩, rfl⟩ ?_
    rintro a wr ⟨u7, u8, u18, u19, u20, u21, u22, u23, u24, u25, u26, u27, u28, u29, u30, u31, u32, u33, u34, u35, u36, u37, u38, u39, ds, hrel, rfl⟩
    clear hi2 hM2 e6 hb2 hs2 hI hM
    obtain ⟨s, hs, rfl, hI, e6, hM⟩ := hrel
    have hss := hI.be.size
    by_cases hsn : s < y.room.toNat + 1
    · have hsi : (s : Int) < y.room + 1 := by omega
      have b1 := hI.yd
      obtain ⟨e7, hb2, hs2⟩ := blk1 (w := wr) (a := .cells #[.int .i64 s] 3) rfl
      have b1' := blk_keep b1 hb2
      refine wpIn_seq_k (fun K hK => ?_)
      have HK := Lib.hid hK; clear hK
      gi_wp2
      refine HK.out _ _ ?_; clear HK K
      have hwr := lt_blk b1
      refine wpIn_seq_k (fun K hK => ?_)
      have HK := Lib.hid hK; clear hK
      gi_wp2
      refine HK.out _ _ ?_; clear HK K
      refine wpIn_seq_k (fun K hK => ?_)
      have HK := Lib.hid hK; clear hK
      refine wpIn_block ?_
      gi_wp2_with (first | (refine wpListIn_load_blk rfl 24 _ rfl _ rfl b1' Try.underlying24 rfl size24 hy4 ?_) | (gi_at_call 54; refine callsTo (orders_any y (.slice ad y.ws.length cap) _) ?_; rintro e w2 ⟨rfl, hke, hb3⟩))
      have hb4 := hb2.trans (hb3.mono hb2.size)
      have hI2 := hI.keep hb4
      have e62 := blk_keep e6 hb4
      have e72 := blk_keep e7 hb3
      have hM2 := hM.below hb4
      have hs3 := hb4.size
      have h72 := lt_blk e72
      clear b1 b1' e7 hb2 hs2 hb3 hI e6 hM
      have hor := (ordL y).length
      have hit := ord_iter (fun _ => False) (wr.heap.size + 1) (.slice ad y.ws.length cap) y ok
      have hke' : w2.heap[wr.heap.size + 1]? = some (.cells (encY y (.slice ad y.ws.length cap)) 24 (0, 0)) := by have := hke; unfold KeO at this; simpa using this
      refine wpIn_range (gf := 73) (lb := #[.pointer (some ⟨wr.heap.size + 1, 0, none⟩)]) ?hg ?eg hit ?hps
        (fun j W => W.heap[wr.heap.size + 1]? = some (.cells (encY y (.slice ad y.ws.length cap)) 24 (0, 0)) ∧ BfI w y (.slice ad y.ws.length cap) l (befS y l k s) W ∧ W.heap[wo.heap.size]? = some (.cells #[.int .i64 k] 3 (0, 0)) ∧ W.heap[wr.heap.size]? = some (.cells #[.int .i64 s] 3 (0, 0)) ∧ Mk (w.heap.size + 4) ds W ∧ ((ordL y).take j).any (leadsB y l s k) = false)
        (fun c W => c = .exit 4 ∧ BfI w y (.slice ad y.ws.length cap) l (befS y l k (s + 1)) W ∧ W.heap[wo.heap.size]? = some (.cells #[.int .i64 k] 3 (0, 0)) ∧ Mk (w.heap.size + 4) ds W) ?hK ?sI ?sIx ?h0 ?round ?done ?stop
      case hg => rfl
      case eg => exact (enters_of Try.func73 (by kernel_rfl) rfl)
      case hps => intro z hz; simp [ordY] at hz; obtain ⟨i, _, rfl⟩ := hz; rfl
      case hK => exact fun j W h => h.1
      case sI => exact fun j => Stb.cells.and ((BfI.stb (by omega)).and (Stb.cells.and (Stb.cells.and ((hM2.stb (Nat.le_refl _)).and Stb.pure))))
      case sIx => exact fun c => Stb.pure.and ((BfI.stb (by omega)).and (Stb.cells.and (hM2.stb (Nat.le_refl _))))
      case h0 => exact ⟨hke', hI2, e62, e72, hM2, by simp⟩
      case stop =>
        rintro c W ⟨rfl, hI3, e63, hM3⟩ hD
        refine wpIn_exit ?_
        simp only [Exit.inBlock, if_true]
        refine HK.out _ _ ?_; clear HK
        have hM4 := hM2.cons hM3 rfl (by have := lt_blk hI2.ot; omega) hD
        clear hit hke' hke hI2 hM2 hM3 hD
        gi_wp2
        refine ⟨⟨_, _, _, _, _, _, _, _, _, _, _, _, _, _, _, _, _, _, _, _, _, _, _, _, (w2.heap.size :: ds), ⟨s + 1, by omega, by go_num, hI3, e63, hM4⟩, rfl⟩, by simp [intOf]; omega⟩
      case done =>
        rintro W ⟨-, hI3, e63, -, hM3, hno⟩ hD
        have hst : stB y l k s = false := by rw [List.take_of_length_le (by simp [ordY])] at hno; exact hno
        rw [befS_no y l hst] at hI3
        simp only [Exit.inBlock]
        refine HK.out _ _ ?_; clear HK
        have hM4 := hM2.cons hM3 rfl (by have := lt_blk hI2.ot; omega) hD
        clear hit hke' hke hI2 hM2 hM3 hD hno hst
        gi_wp2
        refine ⟨⟨_, _, _, _, _, _, _, _, _, _, _, _, _, _, _, _, _, _, _, _, _, _, _, _, (w2.heap.size :: ds), ⟨s + 1, by omega, by go_num, hI3, e63, hM4⟩, rfl⟩, by simp [intOf]; omega⟩
      case round =>
        rintro j hj l2 W hq
        have hj' : j < (ordL y).length := by simpa [ordY] using hj
        have hjc : j < ordC y := by simpa [ordL] using hj'
        have hyk : (ordY y)[j] = #[.int .i64 (ordL y)[j]] := by simp [ordY]
        have hov : (ordL y)[j] = (j : Int) * y.lots := by simp [ordL]
        have hob := ord_bound ok (k := j) (by omega)
        rw [← hov] at hob
        have hts : ((ordL y).take (j + 1)).any (leadsB y l s k) = (((ordL y).take j).any (leadsB y l s k) || leadsB y l s k (ordL y)[j]) := by rw [List.take_succ_eq_append_getElem hj', List.any_append]; simp
        have hyes : leadsB y l s k (ordL y)[j] = true → stB y l k s = true := fun h => List.any_eq_true.2 ⟨_, List.getElem_mem hj', h⟩
        rw [hyk]
        generalize (ordL y)[j] = o at *
        have HT := Lib.hid (And.intro hts hyes)
        have HQ := Lib.hid hq
        clear hyk hts hyes hov hq hit hke hke' hI2 e62 e72 hb4 hj hj' hjc HK
        simp only [List.zip_toArray, List.zip_cons_cons, List.zip_nil_right, List.foldl_toArray', List.size_toArray, List.length_cons, List.length_nil, List.foldl_cons, List.foldl_nil, List.setIfInBounds_toArray, List.set_cons_succ, List.set_cons_zero]
        gi_wp2
        refine ⟨Kx.refl _ _ _, fun W => W.heap[wr.heap.size + 1]? = some (.cells (encY y (.slice ad y.ws.length cap)) 24 (0, 0)) ∧ BfI w y (.slice ad y.ws.length cap) l (befS y l k s) W ∧ W.heap[wo.heap.size]? = some (.cells #[.int .i64 k] 3 (0, 0)) ∧ W.heap[wr.heap.size]? = some (.cells #[.int .i64 s] 3 (0, 0)) ∧ Mk (w.heap.size + 4) ds W ∧ ((ordL y).take j).any (leadsB y l s k) = false,
          Stb.cells.and ((BfI.stb (by omega)).and (Stb.cells.and (Stb.cells.and ((hM2.stb (Nat.le_refl _)).and Stb.pure)))), HQ.out, ?_⟩
        clear HQ
        rintro V - ⟨q1, q2, q3, q4, q5, q6⟩
        have HQ6 := Lib.hid q6
        have hs60 : s ≤ 60 := by omega
        have hld := leads_any y (.slice ad y.ws.length cap) l s k o V ok hl hkn (by omega) hob (hw0.below q2.be (Nat.le_refl _))
        generalize leadsB y l s k o = lb at *
        clear q6
        have d1 := cell_blk (i := 0) q3
        have d2 := cell_blk (i := 0) q4
        simp only [List.getElem?_toArray, List.getElem?_cons_zero] at d1 d2
        refine wpIn_block ?_
        refine wpIn_seq_k (fun K hK => ?_)
        have HK := Lib.hid hK; clear hK
        gi_wp2_with (first | (refine wpListIn_load_blk rfl 24 _ rfl _ rfl q2.yd Try.underlying24 rfl size24 hy4 ?_) | (refine wpListIn_load_blk rfl 110 _ rfl _ rfl q2.ly Try.underlying110 rfl size110 hl4 ?_) | (gi_at_call 55; refine callsTo hld ?_; rintro e V2 ⟨rfl, hbV⟩))
        refine HK.out _ _ ?_; clear HK
        replace q1 := blk_keep q1 hbV
        replace q2 := q2.keep hbV
        replace q3 := blk_keep q3 hbV
        replace q4 := blk_keep q4 hbV
        replace q5 := q5.below hbV
        clear d1 d2 hld
        obtain ⟨t1, t2⟩ := HT.out
        cases lb
        · have hno : ((ordL y).take (j + 1)).any (leadsB y l s k) = false := by rw [t1, HQ6.out]; rfl
          have HNO := Lib.hid hno
          clear t1 t2 hno HT
          refine wpIn_cond (t := false) rfl ?_
          simp only [Bool.false_eq_true, if_false]
          gi_wp2
          exact ⟨Kx.below hbV, q1, q2, q3, q4, q5, HNO.out⟩
        · have hst := Lib.hid (t2 rfl)
          clear t1 t2 HT
          refine wpIn_cond (t := true) rfl ?_
          simp only [if_true]
          have hk4 : k < 4 := by omega
          have hbl := bw_lt (stB y l k) s
          have d1 := cell_blk (i := 0) q3
          have d2 := cell_blk (i := 0) q4
          have d3 := (cell_blk (i := k) q2.ot).trans (encL_get (by rw [befS_len]; exact hk4))
          have f3 := free_blk (i := k) q2.ot
          simp only [List.getElem?_toArray, List.getElem?_cons_zero] at d1 d2
          have hx : (befS y l k s).getD k 0 = bw (stB y l k) s := by rw [List.getD_eq_getElem?_getD, befS_get y l s hk4]; rfl
          rw [hx] at d3
          have hyes := befS_yes y l hst.out
          have HYES := Lib.hid hyes
          generalize bw (stB y l k) s = x at *
          clear hx hyes hst
          have hi0 : (0 : Int) ≤ (k : Int) := by omega
          have hi4 : (k : Int) < 4 := by omega
          refine wpIn_seq_k (fun K hK => ?_)
          have HK := Lib.hid hK; clear hK
          refine wpIn_region_tail 7 (by kernel_rfl) (by kernel_rfl) (by kernel_rfl) (fun ⟨_, _, h⟩ => h) ?_
          simp only [List.take_succ_cons, List.take_zero, List.drop_succ_cons, List.drop_zero]
          repeat still_step
          refine wpStill_nil ?_
          rw [or_val hbl hs60]
          go_wp2
          refine HK.out _ _ ?_; clear HK
          refine wpIn_exit ?_
          simp only [Exit.inBlock]
          rw [if_neg (by decide)]
          refine ⟨(Kx.below hbV).trans (Kx.drew (Kx.setCell q2.ot (fun h => h))), rfl, ?_, (heap_set_other (by omega)).trans q3, (q5.set q2.ot).drew⟩
          have := q2.put k (x ||| 2 ^ s)
          rwa [HYES.out] at this
    · have hse : s = y.room.toNat + 1 := by omega
      have hsi : ¬ (s : Int) < y.room + 1 := by omega
      rw [hse, befS_end y l hkn] at hI
      clear hse
      gi_wp2
      refine ⟨⟨_, _, _, _, _, _, _, _, _, _, _, _, _, _, _, _, _, _, _, _, _, _, _, _, _, _, _, _, _, _, _, ds, ⟨k + 1, by omega, by go_num, hI, hM⟩, (by first | rfl | (and_intros <;> rfl))⟩, by simp [intOf]; omega⟩
  · have hke : k = y.ws.length := by omega
    rw [hke, befM_end] at hI
    have h5 := hI.ot
    obtain ⟨cs, hcs, h4⟩ := hI.rs
    have hb4 : (encL (bef y l)).size = 4 := by rw [encL_size, bef_len]
    have hcs4 : (encL cs).size = 4 := by rw [encL_size, hcs]
    clear hke
    gi_wp2
    refine HK.out _ _ ?_; clear HK
    gi_wp2_with (first | (refine wpListIn_load_blk rfl 110 _ rfl _ rfl h5 Try.underlying110 rfl size110 hb4 ?_) | (refine wpListIn_store_blk rfl 110 _ _ rfl _ rfl rfl h4 size110 hb4 hcs4 (encL_one _) ?_))
    refine leaves_marks ds _ (hM.put h4) (fun w' h1 h2 => ⟨_, results_blk rfl _ _ (w.heap.size + 1 + 1) rfl (h2 _ _ _ _ (World.putObj_heap_same (lt_blk h4))) Try.underlying110 rfl size110 hb4, rfl, ?_⟩)
    exact (below_putObj hI.be (by omega)).trans (h1.mono (by omega))
end Ytndmjginmomfiaa
end Go.Proofs
