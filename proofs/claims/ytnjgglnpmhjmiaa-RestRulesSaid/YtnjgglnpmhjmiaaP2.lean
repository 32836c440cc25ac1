/- Laws of rotation: the walk over a system of pairs. -/
import Derived.Test.YtnjgglnpmhjmiaaP1
open Go Go.RowKit Go.YtnjgglnpmhjmiaaIt
open Rest
namespace Go.Proofs
namespace Ytnjgglnpmhjmiaa
structure KeyP (p : Prop) : Prop where
 out : p
theorem after_dropP {x : RSys P2} {L : List (P2 × List Nat)} (h : Walk x L) {j : Nat} (hj : j < L.length) : (after x j).drop j = L[j] :: (after x j).drop (j + 1) := by
 have h1 := h.lt hj
 rw [List.drop_eq_getElem_cons h1]
 congr 1
 have := h.at_ hj
 rw [List.getElem?_eq_getElem h1] at this
 exact Option.some.inj this
theorem after_dropP_end {x : RSys P2} {L : List (P2 × List Nat)} (h : Walk x L) : (after x L.length).drop L.length = [] := by rw [h.all]; exact List.drop_length
theorem stop_lookup {P : Program} {ops : Array Oper} {Q : Exit → Act → World → Prop} {o : Oper} {rest : List Oper} {a : Act} {w : World} {t : TypeId} {m k : Operand} {ok : Bool} (_ho : o.op = .lookup t m k ok) (h : BoxP (wpList P ops Q (o :: rest) a w)) : wpList P ops Q (o :: rest) a w := h.out
set_option maxRecDepth 100000 in
set_option maxHeartbeats 8000000 in
theorem walkP_iter {x : RSys P2} {ok : P2 → Prop} {fN fG : Nat} {lN lG : Array Value} {B : Nat} {W0 : World} {b1 : Nat} {L : List (P2 × List Nat)} (hM : SysP x ok fN fG lN lG B W0)
  (eN : ∀ args w, (callFunc fN args).run Try.prog w = .ok (.enter fN args) w) (hL : Walk x L) (hlen : L.length ≤ 5000) :
  IterS Try.prog 108 #[.pointer (some ⟨b1, 0, none⟩)] L.length (YWP L) (fun W => Below B W0 W ∧ W.heap[b1]? = some (.cells (sysVP x fN fG lN lG) 108 (0, 0))) := by
 intro l W J Jx hK sJ sJx hY h0
 obtain ⟨-, d1⟩ := hK 0 _ W h0
 have HK := Lib.hid hK
 have HY := Lib.hid hY
 have HSJ := Lib.hid sJ
 have HSX := Lib.hid sJx
 have HM := Lib.hid hM
 have HL := Lib.hid hL
 clear hK hY sJ sJx hL hM
 have e1 := cell_blk (i := 1) d1
 have e1b := cell_blk (i := 2) d1
 simp only [List.getElem?_toArray, List.getElem?_cons_zero, List.getElem?_cons_succ] at e1 e1b
 refine callsFw.1 (callsIn_of_wp (F := fw none) (n := 0) Try.func108 rfl trivial ?_)
 simp only [Try.ntmps108, List.size_toArray, List.length_cons, List.length_nil, Nat.reduceAdd, Nat.reduceSub, Array.replicate_succ, Array.replicate_zero, List.push_toArray, List.append_toArray, List.nil_append, List.cons_append]
 have hmm := @run_makeMap Try.prog
 have hltb := lt_blk d1
 have hneb : b1 ≠ W.heap.size := by omega
 have hst := HM.out.bd _ HM.out.st
 obtain ⟨o, hins, hmap⟩ := (mapF_new encP W 0).update (P := Try.prog) (t := 149) (k := 104) (e := 4) keyed104 Try.underlying149 encP_inj (fun s v h => by cases h) (keyPr hst) (.bool true)
 have HMAP := Lib.hid hmap
 clear hmap
 refine wpIn_seq_k (fun K hK => ?_)
 have HK1 := Lib.hid hK; clear hK
 gi_wp2
 refine HK1.out _ _ ?_; clear HK1
 obtain ⟨w1, hw1⟩ : ∃ q, q = (W.alloc (.map #[] 0)).putObj W.heap.size o := ⟨_, rfl⟩
 rw [← hw1] at HMAP ⊢
 have hb1' : Below W.heap.size W w1 := by rw [hw1]; exact below_putObj ((Below.refl _ _).alloc (Nat.le_refl _) _) (Nat.le_refl _)
 have hz1 : W.heap.size + 1 ≤ w1.heap.size := by rw [hw1]; simp
 obtain ⟨gm, hgm⟩ : ∃ g, g = W.heap.size := ⟨_, rfl⟩
 rw [← hgm] at HMAP ⊢
 have HGM := Lib.hid hgm
 clear hw1 hins hgm
 have d1' := blk_keep d1 hb1'
 have e1' := cell_blk (i := 1) d1'
 have e1b' := cell_blk (i := 2) d1'
 simp only [List.getElem?_toArray, List.getElem?_cons_zero, List.getElem?_cons_succ] at e1' e1b'
 clear d1 e1 e1b hneb hltb
 refine wpIn_seq_k (fun K hK => ?_)
 have HK1 := Lib.hid hK; clear hK
 gi_wp2
 refine HK1.out _ _ ?_; clear HK1
 obtain ⟨w2, hw2⟩ : ∃ q, q = w1.alloc (.cells #[.int .i64 x.start.1, .int .i64 x.start.2, .slice none 0 0] 151) := ⟨_, rfl⟩
 rw [← hw2]
 have bO : w2.heap[w1.heap.size]? = some (.cells #[.int .i64 x.start.1, .int .i64 x.start.2, .slice none 0 0] 151 (0, 0)) := by rw [hw2]; exact heap_newI rfl
 have hb2' : Below w1.heap.size w1 w2 := by rw [hw2]; exact (Below.refl _ _).alloc (Nat.le_refl _) _
 have hz2 := hb2'.size
 have hJ2 : J 0 (fun _ => False) w2 := HSJ.out 0 _ _ _ _ (fun _ h => h) ((GrS.below hb1').trans (GrS.below hb2')) h0
 have hmap2 : MapF encP w2 gm (after x 0).length (FmP (after x 0)) := (HMAP.out.below hb2').congr (fun s => by
  simp only [after, FmP, updF, List.map_cons, List.map_nil, List.mem_singleton])
 have hop2 : OpP (fun _ => False) w2 W.heap.size w1.heap.size (.slice (some ⟨w1.heap.size, 0, none⟩) 1 1) ((after x 0).drop 0) :=
  ⟨[.slice none 0 0], rfl, ⟨0, 1, _, rfl, by omega, bO, Nat.le_refl _, Nat.le_refl _, rfl, fun j _ => by simp [cellsP, after]⟩, fun h => h, fun i hi hi' => by
   have : i = 0 := by simpa [after] using hi
   subst this
   exact Yr.nil _ _ _⟩
 have HI2 := Lib.hid (And.intro hJ2 (And.intro hmap2 hop2))
 clear hJ2 hmap2 hop2 bO hw2 HMAP h0 d1' e1' e1b'
 gi_wp2
 gi_loopw [4] (fun v wr => ∃ (j : Nat) (S : Nat → Prop) (go : Nat), j ≤ L.length ∧ Hid (J j S wr ∧ (∀ i, S i → W.heap.size ≤ i ∧ i < wr.heap.size) ∧ MapF encP wr gm (after x j).length (FmP (after x j)) ∧ ¬ S gm ∧ OpP S wr W.heap.size go v ((after x j).drop j)) ∧ W.heap.size ≤ wr.heap.size) (fun v wr => L.length - (mapSz wr gm - lenSl v))
 case atStart => exact ⟨0, _, _, Nat.zero_le _, Lib.hid ⟨HI2.out.1, fun _ h => h.elim, HI2.out.2.1, fun h => h, HI2.out.2.2⟩, by omega⟩
 case round =>
  obtain ⟨j, S, go, hj, HI, hsz⟩ := hrel
  obtain ⟨off, cap, hv⟩ := HI.out.2.2.2.2.form
  subst hv
  by_cases hjn : j < L.length
  ·have hdr := after_dropP HL.out hjn
   obtain ⟨p, hp⟩ : ∃ p, p = L[j] := ⟨_, rfl⟩
   obtain ⟨rest, hrest⟩ : ∃ r, r = (after x j).drop (j + 1) := ⟨_, rfl⟩
   rw [← hp, ← hrest] at hdr
   obtain ⟨hJ, hS, hMap, hgS, hOp⟩ := HI.out
   rw [hdr] at hOp ⊢
   obtain ⟨vy, c0, c1, c2, hyr⟩ := hOp.head
   obtain ⟨n, hn⟩ : ∃ n, n = (p :: rest).length := ⟨_, rfl⟩
   rw [← hn]
   have hn0 : 0 < n := by rw [hn]; simp
   have hni : (0 : Int) < (n : Int) := by omega
   have hms : mapSz wr gm - n = j := by
    have h1 := HL.out.lt hjn
    rw [mapSz_of hMap, hn, ← hdr, List.length_drop]; omega
   have HMS := Lib.hid hms
   clear hms
   have HHN := Lib.hid hn
   have HJ := Lib.hid hJ
   have HOP := Lib.hid hOp
   have HMP := Lib.hid hMap
   have HDR := Lib.hid hdr
   have HPP := Lib.hid hp
   have HRE := Lib.hid hrest
   have HYR := Lib.hid hyr
   obtain ⟨ay, cy, rfl, -, -, -⟩ := id hyr.1
   clear HI hJ hMap hOp hdr hn hp hrest hyr
   have lz1 : W.heap.size ≤ w1.heap.size := by omega
   gi_wp2
   rename_i K2 hK2
   have HK2 := Lib.hid hK2; clear hK2
   obtain ⟨w5, hw5⟩ : ∃ q, q = wr.alloc (.cells #[.int .i64 p.1.1, .int .i64 p.1.2, .slice ay p.2.length cy] 151) := ⟨_, rfl⟩
   have bp : w5.heap[wr.heap.size]? = some (.cells #[.int .i64 p.1.1, .int .i64 p.1.2, .slice ay p.2.length cy] 151 (0, 0)) := by rw [hw5]; exact heap_newI rfl
   have hb5 : Below wr.heap.size wr w5 := by rw [hw5]; exact (Below.refl _ _).alloc (Nat.le_refl _) _
   rw [show (p.2.map fun (i : Nat) => (i : Int)).length = p.2.length from List.length_map ..] at *
   rw [← hw5]
   clear hw5 c0 c1 c2
   have lp := lt_blk bp
   have hz5 := hb5.size
   have hJ5 : J j S w5 := HSJ.out j _ _ _ _ (fun _ h => h) (GrS.below hb5) HJ.out
   have hS5 : ∀ i, S i → W.heap.size ≤ i ∧ i < w5.heap.size := fun i h => by have := hS i h; omega
   have hgpS : ¬ S wr.heap.size := fun h => by have := (hS _ h).2; omega
   have HJ5 := Lib.hid (And.intro hJ5 hS5)
   have HOP0 := HOP
   replace HOP := Lib.hid (HOP.out.below hb5)
   replace HMP := Lib.hid (HMP.out.below hb5)
   replace HYR := Lib.hid (HYR.out.keep hb5.size (fun g _ _ _ hl _ _ => hb5.block g hl) (fun _ _ h => h))
   have p0 := cell_blk (i := 0) bp
   have p0b := cell_blk (i := 1) bp
   have p1 := cell_blk (i := 2) bp
   simp only [List.getElem?_toArray, List.getElem?_cons_zero, List.getElem?_cons_succ] at p0 p0b p1
   have hgogp : go ≠ wr.heap.size := by
    obtain ⟨_, _, h2, _, _⟩ := HOP0.out
    exact Nat.ne_of_lt h2.lt
   clear HJ hJ5 hS hS5 hb5 HOP0
   generalize wr.heap.size = gp at *
   have hlj : p.2.length ≤ 10000 := by
    have h1 := after_word x L.length j (by rw [HL.out.all]; exact hjn)
    simp only [HL.out.all] at h1
    rw [← HPP.out] at h1
    omega
   have hS0 : Below w5.heap.size w5 w5.drew := (Below.refl _ _).drew
   have hyl := (HYR.out.1.below hS0 (Nat.le_refl _))
   have hcl := clone_any _ (nI p.2) w5.drew hyl (by rw [List.length_map]; exact hlj)
   have HCL := Lib.hid hcl
   clear hcl hyl
   refine wpIn_region_w (R := fun U => U.heap[gp]? = some (.cells #[.int .i64 p.1.1, .int .i64 p.1.2, .slice ay p.2.length cy] 151 (0, 0))) (S := fun _ => True) (z := 999) rfl ?_
   refine wpAnyW_keep (i := 0) (oi := ⟨some 24, _, _, _, _, none⟩) (v := ?_) rfl (by kernel_rfl) (by kernel_rfl) (by kernel_rfl) (fun _ _ _ h => h) (Or.inl ⟨by rfl, ?_⟩) ⟨bp, fun _ => trivial⟩ ?_
   rotate_left
   ·intro U hU
    go_simp
    all_goals with_reducible rfl
   simp only [putE]
   refine wpAnyW_keep (i := 1) (oi := ⟨some 25, _, _, _, _, none⟩) (v := ?_) rfl (by kernel_rfl) (by kernel_rfl) (by kernel_rfl) (fun _ _ _ h => h) (Or.inl ⟨by rfl, ?_⟩) ⟨bp, fun _ => trivial⟩ ?_
   rotate_left
   ·intro U hU
    go_simp
    all_goals with_reducible rfl
   simp only [putE]
   refine wpAnyW_keep (i := 2) (oi := ⟨some 26, _, _, _, _, none⟩) (v := ?_) rfl (by kernel_rfl) (by kernel_rfl) (by kernel_rfl) (fun _ _ _ h => h) (Or.inl ⟨by rfl, ?_⟩) ⟨bp, fun _ => trivial⟩ ?_
   rotate_left
   ·intro U hU
    have u0 := cell_blk (i := 0) hU
    have u0b := cell_blk (i := 1) hU
    simp only [List.getElem?_toArray, List.getElem?_cons_zero, List.getElem?_cons_succ] at u0 u0b
    go_simp
    all_goals with_reducible rfl
   simp only [putE]
   refine wpAnyW_keep (i := 3) (oi := ⟨some 27, _, _, _, _, none⟩) (v := ?_) rfl (by kernel_rfl) (by kernel_rfl) (by kernel_rfl) (fun _ _ _ h => h) (Or.inl ⟨by rfl, ?_⟩) ⟨bp, fun _ => trivial⟩ ?_
   rotate_left
   ·intro U hU
    go_simp
    all_goals with_reducible rfl
   simp only [putE]
   refine wpAnyW_keep (i := 4) (oi := ⟨some 28, _, _, _, _, none⟩) (v := ?_) rfl (by kernel_rfl) (by kernel_rfl) (by kernel_rfl) (fun _ _ _ h => h) (Or.inl ⟨by rfl, ?_⟩) ⟨bp, fun _ => trivial⟩ ?_
   rotate_left
   ·intro U hU
    have u0 := cell_blk (i := 2) hU
    simp only [List.getElem?_toArray, List.getElem?_cons_zero, List.getElem?_cons_succ] at u0
    go_simp
    all_goals with_reducible rfl
   simp only [putE]
   refine wpAnyW_one (i := 5) (o := ⟨some 29, _, _, _, _, none⟩) (by kernel_rfl) rfl (by rfl) (fun K1 hK1 => ?_)
   have HK1' := Lib.hid hK1; clear hK1
   refine operIn_call (f := 106) (xs := #[.tmp 28]) (ts := _) rfl (enters_of Try.func106 (by kernel_rfl) rfl) rfl HCL.out ?_
   rintro vc w6 ⟨hvc, hgc, hb6⟩
   have hS6 : Below w5.heap.size w5 w6 := btr (Below.refl _ w5).drew hb6 (Nat.le_refl _)
   have bp6 := blk_keep bp hS6
   refine HK1'.out _ _ ⟨bp6, fun _ => trivial⟩ ?_
   clear HK1'
   try simp only [putE]
   obtain ⟨S1, hS1e⟩ : ∃ q, q = ext S w5.heap.size w6.heap.size := ⟨_, rfl⟩
   have hz6 := hS6.size
   have hsub : ∀ i, S i → S1 i := fun i h => by rw [hS1e]; exact .inl h
   have hJ6 : J j S w6 := HSJ.out j _ _ _ _ (fun _ h => h) (GrS.below hS6) HJ5.out.1
   have hS1 : ∀ i, S1 i → W.heap.size ≤ i ∧ i < w6.heap.size := fun i h => by
    rw [hS1e] at h
    rcases h with h | h
    ·have := HJ5.out.2 i h; omega
    ·omega
   have hnS1 : ∀ g, g < w5.heap.size → ¬ S g → ¬ S1 g := fun g hl hn h => by
    rw [hS1e] at h
    rcases h with h | h
    ·exact hn h
    ·omega
   have hYWP : YWP L j S S1 w6 #[encP p.1, vc] := ⟨p.1, p.2, vc, by rw [HPP.out, List.getElem?_eq_getElem hjn], rfl, hvc, fun g off n c e => by
    rw [hS1e]
    exact ⟨.inr (hgc g off n c e), fun h => by have h1 := (HJ5.out.2 g h).2; have h2 : w5.heap.size ≤ g := (hgc g off n c e).1; omega⟩⟩
   have hy := HY.out j hjn S S1 w6 _ (by omega) hS1 hsub hJ6 hYWP
   have hy2 : YieldAt Fence.wide 0 Try.prog l #[encP p.1, vc] w6 fun e W' => ∃ v, e = .returned v ∧ ((v = .bool true ∧ J (j + 1) (ext S1 w6.heap.size W'.heap.size) W') ∨ (v = .bool false ∧ Jx (ext S1 w6.heap.size W'.heap.size) W')) ∧ KxS W.heap.size S1 w6 W' := hy.mono (by
    rintro e W' (⟨rfl, h1, h2⟩ | ⟨rfl, h1, h2⟩)
    ·exact ⟨_, rfl, .inl ⟨rfl, h1⟩, h2⟩
    ·exact ⟨_, rfl, .inr ⟨rfl, h1⟩, h2⟩)
   replace HOP := Lib.hid (HOP.out.keep hS6.size (fun g _ hl _ => hS6.block g hl) hnS1)
   replace HMP := Lib.hid (HMP.out.below hS6)
   replace HYR := Lib.hid (HYR.out.keep hS6.size (fun g _ _ _ hl _ _ => hS6.block g hl) hnS1)
   have hgmS := hnS1 gm (by have := HMP.out.lt; have := HGM.out; omega) hgS
   have hgpS1 := hnS1 gp lp hgpS
   have HY2 := Lib.hid hy2
   have HS1 := Lib.hid hS1
   clear hy hy2 hYWP hJ6 hsub hnS1 hgS hgpS hvc hgc hS1e hS1 HJ5 HCL
   refine wpAnyW_one (i := 6) (o := ⟨some 30, _, _, _, _, none⟩) (by kernel_rfl) rfl (by rfl) (fun K1 hK1 => ?_)
   have HK1' := Lib.hid hK1; clear hK1
   refine operIn_yield (c := .tmp 24) (xs := #[.tmp 26, .tmp 29]) (ts := _) rfl rfl rfl HY2.out ?_
   rintro yv w7 ⟨hyv, hKx⟩
   have bp7 := (hKx.same gp (by have := HGM.out; omega) (lt_blk bp6) hgpS1).trans bp6
   refine HK1'.out _ _ ⟨bp7, fun _ => trivial⟩ ?_
   clear HK1' HY2
   try simp only [putE]
   obtain ⟨S7, hS7e⟩ : ∃ q, q = ext S1 w6.heap.size w7.heap.size := ⟨_, rfl⟩
   rw [← hS7e] at hyv
   have hz7 := hKx.size
   have hW7 : W.heap.size ≤ w7.heap.size := by omega
   have hS7 : ∀ i, S7 i → W.heap.size ≤ i ∧ i < w7.heap.size := fun i h => by
    rw [hS7e] at h
    rcases h with h | h
    ·have := HS1.out i h; omega
    ·omega
   have hnS7 : ∀ g, g < w6.heap.size → ¬ S1 g → ¬ S7 g := fun g hl hn h => by
    rw [hS7e] at h
    rcases h with h | h
    ·exact hn h
    ·omega
   rcases hyv with ⟨rfl, hJ7⟩ | ⟨rfl, hx7⟩
   ·refine wpAnyW_keep (i := 7) (oi := ⟨some 31, _, _, _, _, none⟩) (v := ?_) rfl (by kernel_rfl) (by kernel_rfl) (by kernel_rfl) (fun _ _ _ h => h) (Or.inl ⟨by rfl, ?_⟩) ⟨bp7, fun _ => trivial⟩ ?_
    rotate_left
    ·intro U hU
     go_simp
     all_goals with_reducible rfl
    simp only [putE]
    refine wpAnyW_done (by kernel_rfl) ?_ _
    have hgm7 := hnS7 gm HMP.out.lt hgmS
    have hgp7 := hnS7 gp (lt_blk bp6) hgpS1
    rename_i K3 hK3 _
    have HK3 := Lib.hid hK3; clear hK3
    refine HK2.out _ _ ?_; clear HK2
    replace HOP := Lib.hid (HOP.out.keep hz7 (fun g h1 h2 h3 => hKx.same g h1 h2 h3) hnS7)
    replace HMP := Lib.hid (HMP.out.keep (hKx.same gm (Nat.le_of_eq HGM.out.symm) HMP.out.lt hgmS))
    replace HYR := Lib.hid (HYR.out.keep hz7 (fun g _ _ h1 h2 h3 _ => hKx.same g h1 h2 h3) hnS7)
    clear hgmS hgpS1 HS1 hKx hnS7 hS7e bp bp6 hS6 hz6 hz5 hS0 lp p0 p0b p1
    have hkB := HK.out _ _ _ hJ7
    have HJ7 := Lib.hid (And.intro hJ7 hS7)
    clear hJ7 hS7
    gi_wp2
    refine HK3.out _ _ ?_; clear HK3
    refine wpIn_of_wp ?_
    have hk1 := hkB.2
    have q0 := cell_blk (i := 0) hk1
    simp only [List.getElem?_toArray, List.getElem?_cons_zero] at q0
    refine wp_seq_k (fun K hK => ?_)
    have HK4 := Lib.hid hK; clear hK
    go_wp2
    refine HK4.out _ _ ?_; clear HK4
    have hokp : ok p.1 := after_ind x (fun p => ok p.1) HM.out.st (fun q c h hc => HM.out.cl q.1 c h hc) L.length p (by rw [HL.out.all, HPP.out]; exact List.getElem_mem hjn)
    have hI0 : J (j + 1) S7 w7 ∧ MapF encP w7 gm (tryN x p (after x j) 0).length (FmP (tryN x p (after x j) 0)) ∧ OpP S7 w7 W.heap.size go (.slice (some ⟨go, off, none⟩) n cap) ((tryN x p (after x j) 0).drop j) ∧ w7.heap[gp]? = some (.cells #[.int .i64 p.1.1, .int .i64 p.1.2, .slice ay p.2.length cy] 151 (0, 0)) ∧ Yr S7 w7 W.heap.size (.slice ay p.2.length cy) p.2 := ⟨HJ7.out.1, HMP.out, by rw [tryN_zero, HDR.out, HHN.out]; exact HOP.out, bp7, HYR.out⟩
    have HI0 := Lib.hid hI0
    clear hI0 hkB hk1 q0 bp7 HOP HMP HYR
    go_wp2
    go_loopw [4, 34] (fun v i wq => ∃ (c go' : Nat), c ≤ x.k ∧ i = .int .i64 c ∧ go' ≠ gp ∧ Hid (J (j + 1) S7 wq ∧ MapF encP wq gm (tryN x p (after x j) c).length (FmP (tryN x p (after x j) c)) ∧ OpP S7 wq W.heap.size go' v ((tryN x p (after x j) c).drop j) ∧ wq.heap[gp]? = some (.cells #[.int .i64 p.1.1, .int .i64 p.1.2, .slice ay p.2.length cy] 151 (0, 0)) ∧ Yr S7 wq W.heap.size (.slice ay p.2.length cy) p.2) ∧ w7.heap.size ≤ wq.heap.size) (fun _ i _ => x.k - (intOf i).toNat)
    case atStart => exact ⟨0, go, Nat.zero_le _, rfl, hgogp, HI0, Nat.le_refl _⟩
    case round =>
     clear HI0
     obtain ⟨c, go', hc, rfl, hgop, HI, hzq⟩ := hrel
     obtain ⟨hkB, hk1⟩ := HK.out _ _ _ HI.out.1
     have q2 := cell_blk (i := 3) hk1
     simp only [List.getElem?_toArray, List.getElem?_cons_zero, List.getElem?_cons_succ] at q2
     by_cases hck : c < x.k
     ·have hci : (c : Int) < (x.k : Int) := by omega
      have hk4 := HM.out.k4
      have hnx := HM.out.nx wr hkB p.1 c hokp hck
      have HNX := Lib.hid hnx
      obtain ⟨off', cap', hv'⟩ := HI.out.2.2.1.form
      subst hv'
      have g0 := cell_blk (i := 0) HI.out.2.2.2.1
      have g0b := cell_blk (i := 1) HI.out.2.2.2.1
      simp only [List.getElem?_toArray, List.getElem?_cons_zero, List.getElem?_cons_succ] at g0 g0b
      clear hnx hk1
      go_wp2
      refine HNX.out.mono ?_
      rintro e wc ⟨rfl, hbc⟩
      obtain ⟨sn, hsn⟩ : ∃ q, q = x.nx p.1 c := ⟨_, rfl⟩
      simp only
      rw [← hsn]
      have HSN0 := Lib.hid hsn
      clear hsn
      go_wp2_with (refine stop_lookup rfl ?_)
      refine ⟨?_⟩
      have hsn := HSN0.out
      obtain ⟨w9, hw9⟩ : ∃ q, q = wc.alloc (.cells #[.int .i64 sn.1, .int .i64 sn.2] 104) := ⟨_, rfl⟩
      have hb9 : Below wr.heap.size wr w9 := by rw [hw9]; exact hbc.alloc hbc.size _
      have b7 : w9.heap[wc.heap.size]? = some (.cells #[.int .i64 sn.1, .int .i64 sn.2] 104 (0, 0)) := by rw [hw9]; exact heap_newI rfl
      rw [← hw9]
      have hg7r : wr.heap.size ≤ wc.heap.size := hbc.size
      obtain ⟨g7, hg7⟩ : ∃ q, q = wc.heap.size := ⟨_, rfl⟩
      rw [← hg7] at b7 hg7r ⊢
      clear hw9 hg7 hbc
      have hokn : ok sn := by rw [hsn]; exact HM.out.cl _ _ hokp hck
      have HSN := Lib.hid hsn
      obtain ⟨T, hT⟩ : ∃ T, T = tryN x p (after x j) c := ⟨_, rfl⟩
      have hTok : ∀ s ∈ T.map Prod.fst, ok s := fun s hs => by
       obtain ⟨q, hq, rfl⟩ := List.mem_map.1 hs
       refine after_ind x (fun p => ok p.1) HM.out.st (fun q c h hc => HM.out.cl q.1 c h hc) (j + 1) q ?_
       rw [HL.out.next hjn, ← HPP.out]
       exact (tryN_mono x p _ (Nat.le_of_lt hck)).subset (hT ▸ hq)
      have hTs : tryN x p (after x j) (c + 1) = if sn ∈ T.map Prod.fst then T else T ++ [(sn, p.2 ++ [c])] := by rw [tryN_succ, ← hT]; unfold tryC; rw [← hsn]; by_cases h : sn ∈ T.map Prod.fst; (rw [if_pos h, if_pos h]); (rw [if_neg h, if_neg h])
      have hTlj : j ≤ T.length := by
       rw [hT]
       exact Nat.le_trans (Nat.le_of_lt (HL.out.lt hjn)) (tryN_pre x p _ c).length_le
      have hTl : T.length ≤ 5000 := by
       have h1 := (tryN_mono x p (after x j) (Nat.le_of_lt hck)).length_le
       rw [← hT, HPP.out, ← HL.out.next hjn] at h1
       have h2 := after_len x (show j + 1 ≤ L.length by omega)
       rw [HL.out.all] at h2
       omega
      rw [← hT] at HI ⊢
      have HTS := Lib.hid hTs
      obtain ⟨hJr, hMr, hOr, hgr, hYr⟩ := HI.out
      have hJ9 : J (j + 1) S7 w9 := HSJ.out (j + 1) _ _ _ _ (fun _ h => h) (GrS.below hb9) hJr
      have hM9 := hMr.below hb9
      have hO9 := hOr.below hb9
      have hY9 := hYr.keep hb9.size (fun g _ _ _ hl _ _ => hb9.block g hl) (fun _ _ h => h)
      have hg9 := blk_keep hgr hb9
      have hz9 := hb9.size
      have hFm : ∀ s v, FmP T s = some v → ∃ l, keyOf Try.prog 104 (encP s) = some l := fun s v h => keyPr (HM.out.bd s (hTok s (by
       unfold FmP at h
       by_cases hh : s ∈ T.map Prod.fst
       ·exact hh
       ·rw [if_neg hh] at h; cases h)))
      have hlk := (hM9.look (P := Try.prog) (t := 149) (k := 104) (e := 4) keyed104 Try.underlying149 zero4 encP_inj hFm (keyPr (HM.out.bd sn hokn)) w9 rfl).2
      clear hsn hT hTs HI hJr hMr hOr hgr hYr hb9 HNX q2 g0 g0b
      have c7 := cell_blk (i := 0) b7
      have c7b := cell_blk (i := 1) b7
      simp only [List.getElem?_toArray, List.getElem?_cons_zero, List.getElem?_cons_succ] at c7 c7b
      have HB7 := Lib.hid b7
      clear b7
      by_cases hin : sn ∈ T.map Prod.fst
      ·have hlk2 : (Instr.lookup 149 (.map (some gm)) (.agg #[.int .i64 sn.1, .int .i64 sn.2]) false).run Try.prog w9 = .ok (.bool true) w9 := by
        rw [show FmP T sn = some (.bool true) by unfold FmP; rw [if_pos hin]] at hlk
        exact hlk
       have HI9 := Lib.hid (And.intro hJ9 (And.intro hM9 (And.intro hO9 (And.intro hg9 hY9))))
       have hTs2 : tryN x p (after x j) (c + 1) = T := by rw [HTS.out, if_pos hin]
       have HT2 := Lib.hid hTs2
       clear hlk hJ9 hM9 hO9 hY9 hFm hTok hTs2 hin hg9
       go_wp2
       go_roundw
       case rel => exact ⟨c + 1, go', by omega, by go_num, hgop, (by rw [HT2.out]; exact HI9), by omega⟩
       case measure => simp [intOf]; omega
      ·have hlk2 : (Instr.lookup 149 (.map (some gm)) (.agg #[.int .i64 sn.1, .int .i64 sn.2]) false).run Try.prog w9 = .ok (.bool false) w9 := by
        rw [show FmP T sn = none by unfold FmP; rw [if_neg hin]] at hlk
        exact hlk
       obtain ⟨o9, hup, hM10⟩ := hM9.update (P := Try.prog) (t := 149) (k := 104) (e := 4) keyed104 Try.underlying149 encP_inj hFm (keyPr (HM.out.bd sn hokn)) (.bool true)
       have hTs2 : tryN x p (after x j) (c + 1) = T ++ [(sn, p.2 ++ [c])] := by rw [HTS.out, if_neg hin]
       have HT2 := Lib.hid hTs2
       have hM11 : MapF encP (w9.putObj gm o9) gm (T ++ [(sn, p.2 ++ [c])]).length (FmP (T ++ [(sn, p.2 ++ [c])])) := by
        have e0 : FmP T sn = none := by unfold FmP; rw [if_neg hin]
        rw [e0, if_neg (by simp)] at hM10
        rw [List.length_append]
        refine hM10.congr (fun s => ?_)
        unfold FmP updF
        simp only [List.map_append, List.mem_append, List.map_cons, List.map_nil, List.mem_singleton]
        by_cases hs : s = sn
        ·rw [if_pos (Or.inr hs), if_pos hs]
        ·by_cases hm : s ∈ T.map Prod.fst
         ·rw [if_pos (Or.inl hm), if_neg hs, if_pos hm]
         ·rw [if_neg (fun h => h.elim hm hs), if_neg hs, if_neg hm]
       obtain ⟨w10, hw10⟩ : ∃ q, q = w9.putObj gm o9 := ⟨_, rfl⟩
       have hz10 : w10.heap.size = w9.heap.size := by rw [hw10]; simp
       have hgO : GrS W.heap.size S7 w9 w10 := by rw [hw10]; exact GrS.putObj _ (Nat.le_of_eq HGM.out.symm) hgm7
       have hother : ∀ g, g ≠ gm → w10.heap[g]? = w9.heap[g]? := fun g h => by rw [hw10]; exact World.putObj_heap_other h
       have hmObj : ∃ es ck, w9.heap[gm]? = some (.map es ck) := by
        obtain ⟨es, ck, h, -⟩ := hM9
        exact ⟨es, ck, h⟩
       obtain ⟨es9, ck9, hob⟩ := hmObj
       rw [← hw10] at hup hM11
       replace hup : (Instr.mapUpdate 149 (.map (some gm)) (.agg #[.int .i64 sn.1, .int .i64 sn.2]) (.bool true)).run Try.prog w9 = .ok () w10 := hup
       have hJ10 := HSJ.out (j + 1) _ _ _ _ (fun _ h => h) hgO hJ9
       have hcell : ∀ (g : Nat) (cs : Array Value) (t : TypeId) (fr : Nat × Nat), w9.heap[g]? = some (Obj.cells cs t fr) → w10.heap[g]? = w9.heap[g]? := fun g cs t fr h => hother g (fun e => by rw [e, hob] at h; cases h)
       have hO10 := hO9.keepC (Nat.le_of_eq hz10.symm) (fun g cs t fr _ _ h => hcell g cs t fr h)
       have hY10 := hY9.keep (Nat.le_of_eq hz10.symm) (fun g cs fr _ _ _ h => hcell g cs 3 fr h) (fun _ _ h => h)
       have hg10 := (hcell gp _ _ _ hg9).trans hg9
       have hb710 := (hcell g7 _ _ _ HB7.out).trans HB7.out
       have g1 := cell_blk (i := 2) hg10
       simp only [List.getElem?_toArray, List.getElem?_cons_zero, List.getElem?_cons_succ] at g1
       have hle : p.2.length ≤ cy := by
        obtain ⟨ad', cap'', e, -, hcp, -⟩ := hY10.1
        injection e with _ e1 e2
        simp only [List.length_map] at e1 hcp
        omega
       have hclip := clip_any ay p.2.length cy
       have HI10 := Lib.hid (And.intro hJ10 (And.intro hM11 (And.intro hO10 (And.intro hg10 (And.intro hb710 hY10)))))
       have HCLP := Lib.hid (fun W => hclip W hle)
       have HOKN := Lib.hid hokn
       have HZ10 := Lib.hid hz10
       have HPL := Lib.hid hlj
       clear hlk hJ9 hM9 hO9 hY9 hFm hTok hTs2 hin hg9 hM10 hJ10 hM11 hO10 hg10 hb710 hY10 hgO hob hcell hother hclip hle hw10 hz10
       go_wp2
       obtain ⟨wd, hwd⟩ : ∃ q, q = w10.drew := ⟨_, rfl⟩
       have hbd : Below w10.heap.size w10 wd := by rw [hwd]; exact (Below.refl _ _).drew
       have hzd : wd.heap.size = w10.heap.size := by rw [hwd]; rfl
       have HId : Hid (J (j + 1) S7 wd ∧ MapF encP wd gm (T ++ [(sn, p.2 ++ [c])]).length (FmP (T ++ [(sn, p.2 ++ [c])])) ∧ OpP S7 wd W.heap.size go' (.slice (some ⟨go', off', none⟩) (List.drop j T).length cap') (T.drop j) ∧ wd.heap[gp]? = some (.cells #[.int .i64 p.1.1, .int .i64 p.1.2, .slice ay p.2.length cy] 151 (0, 0)) ∧ wd.heap[g7]? = some (.cells #[.int .i64 sn.1, .int .i64 sn.2] 104 (0, 0)) ∧ Yr S7 wd W.heap.size (.slice ay p.2.length cy) p.2) := by
        obtain ⟨hJ10, hM10, hO10, hg10, hb710, hYp⟩ := HI10.out
        exact Lib.hid ⟨HSJ.out (j + 1) _ _ _ _ (fun _ h => h) (GrS.below hbd) hJ10, hM10.below hbd, hO10.below hbd, blk_keep hg10 hbd, blk_keep hb710 hbd, hYp.keep hbd.size (fun g _ _ _ hl _ _ => hbd.block g hl) (fun _ _ h => h)⟩
       have hRd : wd.heap[g7]? = some (.cells #[.int .i64 sn.1, .int .i64 sn.2] 104 (0, 0)) ∧ wd.heap[gp]? = some (.cells #[.int .i64 p.1.1, .int .i64 p.1.2, .slice ay p.2.length cy] 151 (0, 0)) := ⟨HId.out.2.2.2.2.1, HId.out.2.2.2.1⟩
       have HZd : Hid (wd.heap.size = w9.heap.size) := Lib.hid (by rw [hzd]; exact HZ10.out)
       have HWD := Lib.hid hwd
       clear HI10 hbd hzd hwd
       refine wp_region_x (R := fun U => U.heap[g7]? = some (.cells #[.int .i64 sn.1, .int .i64 sn.2] 104 (0, 0)) ∧ U.heap[gp]? = some (.cells #[.int .i64 p.1.1, .int .i64 p.1.2, .slice ay p.2.length cy] 151 (0, 0))) (S := fun _ => True) (z := 999) rfl ?_
       change wpAnyX _ _ _ _ _ _ _ _ _ _ w10.drew
       rw [← HWD.out]
       refine wpX_kp (i := 0) (oi := ⟨some 49, _, _, _, _, none⟩) (v := ?_) rfl (fun _ _ _ h => h) ?_ ⟨(by assumption), fun _ => trivial⟩ ?_
       rotate_left
       ·intro U hU
        go_simp
        all_goals with_reducible rfl
       simp only [putE]
       refine wpX_kp (i := 1) (oi := ⟨some 50, _, _, _, _, none⟩) (v := ?_) rfl (fun _ _ _ h => h) ?_ ⟨(by assumption), fun _ => trivial⟩ ?_
       rotate_left
       ·intro U hU
        have u0 := cell_blk (i := 0) hU.1
        have u0b := cell_blk (i := 1) hU.1
        simp only [List.getElem?_toArray, List.getElem?_cons_zero, List.getElem?_cons_succ] at u0 u0b
        go_simp
        all_goals with_reducible rfl
       simp only [putE]
       refine wpX_kp (i := 2) (oi := ⟨some 51, _, _, _, _, none⟩) (v := ?_) rfl (fun _ _ _ h => h) ?_ ⟨(by assumption), fun _ => trivial⟩ ?_
       rotate_left
       ·intro U hU
        go_simp
        all_goals with_reducible rfl
       simp only [putE]
       refine wpX_kp (i := 3) (oi := ⟨some 52, _, _, _, _, none⟩) (v := ?_) rfl (fun _ _ _ h => h) ?_ ⟨(by assumption), fun _ => trivial⟩ ?_
       rotate_left
       ·intro U hU
        have u0 := cell_blk (i := 2) hU.2
        simp only [List.getElem?_toArray, List.getElem?_cons_zero, List.getElem?_cons_succ] at u0
        go_simp
        all_goals with_reducible rfl
       simp only [putE]
       refine wpX_kp (i := 5) (oi := ⟨some 54, _, _, _, _, none⟩) (v := ?_) rfl (fun _ _ _ h => h) ?_ ⟨(by assumption), fun _ => trivial⟩ ?_
       rotate_left
       ·intro U hU
        go_simp
        all_goals with_reducible rfl
       simp only [putE]
       obtain ⟨we, hwe⟩ : ∃ q, q = wd.alloc (.cells #[.int .i64 (c : Nat)] 3) := ⟨_, rfl⟩
       have hbe : Below wd.heap.size wd we := by rw [hwe]; exact (Below.refl _ _).alloc (Nat.le_refl _) _
       have hRe : (wd.alloc (.cells #[.int .i64 (c : Nat)] 3)).heap[g7]? = some (.cells #[.int .i64 sn.1, .int .i64 sn.2] 104 (0, 0)) ∧ (wd.alloc (.cells #[.int .i64 (c : Nat)] 3)).heap[gp]? = some (.cells #[.int .i64 p.1.1, .int .i64 p.1.2, .slice ay p.2.length cy] 151 (0, 0)) := by
        rw [← hwe]; exact ⟨blk_keep hRd.1 hbe, blk_keep hRd.2 hbe⟩
       clear hbe hwe we
       refine (fun (FIN : KeyP (?P9 : Prop)) => ?main9) ⟨?key9⟩
       case main9 =>
        refine wpAnyX_ready (rs := [4, 6]) (by kernel_rfl) (by simp) ?_
        refine AllReadyX.cons (o := ⟨some 53, _, _, _, _, none⟩) rfl (by rfl) (fun K1 hK1 => ?_) ?_
        ·have HK1' := Lib.hid hK1; clear hK1
         refine oper_call (ts := _) (xs := #[.tmp 52]) (f := 107) rfl (enters_of Try.func107 (by kernel_rfl) rfl) rfl (R := fun w' => wd = w') (v := .slice ay p.2.length p.2.length) ((HCLP.out wd).mono (by rintro e w' ⟨rfl, h⟩; exact ⟨rfl, h⟩)) ?_
         rintro wr1 rfl
         refine HK1'.out _ _ ⟨hRd, fun _ => trivial⟩ ?_
         clear HK1'
         try simp only [putE]
         refine wpAnyX_one (i := 6) (o := ⟨some 55, _, _, _, _, none⟩) (by kernel_rfl) rfl (by rfl) (fun K1 hK1 => ?_)
         have HK1' := Lib.hid hK1; clear hK1
         go_simp
         refine HK1'.out _ _ ⟨hRe, fun _ => trivial⟩ ?_
         clear HK1'
         try simp only [putE]
         exact FIN.out
        refine AllReadyX.cons (o := ⟨some 55, _, _, _, _, none⟩) rfl (by rfl) (fun K1 hK1 => ?_) AllReadyX.nil
        have HK1' := Lib.hid hK1; clear hK1
        go_simp
        refine HK1'.out _ _ ⟨hRe, fun _ => trivial⟩ ?_
        clear HK1'
        try simp only [putE]
        refine wpAnyX_one (i := 4) (o := ⟨some 53, _, _, _, _, none⟩) (by kernel_rfl) rfl (by rfl) (fun K1 hK1 => ?_)
        have HK1' := Lib.hid hK1; clear hK1
        refine oper_call (ts := _) (xs := #[.tmp 52]) (f := 107) rfl (enters_of Try.func107 (by kernel_rfl) rfl) rfl (R := fun w' => (wd.alloc (.cells #[.int .i64 (c : Nat)] 3)) = w') (v := .slice ay p.2.length p.2.length) ((HCLP.out (wd.alloc (.cells #[.int .i64 (c : Nat)] 3))).mono (by rintro e w' ⟨rfl, h⟩; exact ⟨rfl, h⟩)) ?_
        rintro wr1 rfl
        refine HK1'.out _ _ ⟨hRe, fun _ => trivial⟩ ?_
        clear HK1'
        try simp only [putE]
        exact FIN.out
       case key9 =>
        refine wpAnyX_one (i := 7) (o := ⟨some 56, _, _, _, _, none⟩) (by kernel_rfl) rfl (by rfl) (fun K1 hK1 => ?_)
        have HK1' := Lib.hid hK1; clear hK1
        refine oper_push_full (.tmp 53) (.tmp 55) rfl (n := p.2.length) (xs := nI p.2) (slI_clip (HId.out.2.2.2.2.2.1.below ((Below.refl _ wd).alloc (Nat.le_refl _) _) (Nat.le_refl _))) (by rw [List.length_map]; exact HPL.out) rfl rfl (heap_newI rfl) ?_
        intro v11 w11 hv11 hb11 hB11
        have hR11 : w11.heap[g7]? = some (.cells #[.int .i64 sn.1, .int .i64 sn.2] 104 (0, 0)) ∧ w11.heap[gp]? = some (.cells #[.int .i64 p.1.1, .int .i64 p.1.2, .slice ay p.2.length cy] 151 (0, 0)) := ⟨blk_keep hRe.1 hB11, blk_keep hRe.2 hB11⟩
        refine HK1'.out _ _ ⟨hR11, fun _ => trivial⟩ ?_; clear HK1'
        try simp only [putE]
        have hB1 : Below wd.heap.size wd w11 := ((Below.refl _ wd).alloc (Nat.le_refl _) _).trans (hB11.mono (by rw [World.size_alloc]; omega))
        have hn11 : nI p.2 ++ [(c : Int)] = nI (p.2 ++ [c]) := by simp
        rw [hn11] at hv11
        obtain ⟨a11, c11, rfl, -, -, -⟩ := id hv11
        have hY11 : Yr S7 w11 W.heap.size (.slice a11 (nI (p.2 ++ [c])).length c11) (p.2 ++ [c]) := ⟨hv11, fun g off n cc e => by
         obtain ⟨h1, h2⟩ := hb11 g off n cc e
         rw [World.size_alloc] at h1
         have h3 := HZd.out
         exact ⟨by omega, fun h => by have := (HJ7.out.2 g h).2; omega, h2⟩⟩
        obtain ⟨m11, hm11⟩ : ∃ m, m = (nI (p.2 ++ [c])).length := ⟨_, rfl⟩
        rw [← hm11] at hY11 ⊢
        obtain ⟨hJ10, hM10, hO10, hg10, hb710, hYp⟩ := HId.out
        have hJ11 := HSJ.out (j + 1) _ _ _ _ (fun _ h => h) (GrS.below hB1) hJ10
        have hM11 := hM10.below hB1
        have hO11 := hO10.below hB1
        have hg11 := blk_keep hg10 hB1
        have hYp11 := hYp.keep hB1.size (fun g _ _ _ hl _ _ => hB1.block g hl) (fun _ _ h => h)
        have HI11 := Lib.hid (And.intro hJ11 (And.intro hM11 (And.intro hO11 (And.intro hg11 (And.intro hYp11 hY11)))))
        have hz11 := hB1.size
        have HZ11 := Lib.hid hz11
        clear hJ10 hM10 hO10 hg10 hb710 hYp hJ11 hM11 hO11 hg11 hYp11 hY11 hv11 hb11 hB11 hB1 hn11 hm11 HId HCLP g1 hup hlk2 hz11
        refine wpX_kp (i := 8) (oi := ⟨some 57, _, _, _, _, none⟩) (v := ?_) rfl (fun _ _ _ h => h) ?_ ⟨hR11, fun _ => trivial⟩ ?_
        rotate_left
        ·intro U hU
         go_simp
         all_goals with_reducible rfl
        simp only [putE]
        refine wpAnyX_one (i := 9) (o := ⟨some 58, _, _, _, _, none⟩) (by kernel_rfl) rfl (by rfl) (fun K1 hK1 => ?_)
        have HK1' := Lib.hid hK1; clear hK1
        go_simp
        have hRa : (w11.alloc (.cells #[.int .i64 sn.1, .int .i64 sn.2, .slice a11 m11 c11] 151)).heap[g7]? = some (.cells #[.int .i64 sn.1, .int .i64 sn.2] 104 (0, 0)) ∧ (w11.alloc (.cells #[.int .i64 sn.1, .int .i64 sn.2, .slice a11 m11 c11] 151)).heap[gp]? = some (.cells #[.int .i64 p.1.1, .int .i64 p.1.2, .slice ay p.2.length cy] 151 (0, 0)) := ⟨blk_keep hR11.1 ((Below.refl _ _).alloc (Nat.le_refl _) _), blk_keep hR11.2 ((Below.refl _ _).alloc (Nat.le_refl _) _)⟩
        refine HK1'.out _ _ ⟨hRa, fun _ => trivial⟩ ?_
        clear HK1'
        try simp only [putE]
        refine wpAnyX_one (i := 10) (o := ⟨some 59, _, _, _, _, none⟩) (by kernel_rfl) rfl (by rfl) (fun K1 hK1 => ?_)
        have HK1' := Lib.hid hK1; clear hK1
        obtain ⟨i151, hi151, hy1, hy2, hy3⟩ := info_parts info151
        have hBa : Below w11.heap.size w11 (w11.alloc (.cells #[.int .i64 sn.1, .int .i64 sn.2, .slice a11 m11 c11] 151)) := (Below.refl _ _).alloc (Nat.le_refl _) _
        obtain ⟨hJ11, hM11, hO11, hg11, hYp11, hY11⟩ := HI11.out
        have hOa := hO11.below hBa
        obtain ⟨vs, hv1, hv2, hv3, hv4⟩ := id hOa
        have hv2' := hv2
        rw [List.length_drop] at hv2'
        refine oper_append_q (.tmp 49) (.tmp 58) 152 rfl hv2' rfl i151 (.agg #[.int .i64 0, .int .i64 0, .slice none 0 0]) 40 Try.underlying152 hi151 hy1 hy2 hy3 rfl ⟨w11.heap.size, 0, none⟩ 1 [.int .i64 sn.1, .int .i64 sn.2, .slice a11 m11 c11] rfl rfl (cell_newL rfl) (by intro u hu; simp at hu; rcases hu with rfl | rfl | rfl <;> rfl) (Nat.le_trans (by omega : T.length - j + 1 ≤ 6001) (by decide)) (by omega) (by rw [World.size_alloc]; have := HZ11.out; have := HZd.out; omega) ?_
        intro v12 w12 g12 hq12 hg12 hs12 hk12
        have hgo7 : go' ≠ g7 := fun e => by
         obtain ⟨_, _, cur, _, _, e2, _⟩ := hv2
         rw [e, hRa.1] at e2
         injection e2 with e2
         injection e2 with _ e2 _
         cases e2
        have hR12 : w12.heap[g7]? = some (.cells #[.int .i64 sn.1, .int .i64 sn.2] 104 (0, 0)) ∧ w12.heap[gp]? = some (.cells #[.int .i64 p.1.1, .int .i64 p.1.2, .slice ay p.2.length cy] 151 (0, 0)) := ⟨(hk12 g7 (lt_blk hRa.1) (Ne.symm hgo7)).trans hRa.1, (hk12 gp (lt_blk hRa.2) (Ne.symm hgop)).trans hRa.2⟩
        refine HK1'.out _ _ ⟨hR12, fun _ => trivial⟩ ?_; clear HK1'
        try simp only [putE]
        refine wpX_kp (i := 11) (oi := ⟨some 4, _, _, _, _, none⟩) (v := ?_) rfl (fun _ _ _ h => h) ?_ ⟨hR12, fun _ => trivial⟩ ?_
        rotate_left
        ·intro U hU
         go_simp
         all_goals with_reducible rfl
        simp only [putE]
        refine wpAnyX_done (by kernel_rfl) ?_ _
        have hSb : ∀ i, S7 i → i < (w11.alloc (.cells #[.int .i64 sn.1, .int .i64 sn.2, .slice a11 m11 c11] 151)).heap.size := fun i h => by
         have := (HJ7.out.2 i h).2
         have h1 := HZ11.out
         have h2 := HZd.out
         rw [World.size_alloc]; omega
        have hYa := hY11.keep hBa.size (fun g _ _ _ hl _ _ => hBa.block g hl) (fun _ _ h => h)
        rw [show T.length - j + 1 = (T.drop j).length + 1 by rw [List.length_drop]] at hq12
        have hO12 := OpP.push (p := (sn, p.2 ++ [c])) hOa hYa hSb ⟨vs, hv1, rfl, hv4⟩ hq12 hg12 hs12.2.2.2 hk12
        have hgoc : ∃ cur, (w11.alloc (.cells #[.int .i64 sn.1, .int .i64 sn.2, .slice a11 m11 c11] 151)).heap[go']? = some (.cells cur 151 (0, 0)) := by
         obtain ⟨_, _, cur, _, _, e, _⟩ := hv2
         exact ⟨cur, e⟩
        obtain ⟨cur, hcur⟩ := hgoc
        have hbase := hv2.base
        have hGa : GrS W.heap.size S7 (w11.alloc (.cells #[.int .i64 sn.1, .int .i64 sn.2, .slice a11 m11 c11] 151)) w12 := ⟨hs12.1, hs12.2.1, hs12.2.2.1, hs12.2.2.2, fun k hk hc => hk12 k hk (fun e => by
         subst e
         rcases hc with hc | hc
         ·omega
         ·exact hv3 hc)⟩
        have hJ12 : J (j + 1) S7 w12 := HSJ.out (j + 1) _ _ _ _ (fun _ h => h) ((GrS.below hBa).trans hGa) hJ11
        have hMa := hM11.below hBa
        have hM12 := hMa.keep (hk12 gm hMa.lt (fun e => by
         obtain ⟨es, ck, h, -⟩ := hMa
         rw [e, hcur] at h
         cases h))
        have hga := blk_keep hg11 hBa
        have hg12' := (hk12 gp (lt_blk hga) (Ne.symm hgop)).trans hga
        have hYpa := hYp11.keep hBa.size (fun g _ _ _ hl _ _ => hBa.block g hl) (fun _ _ h => h)
        have hYp12 := hYpa.keep hs12.2.2.2 (fun g cs fr _ hl _ h => hk12 g hl (fun e => by
         rw [e, hcur] at h
         injection h with h
         injection h with _ h _
         cases h)) (fun _ _ h => h)
        have hTj : T.drop j ++ [(sn, p.2 ++ [c])] = (T ++ [(sn, p.2 ++ [c])]).drop j := (List.drop_append_of_le_length hTlj).symm
        rw [hTj] at hO12
        have hgop' : g12 ≠ gp := by
         rcases hg12 with h | h
         ·rw [h]; exact hgop
         ·have := lt_blk hga; omega
        have hz12 : w7.heap.size ≤ w12.heap.size := by
         have h1 := HZ11.out
         have h2 := HZd.out
         have h3 := hs12.2.2.2
         rw [World.size_alloc] at h3
         omega
        have HI12 := Lib.hid (And.intro hJ12 (And.intro hM12 (And.intro hO12 (And.intro hg12' hYp12))))
        obtain ⟨o12, cp12, hv12⟩ := hO12.form
        subst hv12
        obtain ⟨n12, hn12⟩ : ∃ n, n = (List.drop j (T ++ [(sn, p.2 ++ [c])])).length := ⟨_, rfl⟩
        rw [← hn12] at HI12 ⊢
        clear hn12 hJ12 hM12 hO12 hg12' hYp12 hYpa hga hMa hJ11 hM11 hO11 hg11 hYp11 hY11 hOa hv1 hv2 hv3 hv4 hv2' hq12 hs12 hk12 hSb hYa hcur hGa hBa hTj hg12
        go_wp2
        go_roundw
        case rel => exact ⟨c + 1, g12, by omega, by go_num, hgop', (by rw [HT2.out]; exact HI12), hz12⟩
        case measure => simp [intOf]; omega
     ·have hci : ¬ (c : Int) < (x.k : Int) := by omega
      have hck2 : c = x.k := by omega
      subst hck2
      have hTe : tryN x p (after x j) x.k = after x (j + 1) := by rw [HL.out.next hjn, HPP.out]
      obtain ⟨off', cap', hv'⟩ := HI.out.2.2.1.form
      subst hv'
      obtain ⟨n', hn'⟩ : ∃ n, n = (List.drop j (tryN x p (after x j) x.k)).length := ⟨_, rfl⟩
      rw [hTe] at HI hn' ⊢
      rw [← hn'] at HI ⊢
      have hdr2 : (after x (j + 1)).drop j = L[j] :: (after x (j + 1)).drop (j + 1) := by
       have h1 := HL.out.lt hjn
       have h2 : (after x j).length ≤ (after x (j + 1)).length := after_len x (Nat.le_succ j)
       rw [List.drop_eq_getElem_cons (by omega)]
       congr 1
       have h3 := HL.out.at_ hjn
       have h4 := after_pre1 x j
       rw [List.getElem?_eq_getElem h1] at h3
       rw [← h4.getElem h1]
       exact Option.some.inj h3
      have hcut := HI.out.2.2.1
      rw [hdr2] at hcut
      have hcut2 := hcut.cutIf
      have hn1 : 1 ≤ n' := by rw [hn', hdr2]; simp
      have hcap1 : n' ≤ cap' := by
       obtain ⟨vs, _, hq, _, _⟩ := hcut
       obtain ⟨_, _, _, e, _, _, h, _⟩ := hq
       injection e with _ e1 e2
       omega
      have HI13 := Lib.hid (And.intro HI.out.1 (And.intro HI.out.2.1 hcut2))
      have hn1i : (1 : Int) ≤ (n' : Int) := by omega
      have hWr : W.heap.size ≤ wr.heap.size := by omega
      have hSr : ∀ i, S7 i → W.heap.size ≤ i ∧ i < wr.heap.size := fun i h => by have := HJ7.out.2 i h; omega
      have HGM7 := Lib.hid hgm7
      have HSR := Lib.hid hSr
      clear HI hcut hcut2 hdr2 hTe q2 hk1 hkB hSr
      have hms2 : mapSz wr gm - (n' - 1) = j + 1 := by
       have h1 := HL.out.lt hjn
       have h2 : (after x j).length ≤ (after x (j + 1)).length := after_len x (Nat.le_succ j)
       rw [mapSz_of HI13.out.2.1, hn', List.length_drop]; omega
      have HMS2 := Lib.hid hms2
      clear hms2 hn'
      go_wp2
      gi_wp2
      refine ⟨⟨j + 1, S7, go', by omega, Lib.hid ⟨HI13.out.1, HSR.out, HI13.out.2.1, HGM7.out, HI13.out.2.2⟩, hWr⟩, ?_⟩
      show L.length - (mapSz wr gm - (n' - 1)) < L.length - (mapSz _ gm - n)
      rw [HMS2.out, HMS.out]
      omega
   ·refine wpAnyW_keep (i := 7) (oi := ⟨some 31, _, _, _, _, none⟩) (v := ?_) rfl (by kernel_rfl) (by kernel_rfl) (by kernel_rfl) (fun _ _ _ h => h) (Or.inl ⟨by rfl, ?_⟩) ⟨bp7, fun _ => trivial⟩ ?_
    rotate_left
    ·intro U hU
     go_simp
     all_goals with_reducible rfl
    simp only [putE]
    refine wpAnyW_done (by kernel_rfl) ?_ _
    refine HK2.out _ _ ?_; clear HK2
    gi_wp2
    refine bodyPost_ret (results_none rfl _ _ _) rfl ?_
    exact ⟨⟨_, rfl⟩, _, HGM.out ▸ hS7, .inr hx7⟩
  ·have hjl : j = L.length := by omega
   obtain ⟨hJ, hS, -, -, -⟩ := HI.out
   have hlen0 : ((after x j).drop j).length = 0 := by rw [hjl, after_dropP_end HL.out]; rfl
   rw [hlen0]
   rw [hjl] at hJ
   have HJE := Lib.hid (And.intro hJ hS)
   clear HI hJ hS hlen0 hjl
   gi_wp2
   refine bodyPost_end (results_none rfl _ _ _) rfl ?_
   exact ⟨⟨_, rfl⟩, S, HGM.out ▸ HJE.out.2, .inl HJE.out.1⟩
end Ytnjgglnpmhjmiaa
end Go.Proofs

