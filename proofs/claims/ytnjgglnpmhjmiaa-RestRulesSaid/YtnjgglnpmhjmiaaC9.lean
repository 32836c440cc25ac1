/- Laws of rotation: the merged system's functions. -/
import Derived.Test.YtnjgglnpmhjmiaaTb
open Go Go.RowKit Go.YtnjgglnpmhjmiaaIt
open Rest
namespace Go.Proofs
namespace Ytnjgglnpmhjmiaa
theorem noP_ret {Q : Exit → Act → World → Prop} {a : Act} {w : World} (h : Q .ret a w) : noP Q .ret a w := h
/-- What is looked up. -/
def Looks (W : World) (g : Nat) (s v : Int) : Prop := ∀ U, U.heap[g]? = W.heap[g]? → (Instr.lookup 125 (.map (some g)) (.int .i64 s) false).run Try.prog U = .ok (.int .i64 v) U
theorem Looks.keep {W W' : World} {g : Nat} {s v : Int} (h : Looks W g s v) (e : W'.heap[g]? = W.heap[g]?) : Looks W' g s v := fun U hU => h U (hU.trans e)
set_option maxRecDepth 100000 in
set_option maxHeartbeats 8000000 in
theorem least1_any {x : RSys Int} {ok : Int → Prop} {fN fG : Nat} {lN lG : Array Value} {B : Nat} {W0 : World} (hM : SysM x ok fN fG lN lG B W0) (hB : B ≤ W0.heap.size) (eN : ∀ args w, (callFunc fN args).run Try.prog w = .ok (.enter fN args) w)
  {c5 g1 c11 gcl gon : Nat} {k s n : Int} {c : Nat} {w : World} (hb : Below B W0 w) (h5 : w.heap[c5]? = some (.cells #[.map (some gcl)] 125 (0, 0))) (h1 : w.heap[g1]? = some (.cells (sysV x fN fG lN lG) 96 (0, 0))) (h11 : w.heap[c11]? = some (.cells #[.map (some gon)] 125 (0, 0)))
  (hon : Looks w gon k s) (hcl : Looks w gcl (x.nx s c) n) (lon : gon < w.heap.size) (lcl : gcl < w.heap.size) (hs : ok s) (hc : c < x.k) :
  Calls Try.prog 98 (#[.int .i64 k, .int .i64 c] ++ #[.pointer (some ⟨c5, 0, none⟩), .pointer (some ⟨g1, 0, none⟩), .pointer (some ⟨c11, 0, none⟩)]) w fun e w' => e = .returned (.int .i64 n) ∧ Below w.heap.size w w' := by
 have HON := Lib.hid hon
 have HCL := Lib.hid hcl
 have HNX := Lib.hid (fun U (hU : Below w.heap.size w U) => hM.nx U (btr hb hU hB) s c hs hc)
 clear hon hcl
 go_enter Try.func98, Try.ntmps98
 refine wp_noP ?_
 go_wp2
 rename_i K2 hK2
 have HK2 := Lib.hid hK2; clear hK2
 refine wp_region_x (R := fun U => Below w.heap.size w U) (S := fun _ => True) (z := 999) rfl ?_
 change wpAnyX _ _ _ _ _ _ _ _ _ _ w.drew
 have hbq : Below w.heap.size w w.drew := (Below.refl _ _).drew
 generalize w.drew = wq at *
 refine wpX_kp (i := 0) (oi := ⟨some 8, _, _, _, _, none⟩) (v := ?_) rfl (fun _ _ _ h => h) ?_ ⟨(by assumption), fun _ => trivial⟩ ?_
 rotate_left
 ·intro U hU
  have u0 := cell_blk (i := 0) (blk_keep h5 hU)
  simp only [List.getElem?_toArray, List.getElem?_cons_zero] at u0
  go_simp
  all_goals with_reducible rfl
 simp only [putE]
 refine wpX_kp (i := 1) (oi := ⟨some 9, _, _, _, _, none⟩) (v := ?_) rfl (fun _ _ _ h => h) ?_ ⟨(by assumption), fun _ => trivial⟩ ?_
 rotate_left
 ·intro U hU
  go_simp
  all_goals with_reducible rfl
 simp only [putE]
 refine wpX_kp (i := 2) (oi := ⟨some 10, _, _, _, _, none⟩) (v := ?_) rfl (fun _ _ _ h => h) ?_ ⟨(by assumption), fun _ => trivial⟩ ?_
 rotate_left
 ·intro U hU
  have u0 := cell_blk (i := 2) (blk_keep h1 hU)
  simp only [List.getElem?_toArray, List.getElem?_cons_zero, List.getElem?_cons_succ] at u0
  go_simp
  all_goals with_reducible rfl
 simp only [putE]
 refine wpX_kp (i := 3) (oi := ⟨some 11, _, _, _, _, none⟩) (v := ?_) rfl (fun _ _ _ h => h) ?_ ⟨(by assumption), fun _ => trivial⟩ ?_
 rotate_left
 ·intro U hU
  have u0 := cell_blk (i := 0) (blk_keep h11 hU)
  simp only [List.getElem?_toArray, List.getElem?_cons_zero] at u0
  go_simp
  all_goals with_reducible rfl
 simp only [putE]
 refine wpX_kp (i := 4) (oi := ⟨some 12, _, _, _, _, none⟩) (v := ?_) rfl (fun _ _ _ h => h) ?_ ⟨(by assumption), fun _ => trivial⟩ ?_
 rotate_left
 ·intro U hU
  go_simp
  all_goals with_reducible rfl
 simp only [putE]
 refine wpX_kp (i := 5) (oi := ⟨some 13, _, _, _, _, none⟩) (v := ?_) rfl (fun _ _ _ h => h) ?_ ⟨(by assumption), fun _ => trivial⟩ ?_
 rotate_left
 ·refine yields_lookup (mv := .map (some gon)) (kv := .int .i64 (k)) (v := .int .i64 (s)) 125 (.tmp 11) (.tmp 12) false ?_ ?_ ?_ (fun U hU => HON.out U ?_)
  ·rfl
  ·rfl
  ·rfl
  exact hU.block gon lon
 simp only [putE]
 refine wpX_kp (i := 6) (oi := ⟨some 14, _, _, _, _, none⟩) (v := ?_) rfl (fun _ _ _ h => h) ?_ ⟨(by assumption), fun _ => trivial⟩ ?_
 rotate_left
 ·intro U hU
  go_simp
  all_goals with_reducible rfl
 simp only [putE]
 refine wpAnyX_one (i := 7) (o := ⟨some 15, _, _, _, _, none⟩) (by kernel_rfl) rfl (by rfl) (fun K1 hK1 => ?_)
 have HK1' := Lib.hid hK1; clear hK1
 refine oper_callg (c := .tmp 10) (xs := #[.tmp 13, .tmp 14]) (ts := _) rfl rfl eN rfl (R := fun v w' => v = .int .i64 (x.nx s c) ∧ Below wq.heap.size wq w') ((HNX.out wq hbq).mono (by rintro e w' ⟨rfl, h⟩; exact ⟨_, rfl, rfl, h⟩)) ?_
 rintro vn' wr1 ⟨rfl, hr1⟩
 have hB1' : Below w.heap.size w wr1 := btr hbq hr1 (Nat.le_refl _)
 refine HK1'.out _ _ ⟨hB1', fun _ => trivial⟩ ?_
 clear HK1'
 try simp only [putE]
 refine wpX_kp (i := 8) (oi := ⟨some 16, _, _, _, _, none⟩) (v := ?_) rfl (fun _ _ _ h => h) ?_ ⟨(by assumption), fun _ => trivial⟩ ?_
 rotate_left
 ·refine yields_lookup (mv := .map (some gcl)) (kv := .int .i64 (x.nx s c)) (v := .int .i64 (n)) 125 (.tmp 8) (.tmp 15) false ?_ ?_ ?_ (fun U hU => HCL.out U ?_)
  ·rfl
  ·rfl
  ·rfl
  exact hU.block gcl lcl
 simp only [putE]
 refine wpX_kp (i := 9) (oi := ⟨some 7, _, _, _, _, none⟩) (v := ?_) rfl (fun _ _ _ h => h) ?_ ⟨(by assumption), fun _ => trivial⟩ ?_
 rotate_left
 ·intro U hU
  go_simp
  all_goals with_reducible rfl
 simp only [putE]
 refine wpAnyX_done (by kernel_rfl) ?_ _
 refine HK2.out _ _ ?_; clear HK2
 go_wp2
 exact noP_ret (bodyPost_ret (results_tmp rfl _ _ _) rfl ⟨rfl, by assumption⟩)
set_option maxRecDepth 100000 in
set_option maxHeartbeats 8000000 in
theorem least2_any {x : RSys Int} {ok : Int → Prop} {fN fG : Nat} {lN lG : Array Value} {B : Nat} {W0 : World} (hM : SysM x ok fN fG lN lG B W0) (eG : ∀ args w, (callFunc fG args).run Try.prog w = .ok (.enter fG args) w)
  {g1 c11 gon : Nat} {k s : Int} {w : World} (hb : Below B W0 w) (h1 : w.heap[g1]? = some (.cells (sysV x fN fG lN lG) 96 (0, 0))) (h11 : w.heap[c11]? = some (.cells #[.map (some gon)] 125 (0, 0)))
  (hon : Looks w gon k s) (hs : ok s) :
  Calls Try.prog 99 (#[.int .i64 k] ++ #[.pointer (some ⟨g1, 0, none⟩), .pointer (some ⟨c11, 0, none⟩)]) w fun e w' => e = .returned (.bool (x.gd s)) ∧ Below w.heap.size w w' := by
 have hl := hon w rfl
 have HGD := Lib.hid (hM.gd w hb s hs)
 have q1 := cell_blk (i := 3) h1
 have q2 := cell_blk (i := 0) h11
 simp only [List.getElem?_toArray, List.getElem?_cons_zero, List.getElem?_cons_succ] at q1 q2
 clear hon
 go_enter Try.func99, Try.ntmps99
 go_wp2
 refine HGD.out.mono ?_
 rintro e w2 ⟨rfl, hb2⟩
 go_wp2
 exact bodyPost_ret (results_tmp rfl _ _ _) rfl ⟨rfl, hb2⟩
end Ytnjgglnpmhjmiaa
end Go.Proofs

