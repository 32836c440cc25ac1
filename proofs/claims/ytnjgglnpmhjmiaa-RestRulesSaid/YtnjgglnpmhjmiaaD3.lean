/- Laws of rotation: all lists of some years. -/
import Derived.Test.YtnjgglnpmhjmiaaC4
open Go Go.RowKit Go.YtnjgglnpmhjmiaaIt
/- Append onto a slice of the call's own: it stays where it was, or all that was there stays as it was. Over whatever program. -/
namespace Go
namespace YtnjgglnpmhjmiaaIt
theorem run_append_own3 {P : Program} {w : World} (base : Nat) (t ty e : TypeId) (i : TypeInfo) (z : Value) (size bytes : Nat) (ht : P.underlying t = some (.slice e)) (hi : P.info? e = some i) (hz : i.zero = some z)
    (hsize : i.size = size) (hby : i.bytes = bytes) (hzs : z.cells.size = size) (hsz : 0 < size)
    (v : Value) (n : Nat) (xs : List Value) (hown : w.ownsRow base e size v n xs)
    (a : Addr) (m c : Nat) (news : List Value) (hl : news.length = m * size) (hnews : ∀ j u, news[j]? = some u → w.cell? (a.add j) = some u) (h1 : ∀ u ∈ news, u.oneCell' = true)
    (h63 : n + m ≤ maxLen) (hbytes : (n + m) * bytes ≤ 140737488355328) (hbase : base ≤ w.heap.size) :
    ∃ v' w', (Builtin.append_ #[t, t] ty #[v, .slice (some a) m c]).run P w = .ok v' w' ∧ w'.ownsRow base e size v' (n + m) (xs ++ news) ∧ w.grownBy w' v.ownBlock ∧ ((∃ g, v.ownBlock = some g ∧ v'.ownBlock = some g) ∨ (Below w.heap.size w w' ∧ ∀ g, v'.ownBlock = some g → w.heap.size ≤ g)) := by
  obtain ⟨v', w', hrun, h2, h3, -⟩ := run_append_own (P := P) w base t ty e i z size bytes ht hi hz hsize hby hzs hsz v n xs hown a m c news hl hnews h1 h63 hbytes hbase
  refine ⟨v', w', hrun, h2, h3, ?_⟩
  rcases hown.2 with ⟨rfl, rfl⟩ | ⟨g, cap, cur, rfl, hbg, hg, hnc, hcm, hcs, htake⟩
  · have hx : xs = [] := List.eq_nil_of_length_eq_zero (by simpa using hown.1)
    subst hx
    obtain ⟨v2, w2, hrun2, k2, k3, -⟩ := run_append_own (P := P) w w.heap.size t ty e i z size bytes ht hi hz hsize hby hzs hsz (.slice none 0 0) 0 [] (World.ownsRow_nil _ _ _ _) a m c news hl hnews h1 h63 hbytes (Nat.le_refl _)
    rw [hrun2] at hrun
    cases hrun
    exact .inr ⟨⟨k3.os, k3.tape, k3.output, k3.size, fun i hi => k3.block i hi (fun e => by cases e)⟩, fun g' hg' => (k2.lt g' hg').1⟩
  · subst hsize
    by_cases hroom : n + m ≤ cap
    · have hr := run_append_room (P := P) w t ty e i ht hi g n cap cur hg a m c news hl hnews h1 hroom (by rw [hl, hcs, ← Nat.add_mul]; exact Nat.mul_le_mul_right _ hroom)
      rw [hr] at hrun
      cases hrun
      exact .inl ⟨g, rfl, rfl⟩
    · have holds : ∀ j u, xs[j]? = some u → w.cell? ((⟨g, 0, none⟩ : Addr).add j) = some u := hown.cells (g := g) rfl
      have hsmall : n + m ≤ 9223372036854775807 := by simp only [maxLen] at h63; omega
      have hr := run_append_grow (P := P) w t ty e i z ht hi hz ⟨g, 0, none⟩ n cap xs hown.1 holds a m c news hl hnews (by omega) (by omega) (growslice_fits (by omega) (by rw [hby]; exact hbytes))
      rw [hr] at hrun
      cases hrun
      refine .inr ⟨(Below.refl _ _).drew.alloc (Nat.le_refl _) _, fun g' hg' => ?_⟩
      have : g' = w.heap.size := by simpa [Value.ownBlock] using hg'.symm
      omega
theorem wpList_app3 {P : Program} {ops : Array Oper} {rest : List Oper} {o : Oper} {a : Act} {Q : Exit → Act → World → Prop} (hgd : o.guard = none) (s x : Operand) (t e : TypeId) (ho : o.op = .call { callee := .builtin .append, args := #[s, x], argTypes := #[t, t] })
    {z : Value} {bytes : Nat} (hu : P.underlying t = some (.slice e)) (hinf : (P.info? e).map (fun i => (i.zero, i.size, i.bytes)) = some (some z, 1, bytes)) (hzs : z.cells.size = 1) (hby : bytes ≤ 1000)
    {w : World} {base : Nat} {v : Value} {xs : List Value} (hr : w.ownsRow base e 1 v xs.length xs) (hl : xs.length ≤ 10000) (hs : a.eval s = v) {ad : Addr} {m c : Nat} {news : List Value} (hx : a.eval x = .slice (some ad) m c)
    (hn : news.length = m) (hm : m ≤ 10000) (hc : ∀ j u, news[j]? = some u → w.cell? (ad.add j) = some u) (h1 : ∀ u ∈ news, u.oneCell' = true) (hbase : base ≤ w.heap.size)
    (h : ∀ v' w', w'.ownsRow base e 1 v' (xs.length + m) (xs ++ news) → w.grownBy w' v.ownBlock → ((∃ g, v.ownBlock = some g ∧ v'.ownBlock = some g) ∨ (Below w.heap.size w w' ∧ ∀ g, v'.ownBlock = some g → w.heap.size ≤ g)) → wpList P ops Q rest (a.put o.dst v') w') : wpList P ops Q (o :: rest) a w :=
  wpList_plain hgd fun K hK => by
    obtain ⟨i3, hi3, hy1, hy2, hy3⟩ := info_parts hinf
    obtain ⟨v', w', hrun, r1, r2, r3⟩ := run_append_own3 (P := P) base t o.type e i3 z 1 bytes hu hi3 hy1 hy2 hy3 hzs (by decide) v xs.length xs hr ad m c news (by omega) hc h1 (Nat.le_trans (by omega : xs.length + m ≤ 20000) (by decide)) (by have := Nat.mul_le_mul (show xs.length + m ≤ 20000 by omega) hby; omega) hbase
    unfold Oper.wp execOp
    simp only [ho, resolve, invoke, builtin, Sem.run_bind, Sem.run_pure, Result.andThen_ok, List.map_toArray, List.map_cons, List.map_nil, hs, hx, hrun]
    exact hK _ _ (h v' w' r1 r2 r3)
end YtnjgglnpmhjmiaaIt
end Go
open Rest
namespace Go.Proofs
namespace Ytnjgglnpmhjmiaa
theorem wpList_app {ops : Array Oper} {rest : List Oper} {o : Oper} {a : Act} {Q : Exit → Act → World → Prop} (hgd : o.guard = none) (s x : Operand) (t e : TypeId) (ho : o.op = .call { callee := .builtin .append, args := #[s, x], argTypes := #[t, t] })
  {z : Value} {bytes : Nat} (hu : Try.prog.underlying t = some (.slice e)) (hinf : (Try.prog.info? e).map (fun i => (i.zero, i.size, i.bytes)) = some (some z, 1, bytes)) (hzs : z.cells.size = 1) (hby : bytes ≤ 1000)
  {w : World} {base g : Nat} {v u : Value} {xs : List Value} (hr : w.ownsRow base e 1 v xs.length xs) (hl : xs.length ≤ 10000) (hs : a.eval s = v) (hx : a.eval x = .slice (some ⟨g, 0, none⟩) 1 1)
  (hg : w.heap[g]? = some (.cells #[u] e (0, 0))) (h1 : u.oneCell' = true) (hbase : base ≤ w.heap.size)
  (h : ∀ v' w', w'.ownsRow base e 1 v' (xs.length + 1) (xs ++ [u]) → w.grownBy w' v.ownBlock → (v'.ownBlock = v.ownBlock ∨ v'.ownBlock = some w.heap.size) → wpList Try.prog ops Q rest (a.put o.dst v') w') : wpList Try.prog ops Q (o :: rest) a w :=
 wpList_plain hgd fun _ hK => oper_app s x t e ho hu hinf hzs hby hr hl hs hx hg h1 hbase fun v' w' h2 h3 h4 => hK _ _ (h v' w' h2 h3 h4)
def Rws (Z : Nat → Prop) (W : World) (vs : List Value) (ls : List (List Int)) : Prop :=
 vs.length = ls.length ∧ (∀ u ∈ vs, u.oneCell' = true) ∧ ∀ i (h : i < vs.length) (h' : i < ls.length), SlI W vs[i] ls[i] ∧ ∀ g off n c, vs[i] = .slice (some ⟨g, off, none⟩) n c → Z g
theorem Rws.nil (Z : Nat → Prop) (W : World) : Rws Z W [] [] := ⟨rfl, by simp, fun i h => by simp at h⟩
theorem Rws.keep {Z Z' : Nat → Prop} {W W' : World} {vs : List Value} {ls : List (List Int)} (h : Rws Z W vs ls) (hZ : ∀ i, Z i → Z' i) (hs : W.heap.size ≤ W'.heap.size) (hk : ∀ i, Z i → i < W.heap.size → W'.heap[i]? = W.heap[i]?) : Rws Z' W' vs ls :=
 ⟨h.1, h.2.1, fun i hi hi' => ⟨(h.2.2 i hi hi').1.keepB hs (fun g off n c e hl => hk g ((h.2.2 i hi hi').2 g off n c e) hl), fun g off n c e => hZ g ((h.2.2 i hi hi').2 g off n c e)⟩⟩
theorem Rws.push {Z : Nat → Prop} {W : World} {vs : List Value} {ls : List (List Int)} {v : Value} {l : List Int} (h : Rws Z W vs ls) (hv : SlI W v l) (hz : ∀ g off n c, v = .slice (some ⟨g, off, none⟩) n c → Z g) : Rws Z W (vs ++ [v]) (ls ++ [l]) := by
 refine ⟨by simp [h.1], fun u hu => ?_, fun i hi hi' => ?_⟩
 ·rcases List.mem_append.1 hu with hu | hu
  ·exact h.2.1 u hu
  ·rw [List.mem_singleton.1 hu]; obtain ⟨ad, c, e⟩ := slI_form hv; rw [e]; rfl
 ·by_cases hik : i < vs.length
  ·have h2 : i < ls.length := by rw [← h.1]; exact hik
   rw [List.getElem_append_left hik, List.getElem_append_left h2]
   exact h.2.2 i hik h2
  ·have hie : i = vs.length := by simp at hi; omega
   subst hie
   rw [List.getElem_append_right (Nat.le_refl _), List.getElem_append_right (by rw [h.1]; exact Nat.le_refl _)]
   simp only [Nat.sub_self, List.getElem_singleton]
   exact ⟨hv, hz⟩
theorem Rws.slII {Z : Nat → Prop} {W : World} {base : Nat} {v : Value} {vs : List Value} {ls : List (List Int)} (h : Rws Z W vs ls) (ho : W.ownsRow base 40 1 v vs.length vs) (hl : vs.length ≤ 10000) : SlII W v ls :=
 ⟨vs, slV_own ho rfl (by omega), h.1, fun i hi hi' => (h.2.2 i hi hi').1⟩
theorem own_ty {W : World} {base : Nat} {e : TypeId} {v : Value} {n : Nat} {xs : List Value} (h : W.ownsRow base e 1 v n xs) {g : Nat} (hg : v.ownBlock = some g) {cs : Array Value} {t : TypeId} {fr : Nat × Nat} (hc : W.heap[g]? = some (.cells cs t fr)) : t = e := by
 obtain ⟨-, -, cur, h3⟩ := own_lt h hg
 rw [hc] at h3
 injection h3 with h3
 injection h3 with _ h3 _
theorem own_or {v v' : Value} {s : Nat} (h : v'.ownBlock = v.ownBlock ∨ v'.ownBlock = some s) {i : Nat} (hi : v'.ownBlock = some i) : v.ownBlock = some i ∨ i = s := by
 rcases h with h | h
 ·exact .inl (h ▸ hi)
 ·rw [h] at hi; injection hi with hi; exact .inr hi.symm
/-- All lists of so many years with two crops; those of at most so many. -/
def levL : Nat → List (List Int)
  | 0 => [[]]
  | n + 1 => (levL n).flatMap fun l => [l ++ [0], l ++ [1]]
def allL : Nat → List (List Int)
  | 0 => [[]]
  | n + 1 => allL n ++ levL (n + 1)
theorem flat2_len {α : Type} (a b : α → α) : ∀ ls : List α, (ls.flatMap fun l => [a l, b l]).length = 2 * ls.length
  | [] => rfl
  | x :: ls => by rw [List.flatMap_cons, List.length_append, flat2_len a b ls]; simp; omega
theorem levL_len : ∀ n, (levL n).length = 2 ^ n
  | 0 => rfl
  | n + 1 => by rw [levL, flat2_len, levL_len n, Nat.pow_succ]; omega
theorem allL_len : ∀ n, (allL n).length = 2 ^ (n + 1) - 1
  | 0 => rfl
  | n + 1 => by
    rw [allL, List.length_append, allL_len n, levL_len, Nat.pow_succ 2 (n + 1)]
    have := Nat.one_le_two_pow (n := n + 1)
    omega
theorem allL_last : ∀ n, ∃ ls, allL n = ls ++ levL n ∧ ls.length = 2 ^ n - 1
  | 0 => ⟨[], rfl, rfl⟩
  | n + 1 => ⟨allL n, rfl, allL_len n⟩
theorem levL_wd : ∀ n, ∀ l ∈ levL n, l.length = n ∧ ∀ c ∈ l, 0 ≤ c ∧ c < 2
  | 0 => fun l h => by rw [levL, List.mem_singleton] at h; subst h; simp
  | n + 1 => fun l h => by
    rw [levL] at h
    obtain ⟨x, hx, hl⟩ := List.mem_flatMap.1 h
    obtain ⟨h1, h2⟩ := levL_wd n x hx
    simp only [List.mem_cons, List.not_mem_nil, or_false] at hl
    rcases hl with rfl | rfl <;> refine ⟨by simp [h1], fun c hc => ?_⟩ <;> rcases List.mem_append.1 hc with hc | hc <;> first | exact h2 c hc | (rw [List.mem_singleton.1 hc]; decide)
theorem allL_wd : ∀ n, ∀ l ∈ allL n, l.length ≤ n ∧ ∀ c ∈ l, 0 ≤ c ∧ c < 2
  | 0 => fun l h => by rw [allL, List.mem_singleton] at h; subst h; simp
  | n + 1 => fun l h => by
    rw [allL] at h
    rcases List.mem_append.1 h with h | h
    · obtain ⟨h1, h2⟩ := allL_wd n l h; exact ⟨by omega, h2⟩
    · obtain ⟨h1, h2⟩ := levL_wd (n + 1) l h; exact ⟨by omega, h2⟩
/-- The lists that the call has laid. -/
structure AJ (base : Nat) (Z : Nat → Prop) (W : World) (vo : Value) (us : List Value) (rows : List (List Int)) : Prop where
  on : W.ownsRow base 40 1 vo us.length us
  rn : Rws Z W us rows
  zt : ∀ i, Z i → base ≤ i ∧ ∃ cs, W.heap[i]? = some (.cells cs 3 (0, 0))
section
variable {base : Nat} {Z : Nat → Prop} {W W1 W2 : World} {vo vo' v1 v2 : Value} {us : List Value} {rows : List (List Int)} {l1 l2 : List Int}
theorem AJ.quiet (h : AJ base Z W vo us rows) (hb : Below W.heap.size W W1) : AJ base Z W1 vo us rows where
  on := own_same h.on fun g hg => hb.block g (own_lt h.on hg).2.1
  rn := h.rn.keep (fun _ h => h) hb.size fun i _ hl => hb.block i hl
  zt := fun i hi => ⟨(h.zt i hi).1, by obtain ⟨cs, hc⟩ := (h.zt i hi).2; exact ⟨cs, blk_keep hc hb⟩⟩
theorem AJ.push (h : AJ base Z W vo us rows) {B B2 : Nat} (hB : base ≤ B) (hB2 : base ≤ B2) (o1 : W.ownsRow B 3 1 v1 l1.length (l1.map (Value.int .i64))) (o2 : W.ownsRow B2 3 1 v2 l2.length (l2.map (Value.int .i64))) (hl1 : l1.length ≤ 10000) (hl2 : l2.length ≤ 10000)
    (q : W2.ownsRow base 40 1 vo' (us.length + 2) (us ++ [v1, v2])) (g : W.grownBy W2 vo.ownBlock) : AJ base (fun i => (Z i ∨ v1.ownBlock = some i) ∨ v2.ownBlock = some i) W2 vo' (us ++ [v1, v2]) (rows ++ [l1, l2]) := by
  have hz : ∀ i, ((Z i ∨ v1.ownBlock = some i) ∨ v2.ownBlock = some i) → base ≤ i ∧ ∃ cs, W.heap[i]? = some (.cells cs 3 (0, 0)) := fun i hi => by
    rcases hi with (hi | hi) | hi
    · exact h.zt i hi
    · obtain ⟨h1, -, cur, hc⟩ := own_lt o1 hi; exact ⟨by omega, cur, hc⟩
    · obtain ⟨h1, -, cur, hc⟩ := own_lt o2 hi; exact ⟨by omega, cur, hc⟩
  have hk : ∀ i, ((Z i ∨ v1.ownBlock = some i) ∨ v2.ownBlock = some i) → i < W.heap.size → W2.heap[i]? = W.heap[i]? := fun i hi hl => g.block i hl fun e => by
    obtain ⟨-, cs, hc⟩ := hz i hi
    have := own_ty h.on e.symm hc
    cases this
  have hown : ∀ {B : Nat} {v : Value} {l : List Int}, W.ownsRow B 3 1 v l.length (l.map (Value.int .i64)) → ∀ g off n c, v = .slice (some ⟨g, off, none⟩) n c → v.ownBlock = some g := fun {B v l} ho g off n c e => by
    rcases ho.2 with ⟨e2, _⟩ | ⟨g', cap, cur, e2, _⟩
    · rw [e] at e2; cases e2
    · rw [e] at e2; injection e2 with e2 _ _; injection e2 with e2; injection e2 with e2 _ _
      rw [e, e2]
      subst e2
      rfl
  have r1 := (h.rn.keep (Z' := fun i => (Z i ∨ v1.ownBlock = some i) ∨ v2.ownBlock = some i) (fun _ h => .inl (.inl h)) (Nat.le_refl _) (fun _ _ _ => rfl)).push (slI_own o1 rfl (by omega)) (fun g off n c e => .inl (.inr (hown o1 g off n c e)))
  have r2 := r1.push (slI_own o2 rfl (by omega)) (fun g off n c e => .inr (hown o2 g off n c e))
  rw [List.append_assoc, List.append_assoc] at r2
  exact ⟨by rw [List.length_append]; exact q, r2.keep (fun _ h => h) g.size hk, fun i hi => ⟨(hz i hi).1, by obtain ⟨cs, hc⟩ := (hz i hi).2; exact ⟨cs, (hk i hi (lt_blk hc)).trans hc⟩⟩⟩
/-- What is read while the lists grow remains as it was. -/
theorem AJ.still (_h : AJ base Z W vo us rows) {b : Nat} {us0 more news : List Value} (hu : us = us0 ++ more) (hr : ∀ j (h : j < us0.length), W.cell? ⟨b, j, none⟩ = some us0[j]) (hb : b < W.heap.size)
    {n : Nat} (q : W2.ownsRow base 40 1 vo' n (us ++ news)) (g : W.grownBy W2 vo.ownBlock) (e : (∃ g, vo.ownBlock = some g ∧ vo'.ownBlock = some g) ∨ (Below W.heap.size W W2 ∧ ∀ g, vo'.ownBlock = some g → W.heap.size ≤ g)) : ∀ j (h : j < us0.length), W2.cell? ⟨b, j, none⟩ = some us0[j] := by
  intro j hj
  rcases e with ⟨g1, e1, e2⟩ | ⟨e, -⟩
  · by_cases hg : g1 = b
    · subst hg
      have hcs := q.cells (g := g1) e2 j us0[j] (by rw [hu, List.append_assoc, List.getElem?_append_left hj, List.getElem?_eq_getElem hj])
      rwa [add_at, Nat.zero_add] at hcs
    · exact (World.cell?_of_block (g.block b hb (by rw [e1]; intro e; injection e with e; exact hg e.symm))).trans (hr j hj)
  · exact (e.cell (p := ⟨b, j, none⟩) hb).trans (hr j hj)
end
theorem AJ.start {W : World} {g : Nat} (h : W.heap[g]? = some (.cells #[.slice none 0 0] 40 (0, 0))) {base : Nat} (hg : base ≤ g) : AJ base (fun _ => False) W (.slice (some ⟨g, 0, none⟩) 1 1) [.slice none 0 0] [[]] :=
  ⟨⟨rfl, .inr ⟨g, 1, #[.slice none 0 0], rfl, hg, h, by decide, by decide, rfl, rfl⟩⟩, by
    have := (Rws.nil (fun _ => False) W).push (v := .slice none 0 0) (l := []) (slI_nil W) (fun g off n c e => by cases e)
    exact this, fun _ h => h.elim⟩
set_option maxRecDepth 100000 in
set_option maxHeartbeats 4000000 in
theorem all_any (y : Nat) (hy : y ≤ 8) (w : World) : Calls Try.prog 37 #[.int .i64 y] w fun e w' => ∃ v, e = .returned v ∧ SlII w' v (allL y) ∧ Below w.heap.size w w' := by
  go_enter Try.func37, Try.ntmps37
  refine wp_seq_k (fun K hK => ?_)
  have HK := Lib.hid hK; clear hK
  go_wp2
  refine HK.out _ _ ?_; clear HK
  obtain ⟨w1, hw1⟩ : ∃ q, q = w.alloc (.cells #[.slice none 0 0] 40) := ⟨_, rfl⟩
  have c1 : w1.heap[w.heap.size]? = some (.cells #[.slice none 0 0] 40 (0, 0)) := by rw [hw1]; exact heap_newI rfl
  have hb1 : Below w.heap.size w w1 := by rw [hw1]; exact (Below.refl _ _).alloc (Nat.le_refl _) _
  refine wp_seq_k (fun K hK => ?_)
  have HK := Lib.hid hK; clear hK
  go_wp2
  refine HK.out _ _ ?_; clear HK
  rw [← hw1]
  have HJ0 := Lib.hid (And.intro (AJ.start c1 (Nat.le_refl _)) hb1)
  clear hw1 c1 hb1
  obtain ⟨bs, hbs⟩ : ∃ q, q = w.heap.size := ⟨_, rfl⟩
  rw [← hbs] at HJ0 ⊢
  have HBS := Lib.hid hbs
  clear hbs
  go_wp2
  go_loopw [3, 4, 5] (fun o f i wr => ∃ (n : Nat) (Z : Nat → Prop) (us : List Value), n ≤ y ∧ i = .int .i64 n ∧ f = .int .i64 ((2 ^ n - 1 : Nat) : Int) ∧ Hid (AJ bs Z wr o us (allL n) ∧ Below bs w wr)) (fun _ _ i _ => y - (intOf i).toNat)
  case atStart => exact ⟨0, _, _, Nat.zero_le _, rfl, rfl, HJ0⟩
  case round =>
    clear HJ0
    obtain ⟨n, Z, us, hn, rfl, rfl, HJ⟩ := hrel
    obtain ⟨wo, rfl⟩ : ∃ q, q = wr := ⟨_, rfl⟩
    by_cases hny : n < y
    · have hni : (n : Int) < (y : Int) := by omega
      obtain ⟨hJ, hB⟩ := HJ.out
      obtain ⟨T, hT⟩ : ∃ q, q = us.length := ⟨_, rfl⟩
      obtain ⟨F, hF⟩ : ∃ q, q = 2 ^ n - 1 := ⟨_, rfl⟩
      obtain ⟨G, hG⟩ : ∃ q, q = 2 ^ n := ⟨_, rfl⟩
      have hTl : us.length = 2 ^ (n + 1) - 1 := by rw [hJ.rn.1, allL_len]
      have hGb : 1 ≤ G ∧ G ≤ 256 := by rw [hG]; exact ⟨Nat.one_le_two_pow, (Nat.pow_le_pow_right (by decide) (show n ≤ 8 by omega))⟩
      have hTF : T = F + G := by rw [hT, hTl, hF, Nat.pow_succ]; omega
      have hFG : F + 1 = G := by rw [hF]; omega
      obtain ⟨g, c, e⟩ := own_formI hJ.on (by omega)
      have hcap := cap_of hJ.on _ _ _ e
      have hlen : T ≤ 511 := by omega
      have HJ2 := Lib.hid (And.intro hJ hB)
      rw [e, ← hT] at HJ2
      rw [e, ← hT]
      rw [← hT] at hcap hTl
      rw [← hF]
      have HN := Lib.hid (And.intro hTl (And.intro hF hG))
      have HT := Lib.hid hT
      have HFG := Lib.hid (And.intro hTF hFG)
      have hf1 : (0 : Int) ≤ (F : Int) := by omega
      have hf2 : (F : Int) ≤ (T : Int) := by omega
      have hf3 : (T : Int) ≤ (c : Int) := by omega
      have hf4 : ¬ c = F := by omega
      have hf5 : F ≤ T := by omega
      have hsub : T - F = G := by omega
      have hgl : g < wo.heap.size := (own_lt hJ.on (g := g) (by rw [e]; rfl)).2.1
      have hrd : ∀ j (h : j < us.length), wo.cell? ⟨g, j, none⟩ = some us[j] := fun j hj => by
        have := hJ.on.cells (g := g) (by rw [e]; rfl) j us[j] (List.getElem?_eq_getElem hj)
        rwa [add_at, Nat.zero_add] at this
      have HRD := Lib.hid hrd
      clear hT hTl hF hG hJ hB hTF hFG HJ e hrd hcap
      go_wp2
      go_loopw [3, 22] (fun o i wr => ∃ (k : Nat) (Z : Nat → Prop) (more : List Value), k ≤ G ∧ i = .int .i64 k ∧ Hid (AJ bs Z wr o (us ++ more) (allL n ++ ((levL n).take k).flatMap fun l => [l ++ [0], l ++ [1]]) ∧ Below bs w wr ∧ (∀ j (h : j < us.length), wr.cell? ⟨g, j, none⟩ = some us[j]) ∧ g < wr.heap.size)) (fun _ i _ => G - (intOf i).toNat)
      case atStart => exact ⟨0, Z, [], Nat.zero_le _, rfl, Lib.hid ⟨by rw [List.append_nil, List.take_zero, List.flatMap_nil, List.append_nil]; exact HJ2.out.1, HJ2.out.2, HRD.out, hgl⟩⟩
      case round =>
        clear HJ2 HRD
        obtain ⟨k, Z', more, hk, rfl, HQ⟩ := hrel
        obtain ⟨wp, rfl⟩ : ∃ q, q = wr := ⟨_, rfl⟩
        by_cases hkG : k < G
        · have hki : (k : Int) < (G : Int) := by omega
          obtain ⟨hJ, hB, hrd, hgl'⟩ := HQ.out
          obtain ⟨ls, hls, hll⟩ := allL_last n
          have hll2 : (levL n).length = G := by rw [levL_len, HN.out.2.2]
          have hkl : k < (levL n).length := by omega
          have hFk : F + k < us.length := by rw [← HT.out, HFG.out.1]; omega
          have hc := hrd (F + k) hFk
          obtain ⟨l, hl⟩ : ∃ l, l = (levL n)[k] := ⟨_, rfl⟩
          have hlw := levL_wd n l (by rw [hl]; exact List.getElem_mem hkl)
          obtain ⟨u, hu⟩ : ∃ u, u = us[F + k] := ⟨_, rfl⟩
          have hsl : SlI wp u l := by
            have h1 : F + k < (us ++ more).length := by rw [List.length_append]; omega
            have h2 : F + k < (allL n ++ ((levL n).take k).flatMap fun l => [l ++ [0], l ++ [1]]).length := by rw [← hJ.rn.1]; exact h1
            have h3 := (hJ.rn.2.2 (F + k) h1 h2).1
            have e1 : (us ++ more)[F + k] = u := by rw [List.getElem_append_left hFk, hu]
            have e2 : (allL n ++ ((levL n).take k).flatMap fun l => [l ++ [0], l ++ [1]])[F + k] = l := by
              have hx : ls.length = F := by rw [hll, HN.out.2.1]
              have hlt : F + k < (allL n).length := by rw [hls, List.length_append]; omega
              rw [List.getElem_append_left hlt, hl]
              simp only [hls]
              rw [List.getElem_append_right (by omega)]
              simp [hx]
            rwa [e1, e2] at h3
          rw [← hu] at hc
          obtain ⟨au, cu, rfl⟩ := slI_form hsl
          have HL := Lib.hid (And.intro (show (levL n)[k]? = some l by rw [List.getElem?_eq_getElem hkl, hl]) hlw)
          have HSL := Lib.hid hsl
          have HJ := Lib.hid (And.intro hJ hB)
          have HRD := Lib.hid (And.intro hrd hgl')
          have hlen : l.length ≤ 8 := by have := hlw.1; omega
          have hno : (us ++ more).length ≤ 2000 := by
            rw [hJ.rn.1, List.length_append, flat2_len, List.length_take, allL_len, hll2, ← HN.out.1]
            omega
          have HNO := Lib.hid hno
          have hbsz : bs ≤ wp.heap.size := by rw [HBS.out]; rw [HBS.out] at hB; exact hB.size
          clear hl hlw hsl hJ hB hrd hls hll hll2 hu HQ hFk hkl hno hgl'
          have hcx : wp.cell? ⟨g, F + k, none⟩ = some (.slice au l.length cu) := hc
          clear hc
          go_wp2_with (at_builtin; refine cutme ?_)
          refine ⟨?_⟩
          have hBe : Below wp.heap.size wp (wp.alloc (.cells #[] 3)) := (Below.refl _ _).alloc (Nat.le_refl _) _
          obtain ⟨wa, hwa⟩ : ∃ q, q = wp.alloc (.cells #[] 3) := ⟨_, rfl⟩
          have hge : wa.heap[wp.heap.size]? = some (.cells #[] 3 (0, 0)) := by rw [hwa]; exact heap_newI rfl
          rw [← hwa] at hBe
          simp only [← hwa]
          refine wpList_copy rfl (.tmp 27) (.tmp 28) rfl (W := wp) (xs := l) (HSL.out.below hBe (Nat.le_refl _)) (by omega) rfl rfl hge hBe (Nat.le_refl _) ?_
          intro v8 w8 q8 hB8
          have HQ8 := Lib.hid (And.intro q8 hB8)
          clear q8 hge hwa hBe hB8
          go_wp2_with (at_builtin; refine cutme ?_)
          refine ⟨?_⟩
          obtain ⟨q8, hB8⟩ := HQ8.out
          refine wpList_push rfl (.tmp 29) (.tmp 30) rfl (W := wp) (xs := l) (i := 0) (own_alloc q8 _) (by omega) rfl rfl (heap_newI rfl) (hB8.alloc hB8.size _) ?_
          intro v9 w9 q9 hB9
          obtain ⟨g9, c9, rfl⟩ := own_formI q9 (by omega)
          have HQ9 := Lib.hid (And.intro q9 hB9)
          obtain ⟨L1, hL1⟩ : ∃ q, q = l.length + 1 := ⟨_, rfl⟩
          rw [← hL1]
          have HL1 := Lib.hid hL1
          clear q9 hB9 q8 hB8 HQ8 hL1
          go_wp2_with (at_builtin; refine cutme ?_)
          refine ⟨?_⟩
          have hBe : Below w9.heap.size w9 (w9.alloc (.cells #[] 3)) := (Below.refl _ _).alloc (Nat.le_refl _) _
          obtain ⟨wa, hwa⟩ : ∃ q, q = w9.alloc (.cells #[] 3) := ⟨_, rfl⟩
          have hge : wa.heap[w9.heap.size]? = some (.cells #[] 3 (0, 0)) := by rw [hwa]; exact heap_newI rfl
          rw [← hwa] at hBe
          simp only [← hwa]
          refine wpList_copy rfl (.tmp 32) (.tmp 33) rfl (W := w9) (xs := l) ((HSL.out.below HQ9.out.2 (Nat.le_refl _)).below hBe (Nat.le_refl _)) (by omega) rfl rfl hge hBe (Nat.le_refl _) ?_
          intro v11 w11 q11 hB11
          have HQ11 := Lib.hid (And.intro q11 hB11)
          clear q11 hge hwa hBe hB11
          go_wp2_with (at_builtin; refine cutme ?_)
          refine ⟨?_⟩
          obtain ⟨q11, hB11⟩ := HQ11.out
          refine wpList_push rfl (.tmp 34) (.tmp 35) rfl (W := w9) (xs := l) (i := 1) (own_alloc q11 _) (by omega) rfl rfl (heap_newI rfl) (hB11.alloc hB11.size _) ?_
          intro v12 w12 q12 hB12
          obtain ⟨g12, c12, rfl⟩ := own_formI q12 (by omega)
          have HQ12 := Lib.hid (And.intro q12 hB12)
          rw [← HL1.out]
          clear q12 hB12 q11 hB11 HQ11
          go_wp2_with (at_builtin; refine cutme ?_)
          refine ⟨?_⟩
          obtain ⟨q9, hB9⟩ := HQ9.out
          obtain ⟨q12, hB12⟩ := HQ12.out
          obtain ⟨hJ, hB⟩ := HJ.out
          obtain ⟨hrd, hgl'⟩ := HRD.out
          obtain ⟨w13, hw13⟩ : ∃ q, q = w12.alloc (.cells #[.slice (some ⟨g9, 0, none⟩) L1 c9, .slice (some ⟨g12, 0, none⟩) L1 c12] 40) := ⟨_, rfl⟩
          have hB13 : Below w12.heap.size w12 w13 := by rw [hw13]; exact (Below.refl _ _).alloc (Nat.le_refl _) _
          have hcn := cell_newL (W := w12) (xs := [.slice (some ⟨g9, 0, none⟩) L1 c9, .slice (some ⟨g12, 0, none⟩) L1 c12]) (t := 40) (g := w12.heap.size) rfl
          rw [show (World.alloc w12 (.cells (List.toArray [Value.slice (some ⟨g9, 0, none⟩) L1 c9, Value.slice (some ⟨g12, 0, none⟩) L1 c12]) 40)) = w13 from hw13.symm] at hcn
          simp only [← hw13]
          have hB912 : Below wp.heap.size wp w12 := hB9.trans (hB12.mono hB9.size)
          have hBp : Below wp.heap.size wp w13 := hB912.trans (hB13.mono hB912.size)
          have hJ13 := hJ.quiet hBp
          have o9 : w13.ownsRow wp.heap.size 3 1 (.slice (some ⟨g9, 0, none⟩) L1 c9) (l ++ [0]).length ((l ++ [0]).map (Value.int .i64)) := by
            rw [List.length_append, HL1.out]
            exact own_same (own_same q9 fun i hi => hB12.block i (own_lt q9 hi).2.1) fun i hi => hB13.block i (Nat.lt_of_lt_of_le (own_lt q9 hi).2.1 hB12.size)
          have o12 : w13.ownsRow w9.heap.size 3 1 (.slice (some ⟨g12, 0, none⟩) L1 c12) (l ++ [1]).length ((l ++ [1]).map (Value.int .i64)) := by
            rw [List.length_append, HL1.out]
            exact own_same q12 fun i hi => hB13.block i (own_lt q12 hi).2.1
          have hs13 := hBp.size
          refine wpList_app3 rfl (.tmp 26) (.tmp 37) 22 40 rfl Try.underlying22 info40 rfl (by decide) (xs := us ++ more) (base := bs) hJ13.on (by have := HNO.out; omega) rfl rfl (news := [.slice (some ⟨g9, 0, none⟩) L1 c9, .slice (some ⟨g12, 0, none⟩) L1 c12]) rfl (by decide) hcn (by intro z hz; simp only [List.mem_cons, List.not_mem_nil, or_false] at hz; rcases hz with rfl | rfl <;> rfl) (by omega) ?_
          intro vo' w14 q14 g14 e14
          have hJ14 := hJ13.push hbsz (by have := hB9.size; omega) o9 o12 (by simp; omega) (by simp; omega) q14 g14
          have hrd13 : ∀ j (h : j < us.length), w13.cell? ⟨g, j, none⟩ = some us[j] := fun j hj => (hBp.cell (p := ⟨g, j, none⟩) hgl').trans (hrd j hj)
          have hrd14 := hJ13.still rfl hrd13 (by omega) q14 g14 e14
          have hBs : Below bs w w14 := ⟨g14.os.trans (hBp.os.trans hB.os), g14.tape.trans (hBp.tape.trans hB.tape), g14.output.trans (hBp.output.trans hB.output), Nat.le_trans hB.size (Nat.le_trans hBp.size g14.size), fun i hi => (g14.block i (by omega) fun e => by have := (own_lt hJ13.on e.symm).1; omega).trans ((hBp.block i (by omega)).trans (hB.block i hi))⟩
          have hgl14 : g < w14.heap.size := by have := g14.size; omega
          have hro : (allL n ++ ((levL n).take k).flatMap fun l => [l ++ [0], l ++ [1]]) ++ [l ++ [0], l ++ [1]] = allL n ++ ((levL n).take (k + 1)).flatMap fun l => [l ++ [0], l ++ [1]] := by
            rw [List.append_assoc, List.take_add_one, HL.out.1, List.flatMap_append]
            rfl
          rw [hro, List.append_assoc] at hJ14
          have HE := Lib.hid (show AJ bs _ w14 vo' _ _ ∧ Below bs w w14 ∧ (∀ j (h : j < us.length), w14.cell? ⟨g, j, none⟩ = some us[j]) ∧ g < w14.heap.size from ⟨hJ14, hBs, hrd14, hgl14⟩)
          clear q9 hB9 q12 hB12 hJ hB hrd hgl' hw13 hB13 hcn hB912 hBp hJ13 o9 o12 hs13 q14 g14 e14 hJ14 hrd13 hrd14 hBs hgl14 hro
          go_wp2
          exact ⟨⟨k + 1, _, _, by omega, by go_num, HE⟩, by simp only [intOf]; omega⟩
        · have hki : ¬ (k : Int) < (G : Int) := by omega
          have hke : k = G := by omega
          have hle : (levL n).take k = levL n := List.take_of_length_le (by rw [levL_len, hke, HN.out.2.2]; exact Nat.le_refl _)
          have hF2 : T = 2 ^ (n + 1) - 1 := HN.out.1
          rw [hle] at HQ
          have HQ2 : Hid (AJ bs Z' wp _ (us ++ more) (allL (n + 1)) ∧ Below bs w wp) := Lib.hid ⟨HQ.out.1, HQ.out.2.1⟩
          clear hle HQ hke
          have HT2 := Lib.hid hF2
          clear hF2
          go_wp2
          exact ⟨⟨n + 1, _, _, by omega, by go_num, by rw [HT2.out], HQ2⟩, by simp only [intOf]; omega⟩
    · have hni : ¬ (n : Int) < (y : Int) := by omega
      have hne : n = y := by omega
      obtain ⟨hJ, hB⟩ := HJ.out
      have hs := hJ.rn.slII hJ.on (by rw [hJ.rn.1, allL_len]; have := Nat.pow_le_pow_right (n := 2) (by decide) (show n + 1 ≤ 9 by omega); omega)
      rw [hne] at hs
      have HS := Lib.hid (And.intro hs hB)
      clear hs hJ hB hne
      go_wp2
      go_ret
      exact ⟨_, rfl, HS.out.1, HS.out.2⟩
end Ytnjgglnpmhjmiaa
end Go.Proofs
