/- The search for a plan: it stops by a panic that bears the plan. -/
import Derived.Test.YtnihopdglkhbnaaGood
import Derived.Test.YtnihopdglkhbnaaLaws
open Go Go.RowKit Go.YtnihopdglkhbnaaIt
namespace Go
namespace YtnihopdglkhbnaaIt
open Go.Proofs.Ytnihopdglkhbnaa
theorem Kx.mono {B B' : Nat} {TT : TypeId → Prop} {X Y : World} (h : Kx B TT X Y) (hB : B ≤ B') : Kx B' TT X Y := ⟨h.size, fun k o hk => h.same k o (Nat.le_trans hB hk), h.typed⟩
theorem Stb.kx {B n : Nat} {TT : TypeId → Prop} {X : World} (hX : X.heap.size ≤ B) : Stb B (fun W => Kx n TT X W) := fun _ _ g h =>
  ⟨Nat.le_trans h.size g.size,
   fun k o hk ho hc => (g.block k (Array.getElem?_eq_some_iff.1 (h.same k o hk ho hc)).1 (.inl (Nat.lt_of_lt_of_le (Array.getElem?_eq_some_iff.1 ho).1 hX))).trans (h.same k o hk ho hc),
   fun k c t fr hk ht => (g.block k (Array.getElem?_eq_some_iff.1 (h.typed k c t fr hk ht)).1 (.inl (Nat.lt_of_lt_of_le (Array.getElem?_eq_some_iff.1 hk).1 hX))).trans (h.typed k c t fr hk ht)⟩
section
variable {P : Program}
theorem own_ne {W : World} {base k : Nat} {e : TypeId} {sz : Nat} {v : Value} {n : Nat} {xs : List Value} {c : Array Value} {t : TypeId} {fr : Nat × Nat} (ho : W.ownsRow base e sz v n xs) (h : W.heap[k]? = some (.cells c t fr)) (ht : t ≠ e) : v.ownBlock ≠ some k := by
  rcases ho.2 with ⟨rfl, _⟩ | ⟨g, cap, cur, rfl, hbg, hh, _⟩
  · simp [Value.ownBlock]
  · intro hk
    have hg : g = k := by simpa [Value.ownBlock] using hk
    subst hg
    rw [h] at hh
    cases hh
    exact ht rfl
end
end YtnihopdglkhbnaaIt
namespace Proofs
namespace Ytnihopdglkhbnaa
/-- The plan that is found: the first move after which the state is safe, and so on. -/
def planF : Nat → List Int → List Int → List Int → List Int
  | 0, _, _, _ => []
  | n + 1, L, T, A => match (movL L T A).find? (fun i => safeB L T (after L T A i)) with
    | none => []
    | some i => (i : Int) :: planF n L T (after L T A i)
def planL (L T A : List Int) : List Int := planF (left A T) L T A
theorem planL_step {L T A : List Int} (ok : Okt L T A) {i : Nat} (h : (movL L T A).find? (fun i => safeB L T (after L T A i)) = some i) : planL L T A = (i : Int) :: planL L T (after L T A i) := by
  obtain ⟨h1, h2, h3⟩ := mov_mem (List.mem_of_find?_eq_some h)
  have hl := left_after ok h1 h2 h3
  unfold planL
  rw [← hl]
  simp [planF, h]
/-- What holds where the search stops. -/
structure SrP (L T A done : List Int) (w : World) (base bm : Nat) (ch : List PanicEntry) (V : World) : Prop where
  ex : ∃ v, ch = [{ v := .iface 123 v, recovered := false }] ∧ V.ownsRow base 3 1 v (done ++ planL L T A).length ((done ++ planL L T A).map (.int .i64))
  bm_ : Bm bm base w V
  kx : Kx (bm + 1) TTm w V
/-- What holds before round k of the search's loop. -/
structure SrI (L T A done : List Int) (w : World) (vd : Value) (base B5 b4 bx bm b2 b5 : Nat) (k : Nat) (V : World) : Prop where
  x : V.heap[b4]? = some (.cells #[.pointer (some ⟨bx, 0, none⟩)] 47 (0, 0))
  at_ : V.heap[b4 + 1]? = some (.cells (arr A) 49 (0, 0))
  v5 : V.heap[B5]? = some (.cells #[vd] 27 (0, 0))
  c2 : V.heap[b2]? = some (.cells #[.pointer (some ⟨bx, 0, none⟩)] 47 (0, 0))
  c5 : V.heap[b5]? = some (.cells #[.func (.func 78) #[] #[.pointer (some ⟨b2, 0, none⟩), .pointer (some ⟨b5, 0, none⟩)]] 126 (0, 0))
  row : V.ownsRow base 3 1 vd done.length (done.map (.int .i64))
  memo : Memo V bm (GSafe L T)
  bm_ : Bm bm base w V
  kx : Kx (bm + 1) TTm w V
  no : ((movL L T A).take k).any (fun i => safeB L T (after L T A i)) = false
end Ytnihopdglkhbnaa
end Proofs
end Go

