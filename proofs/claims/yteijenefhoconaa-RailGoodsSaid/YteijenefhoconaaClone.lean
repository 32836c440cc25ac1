/- slices.Clone of a plan; the closure that recovers; plan; Plan. -/
import Derived.Test.YteijenefhoconaaSrch
import Derived.Lib.SliceRun
import Derived.RecoverIn
open Go Go.RowKit Go.YteijenefhoconaaIt
namespace Go.Proofs
namespace Yteijenefhoconaa
theorem addr_block (a : Addr) (j : Nat) : (a.add j).block = a.block := by unfold Addr.add; split <;> rfl
set_option maxRecDepth 100000 in
theorem clone_any (v : Value) (xs : List Int) (base : Nat) (w : World) (h : w.ownsRow base 3 1 v xs.length (xs.map (.int .i64))) (hl : xs.length ≤ 2000) :
    Calls Try.prog 77 #[v] w fun e w' => ∃ v', e = .returned v' ∧ SlI w' v' xs ∧ Below w.heap.size w w' := by
  rcases Joins.ownsRow_forms h with ⟨rfl, h0⟩ | ⟨g, cap, rfl⟩
  · have heq := fun (w : World) => Lib.run_eql_slice_nil (P := Try.prog) w 123 3 none 0 0 0 0 Try.underlying123
    simp only [Option.isNone_none] at heq
    have H0 := Lib.hid h0
    clear h0
    go_enter Try.func77, Try.ntmps77
    go_wp2
    go_ret
    exact ⟨_, rfl, ⟨none, 0, by rw [H0.out]; rfl, by omega, fun h1 => by have := H0.out; omega⟩, Below.refl _ _⟩
  · have heq := fun (w : World) => Lib.run_eql_slice_nil (P := Try.prog) w 123 3 (some ⟨g, 0, none⟩) xs.length cap 0 0 Try.underlying123
    simp only [Option.isNone_some] at heq
    have hce := h.cells rfl
    have HCE := Lib.hid hce
    clear hce
    have hlt := (h.lt g rfl).2
    go_enter Try.func77, Try.ntmps77
    obtain ⟨i3, hi3, hz1, hz2, hz3⟩ := info_parts info3
    have hcn : ∀ j u, (xs.map (Value.int .i64))[j]? = some u → (w.alloc (.cells #[] 3)).cell? ((⟨g, 0, none⟩ : Addr).add j) = some u := fun j u hj => (World.cell?_of_block (w := w) (heap_oldI (by rw [addr_block]; exact hlt))).trans (HCE.out j u hj)
    have HCN := Lib.hid hcn
    clear hcn
    go_wp2_with (at_builtin; refine wpList_append_own _ rfl (.tmp 5) (.tmp 6) 123 rfl w.heap.size 3 i3 (.int .i64 0) 1 8 Try.underlying123 hi3 hz1 hz2 hz3 rfl (by decide) _ _ _ rfl (World.ownsRow_made w #[] 0 (Nat.le_refl _) (by decide) rfl) ⟨g, 0, none⟩ xs.length cap (xs.map (.int .i64)) rfl (by simp) HCN.out (by simp [Value.oneCell']) (Nat.le_trans (by omega : 0 + xs.length ≤ 2000) (by decide)) (by omega) (by rw [World.size_alloc]; omega) ?_; intro v' w6 r1 r2 _)
    go_ret
    have hs : w.heap.size + 1 ≤ w6.heap.size := by have := r2.size; simpa using this
    refine ⟨v', rfl, slI_own (base := w.heap.size) (W := w6) (by simpa using r1) (by omega) (Nat.le_refl _) (fun _ _ _ => rfl), r2.os, r2.tape, r2.output, by omega, fun k hk => ?_⟩
    rw [r2.block k (by simp; omega) (fun h2 => by have h3 : some k = some w.heap.size := h2; injection h3; omega)]
    exact heap_oldI hk
end Yteijenefhoconaa
end Go.Proofs
