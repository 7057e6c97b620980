/- Worlds that have grown: what lies in them, a struct that is loaded. -/
import Derived.Test.YtjhalbmmlcbehaaMemW
import Derived.Shelf.SlSortCmp.QuietGrown
import Derived.Shelf.SlicesQ.Load
import Derived.Deep.LoopGhost
namespace Go.Proofs.Ytjhalbmmlcbehaa
open Go.RowKit
set_option linter.unusedVariables false

theorem below_grow {w W : World} {B : Nat} (h : Below B w W) (hB : B ≤ W.heap.size) (q : Nat) (os : Array Obj) : Below B w (Go.Sort.grow (W.drewN q) os) := by
  refine ⟨h.os, h.tape, h.output, ?_, fun i hi => ?_⟩
  · have := h.size; rw [Go.Sort.size_grow]; exact Nat.le_trans this (Nat.le_add_right _ _)
  · have e : (Go.Sort.grow (W.drewN q) os).heap[i]? = W.heap[i]? := by
      show (W.heap ++ os)[i]? = _
      rw [Array.getElem?_append, if_pos (by omega)]
    exact e.trans (h.block i hi)
theorem grown_alloc {w w' : World} {o : Obj} (h : w.alloc o = w') : ∃ q os', w' = Go.Sort.grow (w.drewN q) os' := ⟨0, #[o], by rw [← h]; show ({ w with heap := w.heap.push o } : World) = { w with heap := w.heap ++ #[o] }; rw [Array.push_eq_append]⟩
theorem mixed : Try.prog.follows .mixedOrders = true := by kernel_rfl
theorem load2 {W : World} {b o : Nat} {v0 v1 : Value} (h0 : W.cell? ⟨b, o, none⟩ = some v0) (h1 : W.cell? ⟨b, o + 1, none⟩ = some v1) :
    Sem.run Try.prog (loadCellsFrom ⟨b, o, none⟩ 0 2 #[]) W = .ok #[v0, v1] W := by
  refine run_loadCellsFrom_list Try.prog _ _ [v0, v1] 2 rfl (fun i v hi => ?_)
  rw [Addr.add_lit]
  match i, hi with
  | 0, hi => simp at hi; subst hi; exact h0
  | 1, hi => simp at hi; subst hi; exact h1
  | i + 2, hi => simp at hi
end Go.Proofs.Ytjhalbmmlcbehaa
