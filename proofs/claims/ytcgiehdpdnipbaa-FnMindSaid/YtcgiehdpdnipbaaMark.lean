/- Rows of the call's own beside a row that is marked; lengths. -/
import Derived.Test.YtcgiehdpdnipbaaMindB
namespace Go.Proofs.Ytcgiehdpdnipbaa
open Go.RowKit
theorem OwnI.mark_far {w w' : World} {lo hi n c lo2 hi2 n2 c2 : Nat} {A A2 : Option Addr} {xs ys : List Int} (h : OwnI w lo hi A n c xs) (hg : w.grownBy w' (A2.map (·.block))) (h2 : OwnI w lo2 hi2 A2 n2 c2 ys) (hd : hi ≤ lo2 ∨ hi2 ≤ lo) : OwnI w' lo hi A n c xs := by
  refine h.far hg (fun g e => ?_)
  cases A2 with
  | none => cases e
  | some a =>
    have e : a.block = g := by injection e
    have := h2.lo_le a rfl
    omega
theorem below_mark {w w1 w2 : World} {lo hi n c : Nat} {A : Option Addr} {xs : List Int} (hb : Below w.heap.size w w1) (hg : w1.grownBy w2 (A.map (·.block))) (ho : OwnI w1 lo hi A n c xs) (hlo : w.heap.size ≤ lo) : Below w.heap.size w w2 := by
  refine hb.grown hg hb.size (fun g e => ?_)
  cases A with
  | none => cases e
  | some a =>
    have e : a.block = g := by injection e
    have := ho.lo_le a rfl
    omega
theorem Talk.mind_len (xs : List Int) (r h : Int) : (Talk.mind xs r h).length ≤ xs.length := by
  unfold Talk.mind
  split
  · rw [Talk.minds_len]; exact Nat.le_refl _
  · simp
end Go.Proofs.Ytcgiehdpdnipbaa
