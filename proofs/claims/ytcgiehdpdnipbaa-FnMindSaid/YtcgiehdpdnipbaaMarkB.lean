/- Lengths of joined and heard talks; capacities of rows of the call's own. -/
import Derived.Test.YtcgiehdpdnipbaaPeak
namespace Go.Proofs.Ytcgiehdpdnipbaa
open Go.RowKit
theorem joinL_len (a b : List Int) : (joinL a b).length ≤ 30 := by
  unfold joinL
  split
  · rename_i h; exact Talk.valid_len h
  · simp
theorem heardL_len (xs : List Int) (p t : Int) : (heardL xs p t).length ≤ xs.length := by
  unfold heardL
  split
  · unfold Talk.heard; rw [Talk.hear_len]; exact Nat.le_refl _
  · simp
theorem OwnI.cap_max {w : World} {lo hi n c : Nat} {A : Option Addr} {xs : List Int} (h : OwnI w lo hi A n c xs) : c ≤ 9223372036854775807 := by
  rcases h.1.2 with ⟨e, h0⟩ | ⟨g, cap, cur, hv, _, _, _, hm, _⟩
  · injection e with _ _ e; omega
  · injection hv with _ _ e; subst e; unfold maxLen at hm; omega
end Go.Proofs.Ytcgiehdpdnipbaa
