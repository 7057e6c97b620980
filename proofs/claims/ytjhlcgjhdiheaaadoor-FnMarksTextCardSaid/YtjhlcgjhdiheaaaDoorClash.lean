/- MarksClash of the reference. -/
import Derived.Test.YtjhlcgjhdiheaaaDoorSame
namespace Go.Proofs.YtjhlcgjhdiheaaaDoor
open Go.RowKit
set_option linter.unusedVariables false
set_option linter.unusedSimpArgs false

/-- small numbers -/
def Small (x : M) : Prop := 0 ≤ x.at_ ∧ x.at_ ≤ 20 ∧ 0 ≤ x.cut ∧ x.cut ≤ 20 ∧ x.put.length ≤ 20
theorem small_of {ws : List ByteArray} {ms : List M} (h : valid ws ms = true) : ∀ x ∈ ms, Small x := fun x hx => by
  have := fit_of h hx
  unfold Small
  omega
end Go.Proofs.YtjhlcgjhdiheaaaDoor

