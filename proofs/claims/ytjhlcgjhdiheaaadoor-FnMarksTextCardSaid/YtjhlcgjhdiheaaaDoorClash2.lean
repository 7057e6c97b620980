/- MarksClash of the program: a mark's clash with another one, ContainsFunc with a mark's method. -/
import Derived.Test.YtjhlcgjhdiheaaaDoorClash
namespace Go.Proofs.YtjhlcgjhdiheaaaDoor
open Go.RowKit
set_option linter.unusedVariables false
set_option linter.unusedSimpArgs false

end Go.Proofs.YtjhlcgjhdiheaaaDoor

