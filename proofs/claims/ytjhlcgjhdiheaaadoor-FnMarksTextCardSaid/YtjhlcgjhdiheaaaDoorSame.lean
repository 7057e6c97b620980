/- Words and marks compared, by both programs and by the statements; what a comparison leaves behind, as an equation. -/
import Derived.Test.YtjhlcgjhdiheaaaDoorSize
import Derived.Test.YtjhlcgjhdiheaaaDoorH3
namespace Go.Proofs.YtjhlcgjhdiheaaaDoor
open Go.RowKit
set_option linter.unusedVariables false
set_option linter.unusedSimpArgs false

end Go.Proofs.YtjhlcgjhdiheaaaDoor

