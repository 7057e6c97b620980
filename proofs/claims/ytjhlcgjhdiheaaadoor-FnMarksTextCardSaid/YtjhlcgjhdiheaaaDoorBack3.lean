/- MarksBack of the reference. -/
import Derived.Test.YtjhlcgjhdiheaaaDoorBack2
namespace Go.Proofs.YtjhlcgjhdiheaaaDoor
open Go.RowKit
set_option linter.unusedVariables false
set_option linter.unusedSimpArgs false

end Go.Proofs.YtjhlcgjhdiheaaaDoor

