/- The statements' sameTexts and sameMarks. -/
import Derived.Test.YtjhlcgjhdiheaaaDoorSame
import Derived.Test.YtjhlcgjhdiheaaaDoorH3
import Derived.Test.YtjhlcgjhdiheaaaDoorClash2
namespace Go.Proofs.YtjhlcgjhdiheaaaDoor
open Go.RowKit
set_option linter.unusedVariables false
set_option linter.unusedSimpArgs false

end Go.Proofs.YtjhlcgjhdiheaaaDoor

