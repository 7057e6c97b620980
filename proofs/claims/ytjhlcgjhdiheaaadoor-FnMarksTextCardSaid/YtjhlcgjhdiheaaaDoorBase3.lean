/- The small functions of the marks chapter, third part: the texts that lists of words are marked with. -/
import Derived.Test.YtjhlcgjhdiheaaaDoorBase2
import Derived.Laws.BytesArg
import Derived.Great.BuildSlice
import Derived.Deep.RegionWith
namespace Go.Proofs.YtjhlcgjhdiheaaaDoor
open Go.RowKit
set_option linter.unusedVariables false
set_option linter.unusedSimpArgs false

end Go.Proofs.YtjhlcgjhdiheaaaDoor

