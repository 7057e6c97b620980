/- What the statements say of shifts, ways back and sizes, in the words of the walks. -/
import Derived.Test.YtjhlcgjhdiheaaaDoorLawsQ
import Derived.Test.YtjhlcgjhdiheaaaDoorShf
import Derived.Test.YtjhlcgjhdiheaaaDoorDo
namespace Go.Proofs.YtjhlcgjhdiheaaaDoor

end Go.Proofs.YtjhlcgjhdiheaaaDoor

