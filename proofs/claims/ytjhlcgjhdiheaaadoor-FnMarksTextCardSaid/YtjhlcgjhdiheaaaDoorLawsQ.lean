/- What the statements say of the least size and of the words that can stay. -/
import Derived.Test.YtjhlcgjhdiheaaaDoorPla
namespace Go.Proofs.YtjhlcgjhdiheaaaDoor

end Go.Proofs.YtjhlcgjhdiheaaaDoor

