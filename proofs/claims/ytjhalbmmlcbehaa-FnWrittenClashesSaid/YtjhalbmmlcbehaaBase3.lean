/- The small functions of the marks chapter, third part: the texts that lists of words are marked with. -/
import Derived.Test.YtjhalbmmlcbehaaBase2
import Derived.Laws.BytesArg
import Derived.Great.BuildSlice
import Derived.Deep.RegionWith
namespace Go.Proofs.Ytjhalbmmlcbehaa
open Go.RowKit
set_option linter.unusedVariables false
set_option linter.unusedSimpArgs false

theorem byte_text (w : World) (x : Int) : (convert 22 9 (.slice (some ⟨w.heap.size, 0, none⟩) 1 1)).run Try.prog (w.alloc (.cells #[.int .u8 x] 5)) = .ok (.string (strOfNums [x])) (w.alloc (.cells #[.int .u8 x] 5)) := by
  refine run_convert_bytes_arg _ 22 5 Try.underlying22 Try.underlying5 w.heap.size 0 1 1 [x] rfl ?_ 9 Try.underlying9
  intro i hi
  obtain rfl : i = 0 := by omega
  rw [(Blk.new w 5 #[.int .u8 x]).cell]
  rfl

end Go.Proofs.Ytjhalbmmlcbehaa

