/- MarksSize of both programs. -/
import Derived.Test.YtjhlcgjhdiheaaaDoorVal3
namespace Go.Proofs.YtjhlcgjhdiheaaaDoor
open Go.RowKit
set_option linter.unusedVariables false
set_option linter.unusedSimpArgs false

/-- what a mark of valid ones has -/
theorem fit_of {ws : List ByteArray} {ms : List M} (h : valid ws ms = true) {m : M} (hm : m ∈ ms) : 0 ≤ m.at_ ∧ m.at_ ≤ ws.length ∧ 0 ≤ m.cut ∧ m.cut ≤ ws.length - m.at_ ∧ m.put.length ≤ 20 ∧ 0 < m.cut + m.put.length ∧ ws.length ≤ 20 ∧ ms.length ≤ 20 := by
  have h1 := Mk.fit_parts wok (Mk.valid_mem wok h m hm)
  have h2 := Mk.valid_parts wok h
  have h3 := (Mk.speech_parts wok h1.2.2.2.2.1).1
  have h4 := (Mk.speech_parts wok h2.1).1
  exact ⟨h1.1, h1.2.1, h1.2.2.1, h1.2.2.2.1, h3, h1.2.2.2.2.2, h4, h2.2.1⟩

end Go.Proofs.YtjhlcgjhdiheaaaDoor

