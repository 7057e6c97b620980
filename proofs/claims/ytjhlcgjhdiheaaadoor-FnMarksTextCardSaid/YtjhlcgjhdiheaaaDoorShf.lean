/- MarksShift of both programs. -/
import Derived.Test.YtjhlcgjhdiheaaaDoorSize
namespace Go.Proofs.YtjhlcgjhdiheaaaDoor
open Go.RowKit
set_option linter.unusedVariables false
set_option linter.unusedSimpArgs false

def shiftOk (ws : List ByteArray) (ms : List M) (i : Int) : Bool := valid ws ms && (decide (0 ≤ i) && decide (i < ws.length)) && !Mk.inCut i ms
def shiftV (ws : List ByteArray) (ms : List M) (i : Int) : Int := if shiftOk ws ms i = true then i + Mk.moved i ms else 0
theorem shift_no {ws : List ByteArray} {ms : List M} {i : Int} (h : shiftOk ws ms i = false) : shiftV ws ms i = 0 := by unfold shiftV; rw [h]; rfl
theorem shift_yes {ws : List ByteArray} {ms : List M} {i : Int} (h : shiftOk ws ms i = true) : shiftV ws ms i = i + Mk.moved i ms := by unfold shiftV; rw [h]; rfl
theorem ret_two {a b : Int} {c d : Bool} (h : a = b) (k : c = d) : Ending.returned (.tuple #[.int .i64 a, .bool c]) = .returned (.tuple #[.int .i64 b, .bool d]) := by rw [h, k]
def ShiftPost (w : World) (ws : List ByteArray) (ms : List M) (i : Int) (e : Ending) (w' : World) : Prop := e = .returned (.tuple #[.int .i64 (shiftV ws ms i), .bool (shiftOk ws ms i)]) ∧ Below w.heap.size w w'
theorem ShiftPost.no {w w' : World} {ws : List ByteArray} {ms : List M} {i : Int} (h : shiftOk ws ms i = false) (hb : Below w.heap.size w w') : ShiftPost w ws ms i (.returned (.tuple #[.int .i64 0, .bool false])) w' := ⟨ret_two (shift_no h).symm h.symm, hb⟩
theorem ShiftPost.yes {w w' : World} {ws : List ByteArray} {ms : List M} {i t : Int} (h : shiftOk ws ms i = true) (ht : t = i + Mk.moved i ms) (hb : Below w.heap.size w w') : ShiftPost w ws ms i (.returned (.tuple #[.int .i64 t, .bool true])) w' := ⟨ret_two (ht.trans (shift_yes h).symm) h.symm, hb⟩

end Go.Proofs.YtjhlcgjhdiheaaaDoor

