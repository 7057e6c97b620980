/- Marked lists of marks, in plain Lean. -/
import Derived.Test.YtjhlcgjhdiheaaaDoorBase3
import Derived.Test.YtjhlcgjhdiheaaaDoorMemM
namespace Go.Proofs.YtjhlcgjhdiheaaaDoor
open Go.RowKit

def totPut : List M → Nat
  | [] => 0
  | m :: ms => m.put.length + totPut ms
theorem totPut_snoc : ∀ (ms : List M) (m : M), totPut (ms ++ [m]) = totPut ms + m.put.length
  | [], m => by simp [totPut]
  | m' :: ms, m => by simp only [List.cons_append, totPut, totPut_snoc ms m]; omega
theorem totPut_mem : ∀ (ms : List M) (m : M), m ∈ ms → m.put.length ≤ totPut ms
  | [], m, h => by cases h
  | m' :: ms, m, h => by
    rcases List.mem_cons.1 h with rfl | h1
    · simp [totPut]
    · have := totPut_mem ms m h1; simp only [totPut]; omega
end Go.Proofs.YtjhlcgjhdiheaaaDoor

