/- Bounds of the marks back. -/
import Derived.Test.YtjhlcgjhdiheaaaDoorBack3
import Derived.Test.YtjhlcgjhdiheaaaDoorMark
namespace Go.Proofs.YtjhlcgjhdiheaaaDoor
open Go.RowKit

theorem totPut_small : ∀ (ms : List M), (∀ m ∈ ms, m.put.length ≤ 20) → totPut ms ≤ 20 * ms.length
  | [], _ => by simp [totPut]
  | m :: ms, h => by
    have h1 := h m (List.mem_cons_self ..)
    have h2 := totPut_small ms (fun x hx => h x (List.mem_cons_of_mem _ hx))
    simp only [totPut, List.length_cons]
    omega
theorem valid_bound {ws : List ByteArray} {ms : List M} (h : valid ws ms = true) : ms.length ≤ 20 ∧ totPut ms ≤ 400 := by
  have h1 := (Mk.valid_parts wok h).2.1
  have h2 := totPut_small ms (fun m hm => (fit_of h hm).2.2.2.2.1)
  exact ⟨h1, by omega⟩
end Go.Proofs.YtjhlcgjhdiheaaaDoor

