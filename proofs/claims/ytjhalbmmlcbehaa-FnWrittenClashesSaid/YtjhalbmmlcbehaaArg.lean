/- A law's arguments: lists of words that came in. -/
import Derived.Test.YtjhalbmmlcbehaaMem
import Derived.SliceStrings
import Derived.ProofKit
import Derived.OpenShut
import Derived.ShutString
import Derived.ChangeOld
namespace Go.Proofs.Ytjhalbmmlcbehaa
open Go.ChangeShapes Go.WideShapes Go.ChangeAt Go.RowKit
set_option linter.unusedVariables false

theorem strs_in {H : Type} {enc : TypeId × Value → H} {W : World} {base : Nat} {spare : Nat → Bool} {held : Bool} {fuel : Nat} {a : Option Addr} {len cap : Nat} {x : DataW H × List MemPlace} (hf : DataW.trod enc Try.prog W base spare held fuel 24 [.slice a len cap] = some x) :
    (∃ xs, Strs W a len xs) ∧ len ≤ cap ∧ cap ≤ 9223372036854775807 ∧ (a = none → cap = 0) := by
  rcases open_strings Try.underlying24 Try.underlying9 (by kernel_rfl) hf with ⟨hcs, _⟩ | ⟨x, l, c, zs, hcs, _, hl, hm, hz, _, hcell, hwz⟩
  · simp at hcs
    obtain ⟨rfl, rfl, rfl⟩ := hcs
    exact ⟨⟨[], Strs.nil⟩, by omega, by omega, fun _ => rfl⟩
  · simp at hcs
    obtain ⟨rfl, rfl, rfl⟩ := hcs
    unfold maxLen at hm
    have hzl : len ≤ zs.length := by rw [hz]; split <;> omega
    refine ⟨⟨zs.take len, by rw [List.length_take]; omega, fun y hy => hwz y (List.mem_of_mem_take hy), fun hn => ?_⟩, hl, hm, fun e => by cases e⟩
    obtain ⟨b, off, spot⟩ := x
    have hc := hcell 0 (by omega)
    have hspot : spot = none := by simpa [Addr.add] using World.cell?_spot hc
    subst hspot
    refine ⟨b, off, rfl, by have := lt_of_cell hc; simpa [Addr.add] using this, fun j y hj => ?_⟩
    have hjl : j < len := by
      have := (List.getElem?_eq_some_iff.1 hj).1
      rw [List.length_take] at this; omega
    have hz : zs[j]? = some y := by rwa [List.getElem?_take_of_lt hjl] at hj
    have h4 := hcell j (by omega)
    rw [List.getD_eq_getElem?_getD, hz, Option.getD_some] at h4
    rw [← h4]
    congr 1
    unfold Addr.add
    split <;> simp_all
end Go.Proofs.Ytjhalbmmlcbehaa

