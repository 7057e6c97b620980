/- ProofVote of both programs. -/
import Derived.Test.YtjhlcgjhdiheaaaDoorCat
import Derived.Test.YtjhlcgjhdiheaaaDoorPla
namespace Go.Proofs.YtjhlcgjhdiheaaaDoor
open Go.RowKit
set_option linter.unusedVariables false
set_option linter.unusedSimpArgs false

/-- a list of words that was made, and whether -/
def ListPost (w : World) (r : Option (List ByteArray)) (e : Ending) (w' : World) : Prop := ∃ A n c, e = .returned (.tuple #[.slice A n c, .bool r.isSome]) ∧ OwnS w' w.heap.size w'.heap.size A n c (r.getD []) ∧ Below w.heap.size w w'
theorem ListPost.nil_ {w w' : World} {r : Option (List ByteArray)} (h : r = none) (hb : Below w.heap.size w w') : ListPost w r (.returned (.tuple #[.slice none 0 0, .bool false])) w' := by
  subst h
  exact ⟨none, 0, 0, rfl, OwnS.nil _ _ _ (Nat.le_refl _), hb⟩
theorem ListPost.empty {w w' : World} {r : Option (List ByteArray)} {lo hi : Nat} {A : Option Addr} {c : Nat} (h : r = none) (ho : OwnS w' lo hi A 0 c []) (hlo : w.heap.size ≤ lo) (hb : Below w.heap.size w w') : ListPost w r (.returned (.tuple #[.slice A 0 c, .bool false])) w' := by
  subst h
  exact ⟨A, 0, c, rfl, ho.wide hlo ho.2.2.1 (Nat.le_refl _), hb⟩
theorem ListPost.some_ {w w' : World} {r : Option (List ByteArray)} {xs : List ByteArray} {A : Option Addr} {n c : Nat} (h : r = some xs) (ho : OwnS w' w.heap.size w'.heap.size A n c xs) (hb : Below w.heap.size w w') : ListPost w r (.returned (.tuple #[.slice A n c, .bool true])) w' := by
  subst h
  exact ⟨A, n, c, rfl, ho, hb⟩

end Go.Proofs.YtjhlcgjhdiheaaaDoor

