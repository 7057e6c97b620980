/-
  No cell of these rows narrows 'for every input' (looked for: loops, veiled, ifaces, maps, wideKeys, modest, calm, conditions, laid).
  DERIVED. THE GIVEN ROWS OF THIS SEAT. 3 by the template 'for every input the law returns true; each argument reads behind the call as it read before'; 0 by the template 'total and deterministic' (their statements: YtjhalbmmlcbehaaTotals.lean).
  GIVEN WITH THE SEED: the statements are not yours to turn. If you find one false, say at which input.
  Laid BY PROGRAM, IN A SANDBOX (cutbox-rows.mjs): the forced cells as the released guide's own fill.sh prints them over the translation 0fa085ce13238940… (all of the seat's roots in one cut). By AI agents, Wed Nov 11 2026. No macro, syntax, notation, axiom, sorry.
-/
import Derived.Test.YtjhalbmmlcbehaaChecked
import GoSem.Claim
import GoSem.ClaimJoined
import GoSem.ClaimMapViews
import Derived.JoinedTies
import Derived.KernelRfl
namespace Go.Proofs.Ytjhalbmmlcbehaa
/- THE CELL 'sum', in the pinned program and in every row, IS THE sha256 OF THE DUMP (.gsa) THAT YtjhalbmmlcbehaaProg.lean LOADS. Nothing in Lean hashes anything: it is a label: what it is worth is what the hold of that sum in a sandbox is worth. -/
noncomputable def Try.pinned : Pinned := { name := "ytjhalbmmlcbehaa", sum := "0fa085ce13238940e52d39f170b7311d719fbbd1850c77fdf19a3bed4a8ce08a", checked := Try.checked }
namespace Rows
def none {H : Type} : Left H := { results := [], args := [] }

/-- 'laws.FnWrittenClashes': WHATEVER THE INPUT: true; the input reads as it did. -/
def fnWrittenClashesSpec : ChangeSpec := { name := "fnWrittenClashes", fn := fun _ => fun
  | [d] => { results := [.lit (.bool true)], args := [d] }
  | _ => none }
def fnWrittenClashesRow : OpenClaim := { program := "ytjhalbmmlcbehaa", sum := "0fa085ce13238940e52d39f170b7311d719fbbd1850c77fdf19a3bed4a8ce08a", func := "loop.example/shorthand/laws.FnWrittenClashes", spec := "fnWrittenClashes", inPlace := ["internal/bytealg.IndexByteString"], recurses := true, plainKeys := false, apart := false }
def FnWrittenClashesSaid : Prop := fnWrittenClashesRow.holds Try.pinned (OpenSpec.ofChange fnWrittenClashesSpec)

/-- ITS FALSE NEIGHBOUR: 'it returns false'. Refute it at one input. -/
def fnWrittenClashesWrong : ChangeSpec := { name := "fnWrittenClashes", fn := fun _ => fun
  | [d] => { results := [.lit (.bool false)], args := [d] }
  | _ => none }
def FnWrittenClashesWrongFalsely : Prop := fnWrittenClashesRow.holds Try.pinned (OpenSpec.ofChange fnWrittenClashesWrong)

/-- 'laws.FnWrittenOf': WHATEVER THE INPUT: true; the input reads as it did. -/
def fnWrittenOfSpec : ChangeSpec := { name := "fnWrittenOf", fn := fun _ => fun
  | [d] => { results := [.lit (.bool true)], args := [d] }
  | _ => none }
def fnWrittenOfRow : OpenClaim := { program := "ytjhalbmmlcbehaa", sum := "0fa085ce13238940e52d39f170b7311d719fbbd1850c77fdf19a3bed4a8ce08a", func := "loop.example/shorthand/laws.FnWrittenOf", spec := "fnWrittenOf", inPlace := ["internal/bytealg.IndexByteString"], plainKeys := false, apart := false }
def FnWrittenOfSaid : Prop := fnWrittenOfRow.holds Try.pinned (OpenSpec.ofChange fnWrittenOfSpec)

/-- ITS FALSE NEIGHBOUR: 'it returns false'. Refute it at one input. -/
def fnWrittenOfWrong : ChangeSpec := { name := "fnWrittenOf", fn := fun _ => fun
  | [d] => { results := [.lit (.bool false)], args := [d] }
  | _ => none }
def FnWrittenOfWrongFalsely : Prop := fnWrittenOfRow.holds Try.pinned (OpenSpec.ofChange fnWrittenOfWrong)

/-- 'laws.FnExactWrittenClashes': WHATEVER THE INPUT: true; the input reads as it did. -/
def fnExactWrittenClashesSpec : ChangeSpec := { name := "fnExactWrittenClashes", fn := fun _ => fun
  | [d1, d2] => { results := [.lit (.bool true)], args := [d1, d2] }
  | _ => none }
def fnExactWrittenClashesRow : OpenClaim := { program := "ytjhalbmmlcbehaa", sum := "0fa085ce13238940e52d39f170b7311d719fbbd1850c77fdf19a3bed4a8ce08a", func := "loop.example/shorthand/laws.FnExactWrittenClashes", spec := "fnExactWrittenClashes", inPlace := ["internal/bytealg.IndexByteString"], recurses := true, plainKeys := false, apart := false }
def FnExactWrittenClashesSaid : Prop := fnExactWrittenClashesRow.holds Try.pinned (OpenSpec.ofChange fnExactWrittenClashesSpec)

/-- ITS FALSE NEIGHBOUR: 'it returns false'. Refute it at one input. -/
def fnExactWrittenClashesWrong : ChangeSpec := { name := "fnExactWrittenClashes", fn := fun _ => fun
  | [d1, d2] => { results := [.lit (.bool false)], args := [d1, d2] }
  | _ => none }
def FnExactWrittenClashesWrongFalsely : Prop := fnExactWrittenClashesRow.holds Try.pinned (OpenSpec.ofChange fnExactWrittenClashesWrong)

/- THE SECOND FORM. 'bulk': how many values and letters a reading holds, each counted each time it is reached (what is shared counts as often as it is met; a slice's spare places count too). A statement '..UptoSaid' is the law's where the arguments, and the package variables that the reading takes, are together of bulk at most 1048576: NARROWER than '..Said'. Prove '..Said' where nothing that the law and all that it calls make is longer than what came in: it says more and counts as full. Else prove '..UptoSaid'. A law counts once. -/
mutual
def uptoBulk {H : Type} : DataW H → Nat
  | .lit (.string bytes) => bytes.length + 1
  | .lit _ => 1
  | .nil => 1
  | .ptr d => uptoBulk d + 1
  | .slice elems spare => uptoBulkAll elems + uptoBulkAll spare + 1
  | .agg parts => uptoBulkAll parts + 1
  | .iface _ d => uptoBulk d + 1
  | .map entries => uptoBulkEntries entries + 1
  | .held _ => 1
def uptoBulkAll {H : Type} : List (DataW H) → Nat
  | [] => 0
  | d :: r => uptoBulk d + uptoBulkAll r
def uptoBulkEntries {H : Type} : List (Lit × DataW H) → Nat
  | [] => 0
  | x :: r => uptoBulkEntry x + uptoBulkEntries r
def uptoBulkEntry {H : Type} : Lit × DataW H → Nat
  | (.string bytes, d) => bytes.length + uptoBulk d + 1
  | (_, d) => uptoBulk d + 1
 end
def uptoSmall : (H : Type) → List (DataW H) → Bool := fun _ ds => decide (uptoBulkAll ds ≤ 1048576)
def OpenSpec.upto (s : _root_.Go.ChangeSpec) : _root_.Go.OpenSpec := { _root_.Go.OpenSpec.ofChange s with cond := some uptoSmall }

/-- 'laws.FnWrittenClashes', WHERE WHAT IT READS IS OF BULK AT MOST 1048576: true; the input reads as it did. -/
def fnWrittenClashesUptoRow : OpenClaim := { program := "ytjhalbmmlcbehaa", sum := "0fa085ce13238940e52d39f170b7311d719fbbd1850c77fdf19a3bed4a8ce08a", func := "loop.example/shorthand/laws.FnWrittenClashes", spec := "fnWrittenClashes", inPlace := ["internal/bytealg.IndexByteString"], recurses := true, plainKeys := false, apart := false, narrowed := true }
def FnWrittenClashesUptoSaid : Prop := fnWrittenClashesUptoRow.holds Try.pinned (OpenSpec.upto fnWrittenClashesSpec)

/-- 'laws.FnWrittenOf', WHERE WHAT IT READS IS OF BULK AT MOST 1048576: true; the input reads as it did. -/
def fnWrittenOfUptoRow : OpenClaim := { program := "ytjhalbmmlcbehaa", sum := "0fa085ce13238940e52d39f170b7311d719fbbd1850c77fdf19a3bed4a8ce08a", func := "loop.example/shorthand/laws.FnWrittenOf", spec := "fnWrittenOf", inPlace := ["internal/bytealg.IndexByteString"], plainKeys := false, apart := false, narrowed := true }
def FnWrittenOfUptoSaid : Prop := fnWrittenOfUptoRow.holds Try.pinned (OpenSpec.upto fnWrittenOfSpec)

/-- 'laws.FnExactWrittenClashes', WHERE WHAT IT READS IS OF BULK AT MOST 1048576: true; the input reads as it did. -/
def fnExactWrittenClashesUptoRow : OpenClaim := { program := "ytjhalbmmlcbehaa", sum := "0fa085ce13238940e52d39f170b7311d719fbbd1850c77fdf19a3bed4a8ce08a", func := "loop.example/shorthand/laws.FnExactWrittenClashes", spec := "fnExactWrittenClashes", inPlace := ["internal/bytealg.IndexByteString"], recurses := true, plainKeys := false, apart := false, narrowed := true }
def FnExactWrittenClashesUptoSaid : Prop := fnExactWrittenClashesUptoRow.holds Try.pinned (OpenSpec.upto fnExactWrittenClashesSpec)

end Rows
end Go.Proofs.Ytjhalbmmlcbehaa
