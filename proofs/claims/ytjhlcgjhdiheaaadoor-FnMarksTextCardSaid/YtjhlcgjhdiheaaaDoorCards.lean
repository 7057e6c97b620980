/-
  DERIVED. GIVEN WITH THE SEED: THE CARDS: each row of YtjhlcgjhdiheaaaDoorRows.lean that lists a variable, with what it lists TIED to the program's text (the seventh form; the later family's looks); each row that meets fmt, with fmt's text TOLD by the authors' own Lean function (tested against real Go, not proved from fmt's source: count such statements apart). THE CARD IS WHAT COUNTS. Prove the row's statement (the work); the ties are given (YtjhlcgjhdiheaaaDoorTie.lean); close each card by the builder's one call (the guide's Derived/Test/ToyasCard.lean, 'card_holds'). Laid BY PROGRAM, IN A SANDBOX (cutbox-door.mjs). By AI agents, Wed Nov 11 2026. No macro, syntax, notation, axiom, sorry.
-/
import Derived.Test.YtjhlcgjhdiheaaaDoorRows
import GoSem.ClaimSeven
namespace Go.Proofs.YtjhlcgjhdiheaaaDoor
namespace Rows

/-- THE TIED CARD OF 'laws.FnMarksText'. -/
def fnMarksTextCard : Claim7 := { stood := { row := fnMarksTextRow, standIns := [], harness := (true, "fef425edf36c284c46265dcf9c7e8798e90c6e201193b9e296b3782b191379bc"), looks := true }, kinds := [], alts := [], laidByText := true, laidKinds := [.data, .data, .data], laidTests := true, laidLooks := .later }
def FnMarksTextCardSaid : Prop := Claim7.holds Tryd.pinned (.plain (OpenSpec.ofChange fnMarksTextSpec)) fnMarksTextCard

/-- THE TIED CARD OF 'laws.FnExactMarksText'. -/
def fnExactMarksTextCard : Claim7 := { stood := { row := fnExactMarksTextRow, standIns := [], harness := (true, "fef425edf36c284c46265dcf9c7e8798e90c6e201193b9e296b3782b191379bc"), looks := true }, kinds := [], alts := [], laidByText := true, laidKinds := [.data, .data, .data], laidTests := true, laidLooks := .later }
def FnExactMarksTextCardSaid : Prop := Claim7.holds Tryd.pinned (.plain (OpenSpec.ofChange fnExactMarksTextSpec)) fnExactMarksTextCard

/-- THE SECOND FORM's CARD OF 'laws.FnMarksText'. -/
def fnMarksTextUptoCard : Claim7 := { stood := { row := fnMarksTextUptoRow, standIns := [], harness := (true, "fef425edf36c284c46265dcf9c7e8798e90c6e201193b9e296b3782b191379bc"), looks := true }, kinds := [], alts := [], laidByText := true, laidKinds := [.data, .data, .data], laidTests := true, laidLooks := .later }
def FnMarksTextUptoCardSaid : Prop := Claim7.holds Tryd.pinned (.plain (OpenSpec.upto fnMarksTextSpec)) fnMarksTextUptoCard

/-- THE SECOND FORM's CARD OF 'laws.FnExactMarksText'. -/
def fnExactMarksTextUptoCard : Claim7 := { stood := { row := fnExactMarksTextUptoRow, standIns := [], harness := (true, "fef425edf36c284c46265dcf9c7e8798e90c6e201193b9e296b3782b191379bc"), looks := true }, kinds := [], alts := [], laidByText := true, laidKinds := [.data, .data, .data], laidTests := true, laidLooks := .later }
def FnExactMarksTextUptoCardSaid : Prop := Claim7.holds Tryd.pinned (.plain (OpenSpec.upto fnExactMarksTextSpec)) fnExactMarksTextUptoCard
end Rows
end Go.Proofs.YtjhlcgjhdiheaaaDoor
