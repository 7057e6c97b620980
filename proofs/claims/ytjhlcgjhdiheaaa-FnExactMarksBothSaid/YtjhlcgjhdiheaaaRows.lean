/-
  No cell of these rows narrows 'for every input' (looked for: loops, veiled, ifaces, maps, wideKeys, modest, calm, conditions, laid).
  DERIVED. THE GIVEN ROWS OF THIS SEAT. 22 by the template 'for every input the law returns true; each argument reads behind the call as it read before'; 0 by the template 'total and deterministic' (their statements: YtjhlcgjhdiheaaaTotals.lean).
  GIVEN WITH THE SEED: the statements are not yours to turn. If you find one false, say at which input.
  Laid BY PROGRAM, IN A SANDBOX (cutbox-rows.mjs): the forced cells as the released guide's own fill.sh prints them over the translation 6327e2c2fe8431e9… (all of the seat's roots in one cut). By AI agents, Wed Nov 11 2026. No macro, syntax, notation, axiom, sorry.
-/
import Derived.Test.YtjhlcgjhdiheaaaChecked
import GoSem.Claim
import GoSem.ClaimJoined
import GoSem.ClaimMapViews
import Derived.JoinedTies
import Derived.KernelRfl
namespace Go.Proofs.Ytjhlcgjhdiheaaa
/- THE CELL 'sum', in the pinned program and in every row, IS THE sha256 OF THE DUMP (.gsa) THAT YtjhlcgjhdiheaaaProg.lean LOADS. Nothing in Lean hashes anything: it is a label: what it is worth is what the hold of that sum in a sandbox is worth. -/
noncomputable def Try.pinned : Pinned := { name := "ytjhlcgjhdiheaaa", sum := "6327e2c2fe8431e91e8a72034cf90a2447115a3027a255cff93e77a7620e6ca9", checked := Try.checked }
namespace Rows
def none {H : Type} : Left H := { results := [], args := [] }

/-- 'laws.FnExactMarksFar': WHATEVER THE INPUT: true; the input reads as it did. -/
def fnExactMarksFarSpec : ChangeSpec := { name := "fnExactMarksFar", fn := fun _ => fun
  | [d1, d2] => { results := [.lit (.bool true)], args := [d1, d2] }
  | _ => none }
def fnExactMarksFarRow : OpenClaim := { program := "ytjhlcgjhdiheaaa", sum := "6327e2c2fe8431e91e8a72034cf90a2447115a3027a255cff93e77a7620e6ca9", func := "loop.example/shorthand/laws.FnExactMarksFar", spec := "fnExactMarksFar", apart := false }
def FnExactMarksFarSaid : Prop := fnExactMarksFarRow.holds Try.pinned (OpenSpec.ofChange fnExactMarksFarSpec)

/-- ITS FALSE NEIGHBOUR: 'it returns false'. Refute it at one input. -/
def fnExactMarksFarWrong : ChangeSpec := { name := "fnExactMarksFar", fn := fun _ => fun
  | [d1, d2] => { results := [.lit (.bool false)], args := [d1, d2] }
  | _ => none }
def FnExactMarksFarWrongFalsely : Prop := fnExactMarksFarRow.holds Try.pinned (OpenSpec.ofChange fnExactMarksFarWrong)

/-- 'laws.FnExactMarksBoth': WHATEVER THE INPUT: true; the input reads as it did. -/
def fnExactMarksBothSpec : ChangeSpec := { name := "fnExactMarksBoth", fn := fun _ => fun
  | [d1, d2, d3] => { results := [.lit (.bool true)], args := [d1, d2, d3] }
  | _ => none }
def fnExactMarksBothRow : OpenClaim := { program := "ytjhlcgjhdiheaaa", sum := "6327e2c2fe8431e91e8a72034cf90a2447115a3027a255cff93e77a7620e6ca9", func := "loop.example/shorthand/laws.FnExactMarksBoth", spec := "fnExactMarksBoth", unfollowed := true, recurses := true, apart := false }
def FnExactMarksBothSaid : Prop := fnExactMarksBothRow.holds Try.pinned (OpenSpec.ofChange fnExactMarksBothSpec)

/-- ITS FALSE NEIGHBOUR: 'it returns false'. Refute it at one input. -/
def fnExactMarksBothWrong : ChangeSpec := { name := "fnExactMarksBoth", fn := fun _ => fun
  | [d1, d2, d3] => { results := [.lit (.bool false)], args := [d1, d2, d3] }
  | _ => none }
def FnExactMarksBothWrongFalsely : Prop := fnExactMarksBothRow.holds Try.pinned (OpenSpec.ofChange fnExactMarksBothWrong)

/-- 'laws.FnExactProofVote': WHATEVER THE INPUT: true; the input reads as it did. -/
def fnExactProofVoteSpec : ChangeSpec := { name := "fnExactProofVote", fn := fun _ => fun
  | [d1, d2, d3] => { results := [.lit (.bool true)], args := [d1, d2, d3] }
  | _ => none }
def fnExactProofVoteRow : OpenClaim := { program := "ytjhlcgjhdiheaaa", sum := "6327e2c2fe8431e91e8a72034cf90a2447115a3027a255cff93e77a7620e6ca9", func := "loop.example/shorthand/laws.FnExactProofVote", spec := "fnExactProofVote", apart := false }
def FnExactProofVoteSaid : Prop := fnExactProofVoteRow.holds Try.pinned (OpenSpec.ofChange fnExactProofVoteSpec)

/-- ITS FALSE NEIGHBOUR: 'it returns false'. Refute it at one input. -/
def fnExactProofVoteWrong : ChangeSpec := { name := "fnExactProofVote", fn := fun _ => fun
  | [d1, d2, d3] => { results := [.lit (.bool false)], args := [d1, d2, d3] }
  | _ => none }
def FnExactProofVoteWrongFalsely : Prop := fnExactProofVoteRow.holds Try.pinned (OpenSpec.ofChange fnExactProofVoteWrong)

/-- 'laws.FnVote': WHATEVER THE INPUT: true; the input reads as it did. -/
def fnVoteSpec : ChangeSpec := { name := "fnVote", fn := fun _ => fun
  | [d] => { results := [.lit (.bool true)], args := [d] }
  | _ => none }
def fnVoteRow : OpenClaim := { program := "ytjhlcgjhdiheaaa", sum := "6327e2c2fe8431e91e8a72034cf90a2447115a3027a255cff93e77a7620e6ca9", func := "loop.example/shorthand/laws.FnVote", spec := "fnVote", apart := false }
def FnVoteSaid : Prop := fnVoteRow.holds Try.pinned (OpenSpec.ofChange fnVoteSpec)

/-- ITS FALSE NEIGHBOUR: 'it returns false'. Refute it at one input. -/
def fnVoteWrong : ChangeSpec := { name := "fnVote", fn := fun _ => fun
  | [d] => { results := [.lit (.bool false)], args := [d] }
  | _ => none }
def FnVoteWrongFalsely : Prop := fnVoteRow.holds Try.pinned (OpenSpec.ofChange fnVoteWrong)

/-- 'laws.FnExactProofSame': WHATEVER THE INPUT: true; the input reads as it did. -/
def fnExactProofSameSpec : ChangeSpec := { name := "fnExactProofSame", fn := fun _ => fun
  | [d1, d2] => { results := [.lit (.bool true)], args := [d1, d2] }
  | _ => none }
def fnExactProofSameRow : OpenClaim := { program := "ytjhlcgjhdiheaaa", sum := "6327e2c2fe8431e91e8a72034cf90a2447115a3027a255cff93e77a7620e6ca9", func := "loop.example/shorthand/laws.FnExactProofSame", spec := "fnExactProofSame", apart := false }
def FnExactProofSameSaid : Prop := fnExactProofSameRow.holds Try.pinned (OpenSpec.ofChange fnExactProofSameSpec)

/-- ITS FALSE NEIGHBOUR: 'it returns false'. Refute it at one input. -/
def fnExactProofSameWrong : ChangeSpec := { name := "fnExactProofSame", fn := fun _ => fun
  | [d1, d2] => { results := [.lit (.bool false)], args := [d1, d2] }
  | _ => none }
def FnExactProofSameWrongFalsely : Prop := fnExactProofSameRow.holds Try.pinned (OpenSpec.ofChange fnExactProofSameWrong)

/-- 'laws.FnExactMarksValid': WHATEVER THE INPUT: true; the input reads as it did. -/
def fnExactMarksValidSpec : ChangeSpec := { name := "fnExactMarksValid", fn := fun _ => fun
  | [d1, d2] => { results := [.lit (.bool true)], args := [d1, d2] }
  | _ => none }
def fnExactMarksValidRow : OpenClaim := { program := "ytjhlcgjhdiheaaa", sum := "6327e2c2fe8431e91e8a72034cf90a2447115a3027a255cff93e77a7620e6ca9", func := "loop.example/shorthand/laws.FnExactMarksValid", spec := "fnExactMarksValid", apart := false }
def FnExactMarksValidSaid : Prop := fnExactMarksValidRow.holds Try.pinned (OpenSpec.ofChange fnExactMarksValidSpec)

/-- ITS FALSE NEIGHBOUR: 'it returns false'. Refute it at one input. -/
def fnExactMarksValidWrong : ChangeSpec := { name := "fnExactMarksValid", fn := fun _ => fun
  | [d1, d2] => { results := [.lit (.bool false)], args := [d1, d2] }
  | _ => none }
def FnExactMarksValidWrongFalsely : Prop := fnExactMarksValidRow.holds Try.pinned (OpenSpec.ofChange fnExactMarksValidWrong)

/-- 'laws.FnExactMarksSize': WHATEVER THE INPUT: true; the input reads as it did. -/
def fnExactMarksSizeSpec : ChangeSpec := { name := "fnExactMarksSize", fn := fun _ => fun
  | [d1, d2] => { results := [.lit (.bool true)], args := [d1, d2] }
  | _ => none }
def fnExactMarksSizeRow : OpenClaim := { program := "ytjhlcgjhdiheaaa", sum := "6327e2c2fe8431e91e8a72034cf90a2447115a3027a255cff93e77a7620e6ca9", func := "loop.example/shorthand/laws.FnExactMarksSize", spec := "fnExactMarksSize", apart := false }
def FnExactMarksSizeSaid : Prop := fnExactMarksSizeRow.holds Try.pinned (OpenSpec.ofChange fnExactMarksSizeSpec)

/-- ITS FALSE NEIGHBOUR: 'it returns false'. Refute it at one input. -/
def fnExactMarksSizeWrong : ChangeSpec := { name := "fnExactMarksSize", fn := fun _ => fun
  | [d1, d2] => { results := [.lit (.bool false)], args := [d1, d2] }
  | _ => none }
def FnExactMarksSizeWrongFalsely : Prop := fnExactMarksSizeRow.holds Try.pinned (OpenSpec.ofChange fnExactMarksSizeWrong)

/-- 'laws.FnExactMarksShift': WHATEVER THE INPUT: true; the input reads as it did. -/
def fnExactMarksShiftSpec : ChangeSpec := { name := "fnExactMarksShift", fn := fun _ => fun
  | [d1, d2, d3] => { results := [.lit (.bool true)], args := [d1, d2, d3] }
  | _ => none }
def fnExactMarksShiftRow : OpenClaim := { program := "ytjhlcgjhdiheaaa", sum := "6327e2c2fe8431e91e8a72034cf90a2447115a3027a255cff93e77a7620e6ca9", func := "loop.example/shorthand/laws.FnExactMarksShift", spec := "fnExactMarksShift", apart := false }
def FnExactMarksShiftSaid : Prop := fnExactMarksShiftRow.holds Try.pinned (OpenSpec.ofChange fnExactMarksShiftSpec)

/-- ITS FALSE NEIGHBOUR: 'it returns false'. Refute it at one input. -/
def fnExactMarksShiftWrong : ChangeSpec := { name := "fnExactMarksShift", fn := fun _ => fun
  | [d1, d2, d3] => { results := [.lit (.bool false)], args := [d1, d2, d3] }
  | _ => none }
def FnExactMarksShiftWrongFalsely : Prop := fnExactMarksShiftRow.holds Try.pinned (OpenSpec.ofChange fnExactMarksShiftWrong)

/-- 'laws.FnProofSame': WHATEVER THE INPUT: true; the input reads as it did. -/
def fnProofSameSpec : ChangeSpec := { name := "fnProofSame", fn := fun _ => fun
  | [d] => { results := [.lit (.bool true)], args := [d] }
  | _ => none }
def fnProofSameRow : OpenClaim := { program := "ytjhlcgjhdiheaaa", sum := "6327e2c2fe8431e91e8a72034cf90a2447115a3027a255cff93e77a7620e6ca9", func := "loop.example/shorthand/laws.FnProofSame", spec := "fnProofSame", apart := false }
def FnProofSameSaid : Prop := fnProofSameRow.holds Try.pinned (OpenSpec.ofChange fnProofSameSpec)

/-- ITS FALSE NEIGHBOUR: 'it returns false'. Refute it at one input. -/
def fnProofSameWrong : ChangeSpec := { name := "fnProofSame", fn := fun _ => fun
  | [d] => { results := [.lit (.bool false)], args := [d] }
  | _ => none }
def FnProofSameWrongFalsely : Prop := fnProofSameRow.holds Try.pinned (OpenSpec.ofChange fnProofSameWrong)

/-- 'laws.FnMarksFar': WHATEVER THE INPUT: true; the input reads as it did. -/
def fnMarksFarSpec : ChangeSpec := { name := "fnMarksFar", fn := fun _ => fun
  | [d1, d2] => { results := [.lit (.bool true)], args := [d1, d2] }
  | _ => none }
def fnMarksFarRow : OpenClaim := { program := "ytjhlcgjhdiheaaa", sum := "6327e2c2fe8431e91e8a72034cf90a2447115a3027a255cff93e77a7620e6ca9", func := "loop.example/shorthand/laws.FnMarksFar", spec := "fnMarksFar", apart := false }
def FnMarksFarSaid : Prop := fnMarksFarRow.holds Try.pinned (OpenSpec.ofChange fnMarksFarSpec)

/-- ITS FALSE NEIGHBOUR: 'it returns false'. Refute it at one input. -/
def fnMarksFarWrong : ChangeSpec := { name := "fnMarksFar", fn := fun _ => fun
  | [d1, d2] => { results := [.lit (.bool false)], args := [d1, d2] }
  | _ => none }
def FnMarksFarWrongFalsely : Prop := fnMarksFarRow.holds Try.pinned (OpenSpec.ofChange fnMarksFarWrong)

/-- 'laws.FnExactMarksDo': WHATEVER THE INPUT: true; the input reads as it did. -/
def fnExactMarksDoSpec : ChangeSpec := { name := "fnExactMarksDo", fn := fun _ => fun
  | [d1, d2] => { results := [.lit (.bool true)], args := [d1, d2] }
  | _ => none }
def fnExactMarksDoRow : OpenClaim := { program := "ytjhlcgjhdiheaaa", sum := "6327e2c2fe8431e91e8a72034cf90a2447115a3027a255cff93e77a7620e6ca9", func := "loop.example/shorthand/laws.FnExactMarksDo", spec := "fnExactMarksDo", apart := false }
def FnExactMarksDoSaid : Prop := fnExactMarksDoRow.holds Try.pinned (OpenSpec.ofChange fnExactMarksDoSpec)

/-- ITS FALSE NEIGHBOUR: 'it returns false'. Refute it at one input. -/
def fnExactMarksDoWrong : ChangeSpec := { name := "fnExactMarksDo", fn := fun _ => fun
  | [d1, d2] => { results := [.lit (.bool false)], args := [d1, d2] }
  | _ => none }
def FnExactMarksDoWrongFalsely : Prop := fnExactMarksDoRow.holds Try.pinned (OpenSpec.ofChange fnExactMarksDoWrong)

/-- 'laws.FnExactMarksClash': WHATEVER THE INPUT: true; the input reads as it did. -/
def fnExactMarksClashSpec : ChangeSpec := { name := "fnExactMarksClash", fn := fun _ => fun
  | [d1, d2, d3] => { results := [.lit (.bool true)], args := [d1, d2, d3] }
  | _ => none }
def fnExactMarksClashRow : OpenClaim := { program := "ytjhlcgjhdiheaaa", sum := "6327e2c2fe8431e91e8a72034cf90a2447115a3027a255cff93e77a7620e6ca9", func := "loop.example/shorthand/laws.FnExactMarksClash", spec := "fnExactMarksClash", unfollowed := true, recurses := true, apart := false }
def FnExactMarksClashSaid : Prop := fnExactMarksClashRow.holds Try.pinned (OpenSpec.ofChange fnExactMarksClashSpec)

/-- ITS FALSE NEIGHBOUR: 'it returns false'. Refute it at one input. -/
def fnExactMarksClashWrong : ChangeSpec := { name := "fnExactMarksClash", fn := fun _ => fun
  | [d1, d2, d3] => { results := [.lit (.bool false)], args := [d1, d2, d3] }
  | _ => none }
def FnExactMarksClashWrongFalsely : Prop := fnExactMarksClashRow.holds Try.pinned (OpenSpec.ofChange fnExactMarksClashWrong)

/-- 'laws.FnMarksBack': WHATEVER THE INPUT: true; the input reads as it did. -/
def fnMarksBackSpec : ChangeSpec := { name := "fnMarksBack", fn := fun _ => fun
  | [d] => { results := [.lit (.bool true)], args := [d] }
  | _ => none }
def fnMarksBackRow : OpenClaim := { program := "ytjhlcgjhdiheaaa", sum := "6327e2c2fe8431e91e8a72034cf90a2447115a3027a255cff93e77a7620e6ca9", func := "loop.example/shorthand/laws.FnMarksBack", spec := "fnMarksBack", unfollowed := true, recurses := true, apart := false }
def FnMarksBackSaid : Prop := fnMarksBackRow.holds Try.pinned (OpenSpec.ofChange fnMarksBackSpec)

/-- ITS FALSE NEIGHBOUR: 'it returns false'. Refute it at one input. -/
def fnMarksBackWrong : ChangeSpec := { name := "fnMarksBack", fn := fun _ => fun
  | [d] => { results := [.lit (.bool false)], args := [d] }
  | _ => none }
def FnMarksBackWrongFalsely : Prop := fnMarksBackRow.holds Try.pinned (OpenSpec.ofChange fnMarksBackWrong)

/-- 'laws.FnMarksShift': WHATEVER THE INPUT: true; the input reads as it did. -/
def fnMarksShiftSpec : ChangeSpec := { name := "fnMarksShift", fn := fun _ => fun
  | [d] => { results := [.lit (.bool true)], args := [d] }
  | _ => none }
def fnMarksShiftRow : OpenClaim := { program := "ytjhlcgjhdiheaaa", sum := "6327e2c2fe8431e91e8a72034cf90a2447115a3027a255cff93e77a7620e6ca9", func := "loop.example/shorthand/laws.FnMarksShift", spec := "fnMarksShift", unfollowed := true, recurses := true, apart := false }
def FnMarksShiftSaid : Prop := fnMarksShiftRow.holds Try.pinned (OpenSpec.ofChange fnMarksShiftSpec)

/-- ITS FALSE NEIGHBOUR: 'it returns false'. Refute it at one input. -/
def fnMarksShiftWrong : ChangeSpec := { name := "fnMarksShift", fn := fun _ => fun
  | [d] => { results := [.lit (.bool false)], args := [d] }
  | _ => none }
def FnMarksShiftWrongFalsely : Prop := fnMarksShiftRow.holds Try.pinned (OpenSpec.ofChange fnMarksShiftWrong)

/-- 'laws.FnMarksSize': WHATEVER THE INPUT: true; the input reads as it did. -/
def fnMarksSizeSpec : ChangeSpec := { name := "fnMarksSize", fn := fun _ => fun
  | [d] => { results := [.lit (.bool true)], args := [d] }
  | _ => none }
def fnMarksSizeRow : OpenClaim := { program := "ytjhlcgjhdiheaaa", sum := "6327e2c2fe8431e91e8a72034cf90a2447115a3027a255cff93e77a7620e6ca9", func := "loop.example/shorthand/laws.FnMarksSize", spec := "fnMarksSize", unfollowed := true, recurses := true, apart := false }
def FnMarksSizeSaid : Prop := fnMarksSizeRow.holds Try.pinned (OpenSpec.ofChange fnMarksSizeSpec)

/-- ITS FALSE NEIGHBOUR: 'it returns false'. Refute it at one input. -/
def fnMarksSizeWrong : ChangeSpec := { name := "fnMarksSize", fn := fun _ => fun
  | [d] => { results := [.lit (.bool false)], args := [d] }
  | _ => none }
def FnMarksSizeWrongFalsely : Prop := fnMarksSizeRow.holds Try.pinned (OpenSpec.ofChange fnMarksSizeWrong)

/-- 'laws.FnExactMarksMake': WHATEVER THE INPUT: true; the input reads as it did. -/
def fnExactMarksMakeSpec : ChangeSpec := { name := "fnExactMarksMake", fn := fun _ => fun
  | [d1, d2] => { results := [.lit (.bool true)], args := [d1, d2] }
  | _ => none }
def fnExactMarksMakeRow : OpenClaim := { program := "ytjhlcgjhdiheaaa", sum := "6327e2c2fe8431e91e8a72034cf90a2447115a3027a255cff93e77a7620e6ca9", func := "loop.example/shorthand/laws.FnExactMarksMake", spec := "fnExactMarksMake", unfollowed := true, recurses := true, apart := false }
def FnExactMarksMakeSaid : Prop := fnExactMarksMakeRow.holds Try.pinned (OpenSpec.ofChange fnExactMarksMakeSpec)

/-- ITS FALSE NEIGHBOUR: 'it returns false'. Refute it at one input. -/
def fnExactMarksMakeWrong : ChangeSpec := { name := "fnExactMarksMake", fn := fun _ => fun
  | [d1, d2] => { results := [.lit (.bool false)], args := [d1, d2] }
  | _ => none }
def FnExactMarksMakeWrongFalsely : Prop := fnExactMarksMakeRow.holds Try.pinned (OpenSpec.ofChange fnExactMarksMakeWrong)

/-- 'laws.FnMarksDo': WHATEVER THE INPUT: true; the input reads as it did. -/
def fnMarksDoSpec : ChangeSpec := { name := "fnMarksDo", fn := fun _ => fun
  | [d] => { results := [.lit (.bool true)], args := [d] }
  | _ => none }
def fnMarksDoRow : OpenClaim := { program := "ytjhlcgjhdiheaaa", sum := "6327e2c2fe8431e91e8a72034cf90a2447115a3027a255cff93e77a7620e6ca9", func := "loop.example/shorthand/laws.FnMarksDo", spec := "fnMarksDo", unfollowed := true, recurses := true, apart := false }
def FnMarksDoSaid : Prop := fnMarksDoRow.holds Try.pinned (OpenSpec.ofChange fnMarksDoSpec)

/-- ITS FALSE NEIGHBOUR: 'it returns false'. Refute it at one input. -/
def fnMarksDoWrong : ChangeSpec := { name := "fnMarksDo", fn := fun _ => fun
  | [d] => { results := [.lit (.bool false)], args := [d] }
  | _ => none }
def FnMarksDoWrongFalsely : Prop := fnMarksDoRow.holds Try.pinned (OpenSpec.ofChange fnMarksDoWrong)

/-- 'laws.FnExactMarksBack': WHATEVER THE INPUT: true; the input reads as it did. -/
def fnExactMarksBackSpec : ChangeSpec := { name := "fnExactMarksBack", fn := fun _ => fun
  | [d1, d2] => { results := [.lit (.bool true)], args := [d1, d2] }
  | _ => none }
def fnExactMarksBackRow : OpenClaim := { program := "ytjhlcgjhdiheaaa", sum := "6327e2c2fe8431e91e8a72034cf90a2447115a3027a255cff93e77a7620e6ca9", func := "loop.example/shorthand/laws.FnExactMarksBack", spec := "fnExactMarksBack", unfollowed := true, recurses := true, apart := false }
def FnExactMarksBackSaid : Prop := fnExactMarksBackRow.holds Try.pinned (OpenSpec.ofChange fnExactMarksBackSpec)

/-- ITS FALSE NEIGHBOUR: 'it returns false'. Refute it at one input. -/
def fnExactMarksBackWrong : ChangeSpec := { name := "fnExactMarksBack", fn := fun _ => fun
  | [d1, d2] => { results := [.lit (.bool false)], args := [d1, d2] }
  | _ => none }
def FnExactMarksBackWrongFalsely : Prop := fnExactMarksBackRow.holds Try.pinned (OpenSpec.ofChange fnExactMarksBackWrong)

/-- 'laws.FnMarksMake': WHATEVER THE INPUT: true; the input reads as it did. -/
def fnMarksMakeSpec : ChangeSpec := { name := "fnMarksMake", fn := fun _ => fun
  | [d] => { results := [.lit (.bool true)], args := [d] }
  | _ => none }
def fnMarksMakeRow : OpenClaim := { program := "ytjhlcgjhdiheaaa", sum := "6327e2c2fe8431e91e8a72034cf90a2447115a3027a255cff93e77a7620e6ca9", func := "loop.example/shorthand/laws.FnMarksMake", spec := "fnMarksMake", unfollowed := true, recurses := true, apart := false }
def FnMarksMakeSaid : Prop := fnMarksMakeRow.holds Try.pinned (OpenSpec.ofChange fnMarksMakeSpec)

/-- ITS FALSE NEIGHBOUR: 'it returns false'. Refute it at one input. -/
def fnMarksMakeWrong : ChangeSpec := { name := "fnMarksMake", fn := fun _ => fun
  | [d] => { results := [.lit (.bool false)], args := [d] }
  | _ => none }
def FnMarksMakeWrongFalsely : Prop := fnMarksMakeRow.holds Try.pinned (OpenSpec.ofChange fnMarksMakeWrong)

/-- 'laws.FnMarks': WHATEVER THE INPUT: true; the input reads as it did. -/
def fnMarksSpec : ChangeSpec := { name := "fnMarks", fn := fun _ => fun
  | [d1, d2] => { results := [.lit (.bool true)], args := [d1, d2] }
  | _ => none }
def fnMarksRow : OpenClaim := { program := "ytjhlcgjhdiheaaa", sum := "6327e2c2fe8431e91e8a72034cf90a2447115a3027a255cff93e77a7620e6ca9", func := "loop.example/shorthand/laws.FnMarks", spec := "fnMarks", unfollowed := true, recurses := true, apart := false }
def FnMarksSaid : Prop := fnMarksRow.holds Try.pinned (OpenSpec.ofChange fnMarksSpec)

/-- ITS FALSE NEIGHBOUR: 'it returns false'. Refute it at one input. -/
def fnMarksWrong : ChangeSpec := { name := "fnMarks", fn := fun _ => fun
  | [d1, d2] => { results := [.lit (.bool false)], args := [d1, d2] }
  | _ => none }
def FnMarksWrongFalsely : Prop := fnMarksRow.holds Try.pinned (OpenSpec.ofChange fnMarksWrong)

/-- 'laws.FnMarksClash': WHATEVER THE INPUT: true; the input reads as it did. -/
def fnMarksClashSpec : ChangeSpec := { name := "fnMarksClash", fn := fun _ => fun
  | [d] => { results := [.lit (.bool true)], args := [d] }
  | _ => none }
def fnMarksClashRow : OpenClaim := { program := "ytjhlcgjhdiheaaa", sum := "6327e2c2fe8431e91e8a72034cf90a2447115a3027a255cff93e77a7620e6ca9", func := "loop.example/shorthand/laws.FnMarksClash", spec := "fnMarksClash", unfollowed := true, recurses := true, apart := false }
def FnMarksClashSaid : Prop := fnMarksClashRow.holds Try.pinned (OpenSpec.ofChange fnMarksClashSpec)

/-- ITS FALSE NEIGHBOUR: 'it returns false'. Refute it at one input. -/
def fnMarksClashWrong : ChangeSpec := { name := "fnMarksClash", fn := fun _ => fun
  | [d] => { results := [.lit (.bool false)], args := [d] }
  | _ => none }
def FnMarksClashWrongFalsely : Prop := fnMarksClashRow.holds Try.pinned (OpenSpec.ofChange fnMarksClashWrong)

/-- 'laws.FnMarksBoth': WHATEVER THE INPUT: true; the input reads as it did. -/
def fnMarksBothSpec : ChangeSpec := { name := "fnMarksBoth", fn := fun _ => fun
  | [d] => { results := [.lit (.bool true)], args := [d] }
  | _ => none }
def fnMarksBothRow : OpenClaim := { program := "ytjhlcgjhdiheaaa", sum := "6327e2c2fe8431e91e8a72034cf90a2447115a3027a255cff93e77a7620e6ca9", func := "loop.example/shorthand/laws.FnMarksBoth", spec := "fnMarksBoth", unfollowed := true, recurses := true, apart := false }
def FnMarksBothSaid : Prop := fnMarksBothRow.holds Try.pinned (OpenSpec.ofChange fnMarksBothSpec)

/-- ITS FALSE NEIGHBOUR: 'it returns false'. Refute it at one input. -/
def fnMarksBothWrong : ChangeSpec := { name := "fnMarksBoth", fn := fun _ => fun
  | [d] => { results := [.lit (.bool false)], args := [d] }
  | _ => none }
def FnMarksBothWrongFalsely : Prop := fnMarksBothRow.holds Try.pinned (OpenSpec.ofChange fnMarksBothWrong)

/- THE SECOND FORM. 'bulk': how many values and letters a reading holds, each counted each time it is reached (what is shared counts as often as it is met; a slice's spare places count too). A statement '..UptoSaid' is the law's where the arguments, and the package variables that the reading takes, are together of bulk at most 1048576: NARROWER than '..Said'. Prove '..Said' where nothing that the law and all that it calls make is longer than what came in: it says more and counts as full. Else prove '..UptoSaid'. A law counts once. -/
mutual
def uptoBulk {H : Type} : DataW H → Nat
  | .lit (.string bytes) => bytes.length + 1
  | .lit _ => 1
  | .nil => 1
  | .ptr d => uptoBulk d + 1
  | .slice elems spare => uptoBulkAll elems + uptoBulkAll spare + 1
  | .agg parts => uptoBulkAll parts + 1
  | .iface _ d => uptoBulk d + 1
  | .map entries => uptoBulkEntries entries + 1
  | .held _ => 1
def uptoBulkAll {H : Type} : List (DataW H) → Nat
  | [] => 0
  | d :: r => uptoBulk d + uptoBulkAll r
def uptoBulkEntries {H : Type} : List (Lit × DataW H) → Nat
  | [] => 0
  | x :: r => uptoBulkEntry x + uptoBulkEntries r
def uptoBulkEntry {H : Type} : Lit × DataW H → Nat
  | (.string bytes, d) => bytes.length + uptoBulk d + 1
  | (_, d) => uptoBulk d + 1
 end
def uptoSmall : (H : Type) → List (DataW H) → Bool := fun _ ds => decide (uptoBulkAll ds ≤ 1048576)
def OpenSpec.upto (s : _root_.Go.ChangeSpec) : _root_.Go.OpenSpec := { _root_.Go.OpenSpec.ofChange s with cond := some uptoSmall }

/-- 'laws.FnExactMarksFar', WHERE WHAT IT READS IS OF BULK AT MOST 1048576: true; the input reads as it did. -/
def fnExactMarksFarUptoRow : OpenClaim := { program := "ytjhlcgjhdiheaaa", sum := "6327e2c2fe8431e91e8a72034cf90a2447115a3027a255cff93e77a7620e6ca9", func := "loop.example/shorthand/laws.FnExactMarksFar", spec := "fnExactMarksFar", apart := false, narrowed := true }
def FnExactMarksFarUptoSaid : Prop := fnExactMarksFarUptoRow.holds Try.pinned (OpenSpec.upto fnExactMarksFarSpec)

/-- 'laws.FnExactMarksBoth', WHERE WHAT IT READS IS OF BULK AT MOST 1048576: true; the input reads as it did. -/
def fnExactMarksBothUptoRow : OpenClaim := { program := "ytjhlcgjhdiheaaa", sum := "6327e2c2fe8431e91e8a72034cf90a2447115a3027a255cff93e77a7620e6ca9", func := "loop.example/shorthand/laws.FnExactMarksBoth", spec := "fnExactMarksBoth", unfollowed := true, recurses := true, apart := false, narrowed := true }
def FnExactMarksBothUptoSaid : Prop := fnExactMarksBothUptoRow.holds Try.pinned (OpenSpec.upto fnExactMarksBothSpec)

/-- 'laws.FnExactProofVote', WHERE WHAT IT READS IS OF BULK AT MOST 1048576: true; the input reads as it did. -/
def fnExactProofVoteUptoRow : OpenClaim := { program := "ytjhlcgjhdiheaaa", sum := "6327e2c2fe8431e91e8a72034cf90a2447115a3027a255cff93e77a7620e6ca9", func := "loop.example/shorthand/laws.FnExactProofVote", spec := "fnExactProofVote", apart := false, narrowed := true }
def FnExactProofVoteUptoSaid : Prop := fnExactProofVoteUptoRow.holds Try.pinned (OpenSpec.upto fnExactProofVoteSpec)

/-- 'laws.FnVote', WHERE WHAT IT READS IS OF BULK AT MOST 1048576: true; the input reads as it did. -/
def fnVoteUptoRow : OpenClaim := { program := "ytjhlcgjhdiheaaa", sum := "6327e2c2fe8431e91e8a72034cf90a2447115a3027a255cff93e77a7620e6ca9", func := "loop.example/shorthand/laws.FnVote", spec := "fnVote", apart := false, narrowed := true }
def FnVoteUptoSaid : Prop := fnVoteUptoRow.holds Try.pinned (OpenSpec.upto fnVoteSpec)

/-- 'laws.FnExactProofSame', WHERE WHAT IT READS IS OF BULK AT MOST 1048576: true; the input reads as it did. -/
def fnExactProofSameUptoRow : OpenClaim := { program := "ytjhlcgjhdiheaaa", sum := "6327e2c2fe8431e91e8a72034cf90a2447115a3027a255cff93e77a7620e6ca9", func := "loop.example/shorthand/laws.FnExactProofSame", spec := "fnExactProofSame", apart := false, narrowed := true }
def FnExactProofSameUptoSaid : Prop := fnExactProofSameUptoRow.holds Try.pinned (OpenSpec.upto fnExactProofSameSpec)

/-- 'laws.FnExactMarksValid', WHERE WHAT IT READS IS OF BULK AT MOST 1048576: true; the input reads as it did. -/
def fnExactMarksValidUptoRow : OpenClaim := { program := "ytjhlcgjhdiheaaa", sum := "6327e2c2fe8431e91e8a72034cf90a2447115a3027a255cff93e77a7620e6ca9", func := "loop.example/shorthand/laws.FnExactMarksValid", spec := "fnExactMarksValid", apart := false, narrowed := true }
def FnExactMarksValidUptoSaid : Prop := fnExactMarksValidUptoRow.holds Try.pinned (OpenSpec.upto fnExactMarksValidSpec)

/-- 'laws.FnExactMarksSize', WHERE WHAT IT READS IS OF BULK AT MOST 1048576: true; the input reads as it did. -/
def fnExactMarksSizeUptoRow : OpenClaim := { program := "ytjhlcgjhdiheaaa", sum := "6327e2c2fe8431e91e8a72034cf90a2447115a3027a255cff93e77a7620e6ca9", func := "loop.example/shorthand/laws.FnExactMarksSize", spec := "fnExactMarksSize", apart := false, narrowed := true }
def FnExactMarksSizeUptoSaid : Prop := fnExactMarksSizeUptoRow.holds Try.pinned (OpenSpec.upto fnExactMarksSizeSpec)

/-- 'laws.FnExactMarksShift', WHERE WHAT IT READS IS OF BULK AT MOST 1048576: true; the input reads as it did. -/
def fnExactMarksShiftUptoRow : OpenClaim := { program := "ytjhlcgjhdiheaaa", sum := "6327e2c2fe8431e91e8a72034cf90a2447115a3027a255cff93e77a7620e6ca9", func := "loop.example/shorthand/laws.FnExactMarksShift", spec := "fnExactMarksShift", apart := false, narrowed := true }
def FnExactMarksShiftUptoSaid : Prop := fnExactMarksShiftUptoRow.holds Try.pinned (OpenSpec.upto fnExactMarksShiftSpec)

/-- 'laws.FnProofSame', WHERE WHAT IT READS IS OF BULK AT MOST 1048576: true; the input reads as it did. -/
def fnProofSameUptoRow : OpenClaim := { program := "ytjhlcgjhdiheaaa", sum := "6327e2c2fe8431e91e8a72034cf90a2447115a3027a255cff93e77a7620e6ca9", func := "loop.example/shorthand/laws.FnProofSame", spec := "fnProofSame", apart := false, narrowed := true }
def FnProofSameUptoSaid : Prop := fnProofSameUptoRow.holds Try.pinned (OpenSpec.upto fnProofSameSpec)

/-- 'laws.FnMarksFar', WHERE WHAT IT READS IS OF BULK AT MOST 1048576: true; the input reads as it did. -/
def fnMarksFarUptoRow : OpenClaim := { program := "ytjhlcgjhdiheaaa", sum := "6327e2c2fe8431e91e8a72034cf90a2447115a3027a255cff93e77a7620e6ca9", func := "loop.example/shorthand/laws.FnMarksFar", spec := "fnMarksFar", apart := false, narrowed := true }
def FnMarksFarUptoSaid : Prop := fnMarksFarUptoRow.holds Try.pinned (OpenSpec.upto fnMarksFarSpec)

/-- 'laws.FnExactMarksDo', WHERE WHAT IT READS IS OF BULK AT MOST 1048576: true; the input reads as it did. -/
def fnExactMarksDoUptoRow : OpenClaim := { program := "ytjhlcgjhdiheaaa", sum := "6327e2c2fe8431e91e8a72034cf90a2447115a3027a255cff93e77a7620e6ca9", func := "loop.example/shorthand/laws.FnExactMarksDo", spec := "fnExactMarksDo", apart := false, narrowed := true }
def FnExactMarksDoUptoSaid : Prop := fnExactMarksDoUptoRow.holds Try.pinned (OpenSpec.upto fnExactMarksDoSpec)

/-- 'laws.FnExactMarksClash', WHERE WHAT IT READS IS OF BULK AT MOST 1048576: true; the input reads as it did. -/
def fnExactMarksClashUptoRow : OpenClaim := { program := "ytjhlcgjhdiheaaa", sum := "6327e2c2fe8431e91e8a72034cf90a2447115a3027a255cff93e77a7620e6ca9", func := "loop.example/shorthand/laws.FnExactMarksClash", spec := "fnExactMarksClash", unfollowed := true, recurses := true, apart := false, narrowed := true }
def FnExactMarksClashUptoSaid : Prop := fnExactMarksClashUptoRow.holds Try.pinned (OpenSpec.upto fnExactMarksClashSpec)

/-- 'laws.FnMarksBack', WHERE WHAT IT READS IS OF BULK AT MOST 1048576: true; the input reads as it did. -/
def fnMarksBackUptoRow : OpenClaim := { program := "ytjhlcgjhdiheaaa", sum := "6327e2c2fe8431e91e8a72034cf90a2447115a3027a255cff93e77a7620e6ca9", func := "loop.example/shorthand/laws.FnMarksBack", spec := "fnMarksBack", unfollowed := true, recurses := true, apart := false, narrowed := true }
def FnMarksBackUptoSaid : Prop := fnMarksBackUptoRow.holds Try.pinned (OpenSpec.upto fnMarksBackSpec)

/-- 'laws.FnMarksShift', WHERE WHAT IT READS IS OF BULK AT MOST 1048576: true; the input reads as it did. -/
def fnMarksShiftUptoRow : OpenClaim := { program := "ytjhlcgjhdiheaaa", sum := "6327e2c2fe8431e91e8a72034cf90a2447115a3027a255cff93e77a7620e6ca9", func := "loop.example/shorthand/laws.FnMarksShift", spec := "fnMarksShift", unfollowed := true, recurses := true, apart := false, narrowed := true }
def FnMarksShiftUptoSaid : Prop := fnMarksShiftUptoRow.holds Try.pinned (OpenSpec.upto fnMarksShiftSpec)

/-- 'laws.FnMarksSize', WHERE WHAT IT READS IS OF BULK AT MOST 1048576: true; the input reads as it did. -/
def fnMarksSizeUptoRow : OpenClaim := { program := "ytjhlcgjhdiheaaa", sum := "6327e2c2fe8431e91e8a72034cf90a2447115a3027a255cff93e77a7620e6ca9", func := "loop.example/shorthand/laws.FnMarksSize", spec := "fnMarksSize", unfollowed := true, recurses := true, apart := false, narrowed := true }
def FnMarksSizeUptoSaid : Prop := fnMarksSizeUptoRow.holds Try.pinned (OpenSpec.upto fnMarksSizeSpec)

/-- 'laws.FnExactMarksMake', WHERE WHAT IT READS IS OF BULK AT MOST 1048576: true; the input reads as it did. -/
def fnExactMarksMakeUptoRow : OpenClaim := { program := "ytjhlcgjhdiheaaa", sum := "6327e2c2fe8431e91e8a72034cf90a2447115a3027a255cff93e77a7620e6ca9", func := "loop.example/shorthand/laws.FnExactMarksMake", spec := "fnExactMarksMake", unfollowed := true, recurses := true, apart := false, narrowed := true }
def FnExactMarksMakeUptoSaid : Prop := fnExactMarksMakeUptoRow.holds Try.pinned (OpenSpec.upto fnExactMarksMakeSpec)

/-- 'laws.FnMarksDo', WHERE WHAT IT READS IS OF BULK AT MOST 1048576: true; the input reads as it did. -/
def fnMarksDoUptoRow : OpenClaim := { program := "ytjhlcgjhdiheaaa", sum := "6327e2c2fe8431e91e8a72034cf90a2447115a3027a255cff93e77a7620e6ca9", func := "loop.example/shorthand/laws.FnMarksDo", spec := "fnMarksDo", unfollowed := true, recurses := true, apart := false, narrowed := true }
def FnMarksDoUptoSaid : Prop := fnMarksDoUptoRow.holds Try.pinned (OpenSpec.upto fnMarksDoSpec)

/-- 'laws.FnExactMarksBack', WHERE WHAT IT READS IS OF BULK AT MOST 1048576: true; the input reads as it did. -/
def fnExactMarksBackUptoRow : OpenClaim := { program := "ytjhlcgjhdiheaaa", sum := "6327e2c2fe8431e91e8a72034cf90a2447115a3027a255cff93e77a7620e6ca9", func := "loop.example/shorthand/laws.FnExactMarksBack", spec := "fnExactMarksBack", unfollowed := true, recurses := true, apart := false, narrowed := true }
def FnExactMarksBackUptoSaid : Prop := fnExactMarksBackUptoRow.holds Try.pinned (OpenSpec.upto fnExactMarksBackSpec)

/-- 'laws.FnMarksMake', WHERE WHAT IT READS IS OF BULK AT MOST 1048576: true; the input reads as it did. -/
def fnMarksMakeUptoRow : OpenClaim := { program := "ytjhlcgjhdiheaaa", sum := "6327e2c2fe8431e91e8a72034cf90a2447115a3027a255cff93e77a7620e6ca9", func := "loop.example/shorthand/laws.FnMarksMake", spec := "fnMarksMake", unfollowed := true, recurses := true, apart := false, narrowed := true }
def FnMarksMakeUptoSaid : Prop := fnMarksMakeUptoRow.holds Try.pinned (OpenSpec.upto fnMarksMakeSpec)

/-- 'laws.FnMarks', WHERE WHAT IT READS IS OF BULK AT MOST 1048576: true; the input reads as it did. -/
def fnMarksUptoRow : OpenClaim := { program := "ytjhlcgjhdiheaaa", sum := "6327e2c2fe8431e91e8a72034cf90a2447115a3027a255cff93e77a7620e6ca9", func := "loop.example/shorthand/laws.FnMarks", spec := "fnMarks", unfollowed := true, recurses := true, apart := false, narrowed := true }
def FnMarksUptoSaid : Prop := fnMarksUptoRow.holds Try.pinned (OpenSpec.upto fnMarksSpec)

/-- 'laws.FnMarksClash', WHERE WHAT IT READS IS OF BULK AT MOST 1048576: true; the input reads as it did. -/
def fnMarksClashUptoRow : OpenClaim := { program := "ytjhlcgjhdiheaaa", sum := "6327e2c2fe8431e91e8a72034cf90a2447115a3027a255cff93e77a7620e6ca9", func := "loop.example/shorthand/laws.FnMarksClash", spec := "fnMarksClash", unfollowed := true, recurses := true, apart := false, narrowed := true }
def FnMarksClashUptoSaid : Prop := fnMarksClashUptoRow.holds Try.pinned (OpenSpec.upto fnMarksClashSpec)

/-- 'laws.FnMarksBoth', WHERE WHAT IT READS IS OF BULK AT MOST 1048576: true; the input reads as it did. -/
def fnMarksBothUptoRow : OpenClaim := { program := "ytjhlcgjhdiheaaa", sum := "6327e2c2fe8431e91e8a72034cf90a2447115a3027a255cff93e77a7620e6ca9", func := "loop.example/shorthand/laws.FnMarksBoth", spec := "fnMarksBoth", unfollowed := true, recurses := true, apart := false, narrowed := true }
def FnMarksBothUptoSaid : Prop := fnMarksBothUptoRow.holds Try.pinned (OpenSpec.upto fnMarksBothSpec)

end Rows
end Go.Proofs.Ytjhlcgjhdiheaaa
