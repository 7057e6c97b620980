/-
  No cell of these rows narrows 'for every input' (looked for: loops, veiled, ifaces, maps, wideKeys, modest, calm, conditions, laid).
  DERIVED. THE GIVEN ROWS OF THIS SEAT. 25 by the template 'for every input the law returns true; each argument reads behind the call as it read before'; 0 by the template 'total and deterministic' (their statements: YtcgiehdpdnipbaaTotals.lean).
  GIVEN WITH THE SEED: the statements are not yours to turn. If you find one false, say at which input.
  Laid BY PROGRAM, IN A SANDBOX (cutbox-rows.mjs): the forced cells as the released guide's own fill.sh prints them over the translation ad3c9453bc8d981f… (all of the seat's roots in one cut). By AI agents, Wed Nov 11 2026. No macro, syntax, notation, axiom, sorry.
-/
import Derived.Test.YtcgiehdpdnipbaaChecked
import GoSem.Claim
import GoSem.ClaimJoined
import GoSem.ClaimMapViews
import Derived.JoinedTies
import Derived.KernelRfl
namespace Go.Proofs.Ytcgiehdpdnipbaa
/- THE CELL 'sum', in the pinned program and in every row, IS THE sha256 OF THE DUMP (.gsa) THAT YtcgiehdpdnipbaaProg.lean LOADS. Nothing in Lean hashes anything: it is a label: what it is worth is what the hold of that sum in a sandbox is worth. -/
noncomputable def Try.pinned : Pinned := { name := "ytcgiehdpdnipbaa", sum := "ad3c9453bc8d981f7bf5070b9445a078a55d94d033170c30da838d664223ad11", checked := Try.checked }
namespace Rows
def none {H : Type} : Left H := { results := [], args := [] }

/-- 'laws.FnExactTalkSpeed': WHATEVER THE INPUT: true; the input reads as it did. -/
def fnExactTalkSpeedSpec : ChangeSpec := { name := "fnExactTalkSpeed", fn := fun _ => fun
  | [d] => { results := [.lit (.bool true)], args := [d] }
  | _ => none }
def fnExactTalkSpeedRow : OpenClaim := { program := "ytcgiehdpdnipbaa", sum := "ad3c9453bc8d981f7bf5070b9445a078a55d94d033170c30da838d664223ad11", func := "loop.example/shorthand/laws.FnExactTalkSpeed", spec := "fnExactTalkSpeed", unfollowed := true, recurses := true, apart := false }
def FnExactTalkSpeedSaid : Prop := fnExactTalkSpeedRow.holds Try.pinned (OpenSpec.ofChange fnExactTalkSpeedSpec)

/-- ITS FALSE NEIGHBOUR: 'it returns false'. Refute it at one input. -/
def fnExactTalkSpeedWrong : ChangeSpec := { name := "fnExactTalkSpeed", fn := fun _ => fun
  | [d] => { results := [.lit (.bool false)], args := [d] }
  | _ => none }
def FnExactTalkSpeedWrongFalsely : Prop := fnExactTalkSpeedRow.holds Try.pinned (OpenSpec.ofChange fnExactTalkSpeedWrong)

/-- 'laws.FnExactTalkWords': WHATEVER THE INPUT: true; the input reads as it did. -/
def fnExactTalkWordsSpec : ChangeSpec := { name := "fnExactTalkWords", fn := fun _ => fun
  | [d] => { results := [.lit (.bool true)], args := [d] }
  | _ => none }
def fnExactTalkWordsRow : OpenClaim := { program := "ytcgiehdpdnipbaa", sum := "ad3c9453bc8d981f7bf5070b9445a078a55d94d033170c30da838d664223ad11", func := "loop.example/shorthand/laws.FnExactTalkWords", spec := "fnExactTalkWords", unfollowed := true, recurses := true, apart := false }
def FnExactTalkWordsSaid : Prop := fnExactTalkWordsRow.holds Try.pinned (OpenSpec.ofChange fnExactTalkWordsSpec)

/-- ITS FALSE NEIGHBOUR: 'it returns false'. Refute it at one input. -/
def fnExactTalkWordsWrong : ChangeSpec := { name := "fnExactTalkWords", fn := fun _ => fun
  | [d] => { results := [.lit (.bool false)], args := [d] }
  | _ => none }
def FnExactTalkWordsWrongFalsely : Prop := fnExactTalkWordsRow.holds Try.pinned (OpenSpec.ofChange fnExactTalkWordsWrong)

/-- 'laws.FnExactTalkJoin': WHATEVER THE INPUT: true; the input reads as it did. -/
def fnExactTalkJoinSpec : ChangeSpec := { name := "fnExactTalkJoin", fn := fun _ => fun
  | [d1, d2] => { results := [.lit (.bool true)], args := [d1, d2] }
  | _ => none }
def fnExactTalkJoinRow : OpenClaim := { program := "ytcgiehdpdnipbaa", sum := "ad3c9453bc8d981f7bf5070b9445a078a55d94d033170c30da838d664223ad11", func := "loop.example/shorthand/laws.FnExactTalkJoin", spec := "fnExactTalkJoin", unfollowed := true, recurses := true, apart := false }
def FnExactTalkJoinSaid : Prop := fnExactTalkJoinRow.holds Try.pinned (OpenSpec.ofChange fnExactTalkJoinSpec)

/-- ITS FALSE NEIGHBOUR: 'it returns false'. Refute it at one input. -/
def fnExactTalkJoinWrong : ChangeSpec := { name := "fnExactTalkJoin", fn := fun _ => fun
  | [d1, d2] => { results := [.lit (.bool false)], args := [d1, d2] }
  | _ => none }
def FnExactTalkJoinWrongFalsely : Prop := fnExactTalkJoinRow.holds Try.pinned (OpenSpec.ofChange fnExactTalkJoinWrong)

/-- 'laws.FnExactTalkPeak': WHATEVER THE INPUT: true; the input reads as it did. -/
def fnExactTalkPeakSpec : ChangeSpec := { name := "fnExactTalkPeak", fn := fun _ => fun
  | [d1, d2] => { results := [.lit (.bool true)], args := [d1, d2] }
  | _ => none }
def fnExactTalkPeakRow : OpenClaim := { program := "ytcgiehdpdnipbaa", sum := "ad3c9453bc8d981f7bf5070b9445a078a55d94d033170c30da838d664223ad11", func := "loop.example/shorthand/laws.FnExactTalkPeak", spec := "fnExactTalkPeak", unfollowed := true, recurses := true, apart := false }
def FnExactTalkPeakSaid : Prop := fnExactTalkPeakRow.holds Try.pinned (OpenSpec.ofChange fnExactTalkPeakSpec)

/-- ITS FALSE NEIGHBOUR: 'it returns false'. Refute it at one input. -/
def fnExactTalkPeakWrong : ChangeSpec := { name := "fnExactTalkPeak", fn := fun _ => fun
  | [d1, d2] => { results := [.lit (.bool false)], args := [d1, d2] }
  | _ => none }
def FnExactTalkPeakWrongFalsely : Prop := fnExactTalkPeakRow.holds Try.pinned (OpenSpec.ofChange fnExactTalkPeakWrong)

/-- 'laws.FnExactTalkHeard': WHATEVER THE INPUT: true; the input reads as it did. -/
def fnExactTalkHeardSpec : ChangeSpec := { name := "fnExactTalkHeard", fn := fun _ => fun
  | [d1, d2, d3] => { results := [.lit (.bool true)], args := [d1, d2, d3] }
  | _ => none }
def fnExactTalkHeardRow : OpenClaim := { program := "ytcgiehdpdnipbaa", sum := "ad3c9453bc8d981f7bf5070b9445a078a55d94d033170c30da838d664223ad11", func := "loop.example/shorthand/laws.FnExactTalkHeard", spec := "fnExactTalkHeard", unfollowed := true, recurses := true, apart := false }
def FnExactTalkHeardSaid : Prop := fnExactTalkHeardRow.holds Try.pinned (OpenSpec.ofChange fnExactTalkHeardSpec)

/-- ITS FALSE NEIGHBOUR: 'it returns false'. Refute it at one input. -/
def fnExactTalkHeardWrong : ChangeSpec := { name := "fnExactTalkHeard", fn := fun _ => fun
  | [d1, d2, d3] => { results := [.lit (.bool false)], args := [d1, d2, d3] }
  | _ => none }
def FnExactTalkHeardWrongFalsely : Prop := fnExactTalkHeardRow.holds Try.pinned (OpenSpec.ofChange fnExactTalkHeardWrong)

/-- 'laws.FnSpeed': WHATEVER THE INPUT: true; the input reads as it did. -/
def fnSpeedSpec : ChangeSpec := { name := "fnSpeed", fn := fun _ => fun
  | [d] => { results := [.lit (.bool true)], args := [d] }
  | _ => none }
def fnSpeedRow : OpenClaim := { program := "ytcgiehdpdnipbaa", sum := "ad3c9453bc8d981f7bf5070b9445a078a55d94d033170c30da838d664223ad11", func := "loop.example/shorthand/laws.FnSpeed", spec := "fnSpeed", unfollowed := true, recurses := true, apart := false }
def FnSpeedSaid : Prop := fnSpeedRow.holds Try.pinned (OpenSpec.ofChange fnSpeedSpec)

/-- ITS FALSE NEIGHBOUR: 'it returns false'. Refute it at one input. -/
def fnSpeedWrong : ChangeSpec := { name := "fnSpeed", fn := fun _ => fun
  | [d] => { results := [.lit (.bool false)], args := [d] }
  | _ => none }
def FnSpeedWrongFalsely : Prop := fnSpeedRow.holds Try.pinned (OpenSpec.ofChange fnSpeedWrong)

/-- 'laws.FnHeard': WHATEVER THE INPUT: true; the input reads as it did. -/
def fnHeardSpec : ChangeSpec := { name := "fnHeard", fn := fun _ => fun
  | [d] => { results := [.lit (.bool true)], args := [d] }
  | _ => none }
def fnHeardRow : OpenClaim := { program := "ytcgiehdpdnipbaa", sum := "ad3c9453bc8d981f7bf5070b9445a078a55d94d033170c30da838d664223ad11", func := "loop.example/shorthand/laws.FnHeard", spec := "fnHeard", unfollowed := true, recurses := true, apart := false }
def FnHeardSaid : Prop := fnHeardRow.holds Try.pinned (OpenSpec.ofChange fnHeardSpec)

/-- ITS FALSE NEIGHBOUR: 'it returns false'. Refute it at one input. -/
def fnHeardWrong : ChangeSpec := { name := "fnHeard", fn := fun _ => fun
  | [d] => { results := [.lit (.bool false)], args := [d] }
  | _ => none }
def FnHeardWrongFalsely : Prop := fnHeardRow.holds Try.pinned (OpenSpec.ofChange fnHeardWrong)

/-- 'laws.FnExactTalkLost': WHATEVER THE INPUT: true; the input reads as it did. -/
def fnExactTalkLostSpec : ChangeSpec := { name := "fnExactTalkLost", fn := fun _ => fun
  | [d1, d2, d3] => { results := [.lit (.bool true)], args := [d1, d2, d3] }
  | _ => none }
def fnExactTalkLostRow : OpenClaim := { program := "ytcgiehdpdnipbaa", sum := "ad3c9453bc8d981f7bf5070b9445a078a55d94d033170c30da838d664223ad11", func := "loop.example/shorthand/laws.FnExactTalkLost", spec := "fnExactTalkLost", unfollowed := true, recurses := true, apart := false }
def FnExactTalkLostSaid : Prop := fnExactTalkLostRow.holds Try.pinned (OpenSpec.ofChange fnExactTalkLostSpec)

/-- ITS FALSE NEIGHBOUR: 'it returns false'. Refute it at one input. -/
def fnExactTalkLostWrong : ChangeSpec := { name := "fnExactTalkLost", fn := fun _ => fun
  | [d1, d2, d3] => { results := [.lit (.bool false)], args := [d1, d2, d3] }
  | _ => none }
def FnExactTalkLostWrongFalsely : Prop := fnExactTalkLostRow.holds Try.pinned (OpenSpec.ofChange fnExactTalkLostWrong)

/-- 'laws.FnExactTalkTail': WHATEVER THE INPUT: true; the input reads as it did. -/
def fnExactTalkTailSpec : ChangeSpec := { name := "fnExactTalkTail", fn := fun _ => fun
  | [d1, d2, d3] => { results := [.lit (.bool true)], args := [d1, d2, d3] }
  | _ => none }
def fnExactTalkTailRow : OpenClaim := { program := "ytcgiehdpdnipbaa", sum := "ad3c9453bc8d981f7bf5070b9445a078a55d94d033170c30da838d664223ad11", func := "loop.example/shorthand/laws.FnExactTalkTail", spec := "fnExactTalkTail", unfollowed := true, recurses := true, apart := false }
def FnExactTalkTailSaid : Prop := fnExactTalkTailRow.holds Try.pinned (OpenSpec.ofChange fnExactTalkTailSpec)

/-- ITS FALSE NEIGHBOUR: 'it returns false'. Refute it at one input. -/
def fnExactTalkTailWrong : ChangeSpec := { name := "fnExactTalkTail", fn := fun _ => fun
  | [d1, d2, d3] => { results := [.lit (.bool false)], args := [d1, d2, d3] }
  | _ => none }
def FnExactTalkTailWrongFalsely : Prop := fnExactTalkTailRow.holds Try.pinned (OpenSpec.ofChange fnExactTalkTailWrong)

/-- 'laws.FnExactTalkMind': WHATEVER THE INPUT: true; the input reads as it did. -/
def fnExactTalkMindSpec : ChangeSpec := { name := "fnExactTalkMind", fn := fun _ => fun
  | [d1, d2, d3] => { results := [.lit (.bool true)], args := [d1, d2, d3] }
  | _ => none }
def fnExactTalkMindRow : OpenClaim := { program := "ytcgiehdpdnipbaa", sum := "ad3c9453bc8d981f7bf5070b9445a078a55d94d033170c30da838d664223ad11", func := "loop.example/shorthand/laws.FnExactTalkMind", spec := "fnExactTalkMind", unfollowed := true, recurses := true, apart := false }
def FnExactTalkMindSaid : Prop := fnExactTalkMindRow.holds Try.pinned (OpenSpec.ofChange fnExactTalkMindSpec)

/-- ITS FALSE NEIGHBOUR: 'it returns false'. Refute it at one input. -/
def fnExactTalkMindWrong : ChangeSpec := { name := "fnExactTalkMind", fn := fun _ => fun
  | [d1, d2, d3] => { results := [.lit (.bool false)], args := [d1, d2, d3] }
  | _ => none }
def FnExactTalkMindWrongFalsely : Prop := fnExactTalkMindRow.holds Try.pinned (OpenSpec.ofChange fnExactTalkMindWrong)

/-- 'laws.FnExactTalkRate': WHATEVER THE INPUT: true; the input reads as it did. -/
def fnExactTalkRateSpec : ChangeSpec := { name := "fnExactTalkRate", fn := fun _ => fun
  | [d1, d2] => { results := [.lit (.bool true)], args := [d1, d2] }
  | _ => none }
def fnExactTalkRateRow : OpenClaim := { program := "ytcgiehdpdnipbaa", sum := "ad3c9453bc8d981f7bf5070b9445a078a55d94d033170c30da838d664223ad11", func := "loop.example/shorthand/laws.FnExactTalkRate", spec := "fnExactTalkRate", unfollowed := true, recurses := true, apart := false }
def FnExactTalkRateSaid : Prop := fnExactTalkRateRow.holds Try.pinned (OpenSpec.ofChange fnExactTalkRateSpec)

/-- ITS FALSE NEIGHBOUR: 'it returns false'. Refute it at one input. -/
def fnExactTalkRateWrong : ChangeSpec := { name := "fnExactTalkRate", fn := fun _ => fun
  | [d1, d2] => { results := [.lit (.bool false)], args := [d1, d2] }
  | _ => none }
def FnExactTalkRateWrongFalsely : Prop := fnExactTalkRateRow.holds Try.pinned (OpenSpec.ofChange fnExactTalkRateWrong)

/-- 'laws.FnExactTalkHold': WHATEVER THE INPUT: true; the input reads as it did. -/
def fnExactTalkHoldSpec : ChangeSpec := { name := "fnExactTalkHold", fn := fun _ => fun
  | [d1, d2] => { results := [.lit (.bool true)], args := [d1, d2] }
  | _ => none }
def fnExactTalkHoldRow : OpenClaim := { program := "ytcgiehdpdnipbaa", sum := "ad3c9453bc8d981f7bf5070b9445a078a55d94d033170c30da838d664223ad11", func := "loop.example/shorthand/laws.FnExactTalkHold", spec := "fnExactTalkHold", unfollowed := true, recurses := true, apart := false }
def FnExactTalkHoldSaid : Prop := fnExactTalkHoldRow.holds Try.pinned (OpenSpec.ofChange fnExactTalkHoldSpec)

/-- ITS FALSE NEIGHBOUR: 'it returns false'. Refute it at one input. -/
def fnExactTalkHoldWrong : ChangeSpec := { name := "fnExactTalkHold", fn := fun _ => fun
  | [d1, d2] => { results := [.lit (.bool false)], args := [d1, d2] }
  | _ => none }
def FnExactTalkHoldWrongFalsely : Prop := fnExactTalkHoldRow.holds Try.pinned (OpenSpec.ofChange fnExactTalkHoldWrong)

/-- 'laws.FnWords': WHATEVER THE INPUT: true; the input reads as it did. -/
def fnWordsSpec : ChangeSpec := { name := "fnWords", fn := fun _ => fun
  | [d1, d2] => { results := [.lit (.bool true)], args := [d1, d2] }
  | _ => none }
def fnWordsRow : OpenClaim := { program := "ytcgiehdpdnipbaa", sum := "ad3c9453bc8d981f7bf5070b9445a078a55d94d033170c30da838d664223ad11", func := "loop.example/shorthand/laws.FnWords", spec := "fnWords", unfollowed := true, recurses := true, apart := false }
def FnWordsSaid : Prop := fnWordsRow.holds Try.pinned (OpenSpec.ofChange fnWordsSpec)

/-- ITS FALSE NEIGHBOUR: 'it returns false'. Refute it at one input. -/
def fnWordsWrong : ChangeSpec := { name := "fnWords", fn := fun _ => fun
  | [d1, d2] => { results := [.lit (.bool false)], args := [d1, d2] }
  | _ => none }
def FnWordsWrongFalsely : Prop := fnWordsRow.holds Try.pinned (OpenSpec.ofChange fnWordsWrong)

/-- 'laws.FnLostParts': WHATEVER THE INPUT: true; the input reads as it did. -/
def fnLostPartsSpec : ChangeSpec := { name := "fnLostParts", fn := fun _ => fun
  | [d1, d2] => { results := [.lit (.bool true)], args := [d1, d2] }
  | _ => none }
def fnLostPartsRow : OpenClaim := { program := "ytcgiehdpdnipbaa", sum := "ad3c9453bc8d981f7bf5070b9445a078a55d94d033170c30da838d664223ad11", func := "loop.example/shorthand/laws.FnLostParts", spec := "fnLostParts", unfollowed := true, recurses := true, apart := false }
def FnLostPartsSaid : Prop := fnLostPartsRow.holds Try.pinned (OpenSpec.ofChange fnLostPartsSpec)

/-- ITS FALSE NEIGHBOUR: 'it returns false'. Refute it at one input. -/
def fnLostPartsWrong : ChangeSpec := { name := "fnLostParts", fn := fun _ => fun
  | [d1, d2] => { results := [.lit (.bool false)], args := [d1, d2] }
  | _ => none }
def FnLostPartsWrongFalsely : Prop := fnLostPartsRow.holds Try.pinned (OpenSpec.ofChange fnLostPartsWrong)

/-- 'laws.FnExactRelayLost': WHATEVER THE INPUT: true; the input reads as it did. -/
def fnExactRelayLostSpec : ChangeSpec := { name := "fnExactRelayLost", fn := fun _ => fun
  | [d1, d2, d3, d4] => { results := [.lit (.bool true)], args := [d1, d2, d3, d4] }
  | _ => none }
def fnExactRelayLostRow : OpenClaim := { program := "ytcgiehdpdnipbaa", sum := "ad3c9453bc8d981f7bf5070b9445a078a55d94d033170c30da838d664223ad11", func := "loop.example/shorthand/laws.FnExactRelayLost", spec := "fnExactRelayLost", unfollowed := true, recurses := true, apart := false }
def FnExactRelayLostSaid : Prop := fnExactRelayLostRow.holds Try.pinned (OpenSpec.ofChange fnExactRelayLostSpec)

/-- ITS FALSE NEIGHBOUR: 'it returns false'. Refute it at one input. -/
def fnExactRelayLostWrong : ChangeSpec := { name := "fnExactRelayLost", fn := fun _ => fun
  | [d1, d2, d3, d4] => { results := [.lit (.bool false)], args := [d1, d2, d3, d4] }
  | _ => none }
def FnExactRelayLostWrongFalsely : Prop := fnExactRelayLostRow.holds Try.pinned (OpenSpec.ofChange fnExactRelayLostWrong)

/-- 'laws.FnRate': WHATEVER THE INPUT: true; the input reads as it did. -/
def fnRateSpec : ChangeSpec := { name := "fnRate", fn := fun _ => fun
  | [d] => { results := [.lit (.bool true)], args := [d] }
  | _ => none }
def fnRateRow : OpenClaim := { program := "ytcgiehdpdnipbaa", sum := "ad3c9453bc8d981f7bf5070b9445a078a55d94d033170c30da838d664223ad11", func := "loop.example/shorthand/laws.FnRate", spec := "fnRate", unfollowed := true, recurses := true, apart := false }
def FnRateSaid : Prop := fnRateRow.holds Try.pinned (OpenSpec.ofChange fnRateSpec)

/-- ITS FALSE NEIGHBOUR: 'it returns false'. Refute it at one input. -/
def fnRateWrong : ChangeSpec := { name := "fnRate", fn := fun _ => fun
  | [d] => { results := [.lit (.bool false)], args := [d] }
  | _ => none }
def FnRateWrongFalsely : Prop := fnRateRow.holds Try.pinned (OpenSpec.ofChange fnRateWrong)

/-- 'laws.FnPeak': WHATEVER THE INPUT: true; the input reads as it did. -/
def fnPeakSpec : ChangeSpec := { name := "fnPeak", fn := fun _ => fun
  | [d] => { results := [.lit (.bool true)], args := [d] }
  | _ => none }
def fnPeakRow : OpenClaim := { program := "ytcgiehdpdnipbaa", sum := "ad3c9453bc8d981f7bf5070b9445a078a55d94d033170c30da838d664223ad11", func := "loop.example/shorthand/laws.FnPeak", spec := "fnPeak", unfollowed := true, recurses := true, apart := false }
def FnPeakSaid : Prop := fnPeakRow.holds Try.pinned (OpenSpec.ofChange fnPeakSpec)

/-- ITS FALSE NEIGHBOUR: 'it returns false'. Refute it at one input. -/
def fnPeakWrong : ChangeSpec := { name := "fnPeak", fn := fun _ => fun
  | [d] => { results := [.lit (.bool false)], args := [d] }
  | _ => none }
def FnPeakWrongFalsely : Prop := fnPeakRow.holds Try.pinned (OpenSpec.ofChange fnPeakWrong)

/-- 'laws.FnMind': WHATEVER THE INPUT: true; the input reads as it did. -/
def fnMindSpec : ChangeSpec := { name := "fnMind", fn := fun _ => fun
  | [d1, d2] => { results := [.lit (.bool true)], args := [d1, d2] }
  | _ => none }
def fnMindRow : OpenClaim := { program := "ytcgiehdpdnipbaa", sum := "ad3c9453bc8d981f7bf5070b9445a078a55d94d033170c30da838d664223ad11", func := "loop.example/shorthand/laws.FnMind", spec := "fnMind", unfollowed := true, recurses := true, apart := false }
def FnMindSaid : Prop := fnMindRow.holds Try.pinned (OpenSpec.ofChange fnMindSpec)

/-- ITS FALSE NEIGHBOUR: 'it returns false'. Refute it at one input. -/
def fnMindWrong : ChangeSpec := { name := "fnMind", fn := fun _ => fun
  | [d1, d2] => { results := [.lit (.bool false)], args := [d1, d2] }
  | _ => none }
def FnMindWrongFalsely : Prop := fnMindRow.holds Try.pinned (OpenSpec.ofChange fnMindWrong)

/-- 'laws.FnTalkJoin': WHATEVER THE INPUT: true; the input reads as it did. -/
def fnTalkJoinSpec : ChangeSpec := { name := "fnTalkJoin", fn := fun _ => fun
  | [d] => { results := [.lit (.bool true)], args := [d] }
  | _ => none }
def fnTalkJoinRow : OpenClaim := { program := "ytcgiehdpdnipbaa", sum := "ad3c9453bc8d981f7bf5070b9445a078a55d94d033170c30da838d664223ad11", func := "loop.example/shorthand/laws.FnTalkJoin", spec := "fnTalkJoin", unfollowed := true, recurses := true, apart := false }
def FnTalkJoinSaid : Prop := fnTalkJoinRow.holds Try.pinned (OpenSpec.ofChange fnTalkJoinSpec)

/-- ITS FALSE NEIGHBOUR: 'it returns false'. Refute it at one input. -/
def fnTalkJoinWrong : ChangeSpec := { name := "fnTalkJoin", fn := fun _ => fun
  | [d] => { results := [.lit (.bool false)], args := [d] }
  | _ => none }
def FnTalkJoinWrongFalsely : Prop := fnTalkJoinRow.holds Try.pinned (OpenSpec.ofChange fnTalkJoinWrong)

/-- 'laws.FnHold': WHATEVER THE INPUT: true; the input reads as it did. -/
def fnHoldSpec : ChangeSpec := { name := "fnHold", fn := fun _ => fun
  | [d] => { results := [.lit (.bool true)], args := [d] }
  | _ => none }
def fnHoldRow : OpenClaim := { program := "ytcgiehdpdnipbaa", sum := "ad3c9453bc8d981f7bf5070b9445a078a55d94d033170c30da838d664223ad11", func := "loop.example/shorthand/laws.FnHold", spec := "fnHold", unfollowed := true, recurses := true, apart := false }
def FnHoldSaid : Prop := fnHoldRow.holds Try.pinned (OpenSpec.ofChange fnHoldSpec)

/-- ITS FALSE NEIGHBOUR: 'it returns false'. Refute it at one input. -/
def fnHoldWrong : ChangeSpec := { name := "fnHold", fn := fun _ => fun
  | [d] => { results := [.lit (.bool false)], args := [d] }
  | _ => none }
def FnHoldWrongFalsely : Prop := fnHoldRow.holds Try.pinned (OpenSpec.ofChange fnHoldWrong)

/-- 'laws.FnTail': WHATEVER THE INPUT: true; the input reads as it did. -/
def fnTailSpec : ChangeSpec := { name := "fnTail", fn := fun _ => fun
  | [d] => { results := [.lit (.bool true)], args := [d] }
  | _ => none }
def fnTailRow : OpenClaim := { program := "ytcgiehdpdnipbaa", sum := "ad3c9453bc8d981f7bf5070b9445a078a55d94d033170c30da838d664223ad11", func := "loop.example/shorthand/laws.FnTail", spec := "fnTail", unfollowed := true, recurses := true, apart := false }
def FnTailSaid : Prop := fnTailRow.holds Try.pinned (OpenSpec.ofChange fnTailSpec)

/-- ITS FALSE NEIGHBOUR: 'it returns false'. Refute it at one input. -/
def fnTailWrong : ChangeSpec := { name := "fnTail", fn := fun _ => fun
  | [d] => { results := [.lit (.bool false)], args := [d] }
  | _ => none }
def FnTailWrongFalsely : Prop := fnTailRow.holds Try.pinned (OpenSpec.ofChange fnTailWrong)

/-- 'laws.FnLost': WHATEVER THE INPUT: true; the input reads as it did. -/
def fnLostSpec : ChangeSpec := { name := "fnLost", fn := fun _ => fun
  | [d] => { results := [.lit (.bool true)], args := [d] }
  | _ => none }
def fnLostRow : OpenClaim := { program := "ytcgiehdpdnipbaa", sum := "ad3c9453bc8d981f7bf5070b9445a078a55d94d033170c30da838d664223ad11", func := "loop.example/shorthand/laws.FnLost", spec := "fnLost", unfollowed := true, recurses := true, apart := false }
def FnLostSaid : Prop := fnLostRow.holds Try.pinned (OpenSpec.ofChange fnLostSpec)

/-- ITS FALSE NEIGHBOUR: 'it returns false'. Refute it at one input. -/
def fnLostWrong : ChangeSpec := { name := "fnLost", fn := fun _ => fun
  | [d] => { results := [.lit (.bool false)], args := [d] }
  | _ => none }
def FnLostWrongFalsely : Prop := fnLostRow.holds Try.pinned (OpenSpec.ofChange fnLostWrong)

/-- 'laws.FnExactRelayTurn': WHATEVER THE INPUT: true; the input reads as it did. -/
def fnExactRelayTurnSpec : ChangeSpec := { name := "fnExactRelayTurn", fn := fun _ => fun
  | [d1, d2, d3] => { results := [.lit (.bool true)], args := [d1, d2, d3] }
  | _ => none }
def fnExactRelayTurnRow : OpenClaim := { program := "ytcgiehdpdnipbaa", sum := "ad3c9453bc8d981f7bf5070b9445a078a55d94d033170c30da838d664223ad11", func := "loop.example/shorthand/laws.FnExactRelayTurn", spec := "fnExactRelayTurn", unfollowed := true, recurses := true, apart := false }
def FnExactRelayTurnSaid : Prop := fnExactRelayTurnRow.holds Try.pinned (OpenSpec.ofChange fnExactRelayTurnSpec)

/-- ITS FALSE NEIGHBOUR: 'it returns false'. Refute it at one input. -/
def fnExactRelayTurnWrong : ChangeSpec := { name := "fnExactRelayTurn", fn := fun _ => fun
  | [d1, d2, d3] => { results := [.lit (.bool false)], args := [d1, d2, d3] }
  | _ => none }
def FnExactRelayTurnWrongFalsely : Prop := fnExactRelayTurnRow.holds Try.pinned (OpenSpec.ofChange fnExactRelayTurnWrong)

/-- 'laws.FnRelay': WHATEVER THE INPUT: true; the input reads as it did. -/
def fnRelaySpec : ChangeSpec := { name := "fnRelay", fn := fun _ => fun
  | [d] => { results := [.lit (.bool true)], args := [d] }
  | _ => none }
def fnRelayRow : OpenClaim := { program := "ytcgiehdpdnipbaa", sum := "ad3c9453bc8d981f7bf5070b9445a078a55d94d033170c30da838d664223ad11", func := "loop.example/shorthand/laws.FnRelay", spec := "fnRelay", unfollowed := true, recurses := true, apart := false }
def FnRelaySaid : Prop := fnRelayRow.holds Try.pinned (OpenSpec.ofChange fnRelaySpec)

/-- ITS FALSE NEIGHBOUR: 'it returns false'. Refute it at one input. -/
def fnRelayWrong : ChangeSpec := { name := "fnRelay", fn := fun _ => fun
  | [d] => { results := [.lit (.bool false)], args := [d] }
  | _ => none }
def FnRelayWrongFalsely : Prop := fnRelayRow.holds Try.pinned (OpenSpec.ofChange fnRelayWrong)

/-- 'laws.FnRelayTurn': WHATEVER THE INPUT: true; the input reads as it did. -/
def fnRelayTurnSpec : ChangeSpec := { name := "fnRelayTurn", fn := fun _ => fun
  | [d] => { results := [.lit (.bool true)], args := [d] }
  | _ => none }
def fnRelayTurnRow : OpenClaim := { program := "ytcgiehdpdnipbaa", sum := "ad3c9453bc8d981f7bf5070b9445a078a55d94d033170c30da838d664223ad11", func := "loop.example/shorthand/laws.FnRelayTurn", spec := "fnRelayTurn", unfollowed := true, recurses := true, apart := false }
def FnRelayTurnSaid : Prop := fnRelayTurnRow.holds Try.pinned (OpenSpec.ofChange fnRelayTurnSpec)

/-- ITS FALSE NEIGHBOUR: 'it returns false'. Refute it at one input. -/
def fnRelayTurnWrong : ChangeSpec := { name := "fnRelayTurn", fn := fun _ => fun
  | [d] => { results := [.lit (.bool false)], args := [d] }
  | _ => none }
def FnRelayTurnWrongFalsely : Prop := fnRelayTurnRow.holds Try.pinned (OpenSpec.ofChange fnRelayTurnWrong)

/- THE SECOND FORM. 'bulk': how many values and letters a reading holds, each counted each time it is reached (what is shared counts as often as it is met; a slice's spare places count too). A statement '..UptoSaid' is the law's where the arguments, and the package variables that the reading takes, are together of bulk at most 1048576: NARROWER than '..Said'. Prove '..Said' where nothing that the law and all that it calls make is longer than what came in: it says more and counts as full. Else prove '..UptoSaid'. A law counts once. -/
mutual
def uptoBulk {H : Type} : DataW H → Nat
  | .lit (.string bytes) => bytes.length + 1
  | .lit _ => 1
  | .nil => 1
  | .ptr d => uptoBulk d + 1
  | .slice elems spare => uptoBulkAll elems + uptoBulkAll spare + 1
  | .agg parts => uptoBulkAll parts + 1
  | .iface _ d => uptoBulk d + 1
  | .map entries => uptoBulkEntries entries + 1
  | .held _ => 1
def uptoBulkAll {H : Type} : List (DataW H) → Nat
  | [] => 0
  | d :: r => uptoBulk d + uptoBulkAll r
def uptoBulkEntries {H : Type} : List (Lit × DataW H) → Nat
  | [] => 0
  | x :: r => uptoBulkEntry x + uptoBulkEntries r
def uptoBulkEntry {H : Type} : Lit × DataW H → Nat
  | (.string bytes, d) => bytes.length + uptoBulk d + 1
  | (_, d) => uptoBulk d + 1
 end
def uptoSmall : (H : Type) → List (DataW H) → Bool := fun _ ds => decide (uptoBulkAll ds ≤ 1048576)
def OpenSpec.upto (s : _root_.Go.ChangeSpec) : _root_.Go.OpenSpec := { _root_.Go.OpenSpec.ofChange s with cond := some uptoSmall }

/-- 'laws.FnExactTalkSpeed', WHERE WHAT IT READS IS OF BULK AT MOST 1048576: true; the input reads as it did. -/
def fnExactTalkSpeedUptoRow : OpenClaim := { program := "ytcgiehdpdnipbaa", sum := "ad3c9453bc8d981f7bf5070b9445a078a55d94d033170c30da838d664223ad11", func := "loop.example/shorthand/laws.FnExactTalkSpeed", spec := "fnExactTalkSpeed", unfollowed := true, recurses := true, apart := false, narrowed := true }
def FnExactTalkSpeedUptoSaid : Prop := fnExactTalkSpeedUptoRow.holds Try.pinned (OpenSpec.upto fnExactTalkSpeedSpec)

/-- 'laws.FnExactTalkWords', WHERE WHAT IT READS IS OF BULK AT MOST 1048576: true; the input reads as it did. -/
def fnExactTalkWordsUptoRow : OpenClaim := { program := "ytcgiehdpdnipbaa", sum := "ad3c9453bc8d981f7bf5070b9445a078a55d94d033170c30da838d664223ad11", func := "loop.example/shorthand/laws.FnExactTalkWords", spec := "fnExactTalkWords", unfollowed := true, recurses := true, apart := false, narrowed := true }
def FnExactTalkWordsUptoSaid : Prop := fnExactTalkWordsUptoRow.holds Try.pinned (OpenSpec.upto fnExactTalkWordsSpec)

/-- 'laws.FnExactTalkJoin', WHERE WHAT IT READS IS OF BULK AT MOST 1048576: true; the input reads as it did. -/
def fnExactTalkJoinUptoRow : OpenClaim := { program := "ytcgiehdpdnipbaa", sum := "ad3c9453bc8d981f7bf5070b9445a078a55d94d033170c30da838d664223ad11", func := "loop.example/shorthand/laws.FnExactTalkJoin", spec := "fnExactTalkJoin", unfollowed := true, recurses := true, apart := false, narrowed := true }
def FnExactTalkJoinUptoSaid : Prop := fnExactTalkJoinUptoRow.holds Try.pinned (OpenSpec.upto fnExactTalkJoinSpec)

/-- 'laws.FnExactTalkPeak', WHERE WHAT IT READS IS OF BULK AT MOST 1048576: true; the input reads as it did. -/
def fnExactTalkPeakUptoRow : OpenClaim := { program := "ytcgiehdpdnipbaa", sum := "ad3c9453bc8d981f7bf5070b9445a078a55d94d033170c30da838d664223ad11", func := "loop.example/shorthand/laws.FnExactTalkPeak", spec := "fnExactTalkPeak", unfollowed := true, recurses := true, apart := false, narrowed := true }
def FnExactTalkPeakUptoSaid : Prop := fnExactTalkPeakUptoRow.holds Try.pinned (OpenSpec.upto fnExactTalkPeakSpec)

/-- 'laws.FnExactTalkHeard', WHERE WHAT IT READS IS OF BULK AT MOST 1048576: true; the input reads as it did. -/
def fnExactTalkHeardUptoRow : OpenClaim := { program := "ytcgiehdpdnipbaa", sum := "ad3c9453bc8d981f7bf5070b9445a078a55d94d033170c30da838d664223ad11", func := "loop.example/shorthand/laws.FnExactTalkHeard", spec := "fnExactTalkHeard", unfollowed := true, recurses := true, apart := false, narrowed := true }
def FnExactTalkHeardUptoSaid : Prop := fnExactTalkHeardUptoRow.holds Try.pinned (OpenSpec.upto fnExactTalkHeardSpec)

/-- 'laws.FnSpeed', WHERE WHAT IT READS IS OF BULK AT MOST 1048576: true; the input reads as it did. -/
def fnSpeedUptoRow : OpenClaim := { program := "ytcgiehdpdnipbaa", sum := "ad3c9453bc8d981f7bf5070b9445a078a55d94d033170c30da838d664223ad11", func := "loop.example/shorthand/laws.FnSpeed", spec := "fnSpeed", unfollowed := true, recurses := true, apart := false, narrowed := true }
def FnSpeedUptoSaid : Prop := fnSpeedUptoRow.holds Try.pinned (OpenSpec.upto fnSpeedSpec)

/-- 'laws.FnHeard', WHERE WHAT IT READS IS OF BULK AT MOST 1048576: true; the input reads as it did. -/
def fnHeardUptoRow : OpenClaim := { program := "ytcgiehdpdnipbaa", sum := "ad3c9453bc8d981f7bf5070b9445a078a55d94d033170c30da838d664223ad11", func := "loop.example/shorthand/laws.FnHeard", spec := "fnHeard", unfollowed := true, recurses := true, apart := false, narrowed := true }
def FnHeardUptoSaid : Prop := fnHeardUptoRow.holds Try.pinned (OpenSpec.upto fnHeardSpec)

/-- 'laws.FnExactTalkLost', WHERE WHAT IT READS IS OF BULK AT MOST 1048576: true; the input reads as it did. -/
def fnExactTalkLostUptoRow : OpenClaim := { program := "ytcgiehdpdnipbaa", sum := "ad3c9453bc8d981f7bf5070b9445a078a55d94d033170c30da838d664223ad11", func := "loop.example/shorthand/laws.FnExactTalkLost", spec := "fnExactTalkLost", unfollowed := true, recurses := true, apart := false, narrowed := true }
def FnExactTalkLostUptoSaid : Prop := fnExactTalkLostUptoRow.holds Try.pinned (OpenSpec.upto fnExactTalkLostSpec)

/-- 'laws.FnExactTalkTail', WHERE WHAT IT READS IS OF BULK AT MOST 1048576: true; the input reads as it did. -/
def fnExactTalkTailUptoRow : OpenClaim := { program := "ytcgiehdpdnipbaa", sum := "ad3c9453bc8d981f7bf5070b9445a078a55d94d033170c30da838d664223ad11", func := "loop.example/shorthand/laws.FnExactTalkTail", spec := "fnExactTalkTail", unfollowed := true, recurses := true, apart := false, narrowed := true }
def FnExactTalkTailUptoSaid : Prop := fnExactTalkTailUptoRow.holds Try.pinned (OpenSpec.upto fnExactTalkTailSpec)

/-- 'laws.FnExactTalkMind', WHERE WHAT IT READS IS OF BULK AT MOST 1048576: true; the input reads as it did. -/
def fnExactTalkMindUptoRow : OpenClaim := { program := "ytcgiehdpdnipbaa", sum := "ad3c9453bc8d981f7bf5070b9445a078a55d94d033170c30da838d664223ad11", func := "loop.example/shorthand/laws.FnExactTalkMind", spec := "fnExactTalkMind", unfollowed := true, recurses := true, apart := false, narrowed := true }
def FnExactTalkMindUptoSaid : Prop := fnExactTalkMindUptoRow.holds Try.pinned (OpenSpec.upto fnExactTalkMindSpec)

/-- 'laws.FnExactTalkRate', WHERE WHAT IT READS IS OF BULK AT MOST 1048576: true; the input reads as it did. -/
def fnExactTalkRateUptoRow : OpenClaim := { program := "ytcgiehdpdnipbaa", sum := "ad3c9453bc8d981f7bf5070b9445a078a55d94d033170c30da838d664223ad11", func := "loop.example/shorthand/laws.FnExactTalkRate", spec := "fnExactTalkRate", unfollowed := true, recurses := true, apart := false, narrowed := true }
def FnExactTalkRateUptoSaid : Prop := fnExactTalkRateUptoRow.holds Try.pinned (OpenSpec.upto fnExactTalkRateSpec)

/-- 'laws.FnExactTalkHold', WHERE WHAT IT READS IS OF BULK AT MOST 1048576: true; the input reads as it did. -/
def fnExactTalkHoldUptoRow : OpenClaim := { program := "ytcgiehdpdnipbaa", sum := "ad3c9453bc8d981f7bf5070b9445a078a55d94d033170c30da838d664223ad11", func := "loop.example/shorthand/laws.FnExactTalkHold", spec := "fnExactTalkHold", unfollowed := true, recurses := true, apart := false, narrowed := true }
def FnExactTalkHoldUptoSaid : Prop := fnExactTalkHoldUptoRow.holds Try.pinned (OpenSpec.upto fnExactTalkHoldSpec)

/-- 'laws.FnWords', WHERE WHAT IT READS IS OF BULK AT MOST 1048576: true; the input reads as it did. -/
def fnWordsUptoRow : OpenClaim := { program := "ytcgiehdpdnipbaa", sum := "ad3c9453bc8d981f7bf5070b9445a078a55d94d033170c30da838d664223ad11", func := "loop.example/shorthand/laws.FnWords", spec := "fnWords", unfollowed := true, recurses := true, apart := false, narrowed := true }
def FnWordsUptoSaid : Prop := fnWordsUptoRow.holds Try.pinned (OpenSpec.upto fnWordsSpec)

/-- 'laws.FnLostParts', WHERE WHAT IT READS IS OF BULK AT MOST 1048576: true; the input reads as it did. -/
def fnLostPartsUptoRow : OpenClaim := { program := "ytcgiehdpdnipbaa", sum := "ad3c9453bc8d981f7bf5070b9445a078a55d94d033170c30da838d664223ad11", func := "loop.example/shorthand/laws.FnLostParts", spec := "fnLostParts", unfollowed := true, recurses := true, apart := false, narrowed := true }
def FnLostPartsUptoSaid : Prop := fnLostPartsUptoRow.holds Try.pinned (OpenSpec.upto fnLostPartsSpec)

/-- 'laws.FnExactRelayLost', WHERE WHAT IT READS IS OF BULK AT MOST 1048576: true; the input reads as it did. -/
def fnExactRelayLostUptoRow : OpenClaim := { program := "ytcgiehdpdnipbaa", sum := "ad3c9453bc8d981f7bf5070b9445a078a55d94d033170c30da838d664223ad11", func := "loop.example/shorthand/laws.FnExactRelayLost", spec := "fnExactRelayLost", unfollowed := true, recurses := true, apart := false, narrowed := true }
def FnExactRelayLostUptoSaid : Prop := fnExactRelayLostUptoRow.holds Try.pinned (OpenSpec.upto fnExactRelayLostSpec)

/-- 'laws.FnRate', WHERE WHAT IT READS IS OF BULK AT MOST 1048576: true; the input reads as it did. -/
def fnRateUptoRow : OpenClaim := { program := "ytcgiehdpdnipbaa", sum := "ad3c9453bc8d981f7bf5070b9445a078a55d94d033170c30da838d664223ad11", func := "loop.example/shorthand/laws.FnRate", spec := "fnRate", unfollowed := true, recurses := true, apart := false, narrowed := true }
def FnRateUptoSaid : Prop := fnRateUptoRow.holds Try.pinned (OpenSpec.upto fnRateSpec)

/-- 'laws.FnPeak', WHERE WHAT IT READS IS OF BULK AT MOST 1048576: true; the input reads as it did. -/
def fnPeakUptoRow : OpenClaim := { program := "ytcgiehdpdnipbaa", sum := "ad3c9453bc8d981f7bf5070b9445a078a55d94d033170c30da838d664223ad11", func := "loop.example/shorthand/laws.FnPeak", spec := "fnPeak", unfollowed := true, recurses := true, apart := false, narrowed := true }
def FnPeakUptoSaid : Prop := fnPeakUptoRow.holds Try.pinned (OpenSpec.upto fnPeakSpec)

/-- 'laws.FnMind', WHERE WHAT IT READS IS OF BULK AT MOST 1048576: true; the input reads as it did. -/
def fnMindUptoRow : OpenClaim := { program := "ytcgiehdpdnipbaa", sum := "ad3c9453bc8d981f7bf5070b9445a078a55d94d033170c30da838d664223ad11", func := "loop.example/shorthand/laws.FnMind", spec := "fnMind", unfollowed := true, recurses := true, apart := false, narrowed := true }
def FnMindUptoSaid : Prop := fnMindUptoRow.holds Try.pinned (OpenSpec.upto fnMindSpec)

/-- 'laws.FnTalkJoin', WHERE WHAT IT READS IS OF BULK AT MOST 1048576: true; the input reads as it did. -/
def fnTalkJoinUptoRow : OpenClaim := { program := "ytcgiehdpdnipbaa", sum := "ad3c9453bc8d981f7bf5070b9445a078a55d94d033170c30da838d664223ad11", func := "loop.example/shorthand/laws.FnTalkJoin", spec := "fnTalkJoin", unfollowed := true, recurses := true, apart := false, narrowed := true }
def FnTalkJoinUptoSaid : Prop := fnTalkJoinUptoRow.holds Try.pinned (OpenSpec.upto fnTalkJoinSpec)

/-- 'laws.FnHold', WHERE WHAT IT READS IS OF BULK AT MOST 1048576: true; the input reads as it did. -/
def fnHoldUptoRow : OpenClaim := { program := "ytcgiehdpdnipbaa", sum := "ad3c9453bc8d981f7bf5070b9445a078a55d94d033170c30da838d664223ad11", func := "loop.example/shorthand/laws.FnHold", spec := "fnHold", unfollowed := true, recurses := true, apart := false, narrowed := true }
def FnHoldUptoSaid : Prop := fnHoldUptoRow.holds Try.pinned (OpenSpec.upto fnHoldSpec)

/-- 'laws.FnTail', WHERE WHAT IT READS IS OF BULK AT MOST 1048576: true; the input reads as it did. -/
def fnTailUptoRow : OpenClaim := { program := "ytcgiehdpdnipbaa", sum := "ad3c9453bc8d981f7bf5070b9445a078a55d94d033170c30da838d664223ad11", func := "loop.example/shorthand/laws.FnTail", spec := "fnTail", unfollowed := true, recurses := true, apart := false, narrowed := true }
def FnTailUptoSaid : Prop := fnTailUptoRow.holds Try.pinned (OpenSpec.upto fnTailSpec)

/-- 'laws.FnLost', WHERE WHAT IT READS IS OF BULK AT MOST 1048576: true; the input reads as it did. -/
def fnLostUptoRow : OpenClaim := { program := "ytcgiehdpdnipbaa", sum := "ad3c9453bc8d981f7bf5070b9445a078a55d94d033170c30da838d664223ad11", func := "loop.example/shorthand/laws.FnLost", spec := "fnLost", unfollowed := true, recurses := true, apart := false, narrowed := true }
def FnLostUptoSaid : Prop := fnLostUptoRow.holds Try.pinned (OpenSpec.upto fnLostSpec)

/-- 'laws.FnExactRelayTurn', WHERE WHAT IT READS IS OF BULK AT MOST 1048576: true; the input reads as it did. -/
def fnExactRelayTurnUptoRow : OpenClaim := { program := "ytcgiehdpdnipbaa", sum := "ad3c9453bc8d981f7bf5070b9445a078a55d94d033170c30da838d664223ad11", func := "loop.example/shorthand/laws.FnExactRelayTurn", spec := "fnExactRelayTurn", unfollowed := true, recurses := true, apart := false, narrowed := true }
def FnExactRelayTurnUptoSaid : Prop := fnExactRelayTurnUptoRow.holds Try.pinned (OpenSpec.upto fnExactRelayTurnSpec)

/-- 'laws.FnRelay', WHERE WHAT IT READS IS OF BULK AT MOST 1048576: true; the input reads as it did. -/
def fnRelayUptoRow : OpenClaim := { program := "ytcgiehdpdnipbaa", sum := "ad3c9453bc8d981f7bf5070b9445a078a55d94d033170c30da838d664223ad11", func := "loop.example/shorthand/laws.FnRelay", spec := "fnRelay", unfollowed := true, recurses := true, apart := false, narrowed := true }
def FnRelayUptoSaid : Prop := fnRelayUptoRow.holds Try.pinned (OpenSpec.upto fnRelaySpec)

/-- 'laws.FnRelayTurn', WHERE WHAT IT READS IS OF BULK AT MOST 1048576: true; the input reads as it did. -/
def fnRelayTurnUptoRow : OpenClaim := { program := "ytcgiehdpdnipbaa", sum := "ad3c9453bc8d981f7bf5070b9445a078a55d94d033170c30da838d664223ad11", func := "loop.example/shorthand/laws.FnRelayTurn", spec := "fnRelayTurn", unfollowed := true, recurses := true, apart := false, narrowed := true }
def FnRelayTurnUptoSaid : Prop := fnRelayTurnUptoRow.holds Try.pinned (OpenSpec.upto fnRelayTurnSpec)

end Rows
end Go.Proofs.Ytcgiehdpdnipbaa
