/- The program's change of a mark. -/
import Derived.Test.YtjhlcgjhdiheaaaDoorChg
namespace Go.Proofs.YtjhlcgjhdiheaaaDoor
open Go.RowKit
set_option linter.unusedVariables false
set_option linter.unusedSimpArgs false

/-- the value of the change of a mark -/
def chgV (m : M) (A : Option Addr) (n c : Nat) : Value :=
  if n = 0 then .iface 75 (.agg #[.int .i64 m.at_, .int .i64 m.cut]) else if m.cut = 0 then .iface 77 (.agg #[.int .i64 m.at_, .slice A n c]) else .iface 79 (.agg #[.int .i64 m.at_, .int .i64 m.cut, .slice A n c])
set_option maxHeartbeats 400000 in
theorem change_any (m : M) (A : Option Addr) (n c : Nat) (w : World) (hn : n ≤ 1000) :
    Calls Tryd.prog 25 #[mv m A n c] w fun e w' => e = .returned (chgV m A n c) ∧ w.alloc (.cells #[.int .i64 m.at_, .int .i64 m.cut, .slice A n c] 46) = w' := by
  by_cases h1 : n = 0
  · have hv := Lib.hid (show chgV m A n c = .iface 75 (.agg #[.int .i64 m.at_, .int .i64 m.cut]) by unfold chgV; rw [if_pos h1])
    have b1 : ((n : Int) == 0) = true := by simp [h1]
    clear h1
    go_enter Tryd.func25, Tryd.ntmps25
    go_wp2_with fail
    go_ret
    exact ⟨congrArg Ending.returned hv.out.symm, rfl⟩
  · have b1 : ((n : Int) == 0) = false := by simp; exact h1
    by_cases h2 : m.cut = 0
    · have hv := Lib.hid (show chgV m A n c = .iface 77 (.agg #[.int .i64 m.at_, .slice A n c]) by unfold chgV; rw [if_neg h1, if_pos h2])
      have b2 : (m.cut == 0) = true := by simp [h2]
      clear h1 h2
      go_enter Tryd.func25, Tryd.ntmps25
      go_wp2_with fail
      go_ret
      exact ⟨congrArg Ending.returned hv.out.symm, rfl⟩
    · have hv := Lib.hid (show chgV m A n c = .iface 79 (.agg #[.int .i64 m.at_, .int .i64 m.cut, .slice A n c]) by unfold chgV; rw [if_neg h1, if_neg h2])
      have b2 : (m.cut == 0) = false := by simp [h2]
      clear h1 h2
      go_enter Tryd.func25, Tryd.ntmps25
      go_wp2_with fail
      go_ret
      exact ⟨congrArg Ending.returned hv.out.symm, rfl⟩
end Go.Proofs.YtjhlcgjhdiheaaaDoor

