/- MarksBack of both programs: the change that undoes a change. -/
import Derived.Test.YtjhlcgjhdiheaaaDoorChg2
namespace Go.Proofs.YtjhlcgjhdiheaaaDoor
open Go.RowKit
set_option linter.unusedVariables false
set_option linter.unusedSimpArgs false

theorem as33 (v : Value) (W : World) : Sem.run Tryd.prog (Instr.typeAssert (.iface 75 v) 51 75 true) W = .ok (.tuple #[v, .bool true]) W := by kernel_rfl
theorem as55 (v : Value) (W : World) : Sem.run Tryd.prog (Instr.typeAssert (.iface 77 v) 51 77 true) W = .ok (.tuple #[v, .bool true]) W := by kernel_rfl
theorem as77 (v : Value) (W : World) : Sem.run Tryd.prog (Instr.typeAssert (.iface 79 v) 51 79 true) W = .ok (.tuple #[v, .bool true]) W := by kernel_rfl
theorem as53 (v : Value) (W : World) : Sem.run Tryd.prog (Instr.typeAssert (.iface 77 v) 51 75 true) W = .ok (.tuple #[.agg #[.int .i64 0, .int .i64 0], .bool false]) W := by kernel_rfl
theorem as73 (v : Value) (W : World) : Sem.run Tryd.prog (Instr.typeAssert (.iface 79 v) 51 75 true) W = .ok (.tuple #[.agg #[.int .i64 0, .int .i64 0], .bool false]) W := by kernel_rfl
theorem as75 (v : Value) (W : World) : Sem.run Tryd.prog (Instr.typeAssert (.iface 79 v) 51 77 true) W = .ok (.tuple #[.agg #[.int .i64 0, .slice none 0 0], .bool false]) W := by kernel_rfl
theorem chgV_leave {m : M} {A : Option Addr} {n c : Nat} (h : n = 0) : chgV m A n c = .iface 75 (.agg #[.int .i64 m.at_, .int .i64 m.cut]) := by unfold chgV; rw [if_pos h]
theorem chgV_put {m : M} {A : Option Addr} {n c : Nat} (h : n ≠ 0) (h2 : m.cut = 0) : chgV m A n c = .iface 77 (.agg #[.int .i64 m.at_, .slice A n c]) := by unfold chgV; rw [if_neg h, if_pos h2]
theorem chgV_both {m : M} {A : Option Addr} {n c : Nat} (h : n ≠ 0) (h2 : m.cut ≠ 0) : chgV m A n c = .iface 79 (.agg #[.int .i64 m.at_, .int .i64 m.cut, .slice A n c]) := by unfold chgV; rw [if_neg h, if_neg h2]

set_option maxRecDepth 10000 in
set_option maxHeartbeats 2000000 in
theorem backof_any (A : Option Addr) (n c : Nat) (ws : List ByteArray) (m : M) (B : Option Addr) (k d : Nat) (s : Int) (w : World) (q r : Nat) (hq : m.at_ = (q : Int)) (hr : m.cut = (r : Int)) (hqr : q + r ≤ n) (hn : n ≤ 20) (hnc : n ≤ c) (hc : c ≤ 9223372036854775807) (hk : k ≤ 20) (hpos : 0 < r + k) (s0 : -10000 ≤ s) (s1 : s ≤ 10000) :
    Calls Tryd.prog 24 #[.slice A n c, chgV m B k d, .int .i64 s] w fun e w' => e = .returned (chgV ⟨m.at_ + s, (k : Int), (ws.drop q).take r⟩ (if c = q then A else A.map (·.add q)) r (c - q)) ∧ Below w.heap.size w w' := by
  have a1 := as33
  have a2 := as55
  have a3 := as77
  have a4 := as53
  have a5 := as73
  have a6 := as75
  have e1 : IntKind.i64.wrap ((q : Int) + s) = (q : Int) + s := IntWalk.i64_in _ (by omega)
  have e2 : IntKind.i64.wrap ((q : Int) + (r : Int)) = (q : Int) + (r : Int) := IntWalk.i64_in _ (by omega)
  by_cases h1 : k = 0
  · rw [chgV_leave h1, hq, hr]
    have hv := Lib.hid (chgV_put (m := ⟨(q : Int) + s, (k : Int), (ws.drop q).take r⟩) (A := if c = q then A else A.map (·.add q)) (n := r) (c := c - q) (by omega) (by simp [h1]))
    clear hq hr h1
    go_enter Tryd.func24, Tryd.ntmps24
    go_wp2_with fail
    go_quiet (fail)
    all_goals go_wp2_with fail
    all_goals
      go_ret
      exact ⟨congrArg Ending.returned (by have h9 := hv.out; first | exact h9.symm | (simp [*] at h9; exact h9.symm) | (simp [*] at h9 ⊢; exact h9.symm) | (simp [*])), by first | exact Below.refl _ _ | exact (Below.refl _ _).alloc (Nat.le_refl _) _ | exact below_drewN ((Below.refl _ _).alloc (Nat.le_refl _) _) _ | exact below_drewN (((Below.refl _ _).alloc (Nat.le_refl _) _).alloc (by simp) _) _⟩
  · by_cases h2 : r = 0
    · rw [chgV_put h1 (by rw [hr, h2]; rfl), hq]
      have hv := Lib.hid (chgV_leave (m := ⟨(q : Int) + s, (k : Int), (ws.drop q).take r⟩) (A := if c = q then A else A.map (·.add q)) (n := r) (c := c - q) h2)
      clear hq hr h1 h2
      go_enter Tryd.func24, Tryd.ntmps24
      go_wp2_with fail
      all_goals
        go_ret
        exact ⟨congrArg Ending.returned (by have h9 := hv.out; first | exact h9.symm | (simp [*] at h9; exact h9.symm) | (simp [*] at h9 ⊢; exact h9.symm) | (simp [*])), by first | exact Below.refl _ _ | exact (Below.refl _ _).alloc (Nat.le_refl _) _ | exact below_drewN ((Below.refl _ _).alloc (Nat.le_refl _) _) _ | exact below_drewN (((Below.refl _ _).alloc (Nat.le_refl _) _).alloc (by simp) _) _⟩
    · rw [chgV_both h1 (by rw [hr]; omega), hq, hr]
      have hv := Lib.hid (chgV_both (m := ⟨(q : Int) + s, (k : Int), (ws.drop q).take r⟩) (A := if c = q then A else A.map (·.add q)) (n := r) (c := c - q) h2 (by show (k : Int) ≠ 0; omega))
      clear hq hr h1 h2
      go_enter Tryd.func24, Tryd.ntmps24
      go_wp2_with fail
      go_quiet (fail)
      all_goals go_wp2_with fail
      all_goals
        go_ret
        exact ⟨congrArg Ending.returned (by have h9 := hv.out; first | exact h9.symm | (simp [*] at h9; exact h9.symm) | (simp [*] at h9 ⊢; exact h9.symm) | (simp [*])), by first | exact Below.refl _ _ | exact (Below.refl _ _).alloc (Nat.le_refl _) _ | exact below_drewN ((Below.refl _ _).alloc (Nat.le_refl _) _) _ | exact below_drewN (((Below.refl _ _).alloc (Nat.le_refl _) _).alloc (by simp) _) _⟩
end Go.Proofs.YtjhlcgjhdiheaaaDoor

