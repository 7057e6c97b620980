/- Marks that fit: the reference's test of one mark, the program's end of a mark. -/
import Derived.Test.YtjhlcgjhdiheaaaDoorH1
import Derived.Test.YtjhlcgjhdiheaaaDoorPla
namespace Go.Proofs.YtjhlcgjhdiheaaaDoor
open Go.RowKit
set_option linter.unusedVariables false
set_option linter.unusedSimpArgs false

/-- the value of a mark -/
abbrev mv (m : M) (A : Option Addr) (n c : Nat) : Value := .agg #[.int .i64 m.at_, .int .i64 m.cut, .slice A n c]

theorem end_any (m : M) (A : Option Addr) (n c : Nat) (w : World) (h1 : 0 ≤ m.at_) (h2 : m.at_ ≤ 1000000) (h3 : 0 ≤ m.cut) (h4 : m.cut ≤ 1000000) :
    Calls Tryd.prog 23 #[mv m A n c] w fun e w' => e = .returned (.int .i64 (m.at_ + m.cut)) ∧ w.alloc (.cells #[.int .i64 m.at_, .int .i64 m.cut, .slice A n c] 46) = w' := by
  go_enter Tryd.func23, Tryd.ntmps23
  go_wp2
  go_ret
  exact ⟨rfl, rfl⟩

abbrev fit (n : Nat) (m : M) : Bool := Mk.fitM wok n m
set_option maxHeartbeats 400000 in
theorem l7mark_any (k : Nat) (m : M) (A : Option Addr) (n c : Nat) (w : World) (hk : k ≤ 20) (i2 : I64 m.cut) (hm : n ≤ 9223372036854775807) (h : Strs w A n m.put) :
    Calls Tryd.prog 37 #[.int .i64 k, mv m A n c] w fun e w' => e = .returned (.bool (fit k m)) ∧ w.alloc (.cells #[.int .i64 m.at_, .int .i64 m.cut, .slice A n c] 46) = w' := by
  have hlen := Lib.hid h.len
  have b1 : Below w.heap.size w (w.alloc (.cells #[.int .i64 m.at_, .int .i64 m.cut, .slice A n c] 46)) := (Below.refl _ _).alloc (Nat.le_refl _) _
  cases h1 : (decide (0 ≤ m.at_) && decide (m.at_ ≤ (k : Int))) with
  | false =>
    have hr := Lib.hid (show fit k m = false by unfold fit Mk.fitM; rw [h1]; rfl)
    go_enter Tryd.func37, Tryd.ntmps37
    go_wp2_with fail
    refine (in_any _ _ _ _).mono ?_
    rintro e w' ⟨rfl, rfl⟩
    rw [h1]
    go_wp2_with fail
    go_ret
    exact ⟨ret_bool hr.out.symm, rfl⟩
  | true =>
    have h1' := h1
    rw [Bool.and_eq_true, decide_eq_true_eq, decide_eq_true_eq] at h1'
    obtain ⟨a1, a2⟩ := h1'
    cases h2 : (decide (0 ≤ m.cut) && decide (m.cut ≤ (k : Int) - m.at_)) with
    | false =>
      have hr := Lib.hid (show fit k m = false by unfold fit Mk.fitM; rw [h1, Bool.true_and, h2]; rfl)
      go_enter Tryd.func37, Tryd.ntmps37
      go_wp2_with fail
      refine (in_any _ _ _ _).mono ?_
      rintro e w' ⟨rfl, rfl⟩
      rw [h1]
      go_wp2_with fail
      refine (in_any _ _ _ _).mono ?_
      rintro e w' ⟨rfl, rfl⟩
      rw [h2]
      go_wp2_with fail
      go_ret
      exact ⟨ret_bool hr.out.symm, rfl⟩
    | true =>
      have h2' := h2
      rw [Bool.and_eq_true, decide_eq_true_eq, decide_eq_true_eq] at h2'
      obtain ⟨a3, a4⟩ := h2'
      cases h3 : speak m.put with
      | false =>
        have hr := Lib.hid (Mk.fit_no_put wok (n := k) h3)
        go_enter Tryd.func37, Tryd.ntmps37
        go_wp2_with fail
        refine (in_any _ _ _ _).mono ?_
        rintro e w' ⟨rfl, rfl⟩
        rw [h1]
        go_wp2_with fail
        refine (in_any _ _ _ _).mono ?_
        rintro e w' ⟨rfl, rfl⟩
        rw [h2]
        go_wp2_with fail
        refine (sspeech_any A n c m.put _ hm (h.below b1)).mono ?_
        rintro e w' ⟨rfl, rfl⟩
        rw [h3]
        go_wp2_with fail
        go_ret
        exact ⟨ret_bool hr.out.symm, rfl⟩
      | true =>
        have hl20 : n ≤ 20 := by rw [← hlen.out]; exact (Mk.speech_parts wok h3).1
        have hr := Lib.hid (show fit k m = decide (0 < m.cut + (n : Int)) by
          have h4 := h3
          unfold speak at h4
          unfold fit Mk.fitM
          rw [h4, decide_eq_true a1, decide_eq_true a2, decide_eq_true a3, decide_eq_true a4, hlen.out]
          rfl)
        go_enter Tryd.func37, Tryd.ntmps37
        go_wp2_with fail
        refine (in_any _ _ _ _).mono ?_
        rintro e w' ⟨rfl, rfl⟩
        rw [h1]
        go_wp2_with fail
        refine (in_any _ _ _ _).mono ?_
        rintro e w' ⟨rfl, rfl⟩
        rw [h2]
        go_wp2_with fail
        refine (sspeech_any A n c m.put _ hm (h.below b1)).mono ?_
        rintro e w' ⟨rfl, rfl⟩
        rw [h3]
        go_wp2_with fail
        go_ret
        exact ⟨ret_bool hr.out.symm, rfl⟩
end Go.Proofs.YtjhlcgjhdiheaaaDoor

