/- The small functions of the talk chapter and the laws' helpers: what each returns and that it writes nothing that was there. -/
import Derived.Test.YtcgiehdpdnipbaaProg
import Derived.Test.YtcgiehdpdnipbaaMem
import Derived.Test.YtcgiehdpdnipbaaPlain
import Derived.WalkKit
import Derived.WalkSpells
import Derived.WalkLawsBesides
import Derived.Deep.QuietTactic
import Derived.BigQuiet
import Derived.Outline
namespace Go.Proofs.Ytcgiehdpdnipbaa
open Go.RowKit

theorem in_any (n lo hi : Int) (w : World) : Calls Try.prog 74 #[.int .i64 n, .int .i64 lo, .int .i64 hi] w fun e w' => e = .returned (.bool (Talk.inB lo hi n)) ∧ w = w' := by
  by_cases h1 : lo ≤ n
  · by_cases h2 : n ≤ hi
    · have hr := Lib.hid (Talk.inB_mk ⟨h1, h2⟩)
      go_enter Try.func74, Try.ntmps74
      go_wp2
      go_ret
      exact ⟨ret_bool hr.out.symm, rfl⟩
    · have hr := Lib.hid (Talk.inB_no (lo := lo) (hi := hi) (n := n) (.inr (by omega)))
      go_enter Try.func74, Try.ntmps74
      go_wp2
      go_ret
      exact ⟨ret_bool hr.out.symm, rfl⟩
  · have hr := Lib.hid (Talk.inB_no (lo := lo) (hi := hi) (n := n) (.inl (by omega)))
    go_enter Try.func74, Try.ntmps74
    go_wp2
    go_ret
    exact ⟨ret_bool hr.out.symm, rfl⟩

theorem sec_any (n : Int) (w : World) : Calls Try.prog 90 #[.int .i64 n] w fun e w' => e = .returned (.bool (!Talk.inB 0 9 n)) ∧ w = w' := by
  by_cases h1 : 0 ≤ n
  · by_cases h2 : n ≤ 9
    · have hr := Lib.hid (Talk.inB_mk ⟨h1, h2⟩)
      go_enter Try.func90, Try.ntmps90
      go_wp2
      go_ret
      exact ⟨ret_bool (by rw [hr.out]; first | rfl | (simp; done) | (simp; omega)), rfl⟩
    · have hr := Lib.hid (Talk.inB_no (lo := 0) (hi := 9) (n := n) (.inr (by omega)))
      go_enter Try.func90, Try.ntmps90
      go_wp2
      go_ret
      exact ⟨ret_bool (by rw [hr.out]; first | rfl | (simp; done) | (simp; omega)), rfl⟩
  · have hr := Lib.hid (Talk.inB_no (lo := 0) (hi := 9) (n := n) (.inl (by omega)))
    go_enter Try.func90, Try.ntmps90
    go_wp2
    go_ret
    exact ⟨ret_bool (by rw [hr.out]; first | rfl | (simp; done) | (simp; omega)), rfl⟩

set_option maxHeartbeats 400000 in
theorem svalid_any (A : Option Addr) (n c : Nat) (xs : List Int) (w : World) (hm : n ≤ 9223372036854775807) (h : Ints w A n xs) :
    Calls Try.prog 70 #[.slice A n c] w fun e w' => e = .returned (.bool (Talk.valid xs)) ∧ w = w' := by
  have hlen := Lib.hid h.len
  go_enter Try.func70, Try.ntmps70
  go_wp2
  go_loop [3] (fun i => ∃ k : Nat, k ≤ n ∧ i = .int .i64 k ∧ Hid (Talk.allIn (xs.take k) = true)) (fun i => n - (intOf i).toNat)
  case atStart => exact ⟨0, Nat.zero_le _, rfl, rfl⟩
  case round =>
    obtain ⟨k, hk, rfl, ha⟩ := hrel
    by_cases hlt : k < n
    · obtain ⟨b, off, x, rfl, hx, hx1, hx2, hc⟩ := h.at_ hlt
      have hX := Lib.hid hx
      clear hx
      cases hb : Talk.inB 0 9 x with
      | true =>
        go_wp2_with (go_at_call 74; refine (in_any _ _ _ _).mono ?_; rintro e w' ⟨rfl, rfl⟩)
        go_round
        case rel => exact ⟨k + 1, by omega, by go_num, Lib.hid (by rw [take_snoc hX.out, Talk.allIn_append, ha.out]; simp [Talk.allIn, hb])⟩
        case measure => simp [intOf]; omega
      | false =>
        go_wp2_with (go_at_call 74; refine (in_any _ _ _ _).mono ?_; rintro e w' ⟨rfl, rfl⟩)
        go_ret
        exact ⟨ret_bool (by simp [Talk.valid, Talk.allIn_not hX.out hb]), rfl⟩
    · have he : xs.take k = xs := List.take_of_length_le (by rw [hlen.out]; omega)
      rw [he] at ha
      go_wp2
      all_goals (go_ret; exact ⟨ret_bool (by simp [Talk.valid, ha.out, hlen.out]; omega), rfl⟩)
end Go.Proofs.Ytcgiehdpdnipbaa
