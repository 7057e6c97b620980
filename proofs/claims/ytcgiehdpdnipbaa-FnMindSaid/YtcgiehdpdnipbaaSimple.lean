/- TalkSpeed and TalkWords, of the program and of the reference: what they return. -/
import Derived.Test.YtcgiehdpdnipbaaBase2
namespace Go.Proofs.Ytcgiehdpdnipbaa
open Go.RowKit

set_option maxHeartbeats 400000 in
theorem ispeed_any (A : Option Addr) (n c : Nat) (xs : List Int) (w : World) (hm : n ≤ 1048576) (h : Ints w A n xs) :
    Calls Try.prog 30 #[.slice A n c] w fun e w' => e = .returned (.int .i64 (Talk.speed xs)) ∧ w = w' := by
  have hlen := Lib.hid h.len
  cases hv : Talk.valid xs with
  | false =>
    have hs := Lib.hid (Talk.speed_no hv)
    go_enter Try.func30, Try.ntmps30
    go_wp2_with (go_at_call 72; refine (ivalid_any A n c xs _ (by omega) h).mono ?_; rintro e w' ⟨rfl, rfl⟩)
    go_ret
    exact ⟨ret_int hs.out.symm, rfl⟩
  | true =>
    by_cases h0 : n = 0
    · have hs := Lib.hid (Talk.speed_nil (hlen.out.trans h0))
      have hz : ((n : Int) == 0) = true := by rw [h0]; rfl
      clear h0
      go_enter Try.func30, Try.ntmps30
      go_wp2_with (go_at_call 72; refine (ivalid_any A n c xs _ (by omega) h).mono ?_; rintro e w' ⟨rfl, rfl⟩)
      go_ret
      exact ⟨ret_int hs.out.symm, rfl⟩
    · have hs := Lib.hid (Talk.speed_yes hv (by rw [hlen.out]; exact h0))
      have hz : ((n : Int) == 0) = false := by simp; omega
      have hb := Talk.sum_bd (Talk.valid_all hv)
      have hl := Talk.valid_len hv
      rw [hlen.out] at hb hl
      obtain ⟨hb1, hb2⟩ := hb
      have hbd := Lib.hid (Talk.valid_bd hv)
      go_enter Try.func30, Try.ntmps30
      go_wp2_with (first | (go_at_call 72; refine (ivalid_any A n c xs _ (by omega) h).mono ?_; rintro e w' ⟨rfl, rfl⟩) | (go_at_call 73; refine (isum_any A n c xs _ (by omega) h hbd.out).mono ?_; rintro e w' ⟨rfl, rfl⟩))
      go_ret
      exact ⟨ret_int (by rw [hs.out, hlen.out]), rfl⟩

set_option maxHeartbeats 400000 in
theorem sspeed_any (A : Option Addr) (n c : Nat) (xs : List Int) (w : World) (hm : n ≤ 1048576) (h : Ints w A n xs) :
    Calls Try.prog 28 #[.slice A n c] w fun e w' => e = .returned (.int .i64 (Talk.speed xs)) ∧ w = w' := by
  have hlen := Lib.hid h.len
  cases hv : Talk.valid xs with
  | false =>
    have hs := Lib.hid (Talk.speed_no hv)
    go_enter Try.func28, Try.ntmps28
    go_wp2_with (go_at_call 70; refine (svalid_any A n c xs _ (by omega) h).mono ?_; rintro e w' ⟨rfl, rfl⟩)
    go_ret
    exact ⟨ret_int hs.out.symm, rfl⟩
  | true =>
    by_cases h0 : n = 0
    · have hs := Lib.hid (Talk.speed_nil (hlen.out.trans h0))
      have hz : ((n : Int) == 0) = true := by rw [h0]; rfl
      clear h0
      go_enter Try.func28, Try.ntmps28
      go_wp2_with (go_at_call 70; refine (svalid_any A n c xs _ (by omega) h).mono ?_; rintro e w' ⟨rfl, rfl⟩)
      go_ret
      exact ⟨ret_int hs.out.symm, rfl⟩
    · have hs := Lib.hid (Talk.speed_yes hv (by rw [hlen.out]; exact h0))
      have hz : ((n : Int) == 0) = false := by simp; omega
      have hb := Talk.sum_bd (Talk.valid_all hv)
      have hl := Talk.valid_len hv
      rw [hlen.out] at hb hl
      obtain ⟨hb1, hb2⟩ := hb
      have hbd := Lib.hid (Talk.valid_bd hv)
      go_enter Try.func28, Try.ntmps28
      go_wp2_with (first | (go_at_call 70; refine (svalid_any A n c xs _ (by omega) h).mono ?_; rintro e w' ⟨rfl, rfl⟩) | (go_at_call 71; refine (ssum_any A n c xs _ (by omega) h hbd.out).mono ?_; rintro e w' ⟨rfl, rfl⟩))
      go_ret
      exact ⟨ret_int (by rw [hs.out, hlen.out]), rfl⟩

set_option maxHeartbeats 400000 in
theorem iwords_any (A : Option Addr) (n c : Nat) (xs : List Int) (w : World) (hm : n ≤ 1048576) (h : Ints w A n xs) :
    Calls Try.prog 33 #[.slice A n c] w fun e w' => e = .returned (.int .i64 (Talk.words xs)) ∧ w = w' := by
  have hlen := Lib.hid h.len
  cases hv : Talk.valid xs with
  | false =>
    have hs := Lib.hid (Talk.words_no hv)
    go_enter Try.func33, Try.ntmps33
    go_wp2_with (go_at_call 72; refine (ivalid_any A n c xs _ (by omega) h).mono ?_; rintro e w' ⟨rfl, rfl⟩)
    go_ret
    exact ⟨ret_int hs.out.symm, rfl⟩
  | true =>
    have hs := Lib.hid (Talk.words_yes hv)
    have hl := Talk.valid_len hv
    rw [hlen.out] at hl
    have hbd := Lib.hid (Talk.valid_bd hv)
    go_enter Try.func33, Try.ntmps33
    go_wp2_with (first | (go_at_call 72; refine (ivalid_any A n c xs _ (by omega) h).mono ?_; rintro e w' ⟨rfl, rfl⟩) | (go_at_call 73; refine (isum_any A n c xs _ (by omega) h hbd.out).mono ?_; rintro e w' ⟨rfl, rfl⟩))
    go_ret
    exact ⟨ret_int (by rw [hs.out]), rfl⟩

set_option maxHeartbeats 400000 in
theorem swords_any (A : Option Addr) (n c : Nat) (xs : List Int) (w : World) (hm : n ≤ 1048576) (h : Ints w A n xs) :
    Calls Try.prog 32 #[.slice A n c] w fun e w' => e = .returned (.int .i64 (Talk.words xs)) ∧ w = w' := by
  have hlen := Lib.hid h.len
  cases hv : Talk.valid xs with
  | false =>
    have hs := Lib.hid (Talk.words_no hv)
    go_enter Try.func32, Try.ntmps32
    go_wp2_with (go_at_call 70; refine (svalid_any A n c xs _ (by omega) h).mono ?_; rintro e w' ⟨rfl, rfl⟩)
    go_ret
    exact ⟨ret_int hs.out.symm, rfl⟩
  | true =>
    have hs := Lib.hid (Talk.words_yes hv)
    have hl := Talk.valid_len hv
    rw [hlen.out] at hl
    have hbd := Lib.hid (Talk.valid_bd hv)
    go_enter Try.func32, Try.ntmps32
    go_wp2_with (first | (go_at_call 70; refine (svalid_any A n c xs _ (by omega) h).mono ?_; rintro e w' ⟨rfl, rfl⟩) | (go_at_call 71; refine (ssum_any A n c xs _ (by omega) h hbd.out).mono ?_; rintro e w' ⟨rfl, rfl⟩))
    go_ret
    exact ⟨ret_int (by rw [hs.out]), rfl⟩

end Go.Proofs.Ytcgiehdpdnipbaa
