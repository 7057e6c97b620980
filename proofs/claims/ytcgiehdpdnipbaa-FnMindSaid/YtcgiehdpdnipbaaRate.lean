/- TalkRate and TalkHold, of the program and of the reference: what they return. -/
import Derived.Test.YtcgiehdpdnipbaaMark
namespace Go.Proofs.Ytcgiehdpdnipbaa
open Go.RowKit
set_option linter.unusedVariables false

theorem Talk.rate_bad {xs : List Int} {h : Int} (e : ∀ r, Talk.ok xs r h = false) : Talk.rate xs h = -1 :=
  Talk.least_none 9 1 (fun j _ _ => by rw [Talk.lost_no (e j)]; rfl)
theorem Talk.hold_bad {xs : List Int} {r : Int} (e : ∀ h, Talk.ok xs r h = false) : Talk.hold xs r = -1 :=
  Talk.least_none 51 0 (fun j _ _ => by rw [Talk.lost_no (e j)]; rfl)
theorem Talk.lost_ge {xs : List Int} {r h : Int} (e : Talk.ok xs r h = true) : 0 ≤ Talk.lost xs r h := by
  rw [Talk.lost_yes e]; exact Talk.lostF_nonneg r h xs 0

set_option maxHeartbeats 400000 in
theorem srate_any (A : Option Addr) (n c : Nat) (xs : List Int) (q : Int) (w : World) (hm : n ≤ 1048576) (hi : Ints w A n xs) :
    Calls Try.prog 51 #[.slice A n c, .int .i64 q] w (IntPost w (Talk.rate xs q)) := by
  go_enter Try.func51, Try.ntmps51
  go_wp2
  go_loopg [5] 9 (fun g i wr => ∃ k : Int, 1 ≤ k ∧ k ≤ 10 ∧ g = (10 - k).toNat ∧ i = .int .i64 k ∧ Hid (∀ j, 1 ≤ j → j < k → (Talk.lost xs j q == 0) = false) ∧ Below w.heap.size w wr)
  case atStart => exact ⟨1, by omega, by omega, rfl, rfl, Lib.hid (fun j h1 h2 => by omega), Below.refl _ _⟩
  case round =>
    obtain ⟨k, hk0, hk1, rfl, rfl, hno, hb⟩ := hrel
    by_cases hlt : k ≤ 9
    · go_wp2_with fail
      refine (slost_any A n c xs k q _ hm (hi.below hb)).mono ?_
      rintro e w1 ⟨rfl, b1⟩
      cases hz : (Talk.lost xs k q == 0) with
      | true =>
        have HZ := Lib.hid hz
        go_wp2
        go_ret
        exact ⟨ret_int (Talk.least_at (p := fun j => Talk.lost xs j q == 0) 9 1 k hk0 (by omega) HZ.out hno.out).symm, Below.next hb b1⟩
      | false =>
        have HZ := Lib.hid hz
        go_wp2
        go_roundg (10 - (k + 1)).toNat
        case measure => omega
        case rel => exact ⟨k + 1, by omega, by omega, rfl, rfl, Lib.hid (fun j h1 h2 => by
            by_cases ej : j = k
            · rw [ej]; exact HZ.out
            · exact hno.out j h1 (by omega)), Below.next hb b1⟩
    · go_wp2
      go_ret
      exact ⟨ret_int (Talk.least_none (p := fun j => Talk.lost xs j q == 0) 9 1 (fun j h1 h2 => hno.out j h1 (by omega))).symm, hb⟩

set_option maxHeartbeats 400000 in
theorem shold_any (A : Option Addr) (n c : Nat) (xs : List Int) (q : Int) (w : World) (hm : n ≤ 1048576) (hi : Ints w A n xs) :
    Calls Try.prog 53 #[.slice A n c, .int .i64 q] w (IntPost w (Talk.hold xs q)) := by
  go_enter Try.func53, Try.ntmps53
  go_wp2
  go_loopg [5] 51 (fun g i wr => ∃ k : Int, 0 ≤ k ∧ k ≤ 51 ∧ g = (51 - k).toNat ∧ i = .int .i64 k ∧ Hid (∀ j, 0 ≤ j → j < k → (Talk.lost xs q j == 0) = false) ∧ Below w.heap.size w wr)
  case atStart => exact ⟨0, by omega, by omega, rfl, rfl, Lib.hid (fun j h1 h2 => by omega), Below.refl _ _⟩
  case round =>
    obtain ⟨k, hk0, hk1, rfl, rfl, hno, hb⟩ := hrel
    by_cases hlt : k ≤ 50
    · go_wp2_with fail
      refine (slost_any A n c xs q k _ hm (hi.below hb)).mono ?_
      rintro e w1 ⟨rfl, b1⟩
      cases hz : (Talk.lost xs q k == 0) with
      | true =>
        have HZ := Lib.hid hz
        go_wp2
        go_ret
        exact ⟨ret_int (Talk.least_at (p := fun j => Talk.lost xs q j == 0) 51 0 k hk0 (by omega) HZ.out hno.out).symm, Below.next hb b1⟩
      | false =>
        have HZ := Lib.hid hz
        go_wp2
        go_roundg (51 - (k + 1)).toNat
        case measure => omega
        case rel => exact ⟨k + 1, by omega, by omega, rfl, rfl, Lib.hid (fun j h1 h2 => by
            by_cases ej : j = k
            · rw [ej]; exact HZ.out
            · exact hno.out j h1 (by omega)), Below.next hb b1⟩
    · go_wp2
      go_ret
      exact ⟨ret_int (Talk.least_none (p := fun j => Talk.lost xs q j == 0) 51 0 (fun j h1 h2 => hno.out j h1 (by omega))).symm, hb⟩

set_option maxHeartbeats 400000 in
theorem irate_any (A : Option Addr) (n c : Nat) (xs : List Int) (q : Int) (w : World) (hm : n ≤ 1048576) (hi : Ints w A n xs) :
    Calls Try.prog 52 #[.slice A n c, .int .i64 q] w (IntPost w (Talk.rate xs q)) := by
  cases hv : Talk.valid xs with
  | false =>
    have hs := Lib.hid (Talk.rate_bad (xs := xs) (h := q) (fun r => by unfold Talk.ok; rw [hv]; rfl))
    go_enter Try.func52, Try.ntmps52
    go_wp2_with (first | (go_at_call 72; refine (ivalid_any A n c xs _ (by omega) hi).mono ?_; rintro e w' ⟨rfl, rfl⟩) | (go_at_call 83; refine (hold_any _ _).mono ?_; rintro e w' ⟨rfl, rfl⟩))
    go_ret
    exact ⟨ret_int hs.out.symm, Below.refl _ _⟩
  | true =>
    cases hh : Talk.inB 0 50 q with
    | false =>
      have hs := Lib.hid (Talk.rate_bad (xs := xs) (h := q) (fun r => by unfold Talk.ok; rw [hv, hh]; cases Talk.inB 1 9 r <;> rfl))
      go_enter Try.func52, Try.ntmps52
      go_wp2_with (first | (go_at_call 72; refine (ivalid_any A n c xs _ (by omega) hi).mono ?_; rintro e w' ⟨rfl, rfl⟩) | (go_at_call 83; refine (hold_any _ _).mono ?_; rintro e w' ⟨rfl, rfl⟩))
      go_ret
      exact ⟨ret_int hs.out.symm, Below.refl _ _⟩
    | true =>
      have hok : ∀ r, 1 ≤ r → r ≤ 9 → Talk.ok xs r q = true := fun r h1 h2 => Talk.ok_mk hv ⟨h1, h2⟩ (Talk.inB_true hh)
      have h9 : Talk.lost xs 9 q = 0 := by rw [Talk.lost_yes (hok 9 (by omega) (by omega))]; exact Talk.lostF_nine (Talk.inB_true hh).1 (Talk.valid_all hv)
      have HOK := Lib.hid hok
      have H9 := Lib.hid h9
      clear hok h9
      go_enter Try.func52, Try.ntmps52
      go_wp2_with (first | (go_at_call 72; refine (ivalid_any A n c xs _ (by omega) hi).mono ?_; rintro e w' ⟨rfl, rfl⟩) | (go_at_call 83; refine (hold_any _ _).mono ?_; rintro e w' ⟨rfl, rfl⟩))
      go_loopg [5] 9 (fun g i wr => ∃ k : Int, 1 ≤ k ∧ k ≤ 9 ∧ g = (10 - k).toNat ∧ i = .int .i64 k ∧ Hid (∀ j, 1 ≤ j → j < k → (Talk.lost xs j q == 0) = false) ∧ Below w.heap.size w wr)
      case atStart => exact ⟨1, by omega, by omega, rfl, rfl, Lib.hid (fun j h1 h2 => by omega), Below.refl _ _⟩
      case round =>
        obtain ⟨k, hk0, hk1, rfl, rfl, hno, hb⟩ := hrel
        by_cases hlt : k < 9
        · by_cases hz : 0 < Talk.lost xs k q
          · go_wp2_with (go_at_call 46; refine (ilost_any A n c xs k q _ hm (hi.below hb)).mono ?_; rintro e w1 ⟨rfl, b1⟩)
            go_roundg (10 - (k + 1)).toNat
            case measure => omega
            case rel => exact ⟨k + 1, by omega, by omega, rfl, rfl, Lib.hid (fun j h1 h2 => by
                by_cases ej : j = k
                · rw [ej]; simp; omega
                · exact hno.out j h1 (by omega)), Below.next hb b1⟩
          · have hz0 : Hid (Talk.lost xs k q = 0) := by have := Talk.lost_ge (HOK.out k hk0 hk1); exact (by omega : Talk.lost xs k q = 0)
            go_wp2_with (go_at_call 46; refine (ilost_any A n c xs k q _ hm (hi.below hb)).mono ?_; rintro e w1 ⟨rfl, b1⟩)
            go_ret
            exact ⟨ret_int (Talk.least_at (p := fun j => Talk.lost xs j q == 0) 9 1 k hk0 (by omega) (by simp [hz0.out]) hno.out).symm, Below.next hb b1⟩
        · obtain rfl : k = 9 := by omega
          go_wp2_with (go_at_call 46; refine (ilost_any A n c xs 9 q _ hm (hi.below hb)).mono ?_; rintro e w1 ⟨rfl, b1⟩)
          go_ret
          exact ⟨ret_int (Talk.least_at (p := fun j => Talk.lost xs j q == 0) 9 1 9 hk0 (by omega) (by simp [H9.out]) hno.out).symm, hb⟩

set_option maxHeartbeats 400000 in
theorem ihold_any (A : Option Addr) (n c : Nat) (xs : List Int) (q : Int) (w : World) (hm : n ≤ 1048576) (hi : Ints w A n xs) :
    Calls Try.prog 54 #[.slice A n c, .int .i64 q] w (IntPost w (Talk.hold xs q)) := by
  cases hv : Talk.valid xs with
  | false =>
    have hs := Lib.hid (Talk.hold_bad (xs := xs) (r := q) (fun r => by unfold Talk.ok; rw [hv]; rfl))
    go_enter Try.func54, Try.ntmps54
    go_wp2_with (first | (go_at_call 72; refine (ivalid_any A n c xs _ (by omega) hi).mono ?_; rintro e w' ⟨rfl, rfl⟩) | (go_at_call 82; refine (rate_any _ _).mono ?_; rintro e w' ⟨rfl, rfl⟩))
    go_ret
    exact ⟨ret_int hs.out.symm, Below.refl _ _⟩
  | true =>
    cases hh : Talk.inB 1 9 q with
    | false =>
      have hs := Lib.hid (Talk.hold_bad (xs := xs) (r := q) (fun r => by unfold Talk.ok; rw [hv, hh]; rfl))
      go_enter Try.func54, Try.ntmps54
      go_wp2_with (first | (go_at_call 72; refine (ivalid_any A n c xs _ (by omega) hi).mono ?_; rintro e w' ⟨rfl, rfl⟩) | (go_at_call 82; refine (rate_any _ _).mono ?_; rintro e w' ⟨rfl, rfl⟩))
      go_ret
      exact ⟨ret_int hs.out.symm, Below.refl _ _⟩
    | true =>
      go_enter Try.func54, Try.ntmps54
      go_wp2_with (first | (go_at_call 72; refine (ivalid_any A n c xs _ (by omega) hi).mono ?_; rintro e w' ⟨rfl, rfl⟩) | (go_at_call 82; refine (rate_any _ _).mono ?_; rintro e w' ⟨rfl, rfl⟩))
      go_loopg [5, 14] 51 (fun g _ i wr => ∃ k : Int, 0 ≤ k ∧ k ≤ 51 ∧ g = (51 - k).toNat ∧ i = .int .i64 k ∧ Hid (∀ j, 0 ≤ j → j < k → (Talk.lost xs q j == 0) = false) ∧ Below w.heap.size w wr)
      case atStart => exact ⟨0, by omega, by omega, rfl, rfl, Lib.hid (fun j h1 h2 => by omega), Below.refl _ _⟩
      case round =>
        obtain ⟨k, hk0, hk1, rfl, rfl, hno, hb⟩ := hrel
        by_cases hlt : k < 51
        · go_wp2_with fail
          refine (ilost_any A n c xs q k _ hm (hi.below hb)).mono ?_
          rintro e w1 ⟨rfl, b1⟩
          cases hz : (Talk.lost xs q k == 0) with
          | true =>
            have HZ := Lib.hid hz
            go_wp2
            go_ret
            exact ⟨ret_int (Talk.least_at (p := fun j => Talk.lost xs q j == 0) 51 0 k hk0 (by omega) HZ.out hno.out).symm, Below.next hb b1⟩
          | false =>
            have HZ := Lib.hid hz
            go_wp2
            go_roundg (51 - (k + 1)).toNat
            case measure => omega
            case rel => exact ⟨k + 1, by omega, by omega, rfl, rfl, Lib.hid (fun j h1 h2 => by
                by_cases ej : j = k
                · rw [ej]; exact HZ.out
                · exact hno.out j h1 (by omega)), Below.next hb b1⟩
        · go_wp2
          go_ret
          exact ⟨ret_int (Talk.least_none (p := fun j => Talk.lost xs q j == 0) 51 0 (fun j h1 h2 => hno.out j h1 (by omega))).symm, hb⟩

end Go.Proofs.Ytcgiehdpdnipbaa
