/- The small functions of the marks chapter, first part: words and speeches that are valid; lists of words that are copied and compared. -/
import Derived.Test.YtjhlcgjhdiheaaaDoorMem
import Derived.Test.YtjhlcgjhdiheaaaDoorPla
import Derived.WalkKit
import Derived.WalkSpells
import Derived.WalkLawsBesides
import Derived.Deep.QuietTactic
import Derived.BigQuiet
import Derived.Outline
namespace Go.Proofs.YtjhlcgjhdiheaaaDoor
open Go.RowKit
set_option linter.unusedVariables false
set_option linter.unusedSimpArgs false

theorem in_any (n lo hi : Int) (w : World) : Calls Tryd.prog 45 #[.int .i64 n, .int .i64 lo, .int .i64 hi] w fun e w' => e = .returned (.bool (decide (lo ≤ n) && decide (n ≤ hi))) ∧ w = w' := by
  by_cases h1 : lo ≤ n
  · by_cases h2 : n ≤ hi
    · go_enter Tryd.func45, Tryd.ntmps45
      go_wp2
      go_ret
      exact ⟨ret_bool (by simp [h1, h2]), rfl⟩
    · go_enter Tryd.func45, Tryd.ntmps45
      go_wp2
      go_ret
      exact ⟨ret_bool (by simp [h1, h2]), rfl⟩
  · have hr := Lib.hid (show (decide (lo ≤ n) && decide (n ≤ hi)) = false by simp [h1])
    go_enter Tryd.func45, Tryd.ntmps45
    go_wp2
    go_ret
    exact ⟨ret_bool hr.out.symm, rfl⟩

/-- a byte of a word -/
def lowB (x : UInt8) : Bool := decide ((97 : Int) ≤ x.toNat) && decide ((x.toNat : Int) ≤ 122)
def low (s : ByteArray) : Bool := s.data.toList.all lowB
/-- a word is valid -/
def wok (s : ByteArray) : Bool := decide (1 ≤ s.size) && decide (s.size ≤ 12) && low s
theorem bytes_at (s : ByteArray) (k : Nat) (h : k < s.size) : s.data.toList[k]? = some s[k] := by
  have : k < s.data.toList.length := by simpa using h
  rw [List.getElem?_eq_getElem this]; rfl
theorem low_step {s : ByteArray} {k : Nat} (h : k < s.size) (h1 : (s.data.toList.take k).all lowB = true) (h2 : lowB s[k] = true) : (s.data.toList.take (k + 1)).all lowB = true := by
  rw [take_snoc (bytes_at s k h), List.all_append, h1]; simp [h2]
theorem low_not {s : ByteArray} {k : Nat} (h : k < s.size) (h2 : lowB s[k] = false) : low s = false := by
  cases hl : low s with
  | false => rfl
  | true =>
    unfold low at hl
    have := List.all_eq_true.1 hl s[k] (mem_at (bytes_at s k h))
    rw [h2] at this; cases this
theorem low_all {s : ByteArray} {k : Nat} (h : ¬ k < s.size) (h1 : (s.data.toList.take k).all lowB = true) : low s = true := by
  rwa [List.take_of_length_le (by simpa using h)] at h1

set_option maxHeartbeats 400000 in
theorem sword_any (s : ByteArray) (w : World) (hm : s.size ≤ 9223372036854775807) :
    Calls Tryd.prog 52 #[.string s] w fun e w' => e = .returned (.bool (wok s)) ∧ w = w' := by
  go_enter Tryd.func52, Tryd.ntmps52
  go_wp2
  go_loop [3] (fun i => ∃ k : Nat, k ≤ s.size ∧ i = .int .i64 k ∧ Hid ((s.data.toList.take k).all lowB = true)) (fun i => s.size - (intOf i).toNat)
  case atStart => exact ⟨0, Nat.zero_le _, rfl, rfl⟩
  case round =>
    obtain ⟨k, hk, rfl, ha⟩ := hrel
    by_cases hlt : k < s.size
    · by_cases h1 : (97 : Int) ≤ s[k].toNat
      · by_cases h2 : (s[k].toNat : Int) ≤ 122
        · have hl := Lib.hid (low_step hlt ha.out (by simp only [lowB, h1, h2, decide_true, Bool.and_self]))
          go_wp2
          go_round
          case rel => exact ⟨k + 1, by omega, by go_num, hl⟩
          case measure => simp [intOf]; omega
        · have hl := Lib.hid (low_not hlt (by simp only [lowB, h1, h2, decide_true, decide_false, Bool.and_false]))
          go_wp2
          go_ret
          exact ⟨ret_bool (by simp [wok, hl.out]), rfl⟩
      · have hl := Lib.hid (low_not hlt (by simp only [lowB, h1, decide_false, Bool.false_and]))
        go_wp2
        go_ret
        exact ⟨ret_bool (by simp [wok, hl.out]), rfl⟩
    · have hl := Lib.hid (low_all hlt ha.out)
      go_wp2_with (go_at_call 45; refine (in_any _ _ _ _).mono ?_; rintro e w' ⟨rfl, rfl⟩)
      go_ret
      exact ⟨ret_bool (by simp only [wok, hl.out, Bool.and_true]; congr 1 <;> (apply decide_eq_decide.2; omega)), rfl⟩

set_option maxHeartbeats 400000 in
theorem iword_any (s : ByteArray) (w : World) (hm : s.size ≤ 9223372036854775807) :
    Calls Tryd.prog 40 #[.string s] w fun e w' => e = .returned (.bool (wok s)) ∧ w = w' := by
  by_cases hs : 1 ≤ s.size ∧ s.size ≤ 12
  rotate_left
  · have hr := Lib.hid (show wok s = false by simp only [wok]; have : ¬ (1 ≤ s.size ∧ s.size ≤ 12) := hs; by_cases h1 : 1 ≤ s.size <;> simp [h1]; omega)
    by_cases h1 : 1 ≤ s.size
    · have h2 : ¬ s.size ≤ 12 := fun h => hs ⟨h1, h⟩
      clear hs
      go_enter Tryd.func40, Tryd.ntmps40
      go_wp2
      go_ret
      exact ⟨ret_bool hr.out.symm, rfl⟩
    · clear hs
      go_enter Tryd.func40, Tryd.ntmps40
      go_wp2
      go_ret
      exact ⟨ret_bool hr.out.symm, rfl⟩
  obtain ⟨hs1, hs2⟩ := hs
  go_enter Tryd.func40, Tryd.ntmps40
  go_wp2
  go_loop [14, 3] (fun i _ => ∃ k : Nat, k ≤ s.size ∧ i = .int .i64 k ∧ Hid ((s.data.toList.take k).all lowB = true)) (fun i _ => s.size - (intOf i).toNat)
  case atStart => exact ⟨0, Nat.zero_le _, rfl, rfl⟩
  case round =>
    obtain ⟨k, hk, rfl, ha⟩ := hrel
    by_cases hlt : k < s.size
    · by_cases h1 : (97 : Int) ≤ s[k].toNat
      · by_cases h2 : (s[k].toNat : Int) ≤ 122
        · have hl := Lib.hid (low_step hlt ha.out (by simp only [lowB, h1, h2, decide_true, Bool.and_self]))
          go_wp2
          go_round
          case rel => exact ⟨k + 1, by omega, by go_num, hl⟩
          case measure => simp [intOf]; omega
        · have hl := Lib.hid (low_not hlt (by simp only [lowB, h1, h2, decide_true, decide_false, Bool.and_false]))
          go_wp2
          go_ret
          exact ⟨ret_bool (by simp [wok, hl.out]), rfl⟩
      · have hl := Lib.hid (low_not hlt (by simp only [lowB, h1, decide_false, Bool.false_and]))
        go_wp2
        go_ret
        exact ⟨ret_bool (by simp [wok, hl.out]), rfl⟩
    · have hl := Lib.hid (low_all hlt ha.out)
      go_wp2
      go_ret
      exact ⟨ret_bool (by simp [wok, hl.out, hs1, hs2]), rfl⟩

theorem all_step {xs : List ByteArray} {k : Nat} {x : ByteArray} (h : xs[k]? = some x) (h1 : (xs.take k).all wok = true) (h2 : wok x = true) : (xs.take (k + 1)).all wok = true := by
  rw [take_snoc h, List.all_append, h1]; simp [h2]
theorem all_not {xs : List ByteArray} {k : Nat} {x : ByteArray} (h : xs[k]? = some x) (h2 : wok x = false) : xs.all wok = false := by
  cases hl : xs.all wok with
  | false => rfl
  | true =>
    have := List.all_eq_true.1 hl x (mem_at h)
    rw [h2] at this; cases this
theorem all_all {xs : List ByteArray} {k n : Nat} (hn : xs.length = n) (h : ¬ k < n) (h1 : (xs.take k).all wok = true) : xs.all wok = true := by
  rwa [List.take_of_length_le (by omega)] at h1
/-- a speech: at most 20 words, each valid -/
abbrev speak (xs : List ByteArray) : Bool := Mk.speech wok xs

set_option maxHeartbeats 400000 in
theorem words_any (A : Option Addr) (n c : Nat) (xs : List ByteArray) (lo hi : Int) (w : World) (hm : n ≤ 9223372036854775807) (h : Strs w A n xs) :
    Calls Tryd.prog 44 #[.slice A n c, .int .i64 lo, .int .i64 hi] w fun e w' => e = .returned (.bool (xs.all wok && (decide (lo ≤ n) && decide ((n : Int) ≤ hi)))) ∧ w = w' := by
  have hlen := Lib.hid h.len
  go_enter Tryd.func44, Tryd.ntmps44
  go_wp2
  go_loop [7] (fun i => ∃ k : Nat, k ≤ n ∧ i = .int .i64 k ∧ Hid ((xs.take k).all wok = true)) (fun i => n - (intOf i).toNat)
  case atStart => exact ⟨0, Nat.zero_le _, rfl, rfl⟩
  case round =>
    obtain ⟨k, hk, rfl, ha⟩ := hrel
    by_cases hlt : k < n
    · obtain ⟨b, off, x, rfl, hx, hx1, hc⟩ := h.at_ hlt
      have hX := Lib.hid hx
      clear hx
      cases hb : wok x with
      | true =>
        have hl := Lib.hid (all_step hX.out ha.out hb)
        go_wp2_with (go_at_call 52; refine (sword_any _ _ hx1).mono ?_; rintro e w' ⟨rfl, rfl⟩)
        go_round
        case rel => exact ⟨k + 1, by omega, by go_num, hl⟩
        case measure => simp [intOf]; omega
      | false =>
        have hl := Lib.hid (all_not hX.out hb)
        go_wp2_with (go_at_call 52; refine (sword_any _ _ hx1).mono ?_; rintro e w' ⟨rfl, rfl⟩)
        go_ret
        exact ⟨ret_bool (by rw [hl.out]; rfl), rfl⟩
    · have hl := Lib.hid (all_all hlen.out hlt ha.out)
      go_wp2_with (go_at_call 45; refine (in_any _ _ _ _).mono ?_; rintro e w' ⟨rfl, rfl⟩)
      go_ret
      exact ⟨ret_bool (by rw [hl.out]; rfl), rfl⟩

theorem sspeech_any (A : Option Addr) (n c : Nat) (xs : List ByteArray) (w : World) (hm : n ≤ 9223372036854775807) (h : Strs w A n xs) :
    Calls Tryd.prog 36 #[.slice A n c] w fun e w' => e = .returned (.bool (speak xs)) ∧ w = w' := by
  have hlen := Lib.hid h.len
  go_enter Tryd.func36, Tryd.ntmps36
  go_wp2_with (go_at_call 44; refine (words_any A n c xs 0 20 _ hm h).mono ?_; rintro e w' ⟨rfl, rfl⟩)
  go_ret
  refine ⟨ret_bool ?_, rfl⟩
  have h0 : decide ((n : Int) ≤ 20) = decide (n ≤ 20) := by
    apply decide_eq_decide.2; omega
  show _ = Mk.speech wok xs
  unfold Mk.speech
  rw [hlen.out, h0, Bool.and_comm]

set_option maxHeartbeats 400000 in
theorem ispeech_any (A : Option Addr) (n c : Nat) (xs : List ByteArray) (w : World) (hm : n ≤ 9223372036854775807) (h : Strs w A n xs) :
    Calls Tryd.prog 31 #[.slice A n c] w fun e w' => e = .returned (.bool (speak xs)) ∧ w = w' := by
  have hlen := Lib.hid h.len
  by_cases h20 : n ≤ 20
  rotate_left
  · have hr := Lib.hid (show speak xs = false by simp [speak, Mk.speech, hlen.out]; omega)
    go_enter Tryd.func31, Tryd.ntmps31
    go_wp2
    go_ret
    exact ⟨ret_bool hr.out.symm, rfl⟩
  go_enter Tryd.func31, Tryd.ntmps31
  go_wp2
  go_loop [10, 4] (fun i _ => ∃ k : Nat, k ≤ n ∧ i = .int .i64 k ∧ Hid ((xs.take k).all wok = true)) (fun i _ => n - (intOf i).toNat)
  case atStart => exact ⟨0, Nat.zero_le _, rfl, rfl⟩
  case round =>
    obtain ⟨k, hk, rfl, ha⟩ := hrel
    by_cases hlt : k < n
    · obtain ⟨b, off, x, rfl, hx, hx1, hc⟩ := h.at_ hlt
      have hX := Lib.hid hx
      clear hx
      cases hb : wok x with
      | true =>
        have hl := Lib.hid (all_step hX.out ha.out hb)
        go_wp2_with (go_at_call 40; refine (iword_any _ _ hx1).mono ?_; rintro e w' ⟨rfl, rfl⟩)
        go_round
        case rel => exact ⟨k + 1, by omega, by go_num, hl⟩
        case measure => simp [intOf]; omega
      | false =>
        have hl := Lib.hid (all_not hX.out hb)
        go_wp2_with (go_at_call 40; refine (iword_any _ _ hx1).mono ?_; rintro e w' ⟨rfl, rfl⟩)
        go_ret
        exact ⟨ret_bool (by simp [speak, Mk.speech, hl.out]), rfl⟩
    · have hl := Lib.hid (all_all hlen.out hlt ha.out)
      go_wp2
      go_ret
      exact ⟨ret_bool (by simp [speak, Mk.speech, hl.out, hlen.out, h20]), rfl⟩
end Go.Proofs.YtjhlcgjhdiheaaaDoor

