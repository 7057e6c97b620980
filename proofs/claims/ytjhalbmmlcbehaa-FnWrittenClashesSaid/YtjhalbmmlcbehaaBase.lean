/- The small functions of the marks chapter, first part: words and speeches that are valid; lists of words that are copied and compared. -/
import Derived.Test.YtjhalbmmlcbehaaMem

import Derived.WalkKit
import Derived.WalkSpells
import Derived.WalkLawsBesides
import Derived.Deep.QuietTactic
import Derived.BigQuiet
import Derived.Outline
namespace Go.Proofs.Ytjhalbmmlcbehaa
open Go.RowKit
set_option linter.unusedVariables false
set_option linter.unusedSimpArgs false

theorem in_any (n lo hi : Int) (w : World) : Calls Try.prog 74 #[.int .i64 n, .int .i64 lo, .int .i64 hi] w fun e w' => e = .returned (.bool (decide (lo ≤ n) && decide (n ≤ hi))) ∧ w = w' := by
  by_cases h1 : lo ≤ n
  · by_cases h2 : n ≤ hi
    · go_enter Try.func74, Try.ntmps74
      go_wp2
      go_ret
      exact ⟨ret_bool (by simp [h1, h2]), rfl⟩
    · go_enter Try.func74, Try.ntmps74
      go_wp2
      go_ret
      exact ⟨ret_bool (by simp [h1, h2]), rfl⟩
  · have hr := Lib.hid (show (decide (lo ≤ n) && decide (n ≤ hi)) = false by simp [h1])
    go_enter Try.func74, Try.ntmps74
    go_wp2
    go_ret
    exact ⟨ret_bool hr.out.symm, rfl⟩

/-- a byte of a word -/
def lowB (x : UInt8) : Bool := decide ((97 : Int) ≤ x.toNat) && decide ((x.toNat : Int) ≤ 122)
def low (s : ByteArray) : Bool := s.data.toList.all lowB
/-- a word is valid -/
def wok (s : ByteArray) : Bool := decide (1 ≤ s.size) && decide (s.size ≤ 12) && low s
theorem bytes_at (s : ByteArray) (k : Nat) (h : k < s.size) : s.data.toList[k]? = some s[k] := by
  have : k < s.data.toList.length := by simpa using h
  rw [List.getElem?_eq_getElem this]; rfl
theorem low_step {s : ByteArray} {k : Nat} (h : k < s.size) (h1 : (s.data.toList.take k).all lowB = true) (h2 : lowB s[k] = true) : (s.data.toList.take (k + 1)).all lowB = true := by
  rw [take_snoc (bytes_at s k h), List.all_append, h1]; simp [h2]
theorem low_not {s : ByteArray} {k : Nat} (h : k < s.size) (h2 : lowB s[k] = false) : low s = false := by
  cases hl : low s with
  | false => rfl
  | true =>
    unfold low at hl
    have := List.all_eq_true.1 hl s[k] (mem_at (bytes_at s k h))
    rw [h2] at this; cases this
theorem low_all {s : ByteArray} {k : Nat} (h : ¬ k < s.size) (h1 : (s.data.toList.take k).all lowB = true) : low s = true := by
  rwa [List.take_of_length_le (by simpa using h)] at h1

set_option maxHeartbeats 400000 in
theorem sword_any (s : ByteArray) (w : World) (hm : s.size ≤ 9223372036854775807) :
    Calls Try.prog 55 #[.string s] w fun e w' => e = .returned (.bool (wok s)) ∧ w = w' := by
  go_enter Try.func55, Try.ntmps55
  go_wp2
  go_loop [3] (fun i => ∃ k : Nat, k ≤ s.size ∧ i = .int .i64 k ∧ Hid ((s.data.toList.take k).all lowB = true)) (fun i => s.size - (intOf i).toNat)
  case atStart => exact ⟨0, Nat.zero_le _, rfl, rfl⟩
  case round =>
    obtain ⟨k, hk, rfl, ha⟩ := hrel
    by_cases hlt : k < s.size
    · by_cases h1 : (97 : Int) ≤ s[k].toNat
      · by_cases h2 : (s[k].toNat : Int) ≤ 122
        · have hl := Lib.hid (low_step hlt ha.out (by simp only [lowB, h1, h2, decide_true, Bool.and_self]))
          go_wp2
          go_round
          case rel => exact ⟨k + 1, by omega, by go_num, hl⟩
          case measure => simp [intOf]; omega
        · have hl := Lib.hid (low_not hlt (by simp only [lowB, h1, h2, decide_true, decide_false, Bool.and_false]))
          go_wp2
          go_ret
          exact ⟨ret_bool (by simp [wok, hl.out]), rfl⟩
      · have hl := Lib.hid (low_not hlt (by simp only [lowB, h1, decide_false, Bool.false_and]))
        go_wp2
        go_ret
        exact ⟨ret_bool (by simp [wok, hl.out]), rfl⟩
    · have hl := Lib.hid (low_all hlt ha.out)
      go_wp2_with (go_at_call 74; refine (in_any _ _ _ _).mono ?_; rintro e w' ⟨rfl, rfl⟩)
      go_ret
      exact ⟨ret_bool (by simp only [wok, hl.out, Bool.and_true]; congr 1 <;> (apply decide_eq_decide.2; omega)), rfl⟩

set_option maxHeartbeats 400000 in
theorem iword_any (s : ByteArray) (w : World) (hm : s.size ≤ 9223372036854775807) :
    Calls Try.prog 40 #[.string s] w fun e w' => e = .returned (.bool (wok s)) ∧ w = w' := by
  by_cases hs : 1 ≤ s.size ∧ s.size ≤ 12
  rotate_left
  · have hr := Lib.hid (show wok s = false by simp only [wok]; have : ¬ (1 ≤ s.size ∧ s.size ≤ 12) := hs; by_cases h1 : 1 ≤ s.size <;> simp [h1]; omega)
    by_cases h1 : 1 ≤ s.size
    · have h2 : ¬ s.size ≤ 12 := fun h => hs ⟨h1, h⟩
      clear hs
      go_enter Try.func40, Try.ntmps40
      go_wp2
      go_ret
      exact ⟨ret_bool hr.out.symm, rfl⟩
    · clear hs
      go_enter Try.func40, Try.ntmps40
      go_wp2
      go_ret
      exact ⟨ret_bool hr.out.symm, rfl⟩
  obtain ⟨hs1, hs2⟩ := hs
  go_enter Try.func40, Try.ntmps40
  go_wp2
  go_loop [14, 3] (fun i _ => ∃ k : Nat, k ≤ s.size ∧ i = .int .i64 k ∧ Hid ((s.data.toList.take k).all lowB = true)) (fun i _ => s.size - (intOf i).toNat)
  case atStart => exact ⟨0, Nat.zero_le _, rfl, rfl⟩
  case round =>
    obtain ⟨k, hk, rfl, ha⟩ := hrel
    by_cases hlt : k < s.size
    · by_cases h1 : (97 : Int) ≤ s[k].toNat
      · by_cases h2 : (s[k].toNat : Int) ≤ 122
        · have hl := Lib.hid (low_step hlt ha.out (by simp only [lowB, h1, h2, decide_true, Bool.and_self]))
          go_wp2
          go_round
          case rel => exact ⟨k + 1, by omega, by go_num, hl⟩
          case measure => simp [intOf]; omega
        · have hl := Lib.hid (low_not hlt (by simp only [lowB, h1, h2, decide_true, decide_false, Bool.and_false]))
          go_wp2
          go_ret
          exact ⟨ret_bool (by simp [wok, hl.out]), rfl⟩
      · have hl := Lib.hid (low_not hlt (by simp only [lowB, h1, decide_false, Bool.false_and]))
        go_wp2
        go_ret
        exact ⟨ret_bool (by simp [wok, hl.out]), rfl⟩
    · have hl := Lib.hid (low_all hlt ha.out)
      go_wp2
      go_ret
      exact ⟨ret_bool (by simp [wok, hl.out, hs1, hs2]), rfl⟩

end Go.Proofs.Ytjhalbmmlcbehaa

