/- Vowels, bare forms and positions of words by both programs. -/
import Derived.Test.YtjhalbmmlcbehaaGr
import Derived.Test.YtjhalbmmlcbehaaLay
import Derived.Laws.BytesArg
namespace Go.Proofs.Ytjhalbmmlcbehaa
open Go.RowKit Wr
set_option linter.unusedVariables false
set_option linter.unusedSimpArgs false

abbrev bV (x : UInt8) : Value := .int .u8 ((x.toNat : Nat) : Int)
abbrev bS (l : List UInt8) : ByteArray := ⟨l.toArray⟩
theorem bS_append (a b : List UInt8) : bS a ++ bS b = bS (a ++ b) := by
  apply ByteArray.ext
  simp [bS, ByteArray.data_append]
theorem bS_size (l : List UInt8) : (bS l).size = l.length := by simp [bS, ByteArray.size]
theorem vowel_index (c : UInt8) : decide ((0 : Int) ≤ Lib.indexByte [97, 101, 105, 111, 117] c) = vowel c := by
  unfold vowel
  simp only [Lib.indexByte]
  by_cases h1 : c = 97
  · subst h1; decide
  by_cases h2 : c = 101
  · subst h2; decide
  by_cases h3 : c = 105
  · subst h3; decide
  by_cases h4 : c = 111
  · subst h4; decide
  by_cases h5 : c = 117
  · subst h5; decide
  · have e1 : ((97 : UInt8) == c) = false := by rw [beq_eq_false_iff_ne]; exact fun e => h1 e.symm
    have e2 : ((101 : UInt8) == c) = false := by rw [beq_eq_false_iff_ne]; exact fun e => h2 e.symm
    have e3 : ((105 : UInt8) == c) = false := by rw [beq_eq_false_iff_ne]; exact fun e => h3 e.symm
    have e4 : ((111 : UInt8) == c) = false := by rw [beq_eq_false_iff_ne]; exact fun e => h4 e.symm
    have e5 : ((117 : UInt8) == c) = false := by rw [beq_eq_false_iff_ne]; exact fun e => h5 e.symm
    simp [e1, e2, e3, e4, e5, h1, h2, h3, h4, h5]
theorem byte_is (c : UInt8) (n : Nat) (hn : n < 256) : (((c.toNat : Nat) : Int) == (n : Int)) = (c == UInt8.ofNat n) := by
  rw [Bool.eq_iff_iff, beq_iff_eq, beq_iff_eq]
  constructor
  · intro h
    have : c.toNat = n := by omega
    rw [← this]; simp
  · intro h; subst h
    simp
    omega
theorem toNat_back (c : UInt8) : (((c.toNat : Nat) : Int)).toNat.toUInt8 = c := by simp
theorem ivowel_any (c : UInt8) (w : World) : Calls Try.prog 63 #[bV c] w fun e w' => e = .returned (.bool (vowel c)) ∧ w' = w := by
  have hi := Lib.hid (vowel_index c)
  go_enter Try.func63, Try.ntmps63
  go_wp2_with fail
  refine (strings_IndexByte ⟨#[97, 101, 105, 111, 117]⟩ _ _).mono ?_
  rintro e w' ⟨rfl, rfl⟩
  rw [toNat_back]
  go_wp2_with fail
  go_ret
  exact ⟨ret_bool hi.out, rfl⟩
theorem svowel_any (c : UInt8) (w : World) : Calls Try.prog 72 #[bV c] w fun e w' => e = .returned (.bool (vowel c)) ∧ w' = w := by
  have h1 := byte_is c 97 (by omega)
  have h2 := byte_is c 101 (by omega)
  have h3 := byte_is c 105 (by omega)
  have h4 := byte_is c 111 (by omega)
  have h5 := byte_is c 117 (by omega)
  go_enter Try.func72, Try.ntmps72
  go_wp2
  all_goals
    go_ret
    refine ⟨ret_bool ?_, rfl⟩
    unfold vowel
    simp_all
theorem iconso_any (c : UInt8) (w : World) : Calls Try.prog 60 #[bV c] w fun e w' => e = .returned (.bool (lowB c && !vowel c)) ∧ w' = w := by
  go_enter Try.func60, Try.ntmps60
  go_wp2_with (go_at_call 63; refine (ivowel_any c _).mono ?_; rintro e w' ⟨rfl, rfl⟩)
  all_goals
    go_ret
    refine ⟨ret_bool ?_, rfl⟩
    simp_all [lowB]
    try (intros; omega)
end Go.Proofs.Ytjhalbmmlcbehaa
