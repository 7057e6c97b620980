/- MarksBoth of the program where the marks clash; facts of clashes. -/
import Derived.Test.YtjhlcgjhdiheaaaUse
import Derived.Test.YtjhlcgjhdiheaaaDraw5
namespace Go.Proofs.Ytjhlcgjhdiheaaa
open Go.RowKit
set_option linter.unusedVariables false
set_option linter.unusedSimpArgs false

theorem clashI_parts {ws : List ByteArray} {xs ys : List M} (h : clashI ws xs ys = true) : valid ws xs = true ∧ valid ws ys = true ∧ clash xs ys = true ∧ clashI ws ys xs = true := by
  unfold clashI at h ⊢
  simp only [Bool.and_eq_true] at h
  exact ⟨h.1.1, h.1.2, h.2, by rw [h.1.1, h.1.2]; show clash ys xs = true; rw [show clash ys xs = clash xs ys from Mk.clashL_symm _ _]; exact h.2⟩
theorem any_more {xs : List M} {p : Nat} {x : M} {g : M → Bool} (hx : xs[p]? = some x) : (xs.take (p + 1)).any g = ((xs.take p).any g || g x) := by
  rw [take_snoc hx, List.any_append]; simp
theorem eqMs_one (x y : M) : eqMs [x] [y] = Mk.sameM x y := by
  by_cases h : x = y
  · subst h; rw [eqMs_self, Mk.sameM_self]
  · rw [eqMs_ne (by simp [h]), Mk.sameM_false h]
theorem one_of {xs : List M} {p : Nat} {x : M} (hx : xs[p]? = some x) : (xs.drop p).take 1 = [x] := by
  rw [Mk.drop_at hx]; rfl
theorem clash_touch {x y : M} (h1 : x.at_ ≤ y.at_ + y.cut) (h2 : y.at_ ≤ x.at_ + x.cut) : Mk.clash1 x y = !Mk.sameM x y := touch_same h1 h2
set_option maxHeartbeats 400000 in
theorem iboth_clash (A B C : Option Addr) (n c m d l e : Nat) (ws : List ByteArray) (xs ys : List M) (w : World) (h : PutIn w A n c ws) (hm : m ≤ 9223372036854775807) (hl : l ≤ 9223372036854775807) (k : Mrks w B m xs) (q : Mrks w C l ys) (hc : clashI ws xs ys = true) :
    Calls Try.prog 33 #[.slice A n c, .slice B m d, .slice C l e] w fun e w' => e = .returned (.tuple #[.slice none 0 0, .bool false]) ∧ Below w.heap.size w w' := by
  obtain ⟨h1, h2, _, _⟩ := clashI_parts hc
  have H1 := Lib.hid h1
  have H2 := Lib.hid h2
  have HC := Lib.hid hc
  clear h1 h2 hc
  go_enter Try.func33, Try.ntmps33
  go_wp2_with fail
  refine (ivalid_is A B n c m d ws xs _ h k hm H1.out).mono ?_
  rintro e1 w1 ⟨rfl, b1⟩
  have h := h.below b1
  have k := k.below b1
  have q := q.below b1
  go_wp2_with fail
  refine (ivalid_is A C n c l e ws ys _ h q hl H2.out).mono ?_
  rintro e1 w2 ⟨rfl, b2⟩
  have h := h.below b2
  have k := k.below b2
  have q := q.below b2
  have b12 := Below.next b1 b2
  go_wp2_with fail
  refine (iclash_any A B C n c m d l e ws xs ys _ h.max hm hl h.1 k q).mono ?_
  rw [HC.out]
  rintro e1 w3 ⟨rfl, b3⟩
  have b13 := Below.next b12 b3
  go_wp2_with fail
  go_ret2
  exact ⟨rfl, b13⟩
end Go.Proofs.Ytjhlcgjhdiheaaa
