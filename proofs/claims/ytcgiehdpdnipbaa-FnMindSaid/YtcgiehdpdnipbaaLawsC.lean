/- Plain laws of the talk chapter, third part: two writers hear all. -/
import Derived.Test.YtcgiehdpdnipbaaCuts
namespace Go.Proofs.Ytcgiehdpdnipbaa
namespace Talk
theorem hear_both (t : Nat) (p : Int) (hp : p = 0 ∨ p = 1) (xs : List Int) : ∀ (i j : Nat) (x : Int), xs[j]? = some x →
    ∃ u v, (hear t p i xs)[j]? = some u ∧ (hear t (1 - p) i xs)[j]? = some v ∧ u + v = x ∧ (u = 0 ∨ v = 0) := by
  induction xs with
  | nil => intro i j x h; simp at h
  | cons y xs ih =>
    intro i j x h
    cases j with
    | zero =>
      simp at h
      subst h
      simp only [hear, List.getElem?_cons_zero, Option.some.injEq]
      refine ⟨_, _, rfl, rfl, ?_⟩
      rcases Nat.mod_two_eq_zero_or_one (i / t) with e | e <;> rcases hp with rfl | rfl <;> simp [e]
    | succ j =>
      simp only [hear, List.getElem?_cons_succ] at h ⊢
      exact ih (i + 1) j x h
end Talk
end Go.Proofs.Ytcgiehdpdnipbaa
