/- Votes in plain Lean: each word of at least two of three lists. -/
import Derived.Test.YtjhlcgjhdiheaaaShift
namespace Go.Proofs.Ytjhlcgjhdiheaaa
namespace Mk
variable {α : Type}

theorem drop_at {xs : List α} {k : Nat} {x : α} (h : xs[k]? = some x) : xs.drop k = x :: xs.drop (k + 1) := by
  obtain ⟨h1, h2⟩ := List.getElem?_eq_some_iff.1 h
  rw [← h2]
  exact List.drop_eq_getElem_cons h1
variable [DecidableEq α]

def vote1 (x y z : α) : Option α := if x = y ∨ x = z then some x else if y = z then some y else none
def vote : List α → List α → List α → Option (List α)
  | x :: a, y :: b, z :: c => match vote1 x y z with
    | none => none
    | some v => (vote a b c).map (v :: ·)
  | _, _, _ => some []

theorem vote_some {x y z v : α} (h : vote1 x y z = some v) (a b c : List α) : vote (x :: a) (y :: b) (z :: c) = (vote a b c).map (v :: ·) := by
  simp only [vote, h]
theorem vote_none {x y z : α} (h : vote1 x y z = none) (a b c : List α) : vote (x :: a) (y :: b) (z :: c) = none := by
  simp only [vote, h]
theorem vote_go {a b c out : List α} {k : Nat} {x y z v : α} (ha : a[k]? = some x) (hb : b[k]? = some y) (hc : c[k]? = some z)
    (h : vote a b c = (vote (a.drop k) (b.drop k) (c.drop k)).map (out ++ ·)) (hv : vote1 x y z = some v) :
    vote a b c = (vote (a.drop (k + 1)) (b.drop (k + 1)) (c.drop (k + 1))).map ((out ++ [v]) ++ ·) := by
  rw [h, drop_at ha, drop_at hb, drop_at hc, vote_some hv, Option.map_map]
  congr 1
  funext l
  simp
theorem vote_stop {a b c out : List α} {k : Nat} {x y z : α} (ha : a[k]? = some x) (hb : b[k]? = some y) (hc : c[k]? = some z)
    (h : vote a b c = (vote (a.drop k) (b.drop k) (c.drop k)).map (out ++ ·)) (hv : vote1 x y z = none) : vote a b c = none := by
  rw [h, drop_at ha, drop_at hb, drop_at hc, vote_none hv]; rfl
theorem vote_done {a b c out : List α} {k : Nat} (hk : a.length ≤ k) (h : vote a b c = (vote (a.drop k) (b.drop k) (c.drop k)).map (out ++ ·)) : vote a b c = some out := by
  rw [h, List.drop_of_length_le hk]
  simp [vote]
theorem vote1_rot (x y z : α) : vote1 y z x = vote1 x y z := by
  unfold vote1
  by_cases h1 : x = y <;> by_cases h2 : x = z <;> by_cases h3 : y = z <;> simp_all [eq_comm]
theorem vote1_swap (x y z : α) : vote1 y x z = vote1 x y z := by
  unfold vote1
  by_cases h1 : x = y <;> by_cases h2 : x = z <;> by_cases h3 : y = z <;> simp_all [eq_comm]
theorem vote_rot : ∀ a b c : List α, vote b c a = vote a b c
  | [], b, c => by cases b <;> cases c <;> simp [vote]
  | x :: a, [], c => by cases c <;> simp [vote]
  | x :: a, y :: b, [] => by simp [vote]
  | x :: a, y :: b, z :: c => by
    unfold vote
    rw [vote1_rot x y z, vote_rot a b c]
theorem vote_swap : ∀ a b c : List α, vote b a c = vote a b c
  | [], b, c => by cases b <;> cases c <;> simp [vote]
  | x :: a, [], c => by cases c <;> simp [vote]
  | x :: a, y :: b, [] => by simp [vote]
  | x :: a, y :: b, z :: c => by
    unfold vote
    rw [vote1_swap x y z, vote_swap a b c]
theorem vote1_same (x z : α) : vote1 x x z = some x := by unfold vote1; simp
theorem vote_same : ∀ a c : List α, a.length = c.length → vote a a c = some a
  | [], c, _ => by cases c <;> simp [vote]
  | x :: a, [], h => by simp at h
  | x :: a, z :: c, h => by
    rw [vote_some (vote1_same x z), vote_same a c (by simpa using h)]; rfl
theorem vote1_two {x y z v : α} (h : vote1 x y z = some v) : (x = v ∧ y = v) ∨ (x = v ∧ z = v) ∨ (y = v ∧ z = v) := by
  unfold vote1 at h
  by_cases h1 : x = y <;> by_cases h2 : x = z <;> by_cases h3 : y = z <;> simp_all
theorem vote_two : ∀ (a b c out : List α), a.length = b.length → a.length = c.length → vote a b c = some out → out.length = a.length ∧ ∀ (i : Nat) (v : α), out[i]? = some v → ∃ x y z : α, a[i]? = some x ∧ b[i]? = some y ∧ c[i]? = some z ∧ ((x = v ∧ y = v) ∨ (x = v ∧ z = v) ∨ (y = v ∧ z = v))
  | [], b, c, out, _, _, h => by
    cases b <;> cases c <;> simp [vote] at h <;> subst h <;> simp
  | x :: a, [], c, out, h1, _, h => by simp at h1
  | x :: a, y :: b, [], out, _, h2, h => by simp at h2
  | x :: a, y :: b, z :: c, out, h1, h2, h => by
    cases hv : vote1 x y z with
    | none => rw [vote_none hv] at h; cases h
    | some v =>
      rw [vote_some hv] at h
      cases hr : vote a b c with
      | none => rw [hr] at h; cases h
      | some r =>
        rw [hr] at h
        simp only [Option.map_some, Option.some.injEq] at h
        subst h
        have ih := vote_two a b c r (by simpa using h1) (by simpa using h2) hr
        refine ⟨by simp [ih.1], fun i w hw => ?_⟩
        cases i with
        | zero =>
          simp only [List.getElem?_cons_zero, Option.some.injEq] at hw
          subst hw
          exact ⟨x, y, z, rfl, rfl, rfl, vote1_two hv⟩
        | succ i =>
          simp only [List.getElem?_cons_succ] at hw ⊢
          exact ih.2 i w hw
end Mk
end Go.Proofs.Ytjhlcgjhdiheaaa
