/- The stages of a second, in plain Lean, and what they come to. -/
import Derived.Test.YtcgiehdpdnipbaaPlainB
namespace Go.Proofs.Ytcgiehdpdnipbaa
namespace Talk

/-- what a stage does to mind, lost and the minds so far: 0 hears, 1 writes, 2 holds -/
def actM (m : Int) (a : Nat × Int) : Int := match a.1 with
  | 0 => m + a.2
  | 1 => m - min m a.2
  | _ => min m a.2
def actL (m l : Int) (a : Nat × Int) : Int := match a.1 with
  | 0 => l
  | 1 => l
  | _ => l + (m - min m a.2)
def actA (m : Int) (as : List Int) (a : Nat × Int) : List Int := match a.1 with
  | 0 => as
  | 1 => as
  | _ => as ++ [min m a.2]
def runM : Int → List (Nat × Int) → Int
  | m, [] => m
  | m, a :: t => runM (actM m a) t
def runL : Int → Int → List (Nat × Int) → Int
  | _, l, [] => l
  | m, l, a :: t => runL (actM m a) (actL m l a) t
def runA : Int → List Int → List (Nat × Int) → List Int
  | _, as, [] => as
  | m, as, a :: t => runA (actM m a) (actA m as a) t
def acts (r h : Int) : List Int → List (Nat × Int)
  | [] => []
  | x :: xs => (0, x) :: (1, r) :: (2, h) :: acts r h xs
theorem acts_len (r h : Int) (xs : List Int) : (acts r h xs).length = 3 * xs.length := by
  induction xs with
  | nil => rfl
  | cons x xs ih => simp [acts, ih]; omega
theorem acts_append (r h : Int) (xs ys : List Int) : acts r h (xs ++ ys) = acts r h xs ++ acts r h ys := by
  induction xs with
  | nil => rfl
  | cons x xs ih => simp [acts, ih]
theorem step_eq (r h m x : Int) : min (m + x - min (m + x) r) h = nxt r h m x ∧ (m + x - min (m + x) r) - min (m + x - min (m + x) r) h = los r h m x := by
  unfold nxt los; omega
theorem runM_acts (r h : Int) (xs : List Int) : ∀ m, runM m (acts r h xs) = endM r h m xs := by
  induction xs with
  | nil => intro m; rfl
  | cons x xs ih => intro m; simp only [acts, runM, actM, endM, (step_eq r h m x).1, ih]
theorem runL_acts (r h : Int) (xs : List Int) : ∀ m l, runL m l (acts r h xs) = l + lostF r h m xs := by
  induction xs with
  | nil => intro m l; simp [acts, runL, lostF]
  | cons x xs ih => intro m l; have e := step_eq r h m x; simp only [acts, runL, actM, actL, lostF, e.1, ih]; omega
theorem runA_acts (r h : Int) (xs : List Int) : ∀ m as, runA m as (acts r h xs) = as ++ minds r h m xs := by
  induction xs with
  | nil => intro m as; simp [acts, runA, minds]
  | cons x xs ih => intro m as; simp only [acts, runA, actM, actA, minds, (step_eq r h m x).1, ih]; simp
/-- a stage whose number is small -/
def Small (a : Nat × Int) : Prop := a.1 ≤ 2 ∧ 0 ≤ a.2 ∧ a.2 ≤ 50
theorem acts_small {r h : Int} (hr : 0 ≤ r ∧ r ≤ 50) (hh : 0 ≤ h ∧ h ≤ 50) {xs : List Int} (hx : ∀ x ∈ xs, 0 ≤ x ∧ x ≤ 50) : ∀ a ∈ acts r h xs, Small a := by
  induction xs with
  | nil => intro a ha; simp [acts] at ha
  | cons x xs ih =>
    intro a ha
    simp only [acts, List.mem_cons] at ha
    rcases ha with rfl | rfl | rfl | ha
    · exact ⟨Nat.zero_le _, hx x (by simp)⟩
    · exact ⟨Nat.le_succ 1, hr⟩
    · exact ⟨Nat.le_refl 2, hh⟩
    · exact ih (fun y hy => hx y (by simp [hy])) a ha
end Talk
end Go.Proofs.Ytcgiehdpdnipbaa
