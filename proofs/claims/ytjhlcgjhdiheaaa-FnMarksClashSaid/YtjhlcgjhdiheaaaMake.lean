/- Made marks: steps through two lists of words, and the marks of these steps, in plain Lean. -/
import Derived.Test.YtjhlcgjhdiheaaaMarks
namespace Go.Proofs.Ytjhlcgjhdiheaaa
namespace Mk
variable {α : Type}

/-- a step: a word stays, a word is left out, a word is put in -/
abbrev Step (α : Type) := Option (Option α)
/-- the marks of steps, behind g words that stay, c words left out and the words p put in -/
def gapsOf : Nat → Nat → List α → List (Step α) → List (Gap α)
  | g, c, p, [] => if 0 < c + p.length then [⟨g, c, p⟩] else []
  | g, c, p, none :: s => if 0 < c + p.length then ⟨g, c, p⟩ :: gapsOf 1 0 [] s else gapsOf (g + 1) 0 [] s
  | g, c, p, some none :: s => gapsOf g (c + 1) p s
  | g, c, p, some (some y) :: s => gapsOf g c (p ++ [y]) s
theorem gapsOf_some (s : List (Step α)) : ∀ g c p, ∀ m ∈ gapsOf g c p s, Some1 m := by
  induction s with
  | nil =>
    intro g c p m hm
    simp only [gapsOf] at hm
    split at hm
    · rename_i h; rw [List.mem_singleton.1 hm]; exact h
    · simp at hm
  | cons t s ih =>
    intro g c p m hm
    match t with
    | none =>
      simp only [gapsOf] at hm
      split at hm
      · rename_i h
        rcases List.mem_cons.1 hm with rfl | hm
        · exact h
        · exact ih _ _ _ m hm
      · exact ih _ _ _ m hm
    | some none => exact ih _ _ _ m hm
    | some (some y) => exact ih _ _ _ m hm
theorem gapsOf_gap (s : List (Step α)) : ∀ g c p, (1 ≤ g → ∀ m ∈ gapsOf g c p s, 1 ≤ m.gap) ∧ Parted (gapsOf g c p s) := by
  induction s with
  | nil =>
    intro g c p
    simp only [gapsOf]
    split
    · exact ⟨fun h m hm => by rw [List.mem_singleton.1 hm]; exact h, fun m hm => by simp at hm⟩
    · exact ⟨fun h m hm => by simp at hm, trivial⟩
  | cons t s ih =>
    intro g c p
    match t with
    | none =>
      simp only [gapsOf]
      split
      · refine ⟨fun h m hm => ?_, fun m hm => (ih 1 0 []).1 (Nat.le_refl _) m hm⟩
        rcases List.mem_cons.1 hm with rfl | hm
        · exact h
        · exact (ih 1 0 []).1 (Nat.le_refl _) m hm
      · exact ⟨fun h m hm => (ih (g + 1) 0 []).1 (by omega) m hm, (ih (g + 1) 0 []).2⟩
    | some none => exact ih _ _ _
    | some (some y) => exact ih _ _ _
theorem gapsOf_more (s : List (Step α)) : ∀ g c p, gapsOf (g + 1) c p s = match gapsOf g c p s with | [] => [] | m :: ms => ⟨m.gap + 1, m.cut, m.put⟩ :: ms := by
  induction s with
  | nil =>
    intro g c p
    simp only [gapsOf]
    split <;> rfl
  | cons t s ih =>
    intro g c p
    match t with
    | none =>
      simp only [gapsOf]
      split
      · rfl
      · exact ih (g + 1) 0 []
    | some none => exact ih _ _ _
    | some (some y) => exact ih _ _ _
theorem abs_more (gs : List (Gap α)) : ∀ p, abs (p + 1) gs = (abs p gs).map fun m => ⟨m.at_ + 1, m.cut, m.put⟩ := by
  induction gs with
  | nil => intro p; rfl
  | cons g gs ih =>
    intro p
    simp only [abs, List.map_cons]
    rw [show p + 1 + g.gap + g.cut = p + g.gap + g.cut + 1 by omega, ih]
    congr 2
    omega

variable [DecidableEq α]
def path : List α → List α → List (Step α)
  | [], [] => []
  | _ :: a, [] => some none :: path a []
  | [], y :: b => some (some y) :: path [] b
  | x :: a, y :: b => if x = y then none :: path a b else if far a (y :: b) < far (x :: a) (y :: b) then some none :: path a (y :: b) else some (some y) :: path (x :: a) b
termination_by a b => a.length + b.length
theorem path_nil : path ([] : List α) [] = [] := by unfold path; rfl
theorem path_cut (x : α) (a : List α) : path (x :: a) [] = some none :: path a [] := by conv => lhs; unfold path
theorem path_put (y : α) (b : List α) : path [] (y :: b) = some (some y) :: path [] b := by conv => lhs; unfold path
theorem path_keep (x : α) (a b : List α) : path (x :: a) (x :: b) = none :: path a b := by
  conv => lhs; unfold path
  rw [if_pos rfl]
theorem path_ne {x y : α} (h : x ≠ y) (a b : List α) : path (x :: a) (y :: b) = if far a (y :: b) < far (x :: a) (y :: b) then some none :: path a (y :: b) else some (some y) :: path (x :: a) b := by
  conv => lhs; unfold path
  rw [if_neg h]
def made (a b : List α) : List (Gap α) := gapsOf 0 0 [] (path a b)

theorem made_law (n : Nat) : ∀ (a b pre cw p : List α), a.length + b.length ≤ n →
    doG (pre ++ cw ++ a) (gapsOf pre.length cw.length p (path a b)) = pre ++ p ++ b ∧ sizeG (gapsOf pre.length cw.length p (path a b)) = cw.length + p.length + far a b ∧
    Fits (pre ++ cw ++ a).length (gapsOf pre.length cw.length p (path a b)) := by
  induction n with
  | zero =>
    intro a b pre cw p h
    obtain rfl : a = [] := List.eq_nil_of_length_eq_zero (by omega)
    obtain rfl : b = [] := List.eq_nil_of_length_eq_zero (by omega)
    rw [path_nil, far_nil]
    simp only [gapsOf]
    split
    · simp [doG, sizeG, Fits]
    · rename_i h0
      have h1 : cw = [] := List.eq_nil_of_length_eq_zero (by omega)
      have h2 : p = [] := List.eq_nil_of_length_eq_zero (by omega)
      subst h1 h2
      simp [doG, sizeG, Fits]
  | succ n ih =>
    intro a b pre cw p h
    have dropAll : ∀ (r : List α), (pre ++ cw ++ r).drop (pre.length + cw.length) = r := fun r => by rw [← List.length_append, List.drop_left]
    have takePre : ∀ (r : List α), (pre ++ cw ++ r).take pre.length = pre := fun r => by rw [List.append_assoc, List.take_left]
    have cutCase : ∀ (x : α) (a b : List α), a.length + b.length ≤ n → far (x :: a) b = 1 + far a b → path (x :: a) b = some none :: path a b →
        doG (pre ++ cw ++ x :: a) (gapsOf pre.length cw.length p (path (x :: a) b)) = pre ++ p ++ b ∧ sizeG (gapsOf pre.length cw.length p (path (x :: a) b)) = cw.length + p.length + far (x :: a) b ∧
        Fits (pre ++ cw ++ x :: a).length (gapsOf pre.length cw.length p (path (x :: a) b)) := by
      intro x a b hl hf hp
      have := ih a b pre (cw ++ [x]) p hl
      rw [List.length_append, List.length_singleton] at this
      have e : pre ++ (cw ++ [x]) ++ a = pre ++ cw ++ x :: a := by simp
      rw [e] at this
      rw [hp, hf]
      simp only [gapsOf]
      exact ⟨this.1, by rw [this.2.1]; omega, this.2.2⟩
    have putCase : ∀ (y : α) (a b : List α), a.length + b.length ≤ n → far a (y :: b) = 1 + far a b → path a (y :: b) = some (some y) :: path a b →
        doG (pre ++ cw ++ a) (gapsOf pre.length cw.length p (path a (y :: b))) = pre ++ p ++ y :: b ∧ sizeG (gapsOf pre.length cw.length p (path a (y :: b))) = cw.length + p.length + far a (y :: b) ∧
        Fits (pre ++ cw ++ a).length (gapsOf pre.length cw.length p (path a (y :: b))) := by
      intro y a b hl hf hp
      have := ih a b pre cw (p ++ [y]) hl
      rw [hp, hf]
      simp only [gapsOf]
      exact ⟨by rw [this.1]; simp, by rw [this.2.1]; simp; omega, this.2.2⟩
    cases a with
    | nil =>
      cases b with
      | nil =>
        rw [path_nil, far_nil]
        simp only [gapsOf]
        split
        · simp [doG, sizeG, Fits]
        · rename_i h0
          have h1 : cw = [] := List.eq_nil_of_length_eq_zero (by omega)
          have h2 : p = [] := List.eq_nil_of_length_eq_zero (by omega)
          subst h1 h2
          simp [doG, sizeG, Fits]
      | cons y b =>
        simp only [List.length_cons, List.length_nil] at h
        exact putCase y [] b (by simp; omega) (by rw [far_nil, far_nil]; simp; omega) (path_put y b)
    | cons x a =>
      cases b with
      | nil =>
        simp only [List.length_cons, List.length_nil] at h
        exact cutCase x a [] (by simp; omega) (by rw [far_nil', far_nil']; simp; omega) (path_cut x a)
      | cons y b =>
        simp only [List.length_cons] at h
        by_cases e : x = y
        · subst e
          rw [path_keep, far_eq]
          simp only [gapsOf]
          split
          · have := ih a b [x] [] [] (by omega)
            simp only [List.length_singleton, List.length_nil, List.append_nil, List.singleton_append] at this
            simp only [doG, sizeG, Fits, dropAll, takePre]
            refine ⟨by rw [this.1], by rw [this.2.1]; omega, by simp, ?_⟩
            have e2 : (pre ++ cw ++ x :: a).length - (pre.length + cw.length) = (x :: a).length := by simp; omega
            rw [e2]
            exact this.2.2
          · rename_i h0
            have h1 : cw = [] := List.eq_nil_of_length_eq_zero (by omega)
            have h2 : p = [] := List.eq_nil_of_length_eq_zero (by omega)
            subst h1 h2
            have := ih a b (pre ++ [x]) [] [] (by omega)
            simp only [List.length_append, List.length_singleton, List.length_nil, List.append_nil, List.append_assoc, List.singleton_append] at this
            simp only [List.append_nil, List.length_nil]
            refine ⟨this.1, by rw [this.2.1], ?_⟩
            have := this.2.2
            simpa using this
        · by_cases hc : far a (y :: b) < far (x :: a) (y :: b)
          · refine cutCase x a (y :: b) (by simp; omega) ?_ (by rw [path_ne e, if_pos hc])
            rw [far_ne e] at hc ⊢
            omega
          · refine putCase y (x :: a) b (by simp; omega) ?_ (by rw [path_ne e, if_neg hc])
            rw [far_ne e] at hc ⊢
            omega
theorem made_do (a b : List α) : doG a (made a b) = b := by have := (made_law _ a b [] [] [] (Nat.le_refl _)).1; unfold made; simpa using this
theorem made_size (a b : List α) : sizeG (made a b) = far a b := by have := (made_law _ a b [] [] [] (Nat.le_refl _)).2.1; unfold made; simpa using this
theorem made_fits (a b : List α) : Fits a.length (made a b) := by have := (made_law _ a b [] [] [] (Nat.le_refl _)).2.2; unfold made; simpa using this
theorem made_some (a b : List α) : ∀ m ∈ made a b, Some1 m := gapsOf_some _ _ _ _
theorem made_parted (a b : List α) : Parted (made a b) := (gapsOf_gap _ _ _ _).2
theorem made_so (x : α) (a b : List α) : made (x :: a) (x :: b) = match made a b with | [] => [] | m :: ms => ⟨m.gap + 1, m.cut, m.put⟩ :: ms := by
  unfold made
  rw [path_keep]
  show (if 0 < 0 + ([] : List α).length then _ else gapsOf (0 + 1) 0 [] (path a b)) = _
  rw [if_neg (by simp)]
  exact gapsOf_more _ 0 0 []
theorem made_so_abs (x : α) (a b : List α) : abs 0 (made (x :: a) (x :: b)) = (abs 0 (made a b)).map fun m => ⟨m.at_ + 1, m.cut, m.put⟩ := by
  rw [made_so]
  cases made a b with
  | nil => rfl
  | cons m ms =>
    simp only [abs, List.map_cons, Nat.zero_add]
    rw [show m.gap + 1 + m.cut = m.gap + m.cut + 1 by omega, abs_more]
    rfl
theorem made_nil (a b : List α) : made a b = [] ↔ a = b := by
  constructor
  · intro h
    have := made_do a b
    rw [h] at this
    exact this
  · intro h
    have := made_size a b
    rw [h, far_self] at this
    cases hm : made b b with
    | nil => rw [h]; exact hm
    | cons m ms =>
      have h1 := made_some b b m (by rw [hm]; simp)
      rw [hm] at this
      simp only [sizeG] at this
      unfold Some1 at h1
      omega
end Mk
end Go.Proofs.Ytjhlcgjhdiheaaa
