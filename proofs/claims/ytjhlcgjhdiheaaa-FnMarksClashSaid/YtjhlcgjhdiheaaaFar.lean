/- The least size of marks between two lists of words, in plain Lean. -/
namespace Go.Proofs.Ytjhlcgjhdiheaaa
namespace Mk
variable {α : Type} [DecidableEq α]

/-- the least size from one list to another: words left out and words put in -/
def far : List α → List α → Nat
  | [], b => b.length
  | x :: a, [] => (x :: a).length
  | x :: a, y :: b => if x = y then far a b else 1 + min (far a (y :: b)) (far (x :: a) b)
termination_by a b => a.length + b.length

theorem far_nil (b : List α) : far [] b = b.length := by unfold far; rfl
theorem far_nil' (a : List α) : far a [] = a.length := by cases a <;> unfold far <;> rfl
theorem far_eq (x : α) (a b : List α) : far (x :: a) (x :: b) = far a b := by
  conv => lhs; unfold far
  rw [if_pos rfl]
theorem far_ne {x y : α} (h : x ≠ y) (a b : List α) : far (x :: a) (y :: b) = 1 + min (far a (y :: b)) (far (x :: a) b) := by
  conv => lhs; unfold far
  rw [if_neg h]
/-- one word more changes the size by one at most -/
theorem far_step (n : Nat) : ∀ (a b : List α) (x : α), a.length + b.length ≤ n → far (x :: a) b ≤ far a b + 1 ∧ far a b ≤ far (x :: a) b + 1 ∧ far a (x :: b) ≤ far a b + 1 ∧ far a b ≤ far a (x :: b) + 1 := by
  induction n with
  | zero =>
    intro a b x h
    obtain rfl : a = [] := List.eq_nil_of_length_eq_zero (by omega)
    obtain rfl : b = [] := List.eq_nil_of_length_eq_zero (by omega)
    simp [far_nil, far_nil']
  | succ n ih =>
    intro a b x h
    have one : ∀ (a b : List α) (x : α), a.length + b.length ≤ n + 1 → far (x :: a) b ≤ far a b + 1 ∧ far a b ≤ far (x :: a) b + 1 := by
      intro a b x h
      cases b with
      | nil => simp [far_nil']; omega
      | cons y b =>
        simp only [List.length_cons] at h
        by_cases hxy : x = y
        · subst hxy
          rw [far_eq]
          have := ih a b x (by omega)
          omega
        · rw [far_ne hxy]
          have h1 := ih a b y (by omega)
          have h2 : far (x :: a) b ≤ far a b + 1 ∧ far a b ≤ far (x :: a) b + 1 := ⟨(ih a b x (by omega)).1, (ih a b x (by omega)).2.1⟩
          omega
    have two : ∀ (a b : List α) (x : α), a.length + b.length ≤ n + 1 → far a (x :: b) ≤ far a b + 1 ∧ far a b ≤ far a (x :: b) + 1 := by
      intro a b x h
      cases a with
      | nil => simp [far_nil]; omega
      | cons y a =>
        simp only [List.length_cons] at h
        by_cases hxy : y = x
        · subst hxy
          rw [far_eq]
          have := ih a b y (by omega)
          omega
        · rw [far_ne hxy]
          have h1 := ih a b x (by omega)
          have h2 := ih a b y (by omega)
          omega
    exact ⟨(one a b x h).1, (one a b x h).2, (two a b x h).1, (two a b x h).2⟩
theorem far_cons_le (a b : List α) (x : α) : far (x :: a) b ≤ far a b + 1 := (far_step _ a b x (Nat.le_refl _)).1
theorem far_le_cons (a b : List α) (x : α) : far a b ≤ far (x :: a) b + 1 := (far_step _ a b x (Nat.le_refl _)).2.1
theorem far_cons_le' (a b : List α) (x : α) : far a (x :: b) ≤ far a b + 1 := (far_step _ a b x (Nat.le_refl _)).2.2.1
theorem far_le_cons' (a b : List α) (x : α) : far a b ≤ far a (x :: b) + 1 := (far_step _ a b x (Nat.le_refl _)).2.2.2
theorem far_comm (n : Nat) : ∀ a b : List α, a.length + b.length ≤ n → far a b = far b a := by
  induction n with
  | zero =>
    intro a b h
    obtain rfl : a = [] := List.eq_nil_of_length_eq_zero (by omega)
    obtain rfl : b = [] := List.eq_nil_of_length_eq_zero (by omega)
    rfl
  | succ n ih =>
    intro a b h
    cases a with
    | nil => rw [far_nil, far_nil']
    | cons x a =>
      cases b with
      | nil => rw [far_nil, far_nil']
      | cons y b =>
        simp only [List.length_cons] at h
        by_cases e : x = y
        · subst e; rw [far_eq, far_eq]; exact ih a b (by omega)
        · rw [far_ne e, far_ne (Ne.symm e), ih a (y :: b) (by simp; omega), ih (x :: a) b (by simp; omega)]
          omega
theorem far_symm (a b : List α) : far a b = far b a := far_comm _ a b (Nat.le_refl _)
theorem far_self (a : List α) : far a a = 0 := by
  induction a with
  | nil => exact far_nil []
  | cons x a ih => rw [far_eq, ih]
/-- parity and bounds: size = both lengths less twice the words that stay -/
theorem far_bounds (n : Nat) : ∀ a b : List α, a.length + b.length ≤ n → far a b ≤ a.length + b.length ∧ a.length ≤ b.length + far a b ∧ b.length ≤ a.length + far a b ∧ (a.length + b.length - far a b) % 2 = 0 := by
  induction n with
  | zero =>
    intro a b h
    obtain rfl : a = [] := List.eq_nil_of_length_eq_zero (by omega)
    obtain rfl : b = [] := List.eq_nil_of_length_eq_zero (by omega)
    simp [far_nil]
  | succ n ih =>
    intro a b h
    cases a with
    | nil => rw [far_nil]; simp
    | cons x a =>
      cases b with
      | nil => rw [far_nil']; simp
      | cons y b =>
        simp only [List.length_cons] at h
        by_cases e : x = y
        · subst e
          rw [far_eq]
          have := ih a b (by omega)
          simp only [List.length_cons]
          omega
        · rw [far_ne e]
          have h1 := ih a (y :: b) (by simp; omega)
          have h2 := ih (x :: a) b (by simp; omega)
          simp only [List.length_cons] at h1 h2 ⊢
          omega
theorem far_le (a b : List α) : far a b ≤ a.length + b.length := (far_bounds _ a b (Nat.le_refl _)).1
theorem far_ge (a b : List α) : a.length ≤ b.length + far a b := (far_bounds _ a b (Nat.le_refl _)).2.1
theorem far_ge' (a b : List α) : b.length ≤ a.length + far a b := (far_bounds _ a b (Nat.le_refl _)).2.2.1
theorem far_even (a b : List α) : (a.length + b.length - far a b) % 2 = 0 := (far_bounds _ a b (Nat.le_refl _)).2.2.2
theorem far_zero (n : Nat) : ∀ a b : List α, a.length + b.length ≤ n → far a b = 0 → a = b := by
  induction n with
  | zero =>
    intro a b h _
    obtain rfl : a = [] := List.eq_nil_of_length_eq_zero (by omega)
    obtain rfl : b = [] := List.eq_nil_of_length_eq_zero (by omega)
    rfl
  | succ n ih =>
    intro a b h h0
    cases a with
    | nil => rw [far_nil] at h0; exact (List.eq_nil_of_length_eq_zero h0).symm
    | cons x a =>
      cases b with
      | nil => rw [far_nil'] at h0; simp at h0
      | cons y b =>
        simp only [List.length_cons] at h
        by_cases e : x = y
        · subst e
          rw [far_eq] at h0
          rw [ih a b (by omega) h0]
        · rw [far_ne e] at h0; omega
theorem far_zero_iff (a b : List α) : far a b = 0 ↔ a = b := ⟨far_zero _ a b (Nat.le_refl _), fun h => by rw [h]; exact far_self b⟩
/-- words behind a list are left out one by one -/
theorem far_behind (n : Nat) : ∀ a b d : List α, a.length + b.length ≤ n → far (a ++ d) b ≤ d.length + far a b := by
  induction n with
  | zero =>
    intro a b d h
    obtain rfl : a = [] := List.eq_nil_of_length_eq_zero (by omega)
    obtain rfl : b = [] := List.eq_nil_of_length_eq_zero (by omega)
    simp [far_nil']
  | succ n ih =>
    intro a b d h
    cases a with
    | nil =>
      rw [far_nil, List.nil_append]
      exact far_le d b
    | cons x a =>
      cases b with
      | nil => simp [far_nil']; omega
      | cons y b =>
        simp only [List.length_cons] at h
        rw [List.cons_append]
        by_cases e : x = y
        · subst e
          rw [far_eq, far_eq]
          exact ih a b d (by omega)
        · rw [far_ne e, far_ne e]
          have h1 := ih a (y :: b) d (by simp; omega)
          have h2 := ih (x :: a) b d (by simp; omega)
          rw [List.cons_append] at h2
          omega
theorem far_suffix (a b d : List α) : far (a ++ d) b ≤ d.length + far a b := far_behind _ a b d (Nat.le_refl _)
theorem far_prefix (c d : List α) : far (c ++ d) c = d.length := by
  have h1 := far_suffix c c d
  rw [far_self] at h1
  have h2 := far_ge (c ++ d) c
  rw [List.length_append] at h2
  omega
/-- the same words ahead do not matter -/
theorem far_ahead (g a b : List α) : far (g ++ a) (g ++ b) = far a b := by
  induction g with
  | nil => rfl
  | cons x g ih => rw [List.cons_append, List.cons_append, far_eq, ih]
theorem far_cut (c a b : List α) : far (c ++ a) b ≤ c.length + far a b := by
  induction c with
  | nil => simp
  | cons x c ih =>
    have := far_cons_le (c ++ a) b x
    rw [List.cons_append, List.length_cons]
    omega
theorem far_put (p a b : List α) : far a (p ++ b) ≤ p.length + far a b := by
  rw [far_symm a, far_symm a]; exact far_cut p b a
/-- a word of the first list left out, at its end -/
theorem far_snoc (n : Nat) : ∀ (a b : List α) (x : α), a.length + b.length ≤ n → far a b ≤ far (a ++ [x]) b + 1 := by
  induction n with
  | zero =>
    intro a b x h
    obtain rfl : a = [] := List.eq_nil_of_length_eq_zero (by omega)
    obtain rfl : b = [] := List.eq_nil_of_length_eq_zero (by omega)
    simp [far_nil]
  | succ n ih =>
    intro a b x h
    cases a with
    | nil => rw [List.nil_append]; exact far_le_cons [] b x
    | cons z a =>
      cases b with
      | nil => simp [far_nil']
      | cons y b =>
        simp only [List.length_cons] at h
        rw [List.cons_append]
        by_cases e : z = y
        · subst e
          rw [far_eq, far_eq]
          exact ih a b x (by omega)
        · rw [far_ne e, far_ne e]
          have h1 := ih a (y :: b) x (by simp; omega)
          have h2 := ih (z :: a) b x (by simp; omega)
          rw [List.cons_append] at h2
          omega
end Mk
end Go.Proofs.Ytjhlcgjhdiheaaa
