/- Transcripts, marks and their laws in plain Lean: eleven texts in one. -/
/- The least size of marks between two lists of words, in plain Lean. -/
namespace Go.Proofs.YtjhlcgjhdiheaaaDoor
namespace Mk
variable {α : Type} [DecidableEq α]

/-- the least size from one list to another: words left out and words put in -/
def far : List α → List α → Nat
  | [], b => b.length
  | x :: a, [] => (x :: a).length
  | x :: a, y :: b => if x = y then far a b else 1 + min (far a (y :: b)) (far (x :: a) b)
termination_by a b => a.length + b.length

theorem far_nil (b : List α) : far [] b = b.length := by unfold far; rfl
theorem far_nil' (a : List α) : far a [] = a.length := by cases a <;> unfold far <;> rfl
theorem far_eq (x : α) (a b : List α) : far (x :: a) (x :: b) = far a b := by
  conv => lhs; unfold far
  rw [if_pos rfl]
theorem far_ne {x y : α} (h : x ≠ y) (a b : List α) : far (x :: a) (y :: b) = 1 + min (far a (y :: b)) (far (x :: a) b) := by
  conv => lhs; unfold far
  rw [if_neg h]
/-- one word more changes the size by one at most -/
theorem far_step (n : Nat) : ∀ (a b : List α) (x : α), a.length + b.length ≤ n → far (x :: a) b ≤ far a b + 1 ∧ far a b ≤ far (x :: a) b + 1 ∧ far a (x :: b) ≤ far a b + 1 ∧ far a b ≤ far a (x :: b) + 1 := by
  induction n with
  | zero =>
    intro a b x h
    obtain rfl : a = [] := List.eq_nil_of_length_eq_zero (by omega)
    obtain rfl : b = [] := List.eq_nil_of_length_eq_zero (by omega)
    simp [far_nil, far_nil']
  | succ n ih =>
    intro a b x h
    have one : ∀ (a b : List α) (x : α), a.length + b.length ≤ n + 1 → far (x :: a) b ≤ far a b + 1 ∧ far a b ≤ far (x :: a) b + 1 := by
      intro a b x h
      cases b with
      | nil => simp [far_nil']; omega
      | cons y b =>
        simp only [List.length_cons] at h
        by_cases hxy : x = y
        · subst hxy
          rw [far_eq]
          have := ih a b x (by omega)
          omega
        · rw [far_ne hxy]
          have h1 := ih a b y (by omega)
          have h2 : far (x :: a) b ≤ far a b + 1 ∧ far a b ≤ far (x :: a) b + 1 := ⟨(ih a b x (by omega)).1, (ih a b x (by omega)).2.1⟩
          omega
    have two : ∀ (a b : List α) (x : α), a.length + b.length ≤ n + 1 → far a (x :: b) ≤ far a b + 1 ∧ far a b ≤ far a (x :: b) + 1 := by
      intro a b x h
      cases a with
      | nil => simp [far_nil]; omega
      | cons y a =>
        simp only [List.length_cons] at h
        by_cases hxy : y = x
        · subst hxy
          rw [far_eq]
          have := ih a b y (by omega)
          omega
        · rw [far_ne hxy]
          have h1 := ih a b x (by omega)
          have h2 := ih a b y (by omega)
          omega
    exact ⟨(one a b x h).1, (one a b x h).2, (two a b x h).1, (two a b x h).2⟩
theorem far_cons_le (a b : List α) (x : α) : far (x :: a) b ≤ far a b + 1 := (far_step _ a b x (Nat.le_refl _)).1
theorem far_le_cons (a b : List α) (x : α) : far a b ≤ far (x :: a) b + 1 := (far_step _ a b x (Nat.le_refl _)).2.1
theorem far_cons_le' (a b : List α) (x : α) : far a (x :: b) ≤ far a b + 1 := (far_step _ a b x (Nat.le_refl _)).2.2.1
theorem far_le_cons' (a b : List α) (x : α) : far a b ≤ far a (x :: b) + 1 := (far_step _ a b x (Nat.le_refl _)).2.2.2
theorem far_comm (n : Nat) : ∀ a b : List α, a.length + b.length ≤ n → far a b = far b a := by
  induction n with
  | zero =>
    intro a b h
    obtain rfl : a = [] := List.eq_nil_of_length_eq_zero (by omega)
    obtain rfl : b = [] := List.eq_nil_of_length_eq_zero (by omega)
    rfl
  | succ n ih =>
    intro a b h
    cases a with
    | nil => rw [far_nil, far_nil']
    | cons x a =>
      cases b with
      | nil => rw [far_nil, far_nil']
      | cons y b =>
        simp only [List.length_cons] at h
        by_cases e : x = y
        · subst e; rw [far_eq, far_eq]; exact ih a b (by omega)
        · rw [far_ne e, far_ne (Ne.symm e), ih a (y :: b) (by simp; omega), ih (x :: a) b (by simp; omega)]
          omega
theorem far_symm (a b : List α) : far a b = far b a := far_comm _ a b (Nat.le_refl _)
theorem far_self (a : List α) : far a a = 0 := by
  induction a with
  | nil => exact far_nil []
  | cons x a ih => rw [far_eq, ih]
/-- parity and bounds: size = both lengths less twice the words that stay -/
theorem far_bounds (n : Nat) : ∀ a b : List α, a.length + b.length ≤ n → far a b ≤ a.length + b.length ∧ a.length ≤ b.length + far a b ∧ b.length ≤ a.length + far a b ∧ (a.length + b.length - far a b) % 2 = 0 := by
  induction n with
  | zero =>
    intro a b h
    obtain rfl : a = [] := List.eq_nil_of_length_eq_zero (by omega)
    obtain rfl : b = [] := List.eq_nil_of_length_eq_zero (by omega)
    simp [far_nil]
  | succ n ih =>
    intro a b h
    cases a with
    | nil => rw [far_nil]; simp
    | cons x a =>
      cases b with
      | nil => rw [far_nil']; simp
      | cons y b =>
        simp only [List.length_cons] at h
        by_cases e : x = y
        · subst e
          rw [far_eq]
          have := ih a b (by omega)
          simp only [List.length_cons]
          omega
        · rw [far_ne e]
          have h1 := ih a (y :: b) (by simp; omega)
          have h2 := ih (x :: a) b (by simp; omega)
          simp only [List.length_cons] at h1 h2 ⊢
          omega
theorem far_le (a b : List α) : far a b ≤ a.length + b.length := (far_bounds _ a b (Nat.le_refl _)).1
theorem far_ge (a b : List α) : a.length ≤ b.length + far a b := (far_bounds _ a b (Nat.le_refl _)).2.1
theorem far_ge' (a b : List α) : b.length ≤ a.length + far a b := (far_bounds _ a b (Nat.le_refl _)).2.2.1
theorem far_even (a b : List α) : (a.length + b.length - far a b) % 2 = 0 := (far_bounds _ a b (Nat.le_refl _)).2.2.2
theorem far_zero (n : Nat) : ∀ a b : List α, a.length + b.length ≤ n → far a b = 0 → a = b := by
  induction n with
  | zero =>
    intro a b h _
    obtain rfl : a = [] := List.eq_nil_of_length_eq_zero (by omega)
    obtain rfl : b = [] := List.eq_nil_of_length_eq_zero (by omega)
    rfl
  | succ n ih =>
    intro a b h h0
    cases a with
    | nil => rw [far_nil] at h0; exact (List.eq_nil_of_length_eq_zero h0).symm
    | cons x a =>
      cases b with
      | nil => rw [far_nil'] at h0; simp at h0
      | cons y b =>
        simp only [List.length_cons] at h
        by_cases e : x = y
        · subst e
          rw [far_eq] at h0
          rw [ih a b (by omega) h0]
        · rw [far_ne e] at h0; omega
theorem far_zero_iff (a b : List α) : far a b = 0 ↔ a = b := ⟨far_zero _ a b (Nat.le_refl _), fun h => by rw [h]; exact far_self b⟩
/-- words behind a list are left out one by one -/
theorem far_behind (n : Nat) : ∀ a b d : List α, a.length + b.length ≤ n → far (a ++ d) b ≤ d.length + far a b := by
  induction n with
  | zero =>
    intro a b d h
    obtain rfl : a = [] := List.eq_nil_of_length_eq_zero (by omega)
    obtain rfl : b = [] := List.eq_nil_of_length_eq_zero (by omega)
    simp [far_nil']
  | succ n ih =>
    intro a b d h
    cases a with
    | nil =>
      rw [far_nil, List.nil_append]
      exact far_le d b
    | cons x a =>
      cases b with
      | nil => simp [far_nil']; omega
      | cons y b =>
        simp only [List.length_cons] at h
        rw [List.cons_append]
        by_cases e : x = y
        · subst e
          rw [far_eq, far_eq]
          exact ih a b d (by omega)
        · rw [far_ne e, far_ne e]
          have h1 := ih a (y :: b) d (by simp; omega)
          have h2 := ih (x :: a) b d (by simp; omega)
          rw [List.cons_append] at h2
          omega
theorem far_suffix (a b d : List α) : far (a ++ d) b ≤ d.length + far a b := far_behind _ a b d (Nat.le_refl _)
theorem far_prefix (c d : List α) : far (c ++ d) c = d.length := by
  have h1 := far_suffix c c d
  rw [far_self] at h1
  have h2 := far_ge (c ++ d) c
  rw [List.length_append] at h2
  omega
/-- the same words ahead do not matter -/
theorem far_ahead (g a b : List α) : far (g ++ a) (g ++ b) = far a b := by
  induction g with
  | nil => rfl
  | cons x g ih => rw [List.cons_append, List.cons_append, far_eq, ih]
theorem far_cut (c a b : List α) : far (c ++ a) b ≤ c.length + far a b := by
  induction c with
  | nil => simp
  | cons x c ih =>
    have := far_cons_le (c ++ a) b x
    rw [List.cons_append, List.length_cons]
    omega
theorem far_put (p a b : List α) : far a (p ++ b) ≤ p.length + far a b := by
  rw [far_symm a, far_symm a]; exact far_cut p b a
/-- a word of the first list left out, at its end -/
theorem far_snoc (n : Nat) : ∀ (a b : List α) (x : α), a.length + b.length ≤ n → far a b ≤ far (a ++ [x]) b + 1 := by
  induction n with
  | zero =>
    intro a b x h
    obtain rfl : a = [] := List.eq_nil_of_length_eq_zero (by omega)
    obtain rfl : b = [] := List.eq_nil_of_length_eq_zero (by omega)
    simp [far_nil]
  | succ n ih =>
    intro a b x h
    cases a with
    | nil => rw [List.nil_append]; exact far_le_cons [] b x
    | cons z a =>
      cases b with
      | nil => simp [far_nil']
      | cons y b =>
        simp only [List.length_cons] at h
        rw [List.cons_append]
        by_cases e : z = y
        · subst e
          rw [far_eq, far_eq]
          exact ih a b x (by omega)
        · rw [far_ne e, far_ne e]
          have h1 := ih a (y :: b) x (by simp; omega)
          have h2 := ih (z :: a) b x (by simp; omega)
          rw [List.cons_append] at h2
          omega
end Mk
end Go.Proofs.YtjhlcgjhdiheaaaDoor

/- Marks in plain Lean: a mark leaves out words and puts in others; marks as gaps. -/
namespace Go.Proofs.YtjhlcgjhdiheaaaDoor
namespace Mk
variable {α : Type}

/-- a mark: At, Cut, Put -/
structure Mark (α : Type) where
  at_ : Int
  cut : Int
  put : List α
/-- a mark by the gap ahead of it: words that stay, words left out, words put in -/
structure Gap (α : Type) where
  gap : Nat
  cut : Nat
  put : List α

/-- the marks of gaps, the first one behind 'p' words -/
def abs (p : Nat) : List (Gap α) → List (Mark α)
  | [] => []
  | g :: gs => ⟨((p + g.gap : Nat) : Int), (g.cut : Int), g.put⟩ :: abs (p + g.gap + g.cut) gs
/-- what marks make of the words that are left -/
def doG : List α → List (Gap α) → List α
  | ws, [] => ws
  | ws, g :: gs => ws.take g.gap ++ g.put ++ doG (ws.drop (g.gap + g.cut)) gs
/-- the way back -/
def backG : List α → List (Gap α) → List (Gap α)
  | _, [] => []
  | ws, g :: gs => ⟨g.gap, g.put.length, (ws.drop g.gap).take g.cut⟩ :: backG (ws.drop (g.gap + g.cut)) gs
def sizeG : List (Gap α) → Nat
  | [] => 0
  | g :: gs => g.cut + g.put.length + sizeG gs
def cutG : List (Gap α) → Nat
  | [] => 0
  | g :: gs => g.cut + cutG gs
def putG : List (Gap α) → Nat
  | [] => 0
  | g :: gs => g.put.length + putG gs
/-- the gaps fit into so many words -/
def Fits : Nat → List (Gap α) → Prop
  | _, [] => True
  | n, g :: gs => g.gap + g.cut ≤ n ∧ Fits (n - (g.gap + g.cut)) gs
/-- every mark but the first has a gap ahead of it, and every mark does something -/
def Some1 (g : Gap α) : Prop := 0 < g.cut + g.put.length
def Parted : List (Gap α) → Prop
  | [] => True
  | _ :: gs => ∀ g ∈ gs, 1 ≤ g.gap

theorem doG_len (gs : List (Gap α)) : ∀ ws : List α, Fits ws.length gs → (doG ws gs).length + cutG gs = ws.length + putG gs := by
  induction gs with
  | nil => intro ws _; simp [doG, cutG, putG]
  | cons g gs ih =>
    intro ws h
    obtain ⟨h1, h2⟩ := h
    have := ih (ws.drop (g.gap + g.cut)) (by rw [List.length_drop]; exact h2)
    simp only [doG, cutG, putG, List.length_append, List.length_take, List.length_drop] at this ⊢
    omega
theorem cut_le (gs : List (Gap α)) : ∀ n, Fits n gs → cutG gs ≤ n := by
  induction gs with
  | nil => intro n _; simp [cutG]
  | cons g gs ih =>
    intro n h
    have := ih _ h.2
    have := h.1
    simp only [cutG]
    omega
theorem sizeG_eq (gs : List (Gap α)) : sizeG gs = cutG gs + putG gs := by
  induction gs with
  | nil => rfl
  | cons g gs ih => simp only [sizeG, cutG, putG, ih]; omega
/-- the way back leads back -/
theorem do_back (gs : List (Gap α)) : ∀ ws : List α, Fits ws.length gs → doG (doG ws gs) (backG ws gs) = ws := by
  induction gs with
  | nil => intro ws _; rfl
  | cons g gs ih =>
    intro ws h
    obtain ⟨h1, h2⟩ := h
    have hl : (ws.take g.gap).length = g.gap := by rw [List.length_take]; omega
    have e1 : (ws.take g.gap ++ g.put ++ doG (ws.drop (g.gap + g.cut)) gs).take g.gap = ws.take g.gap := by
      rw [List.append_assoc, List.take_left' hl]
    have e2 : (ws.take g.gap ++ g.put ++ doG (ws.drop (g.gap + g.cut)) gs).drop (g.gap + g.put.length) = doG (ws.drop (g.gap + g.cut)) gs := by
      rw [List.drop_left' (by rw [List.length_append, hl])]
    simp only [doG, backG, e1, e2]
    rw [ih _ (by rw [List.length_drop]; exact h2)]
    have e3 : ws.drop (g.gap + g.cut) = (ws.drop g.gap).drop g.cut := by rw [List.drop_drop]
    rw [e3, List.append_assoc, List.take_append_drop, List.take_append_drop]
theorem back_fits (gs : List (Gap α)) : ∀ ws : List α, Fits ws.length gs → Fits (doG ws gs).length (backG ws gs) := by
  induction gs with
  | nil => intro ws _; trivial
  | cons g gs ih =>
    intro ws h
    obtain ⟨h1, h2⟩ := h
    have h3 := ih (ws.drop (g.gap + g.cut)) (by rw [List.length_drop]; exact h2)
    simp only [doG, backG, Fits, List.length_append, List.length_take]
    refine ⟨by omega, ?_⟩
    have e : min g.gap ws.length + g.put.length + (doG (ws.drop (g.gap + g.cut)) gs).length - (g.gap + g.put.length) = (doG (ws.drop (g.gap + g.cut)) gs).length := by omega
    rw [e]
    exact h3
theorem back_back (gs : List (Gap α)) : ∀ ws : List α, Fits ws.length gs → backG (doG ws gs) (backG ws gs) = gs := by
  induction gs with
  | nil => intro ws _; rfl
  | cons g gs ih =>
    intro ws h
    obtain ⟨h1, h2⟩ := h
    have hl : (ws.take g.gap).length = g.gap := by rw [List.length_take]; omega
    have e2 : (ws.take g.gap ++ g.put ++ doG (ws.drop (g.gap + g.cut)) gs).drop (g.gap + g.put.length) = doG (ws.drop (g.gap + g.cut)) gs := by
      rw [List.drop_left' (by rw [List.length_append, hl])]
    have e3 : ((ws.take g.gap ++ g.put ++ doG (ws.drop (g.gap + g.cut)) gs).drop g.gap).take g.put.length = g.put := by
      rw [List.append_assoc, List.drop_left' hl, List.take_left' rfl]
    have e4 : ((ws.drop g.gap).take g.cut).length = g.cut := by rw [List.length_take, List.length_drop]; omega
    simp only [doG, backG, e2, e3, e4]
    rw [ih _ (by rw [List.length_drop]; exact h2)]
theorem back_len (gs : List (Gap α)) : ∀ ws : List α, (backG ws gs).length = gs.length := by
  induction gs with
  | nil => intro ws; rfl
  | cons g gs ih => intro ws; simp [backG, ih]
theorem back_cut (gs : List (Gap α)) : ∀ ws : List α, Fits ws.length gs → cutG (backG ws gs) = putG gs ∧ putG (backG ws gs) = cutG gs := by
  induction gs with
  | nil => intro ws _; exact ⟨rfl, rfl⟩
  | cons g gs ih =>
    intro ws h
    obtain ⟨h1, h2⟩ := h
    have := ih (ws.drop (g.gap + g.cut)) (by rw [List.length_drop]; exact h2)
    have e4 : ((ws.drop g.gap).take g.cut).length = g.cut := by rw [List.length_take, List.length_drop]; omega
    simp only [backG, cutG, putG, this, e4]
    exact ⟨trivial, trivial⟩
/-- marks lead from words to what they make of them, so their size is at least the least one -/
theorem far_do [DecidableEq α] (gs : List (Gap α)) : ∀ ws : List α, Fits ws.length gs → far ws (doG ws gs) ≤ sizeG gs := by
  induction gs with
  | nil => intro ws _; simp [doG, sizeG, far_self]
  | cons g gs ih =>
    intro ws h
    obtain ⟨h1, h2⟩ := h
    have h3 := ih (ws.drop (g.gap + g.cut)) (by rw [List.length_drop]; exact h2)
    simp only [doG, sizeG, List.append_assoc]
    have e : ws = ws.take g.gap ++ ((ws.drop g.gap).take g.cut ++ ws.drop (g.gap + g.cut)) := by
      rw [← List.drop_drop, List.take_append_drop, List.take_append_drop]
    have e4 : ((ws.drop g.gap).take g.cut).length = g.cut := by rw [List.length_take, List.length_drop]; omega
    have h4 : far ws (ws.take g.gap ++ (g.put ++ doG (ws.drop (g.gap + g.cut)) gs)) = far ((ws.drop g.gap).take g.cut ++ ws.drop (g.gap + g.cut)) (g.put ++ doG (ws.drop (g.gap + g.cut)) gs) := by
      conv => lhs; arg 1; rw [e]
      rw [far_ahead]
    rw [h4]
    have h5 := far_cut ((ws.drop g.gap).take g.cut) (ws.drop (g.gap + g.cut)) (g.put ++ doG (ws.drop (g.gap + g.cut)) gs)
    have h6 := far_put g.put (ws.drop (g.gap + g.cut)) (doG (ws.drop (g.gap + g.cut)) gs)
    omega
end Mk
end Go.Proofs.YtjhlcgjhdiheaaaDoor

/- Made marks: steps through two lists of words, and the marks of these steps, in plain Lean. -/
namespace Go.Proofs.YtjhlcgjhdiheaaaDoor
namespace Mk
variable {α : Type}

/-- a step: a word stays, a word is left out, a word is put in -/
abbrev Step (α : Type) := Option (Option α)
/-- the marks of steps, behind g words that stay, c words left out and the words p put in -/
def gapsOf : Nat → Nat → List α → List (Step α) → List (Gap α)
  | g, c, p, [] => if 0 < c + p.length then [⟨g, c, p⟩] else []
  | g, c, p, none :: s => if 0 < c + p.length then ⟨g, c, p⟩ :: gapsOf 1 0 [] s else gapsOf (g + 1) 0 [] s
  | g, c, p, some none :: s => gapsOf g (c + 1) p s
  | g, c, p, some (some y) :: s => gapsOf g c (p ++ [y]) s
theorem gapsOf_some (s : List (Step α)) : ∀ g c p, ∀ m ∈ gapsOf g c p s, Some1 m := by
  induction s with
  | nil =>
    intro g c p m hm
    simp only [gapsOf] at hm
    split at hm
    · rename_i h; rw [List.mem_singleton.1 hm]; exact h
    · simp at hm
  | cons t s ih =>
    intro g c p m hm
    match t with
    | none =>
      simp only [gapsOf] at hm
      split at hm
      · rename_i h
        rcases List.mem_cons.1 hm with rfl | hm
        · exact h
        · exact ih _ _ _ m hm
      · exact ih _ _ _ m hm
    | some none => exact ih _ _ _ m hm
    | some (some y) => exact ih _ _ _ m hm
theorem gapsOf_gap (s : List (Step α)) : ∀ g c p, (1 ≤ g → ∀ m ∈ gapsOf g c p s, 1 ≤ m.gap) ∧ Parted (gapsOf g c p s) := by
  induction s with
  | nil =>
    intro g c p
    simp only [gapsOf]
    split
    · exact ⟨fun h m hm => by rw [List.mem_singleton.1 hm]; exact h, fun m hm => by simp at hm⟩
    · exact ⟨fun h m hm => by simp at hm, trivial⟩
  | cons t s ih =>
    intro g c p
    match t with
    | none =>
      simp only [gapsOf]
      split
      · refine ⟨fun h m hm => ?_, fun m hm => (ih 1 0 []).1 (Nat.le_refl _) m hm⟩
        rcases List.mem_cons.1 hm with rfl | hm
        · exact h
        · exact (ih 1 0 []).1 (Nat.le_refl _) m hm
      · exact ⟨fun h m hm => (ih (g + 1) 0 []).1 (by omega) m hm, (ih (g + 1) 0 []).2⟩
    | some none => exact ih _ _ _
    | some (some y) => exact ih _ _ _
theorem gapsOf_more (s : List (Step α)) : ∀ g c p, gapsOf (g + 1) c p s = match gapsOf g c p s with | [] => [] | m :: ms => ⟨m.gap + 1, m.cut, m.put⟩ :: ms := by
  induction s with
  | nil =>
    intro g c p
    simp only [gapsOf]
    split <;> rfl
  | cons t s ih =>
    intro g c p
    match t with
    | none =>
      simp only [gapsOf]
      split
      · rfl
      · exact ih (g + 1) 0 []
    | some none => exact ih _ _ _
    | some (some y) => exact ih _ _ _
theorem abs_more (gs : List (Gap α)) : ∀ p, abs (p + 1) gs = (abs p gs).map fun m => ⟨m.at_ + 1, m.cut, m.put⟩ := by
  induction gs with
  | nil => intro p; rfl
  | cons g gs ih =>
    intro p
    simp only [abs, List.map_cons]
    rw [show p + 1 + g.gap + g.cut = p + g.gap + g.cut + 1 by omega, ih]
    congr 2
    omega

variable [DecidableEq α]
def path : List α → List α → List (Step α)
  | [], [] => []
  | _ :: a, [] => some none :: path a []
  | [], y :: b => some (some y) :: path [] b
  | x :: a, y :: b => if x = y then none :: path a b else if far a (y :: b) < far (x :: a) (y :: b) then some none :: path a (y :: b) else some (some y) :: path (x :: a) b
termination_by a b => a.length + b.length
theorem path_nil : path ([] : List α) [] = [] := by unfold path; rfl
theorem path_cut (x : α) (a : List α) : path (x :: a) [] = some none :: path a [] := by conv => lhs; unfold path
theorem path_put (y : α) (b : List α) : path [] (y :: b) = some (some y) :: path [] b := by conv => lhs; unfold path
theorem path_keep (x : α) (a b : List α) : path (x :: a) (x :: b) = none :: path a b := by
  conv => lhs; unfold path
  rw [if_pos rfl]
theorem path_ne {x y : α} (h : x ≠ y) (a b : List α) : path (x :: a) (y :: b) = if far a (y :: b) < far (x :: a) (y :: b) then some none :: path a (y :: b) else some (some y) :: path (x :: a) b := by
  conv => lhs; unfold path
  rw [if_neg h]
def made (a b : List α) : List (Gap α) := gapsOf 0 0 [] (path a b)

theorem made_law (n : Nat) : ∀ (a b pre cw p : List α), a.length + b.length ≤ n →
    doG (pre ++ cw ++ a) (gapsOf pre.length cw.length p (path a b)) = pre ++ p ++ b ∧ sizeG (gapsOf pre.length cw.length p (path a b)) = cw.length + p.length + far a b ∧
    Fits (pre ++ cw ++ a).length (gapsOf pre.length cw.length p (path a b)) := by
  induction n with
  | zero =>
    intro a b pre cw p h
    obtain rfl : a = [] := List.eq_nil_of_length_eq_zero (by omega)
    obtain rfl : b = [] := List.eq_nil_of_length_eq_zero (by omega)
    rw [path_nil, far_nil]
    simp only [gapsOf]
    split
    · simp [doG, sizeG, Fits]
    · rename_i h0
      have h1 : cw = [] := List.eq_nil_of_length_eq_zero (by omega)
      have h2 : p = [] := List.eq_nil_of_length_eq_zero (by omega)
      subst h1 h2
      simp [doG, sizeG, Fits]
  | succ n ih =>
    intro a b pre cw p h
    have dropAll : ∀ (r : List α), (pre ++ cw ++ r).drop (pre.length + cw.length) = r := fun r => by rw [← List.length_append, List.drop_left]
    have takePre : ∀ (r : List α), (pre ++ cw ++ r).take pre.length = pre := fun r => by rw [List.append_assoc, List.take_left]
    have cutCase : ∀ (x : α) (a b : List α), a.length + b.length ≤ n → far (x :: a) b = 1 + far a b → path (x :: a) b = some none :: path a b →
        doG (pre ++ cw ++ x :: a) (gapsOf pre.length cw.length p (path (x :: a) b)) = pre ++ p ++ b ∧ sizeG (gapsOf pre.length cw.length p (path (x :: a) b)) = cw.length + p.length + far (x :: a) b ∧
        Fits (pre ++ cw ++ x :: a).length (gapsOf pre.length cw.length p (path (x :: a) b)) := by
      intro x a b hl hf hp
      have := ih a b pre (cw ++ [x]) p hl
      rw [List.length_append, List.length_singleton] at this
      have e : pre ++ (cw ++ [x]) ++ a = pre ++ cw ++ x :: a := by simp
      rw [e] at this
      rw [hp, hf]
      simp only [gapsOf]
      exact ⟨this.1, by rw [this.2.1]; omega, this.2.2⟩
    have putCase : ∀ (y : α) (a b : List α), a.length + b.length ≤ n → far a (y :: b) = 1 + far a b → path a (y :: b) = some (some y) :: path a b →
        doG (pre ++ cw ++ a) (gapsOf pre.length cw.length p (path a (y :: b))) = pre ++ p ++ y :: b ∧ sizeG (gapsOf pre.length cw.length p (path a (y :: b))) = cw.length + p.length + far a (y :: b) ∧
        Fits (pre ++ cw ++ a).length (gapsOf pre.length cw.length p (path a (y :: b))) := by
      intro y a b hl hf hp
      have := ih a b pre cw (p ++ [y]) hl
      rw [hp, hf]
      simp only [gapsOf]
      exact ⟨by rw [this.1]; simp, by rw [this.2.1]; simp; omega, this.2.2⟩
    cases a with
    | nil =>
      cases b with
      | nil =>
        rw [path_nil, far_nil]
        simp only [gapsOf]
        split
        · simp [doG, sizeG, Fits]
        · rename_i h0
          have h1 : cw = [] := List.eq_nil_of_length_eq_zero (by omega)
          have h2 : p = [] := List.eq_nil_of_length_eq_zero (by omega)
          subst h1 h2
          simp [doG, sizeG, Fits]
      | cons y b =>
        simp only [List.length_cons, List.length_nil] at h
        exact putCase y [] b (by simp; omega) (by rw [far_nil, far_nil]; simp; omega) (path_put y b)
    | cons x a =>
      cases b with
      | nil =>
        simp only [List.length_cons, List.length_nil] at h
        exact cutCase x a [] (by simp; omega) (by rw [far_nil', far_nil']; simp; omega) (path_cut x a)
      | cons y b =>
        simp only [List.length_cons] at h
        by_cases e : x = y
        · subst e
          rw [path_keep, far_eq]
          simp only [gapsOf]
          split
          · have := ih a b [x] [] [] (by omega)
            simp only [List.length_singleton, List.length_nil, List.append_nil, List.singleton_append] at this
            simp only [doG, sizeG, Fits, dropAll, takePre]
            refine ⟨by rw [this.1], by rw [this.2.1]; omega, by simp, ?_⟩
            have e2 : (pre ++ cw ++ x :: a).length - (pre.length + cw.length) = (x :: a).length := by simp; omega
            rw [e2]
            exact this.2.2
          · rename_i h0
            have h1 : cw = [] := List.eq_nil_of_length_eq_zero (by omega)
            have h2 : p = [] := List.eq_nil_of_length_eq_zero (by omega)
            subst h1 h2
            have := ih a b (pre ++ [x]) [] [] (by omega)
            simp only [List.length_append, List.length_singleton, List.length_nil, List.append_nil, List.append_assoc, List.singleton_append] at this
            simp only [List.append_nil, List.length_nil]
            refine ⟨this.1, by rw [this.2.1], ?_⟩
            have := this.2.2
            simpa using this
        · by_cases hc : far a (y :: b) < far (x :: a) (y :: b)
          · refine cutCase x a (y :: b) (by simp; omega) ?_ (by rw [path_ne e, if_pos hc])
            rw [far_ne e] at hc ⊢
            omega
          · refine putCase y (x :: a) b (by simp; omega) ?_ (by rw [path_ne e, if_neg hc])
            rw [far_ne e] at hc ⊢
            omega
theorem made_do (a b : List α) : doG a (made a b) = b := by have := (made_law _ a b [] [] [] (Nat.le_refl _)).1; unfold made; simpa using this
theorem made_size (a b : List α) : sizeG (made a b) = far a b := by have := (made_law _ a b [] [] [] (Nat.le_refl _)).2.1; unfold made; simpa using this
theorem made_fits (a b : List α) : Fits a.length (made a b) := by have := (made_law _ a b [] [] [] (Nat.le_refl _)).2.2; unfold made; simpa using this
theorem made_some (a b : List α) : ∀ m ∈ made a b, Some1 m := gapsOf_some _ _ _ _
theorem made_parted (a b : List α) : Parted (made a b) := (gapsOf_gap _ _ _ _).2
theorem made_so (x : α) (a b : List α) : made (x :: a) (x :: b) = match made a b with | [] => [] | m :: ms => ⟨m.gap + 1, m.cut, m.put⟩ :: ms := by
  unfold made
  rw [path_keep]
  show (if 0 < 0 + ([] : List α).length then _ else gapsOf (0 + 1) 0 [] (path a b)) = _
  rw [if_neg (by simp)]
  exact gapsOf_more _ 0 0 []
theorem made_so_abs (x : α) (a b : List α) : abs 0 (made (x :: a) (x :: b)) = (abs 0 (made a b)).map fun m => ⟨m.at_ + 1, m.cut, m.put⟩ := by
  rw [made_so]
  cases made a b with
  | nil => rfl
  | cons m ms =>
    simp only [abs, List.map_cons, Nat.zero_add]
    rw [show m.gap + 1 + m.cut = m.gap + m.cut + 1 by omega, abs_more]
    rfl
theorem made_nil (a b : List α) : made a b = [] ↔ a = b := by
  constructor
  · intro h
    have := made_do a b
    rw [h] at this
    exact this
  · intro h
    have := made_size a b
    rw [h, far_self] at this
    cases hm : made b b with
    | nil => rw [h]; exact hm
    | cons m ms =>
      have h1 := made_some b b m (by rw [hm]; simp)
      rw [hm] at this
      simp only [sizeG] at this
      unfold Some1 at h1
      omega
end Mk
end Go.Proofs.YtjhlcgjhdiheaaaDoor

/- Valid marks in plain Lean, and the gaps of valid marks. -/
namespace Go.Proofs.YtjhlcgjhdiheaaaDoor
namespace Mk
variable {α : Type} (ok : α → Bool)

def speech (ws : List α) : Bool := decide (ws.length ≤ 20) && ws.all ok
/-- a mark fits into n words -/
def fitM (n : Nat) (m : Mark α) : Bool :=
  decide (0 ≤ m.at_) && decide (m.at_ ≤ n) && decide (0 ≤ m.cut) && decide (m.cut ≤ n - m.at_) && speech ok m.put && decide (0 < m.cut + m.put.length)
/-- marks fit, each behind the end of the one ahead of it -/
def chk (n : Nat) : Int → List (Mark α) → Bool
  | _, [] => true
  | e, m :: ms => fitM ok n m && decide (e < m.at_) && chk n (m.at_ + m.cut) ms
/-- how much longer the words are behind the marks -/
def grow : List (Mark α) → Int
  | [] => 0
  | m :: ms => (m.put.length : Int) - m.cut + grow ms
def validM (ws : List α) (ms : List (Mark α)) : Bool := speech ok ws && decide (ms.length ≤ 20) && chk ok ws.length (-1) ms && decide ((ws.length : Int) + grow ms ≤ 20)

theorem speech_parts {ws : List α} (h : speech ok ws = true) : ws.length ≤ 20 ∧ ∀ x ∈ ws, ok x = true := by
  simp only [speech, Bool.and_eq_true, decide_eq_true_eq, List.all_eq_true] at h
  exact h
theorem speech_mk {ws : List α} (h1 : ws.length ≤ 20) (h2 : ∀ x ∈ ws, ok x = true) : speech ok ws = true := by
  simp only [speech, Bool.and_eq_true, decide_eq_true_eq, List.all_eq_true]
  exact ⟨h1, h2⟩
theorem fit_parts {n : Nat} {m : Mark α} (h : fitM ok n m = true) : 0 ≤ m.at_ ∧ m.at_ ≤ n ∧ 0 ≤ m.cut ∧ m.cut ≤ n - m.at_ ∧ speech ok m.put = true ∧ 0 < m.cut + m.put.length := by
  simp only [fitM, Bool.and_eq_true, decide_eq_true_eq] at h
  exact ⟨h.1.1.1.1.1, h.1.1.1.1.2, h.1.1.1.2, h.1.1.2, h.1.2, h.2⟩
theorem fit_mk {n : Nat} {m : Mark α} (h1 : 0 ≤ m.at_) (h2 : m.at_ ≤ n) (h3 : 0 ≤ m.cut) (h4 : m.cut ≤ n - m.at_) (h5 : speech ok m.put = true) (h6 : 0 < m.cut + m.put.length) : fitM ok n m = true := by
  simp only [fitM, Bool.and_eq_true, decide_eq_true_eq]
  exact ⟨⟨⟨⟨⟨h1, h2⟩, h3⟩, h4⟩, h5⟩, h6⟩
theorem chk_cons {n : Nat} {e : Int} {m : Mark α} {ms : List (Mark α)} (h : chk ok n e (m :: ms) = true) : fitM ok n m = true ∧ e < m.at_ ∧ chk ok n (m.at_ + m.cut) ms = true := by
  simp only [chk, Bool.and_eq_true, decide_eq_true_eq] at h
  exact ⟨h.1.1, h.1.2, h.2⟩
theorem valid_parts {ws : List α} {ms : List (Mark α)} (h : validM ok ws ms = true) : speech ok ws = true ∧ ms.length ≤ 20 ∧ chk ok ws.length (-1) ms = true ∧ (ws.length : Int) + grow ms ≤ 20 := by
  simp only [validM, Bool.and_eq_true, decide_eq_true_eq] at h
  exact ⟨h.1.1.1, h.1.1.2, h.1.2, h.2⟩
theorem valid_mk {ws : List α} {ms : List (Mark α)} (h1 : speech ok ws = true) (h2 : ms.length ≤ 20) (h3 : chk ok ws.length (-1) ms = true) (h4 : (ws.length : Int) + grow ms ≤ 20) : validM ok ws ms = true := by
  simp only [validM, Bool.and_eq_true, decide_eq_true_eq]
  exact ⟨⟨⟨h1, h2⟩, h3⟩, h4⟩

/-- the gaps of marks behind p words -/
def gapsFrom (p : Nat) : List (Mark α) → List (Gap α)
  | [] => []
  | m :: ms => ⟨m.at_.toNat - p, m.cut.toNat, m.put⟩ :: gapsFrom (m.at_.toNat + m.cut.toNat) ms
def OkG (g : Gap α) : Prop := Some1 g ∧ speech ok g.put = true
theorem gaps_of_chk (n : Nat) (ms : List (Mark α)) : ∀ (p : Nat) (e : Int), p ≤ n → -1 ≤ e → (p : Int) ≤ e ∨ p = 0 ∧ e = -1 → e ≤ p → chk ok n e ms = true →
    abs p (gapsFrom p ms) = ms ∧ Fits (n - p) (gapsFrom p ms) ∧ (∀ g ∈ gapsFrom p ms, OkG ok g) ∧ ((p : Int) ≤ e → ∀ g ∈ gapsFrom p ms, 1 ≤ g.gap) ∧ Parted (gapsFrom p ms) := by
  induction ms with
  | nil => intro p e _ _ _ _ _; exact ⟨rfl, trivial, fun g hg => by simp [gapsFrom] at hg, fun _ g hg => by simp [gapsFrom] at hg, trivial⟩
  | cons m ms ih =>
    intro p e hp he1 hpe hep h
    obtain ⟨h1, h2, h3⟩ := chk_cons ok h
    obtain ⟨f1, f2, f3, f4, f5, f6⟩ := fit_parts ok h1
    obtain ⟨at_, cut, put⟩ := m
    simp only at f1 f2 f3 f4 f5 f6 h2 h3
    obtain ⟨a, rfl⟩ := Int.eq_ofNat_of_zero_le f1
    obtain ⟨c, rfl⟩ := Int.eq_ofNat_of_zero_le f3
    have hpa : p ≤ a := by omega
    have := ih (a + c) ((a : Int) + (c : Int)) (by omega) (by omega) (.inl (by omega)) (by omega) h3
    obtain ⟨g1, g2, g3, g4, g5⟩ := this
    simp only [gapsFrom, Int.toNat_natCast]
    refine ⟨?_, ?_, ?_, ?_, ?_⟩
    · simp only [abs]
      rw [show p + (a - p) = a by omega, g1]
    · simp only [Fits]
      refine ⟨by omega, ?_⟩
      rw [show n - p - (a - p + c) = n - (a + c) by omega]
      exact g2
    · intro g hg
      rcases List.mem_cons.1 hg with rfl | hg
      · exact ⟨by unfold Some1; simp only; omega, f5⟩
      · exact g3 g hg
    · intro hpe2 g hg
      rcases List.mem_cons.1 hg with rfl | hg
      · simp only; omega
      · exact g4 (by omega) g hg
    · exact fun g hg => g4 (by omega) g hg
theorem chk_of_gaps (n : Nat) (gs : List (Gap α)) : ∀ (p : Nat) (e : Int), p ≤ n → Fits (n - p) gs → (∀ g ∈ gs, OkG ok g) → (∀ g ∈ gs, 1 ≤ g.gap) ∨ e < p ∧ Parted gs → e ≤ p → chk ok n e (abs p gs) = true := by
  induction gs with
  | nil => intro p e _ _ _ _ _; rfl
  | cons g gs ih =>
    intro p e hp hf ho hg he
    obtain ⟨f1, f2⟩ := hf
    have hog := ho g (by simp)
    have hs := hog.1
    unfold Some1 at hs
    have h3 := ih (p + g.gap + g.cut) (((p + g.gap : Nat) : Int) + (g.cut : Int)) (by omega) (by rw [show n - (p + g.gap + g.cut) = n - p - (g.gap + g.cut) by omega]; exact f2) (fun h hh => ho h (by simp [hh])) (by
      rcases hg with hg | ⟨_, hg⟩
      · exact .inl fun h hh => hg h (by simp [hh])
      · exact .inl hg) (by omega)
    simp only [abs, chk, Bool.and_eq_true, decide_eq_true_eq]
    refine ⟨⟨fit_mk ok ?_ ?_ ?_ ?_ hog.2 ?_, ?_⟩, h3⟩
    · simp only; omega
    · simp only; omega
    · simp only; omega
    · simp only; omega
    · simp only; omega
    · rcases hg with hg | ⟨hg, _⟩
      · have := hg g (by simp); omega
      · omega
theorem grow_abs (gs : List (Gap α)) : ∀ p, grow (abs p gs) = (putG gs : Int) - cutG gs := by
  induction gs with
  | nil => intro p; rfl
  | cons g gs ih =>
    intro p
    simp only [abs, grow, ih, putG, cutG]
    omega
theorem abs_len (gs : List (Gap α)) : ∀ p, (abs p gs).length = gs.length := by
  induction gs with
  | nil => intro p; rfl
  | cons g gs ih => intro p; simp [abs, ih]
/-- what valid marks are -/
structure Good (ws : List α) (gs : List (Gap α)) : Prop where
  words : speech ok ws = true
  fits : Fits ws.length gs
  each : ∀ g ∈ gs, OkG ok g
  parted : Parted gs
  long : (doG ws gs).length ≤ 20
theorem good_of_valid {ws : List α} {ms : List (Mark α)} (h : validM ok ws ms = true) : abs 0 (gapsFrom 0 ms) = ms ∧ Good ok ws (gapsFrom 0 ms) := by
  obtain ⟨h1, h2, h3, h4⟩ := valid_parts ok h
  obtain ⟨g1, g2, g3, _, g5⟩ := gaps_of_chk ok ws.length ms 0 (-1) (Nat.zero_le _) (by omega) (.inr ⟨rfl, rfl⟩) (by omega) h3
  rw [Nat.sub_zero] at g2
  refine ⟨g1, h1, g2, g3, g5, ?_⟩
  have hl := doG_len (gapsFrom 0 ms) ws g2
  have hg := grow_abs (gapsFrom 0 ms) 0
  rw [g1] at hg
  omega
/-- so many marks need so many words -/
theorem count_gaps (gs : List (Gap α)) : ∀ n, Fits n gs → (∀ g ∈ gs, OkG ok g) → (∀ g ∈ gs, 1 ≤ g.gap) → gs.length + cutG gs ≤ n ∧ gs.length ≤ cutG gs + putG gs := by
  induction gs with
  | nil => intro n _ _ _; simp [cutG, putG]
  | cons g gs ih =>
    intro n hf ho hg
    obtain ⟨f1, f2⟩ := hf
    have := ih _ f2 (fun h hh => ho h (by simp [hh])) (fun h hh => hg h (by simp [hh]))
    have h1 := hg g (by simp)
    have h2 := (ho g (by simp)).1
    unfold Some1 at h2
    simp only [List.length_cons, cutG, putG]
    omega
theorem good_count {ws : List α} {gs : List (Gap α)} (h : Good ok ws gs) : gs.length ≤ 20 := by
  have hl := doG_len gs ws h.fits
  have h20 := h.long
  have hw := (speech_parts ok h.words).1
  cases gs with
  | nil => simp
  | cons g gs =>
    obtain ⟨f1, f2⟩ := h.fits
    have h1 := count_gaps ok gs _ f2 (fun x hx => h.each x (by simp [hx])) h.parted
    have h2 := (h.each g (by simp)).1
    unfold Some1 at h2
    simp only [List.length_cons, cutG, putG] at hl ⊢
    omega
theorem valid_of_good {ws : List α} {gs : List (Gap α)} (h : Good ok ws gs) : validM ok ws (abs 0 gs) = true := by
  refine valid_mk ok h.words (by rw [abs_len]; exact good_count ok h) ?_ ?_
  · exact chk_of_gaps ok ws.length gs 0 (-1) (Nat.zero_le _) (by rw [Nat.sub_zero]; exact h.fits) h.each (.inr ⟨by omega, h.parted⟩) (by omega)
  · have hl := doG_len gs ws h.fits
    have := h.long
    rw [grow_abs]
    omega
/-- the words behind valid marks are a speech -/
theorem do_words (gs : List (Gap α)) : ∀ ws : List α, (∀ x ∈ ws, ok x = true) → (∀ g ∈ gs, OkG ok g) → ∀ x ∈ doG ws gs, ok x = true := by
  induction gs with
  | nil => intro ws hw _ x hx; exact hw x hx
  | cons g gs ih =>
    intro ws hw ho x hx
    simp only [doG, List.mem_append] at hx
    rcases hx with (hx | hx) | hx
    · exact hw x (List.mem_of_mem_take hx)
    · exact (speech_parts ok (ho g (by simp)).2).2 x hx
    · exact ih _ (fun y hy => hw y (List.mem_of_mem_drop hy)) (fun h hh => ho h (by simp [hh])) x hx
theorem good_after {ws : List α} {gs : List (Gap α)} (h : Good ok ws gs) : speech ok (doG ws gs) = true :=
  speech_mk ok h.long (do_words ok gs ws (speech_parts ok h.words).2 h.each)
theorem back_each (gs : List (Gap α)) : ∀ ws : List α, ws.length ≤ 20 → (∀ x ∈ ws, ok x = true) → Fits ws.length gs → (∀ g ∈ gs, OkG ok g) → ∀ g ∈ backG ws gs, OkG ok g := by
  induction gs with
  | nil => intro ws _ _ _ _ g hg; simp [backG] at hg
  | cons g gs ih =>
    intro ws hl hw hf ho h hh
    obtain ⟨f1, f2⟩ := hf
    simp only [backG] at hh
    rcases List.mem_cons.1 hh with rfl | hh
    · have h1 := (ho g (by simp)).1
      unfold Some1 at h1
      refine ⟨?_, speech_mk ok ?_ fun x hx => hw x (List.mem_of_mem_drop (List.mem_of_mem_take hx))⟩
      · unfold Some1
        simp only [List.length_take, List.length_drop]
        omega
      · rw [List.length_take, List.length_drop]; omega
    · exact ih _ (by rw [List.length_drop]; omega) (fun y hy => hw y (List.mem_of_mem_drop hy)) (by rw [List.length_drop]; exact f2) (fun x hx => ho x (by simp [hx])) h hh
theorem back_gaps (gs : List (Gap α)) : ∀ ws : List α, (∀ g ∈ gs, 1 ≤ g.gap) → ∀ g ∈ backG ws gs, 1 ≤ g.gap := by
  induction gs with
  | nil => intro ws _ g hg; simp [backG] at hg
  | cons g gs ih =>
    intro ws hg h hh
    simp only [backG] at hh
    rcases List.mem_cons.1 hh with rfl | hh
    · exact hg g (by simp)
    · exact ih _ (fun x hx => hg x (by simp [hx])) h hh
theorem back_parted (gs : List (Gap α)) (ws : List α) (h : Parted gs) : Parted (backG ws gs) := by
  cases gs with
  | nil => trivial
  | cons g gs => exact back_gaps gs _ h
/-- the way back of valid marks is valid -/
theorem good_back {ws : List α} {gs : List (Gap α)} (h : Good ok ws gs) : Good ok (doG ws gs) (backG ws gs) := by
  have hw := speech_parts ok h.words
  refine ⟨good_after ok h, back_fits gs ws h.fits, back_each ok gs ws hw.1 hw.2 h.fits h.each, back_parted gs ws h.parted, ?_⟩
  rw [do_back gs ws h.fits]
  exact hw.1
/-- made marks are valid -/
theorem path_puts [DecidableEq α] (n : Nat) : ∀ (a b : List α), a.length + b.length ≤ n → ∀ y, some (some y) ∈ path a b → y ∈ b := by
  induction n with
  | zero =>
    intro a b h y hy
    obtain rfl : a = [] := List.eq_nil_of_length_eq_zero (by omega)
    obtain rfl : b = [] := List.eq_nil_of_length_eq_zero (by omega)
    rw [path_nil] at hy
    simp at hy
  | succ n ih =>
    intro a b h y hy
    cases a with
    | nil =>
      cases b with
      | nil => rw [path_nil] at hy; simp at hy
      | cons z b =>
        simp only [List.length_cons, List.length_nil] at h
        rw [path_put] at hy
        rcases List.mem_cons.1 hy with e | hy
        · injection e with e; injection e with e; rw [e]; simp
        · exact List.mem_cons_of_mem _ (ih [] b (by simp; omega) y hy)
    | cons x a =>
      cases b with
      | nil =>
        simp only [List.length_cons, List.length_nil] at h
        rw [path_cut] at hy
        rcases List.mem_cons.1 hy with e | hy
        · injection e with e; cases e
        · exact ih a [] (by simp; omega) y hy
      | cons z b =>
        simp only [List.length_cons] at h
        by_cases e : x = z
        · subst e
          rw [path_keep] at hy
          rcases List.mem_cons.1 hy with e | hy
          · cases e
          · exact List.mem_cons_of_mem _ (ih a b (by omega) y hy)
        · rw [path_ne e] at hy
          split at hy
          · rcases List.mem_cons.1 hy with e | hy
            · injection e with e; cases e
            · exact ih a (z :: b) (by simp; omega) y hy
          · rcases List.mem_cons.1 hy with e | hy
            · injection e with e; injection e with e; rw [e]; simp
            · exact List.mem_cons_of_mem _ (ih (x :: a) b (by simp; omega) y hy)
theorem gapsOf_puts (s : List (Step α)) : ∀ g c (p : List α) (P : α → Prop), (∀ x ∈ p, P x) → (∀ y, some (some y) ∈ s → P y) → ∀ m ∈ gapsOf g c p s, ∀ x ∈ m.put, P x := by
  induction s with
  | nil =>
    intro g c p P hp _ m hm
    simp only [gapsOf] at hm
    split at hm
    · rw [List.mem_singleton.1 hm]; exact hp
    · simp at hm
  | cons t s ih =>
    intro g c p P hp hs m hm
    have hs' : ∀ y, some (some y) ∈ s → P y := fun y hy => hs y (List.mem_cons_of_mem _ hy)
    match t with
    | none =>
      simp only [gapsOf] at hm
      split at hm
      · rcases List.mem_cons.1 hm with rfl | hm
        · exact hp
        · exact ih _ _ _ P (fun x hx => by simp at hx) hs' m hm
      · exact ih _ _ _ P (fun x hx => by simp at hx) hs' m hm
    | some none => exact ih _ _ _ P hp hs' m hm
    | some (some y) =>
      refine ih _ _ _ P (fun x hx => ?_) hs' m hm
      rcases List.mem_append.1 hx with hx | hx
      · exact hp x hx
      · rw [List.mem_singleton.1 hx]; exact hs y (by simp)
theorem putG_le (gs : List (Gap α)) : ∀ g ∈ gs, g.put.length ≤ putG gs := by
  induction gs with
  | nil => intro g hg; simp at hg
  | cons h gs ih =>
    intro g hg
    simp only [putG]
    rcases List.mem_cons.1 hg with rfl | hg
    · omega
    · have := ih g hg; omega
theorem do_puts (gs : List (Gap α)) : ∀ ws : List α, Fits ws.length gs → putG gs ≤ (doG ws gs).length := by
  intro ws h
  have h1 := doG_len gs ws h
  have h2 := cut_le gs _ h
  omega
theorem good_made [DecidableEq α] {a b : List α} (ha : speech ok a = true) (hb : speech ok b = true) : Good ok a (made a b) := by
  have h1 := made_fits a b
  have h2 := made_do a b
  have hbp := speech_parts ok hb
  have h3 := do_puts (made a b) a h1
  rw [h2] at h3
  refine ⟨ha, h1, fun g hg => ⟨made_some a b g hg, speech_mk ok ?_ ?_⟩, made_parted a b, by rw [h2]; exact hbp.1⟩
  · have := putG_le (made a b) g hg
    omega
  · exact gapsOf_puts (path a b) 0 0 [] (fun x => ok x = true) (fun x hx => by simp at hx) (fun y hy => hbp.2 y (path_puts _ a b (Nat.le_refl _) y hy)) g hg
end Mk
end Go.Proofs.YtjhlcgjhdiheaaaDoor

/- Where a word stands behind marks, in plain Lean. -/
namespace Go.Proofs.YtjhlcgjhdiheaaaDoor
namespace Mk
variable {α : Type}

/-- the index of a word behind gaps, if it stays -/
def shiftG : Nat → List (Gap α) → Option Nat
  | i, [] => some i
  | i, g :: gs => if i < g.gap then some i else if i < g.gap + g.cut then none else (shiftG (i - (g.gap + g.cut)) gs).map (· + (g.gap + g.put.length))
def inCut (i : Int) : List (Mark α) → Bool
  | [] => false
  | m :: ms => (decide (m.at_ ≤ i) && decide (i < m.at_ + m.cut)) || inCut i ms
def moved (i : Int) : List (Mark α) → Int
  | [] => 0
  | m :: ms => (if m.at_ + m.cut ≤ i then (m.put.length : Int) - m.cut else 0) + moved i ms
theorem far_marks (gs : List (Gap α)) : ∀ (p : Nat) (i : Int), i < p → inCut i (abs p gs) = false ∧ moved i (abs p gs) = 0 := by
  induction gs with
  | nil => intro p i _; exact ⟨rfl, rfl⟩
  | cons g gs ih =>
    intro p i h
    have := ih (p + g.gap + g.cut) i (by omega)
    simp only [abs, inCut, moved, this]
    rw [if_neg (by omega)]
    simp
    omega
theorem shift_abs (gs : List (Gap α)) : ∀ (p i : Nat), (shiftG i gs = none ∧ inCut ((p + i : Nat) : Int) (abs p gs) = true) ∨ (∃ out, shiftG i gs = some out ∧ inCut ((p + i : Nat) : Int) (abs p gs) = false ∧ (out : Int) = i + moved ((p + i : Nat) : Int) (abs p gs)) := by
  induction gs with
  | nil => intro p i; exact .inr ⟨i, rfl, rfl, by simp [abs, moved]⟩
  | cons g gs ih =>
    intro p i
    simp only [shiftG, abs, inCut, moved]
    by_cases h1 : i < g.gap
    · rw [if_pos h1, if_neg (by omega)]
      have := far_marks gs (p + g.gap + g.cut) ((p + i : Nat) : Int) (by omega)
      rw [this.1, this.2]
      refine .inr ⟨i, rfl, ?_, by omega⟩
      simp
      omega
    · rw [if_neg h1]
      by_cases h2 : i < g.gap + g.cut
      · rw [if_pos h2]
        refine .inl ⟨rfl, ?_⟩
        simp
        omega
      · rw [if_neg h2, if_pos (by omega)]
        have := ih (p + g.gap + g.cut) (i - (g.gap + g.cut))
        rw [show p + g.gap + g.cut + (i - (g.gap + g.cut)) = p + i by omega] at this
        rcases this with ⟨h3, h4⟩ | ⟨out, h3, h4, h5⟩
        · rw [h3, h4]
          exact .inl ⟨rfl, by simp⟩
        · rw [h3, h4]
          refine .inr ⟨out + (g.gap + g.put.length), rfl, ?_, by omega⟩
          simp
          omega
theorem shift_do (gs : List (Gap α)) : ∀ (ws : List α) (i out : Nat), Fits ws.length gs → i < ws.length → shiftG i gs = some out → (doG ws gs)[out]? = ws[i]? := by
  induction gs with
  | nil =>
    intro ws i out _ _ h
    simp only [shiftG, Option.some.injEq] at h
    subst h
    rfl
  | cons g gs ih =>
    intro ws i out hf hi h
    obtain ⟨f1, f2⟩ := hf
    have hl : (ws.take g.gap).length = g.gap := by rw [List.length_take]; omega
    simp only [shiftG] at h
    simp only [doG]
    by_cases h1 : i < g.gap
    · rw [if_pos h1] at h
      injection h with h
      subst h
      rw [List.append_assoc, List.getElem?_append_left (by omega), List.getElem?_take_of_lt h1]
    · rw [if_neg h1] at h
      by_cases h2 : i < g.gap + g.cut
      · rw [if_pos h2] at h; cases h
      · rw [if_neg h2] at h
        cases h3 : shiftG (i - (g.gap + g.cut)) gs with
        | none => rw [h3] at h; cases h
        | some o =>
          rw [h3] at h
          simp only [Option.map_some, Option.some.injEq] at h
          subst h
          have := ih (ws.drop (g.gap + g.cut)) (i - (g.gap + g.cut)) o (by rw [List.length_drop]; exact f2) (by rw [List.length_drop]; omega) h3
          rw [List.getElem?_append_right (by rw [List.length_append, hl]; omega), List.length_append, hl, show o + (g.gap + g.put.length) - (g.gap + g.put.length) = o by omega, this, List.getElem?_drop]
          congr 1
          omega
theorem shift_back (gs : List (Gap α)) : ∀ (ws : List α) (i out : Nat), Fits ws.length gs → i < ws.length → shiftG i gs = some out → shiftG out (backG ws gs) = some i := by
  induction gs with
  | nil =>
    intro ws i out _ _ h
    simp only [shiftG, Option.some.injEq] at h
    subst h
    rfl
  | cons g gs ih =>
    intro ws i out hf hi h
    obtain ⟨f1, f2⟩ := hf
    have e4 : ((ws.drop g.gap).take g.cut).length = g.cut := by rw [List.length_take, List.length_drop]; omega
    simp only [shiftG] at h
    simp only [backG, shiftG, e4]
    by_cases h1 : i < g.gap
    · rw [if_pos h1] at h
      injection h with h
      subst h
      rw [if_pos h1]
    · rw [if_neg h1] at h
      by_cases h2 : i < g.gap + g.cut
      · rw [if_pos h2] at h; cases h
      · rw [if_neg h2] at h
        cases h3 : shiftG (i - (g.gap + g.cut)) gs with
        | none => rw [h3] at h; cases h
        | some o =>
          rw [h3] at h
          simp only [Option.map_some, Option.some.injEq] at h
          subst h
          have := ih (ws.drop (g.gap + g.cut)) (i - (g.gap + g.cut)) o (by rw [List.length_drop]; exact f2) (by rw [List.length_drop]; omega) h3
          rw [if_neg (by omega), if_neg (by omega), show o + (g.gap + g.put.length) - (g.gap + g.put.length) = o by omega, this]
          simp only [Option.map_some, Option.some.injEq]
          omega
theorem shift_mono (gs : List (Gap α)) : ∀ (i x y : Nat), shiftG i gs = some x → shiftG (i + 1) gs = some y → x < y := by
  induction gs with
  | nil =>
    intro i x y hx hy
    simp only [shiftG, Option.some.injEq] at hx hy
    omega
  | cons g gs ih =>
    intro i x y hx hy
    simp only [shiftG] at hx hy
    by_cases h1 : i < g.gap
    · rw [if_pos h1] at hx
      injection hx with hx
      by_cases h2 : i + 1 < g.gap
      · rw [if_pos h2] at hy
        injection hy with hy
        omega
      · rw [if_neg h2] at hy
        by_cases h3 : i + 1 < g.gap + g.cut
        · rw [if_pos h3] at hy; cases hy
        · rw [if_neg h3] at hy
          cases h4 : shiftG (i + 1 - (g.gap + g.cut)) gs with
          | none => rw [h4] at hy; cases hy
          | some o =>
            rw [h4] at hy
            simp only [Option.map_some, Option.some.injEq] at hy
            omega
    · rw [if_neg h1] at hx
      rw [if_neg (by omega)] at hy
      by_cases h2 : i < g.gap + g.cut
      · rw [if_pos h2] at hx; cases hx
      · rw [if_neg h2] at hx
        rw [if_neg (by omega)] at hy
        cases h3 : shiftG (i - (g.gap + g.cut)) gs with
        | none => rw [h3] at hx; cases hx
        | some o =>
          rw [h3] at hx
          rw [show i + 1 - (g.gap + g.cut) = i - (g.gap + g.cut) + 1 by omega] at hy
          cases h4 : shiftG (i - (g.gap + g.cut) + 1) gs with
          | none => rw [h4] at hy; cases hy
          | some q =>
            rw [h4] at hy
            simp only [Option.map_some, Option.some.injEq] at hx hy
            have := ih _ _ _ h3 h4
            omega
end Mk
end Go.Proofs.YtjhlcgjhdiheaaaDoor

/- Marks of two lists together, in plain Lean: clashes, unions, their order. -/
namespace Go.Proofs.YtjhlcgjhdiheaaaDoor
namespace Mk
variable {α : Type}

def sameM [DecidableEq α] (a b : Mark α) : Bool := decide (a.at_ = b.at_) && decide (a.cut = b.cut) && decide (a.put = b.put)
theorem sameM_iff [DecidableEq α] (a b : Mark α) : sameM a b = true ↔ a = b := by
  cases a; cases b
  simp [sameM, and_assoc]
theorem sameM_false [DecidableEq α] {a b : Mark α} (h : a ≠ b) : sameM a b = false := by
  rw [Bool.eq_false_iff]
  exact fun e => h ((sameM_iff a b).1 e)
theorem sameM_self [DecidableEq α] (a : Mark α) : sameM a a = true := (sameM_iff a a).2 rfl
theorem sameM_symm [DecidableEq α] (a b : Mark α) : sameM a b = sameM b a := by
  rw [Bool.eq_iff_iff, sameM_iff, sameM_iff]
  exact ⟨Eq.symm, Eq.symm⟩
def touch (a b : Mark α) : Bool := decide (a.at_ ≤ b.at_ + b.cut) && decide (b.at_ ≤ a.at_ + a.cut)
theorem touch_symm (a b : Mark α) : touch a b = touch b a := by unfold touch; rw [Bool.and_comm]
def clash1 [DecidableEq α] (a b : Mark α) : Bool := !sameM a b && touch a b
theorem clash1_symm [DecidableEq α] (a b : Mark α) : clash1 a b = clash1 b a := by unfold clash1; rw [sameM_symm, touch_symm]
def clashL [DecidableEq α] (as bs : List (Mark α)) : Bool := as.any fun a => bs.any fun b => clash1 a b
theorem clashL_iff [DecidableEq α] (as bs : List (Mark α)) : clashL as bs = true ↔ ∃ a ∈ as, ∃ b ∈ bs, clash1 a b = true := by
  simp [clashL, List.any_eq_true]
theorem clashL_false [DecidableEq α] {as bs : List (Mark α)} (h : clashL as bs = false) : ∀ a ∈ as, ∀ b ∈ bs, a = b ∨ a.at_ + a.cut < b.at_ ∨ b.at_ + b.cut < a.at_ := by
  intro a ha b hb
  by_cases e : a = b
  · exact .inl e
  · refine .inr ?_
    have h1 : ¬ clash1 a b = true := fun h2 => by
      have := (clashL_iff as bs).2 ⟨a, ha, b, hb, h2⟩
      rw [h] at this
      cases this
    simp only [clash1, sameM_false e, Bool.not_false, Bool.true_and, touch, Bool.and_eq_true, decide_eq_true_eq] at h1
    omega
theorem clashL_symm [DecidableEq α] (as bs : List (Mark α)) : clashL as bs = clashL bs as := by
  rw [Bool.eq_iff_iff, clashL_iff, clashL_iff]
  constructor
  · rintro ⟨a, ha, b, hb, h⟩; exact ⟨b, hb, a, ha, by rw [clash1_symm]; exact h⟩
  · rintro ⟨b, hb, a, ha, h⟩; exact ⟨a, ha, b, hb, by rw [clash1_symm]; exact h⟩

/-- each mark ends ahead of the next ones -/
def Asc (ms : List (Mark α)) : Prop := ms.Pairwise fun a b => a.at_ + a.cut < b.at_
def Pos (ms : List (Mark α)) : Prop := ∀ m ∈ ms, 0 ≤ m.cut
theorem chk_asc (ok : α → Bool) (n : Nat) (ms : List (Mark α)) : ∀ e : Int, chk ok n e ms = true → Asc ms ∧ Pos ms ∧ (∀ m ∈ ms, fitM ok n m = true ∧ e < m.at_) := by
  induction ms with
  | nil => intro e _; exact ⟨List.Pairwise.nil, fun m hm => by simp at hm, fun m hm => by simp at hm⟩
  | cons m ms ih =>
    intro e h
    obtain ⟨h1, h2, h3⟩ := chk_cons ok h
    obtain ⟨i1, i2, i3⟩ := ih _ h3
    have f := fit_parts ok h1
    refine ⟨List.Pairwise.cons (fun b hb => (i3 b hb).2) i1, fun x hx => ?_, fun x hx => ?_⟩
    · rcases List.mem_cons.1 hx with rfl | hx
      · exact f.2.2.1
      · exact i2 x hx
    · rcases List.mem_cons.1 hx with rfl | hx
      · exact ⟨h1, h2⟩
      · exact ⟨(i3 x hx).1, by have := (i3 x hx).2; omega⟩
theorem asc_chk (ok : α → Bool) (n : Nat) (ms : List (Mark α)) : ∀ e : Int, Asc ms → (∀ m ∈ ms, fitM ok n m = true ∧ e < m.at_) → chk ok n e ms = true := by
  induction ms with
  | nil => intro e _ _; rfl
  | cons m ms ih =>
    intro e ha hf
    have h1 := hf m (by simp)
    have h2 := List.pairwise_cons.1 ha
    simp only [chk, Bool.and_eq_true, decide_eq_true_eq]
    exact ⟨⟨h1.1, h1.2⟩, ih _ h2.2 (fun x hx => ⟨(hf x (by simp [hx])).1, h2.1 x hx⟩)⟩
/-- two ascending lists with the same marks are equal -/
theorem asc_unique (as : List (Mark α)) : ∀ bs : List (Mark α), Asc as → Asc bs → Pos as → Pos bs → (∀ m, m ∈ as ↔ m ∈ bs) → as = bs := by
  induction as with
  | nil =>
    intro bs _ _ _ _ h
    cases bs with
    | nil => rfl
    | cons b bs => have := (h b).2 (by simp); simp at this
  | cons a as ih =>
    intro bs ha hb pa pb h
    cases bs with
    | nil => have := (h a).1 (by simp); simp at this
    | cons b bs =>
      have a1 := List.pairwise_cons.1 ha
      have b1 := List.pairwise_cons.1 hb
      have ca := pa a (by simp)
      have cb := pb b (by simp)
      have e : a = b := by
        rcases List.mem_cons.1 ((h a).1 (by simp)) with e | e
        · exact e
        · rcases List.mem_cons.1 ((h b).2 (by simp)) with e2 | e2
          · exact e2.symm
          · have h1 := b1.1 a e
            have h2 := a1.1 b e2
            omega
      subst e
      have : as = bs := ih bs a1.2 b1.2 (fun m hm => pa m (by simp [hm])) (fun m hm => pb m (by simp [hm])) (fun m => by
        constructor
        · intro hm
          rcases List.mem_cons.1 ((h m).1 (by simp [hm])) with e | e
          · subst e; have := a1.1 m hm; omega
          · exact e
        · intro hm
          rcases List.mem_cons.1 ((h m).2 (by simp [hm])) with e | e
          · subst e; have := b1.1 m hm; omega
          · exact e)
      rw [this]
/-- the marks of both lists, the lesser index first -/
def merge [DecidableEq α] : List (Mark α) → List (Mark α) → List (Mark α)
  | [], bs => bs
  | a :: as, [] => a :: as
  | a :: as, b :: bs => if sameM a b = true then a :: merge as bs else if a.at_ < b.at_ then a :: merge as (b :: bs) else b :: merge (a :: as) bs
termination_by as bs => as.length + bs.length
theorem merge_nil [DecidableEq α] (bs : List (Mark α)) : merge [] bs = bs := by unfold merge; rfl
theorem merge_nil' [DecidableEq α] (as : List (Mark α)) : merge as [] = as := by cases as <;> unfold merge <;> rfl
theorem merge_cons [DecidableEq α] (a b : Mark α) (as bs : List (Mark α)) : merge (a :: as) (b :: bs) = if sameM a b = true then a :: merge as bs else if a.at_ < b.at_ then a :: merge as (b :: bs) else b :: merge (a :: as) bs := by
  conv => lhs; unfold merge
theorem merge_mem [DecidableEq α] (n : Nat) : ∀ (as bs : List (Mark α)), as.length + bs.length ≤ n → ∀ m, m ∈ merge as bs ↔ m ∈ as ∨ m ∈ bs := by
  induction n with
  | zero =>
    intro as bs h m
    obtain rfl : as = [] := List.eq_nil_of_length_eq_zero (by omega)
    obtain rfl : bs = [] := List.eq_nil_of_length_eq_zero (by omega)
    rw [merge_nil]; simp
  | succ n ih =>
    intro as bs h m
    cases as with
    | nil => rw [merge_nil]; simp
    | cons a as =>
      cases bs with
      | nil => rw [merge_nil']; simp
      | cons b bs =>
        simp only [List.length_cons] at h
        rw [merge_cons]
        split
        · rename_i e
          have e := (sameM_iff a b).1 e
          subst e
          have := ih as bs (by omega) m
          simp only [List.mem_cons, this]
          constructor
          · rintro (h | h | h)
            · exact .inl (.inl h)
            · exact .inl (.inr h)
            · exact .inr (.inr h)
          · rintro ((h | h) | (h | h))
            · exact .inl h
            · exact .inr (.inl h)
            · exact .inl h
            · exact .inr (.inr h)
        · split
          · have := ih as (b :: bs) (by simp; omega) m
            simp only [List.mem_cons] at this ⊢
            rw [this]
            constructor
            · rintro (h | h | h)
              · exact .inl (.inl h)
              · exact .inl (.inr h)
              · exact .inr h
            · rintro ((h | h) | h)
              · exact .inl h
              · exact .inr (.inl h)
              · exact .inr (.inr h)
          · have := ih (a :: as) bs (by simp; omega) m
            simp only [List.mem_cons] at this ⊢
            rw [this]
            constructor
            · rintro (h | h | h)
              · exact .inr (.inl h)
              · exact .inl h
              · exact .inr (.inr h)
            · rintro (h | h | h)
              · exact .inr (.inl h)
              · exact .inl h
              · exact .inr (.inr h)
theorem mem_merge [DecidableEq α] (as bs : List (Mark α)) (m : Mark α) : m ∈ merge as bs ↔ m ∈ as ∨ m ∈ bs := merge_mem _ as bs (Nat.le_refl _) m
theorem merge_asc [DecidableEq α] (n : Nat) : ∀ (as bs : List (Mark α)), as.length + bs.length ≤ n → Asc as → Asc bs → Pos as → Pos bs → (∀ a ∈ as, ∀ b ∈ bs, a = b ∨ a.at_ + a.cut < b.at_ ∨ b.at_ + b.cut < a.at_) → Asc (merge as bs) := by
  induction n with
  | zero =>
    intro as bs h _ _ _ _ _
    obtain rfl : as = [] := List.eq_nil_of_length_eq_zero (by omega)
    obtain rfl : bs = [] := List.eq_nil_of_length_eq_zero (by omega)
    rw [merge_nil]; exact List.Pairwise.nil
  | succ n ih =>
    intro as bs h ha hb pa pb hc
    cases as with
    | nil => rw [merge_nil]; exact hb
    | cons a as =>
      cases bs with
      | nil => rw [merge_nil']; exact ha
      | cons b bs =>
        simp only [List.length_cons] at h
        have a1 := List.pairwise_cons.1 ha
        have b1 := List.pairwise_cons.1 hb
        have ca := pa a (by simp)
        have cb := pb b (by simp)
        have pa' : Pos as := fun m hm => pa m (by simp [hm])
        have pb' : Pos bs := fun m hm => pb m (by simp [hm])
        rw [merge_cons]
        split
        · rename_i e
          have e := (sameM_iff a b).1 e
          subst e
          refine List.Pairwise.cons (fun m hm => ?_) (ih as bs (by omega) a1.2 b1.2 pa' pb' (fun x hx y hy => hc x (by simp [hx]) y (by simp [hy])))
          rcases (mem_merge as bs m).1 hm with h1 | h1
          · exact a1.1 m h1
          · exact b1.1 m h1
        · rename_i e
          have hab := hc a (by simp) b (by simp)
          have hne : a ≠ b := fun e2 => e ((sameM_iff a b).2 e2)
          split
          · rename_i hlt
            have hlt2 : a.at_ + a.cut < b.at_ := by
              rcases hab with h1 | h1 | h1
              · exact absurd h1 hne
              · exact h1
              · omega
            refine List.Pairwise.cons (fun m hm => ?_) (ih as (b :: bs) (by simp; omega) a1.2 hb pa' pb (fun x hx y hy => hc x (by simp [hx]) y hy))
            rcases (mem_merge as (b :: bs) m).1 hm with h1 | h1
            · exact a1.1 m h1
            · rcases List.mem_cons.1 h1 with rfl | h1
              · exact hlt2
              · have := b1.1 m h1; omega
          · rename_i hlt
            have hlt2 : b.at_ + b.cut < a.at_ := by
              rcases hab with h1 | h1 | h1
              · exact absurd h1 hne
              · omega
              · exact h1
            refine List.Pairwise.cons (fun m hm => ?_) (ih (a :: as) bs (by simp; omega) ha b1.2 pa pb' (fun x hx y hy => hc x hx y (by simp [hy])))
            rcases (mem_merge (a :: as) bs m).1 hm with h1 | h1
            · rcases List.mem_cons.1 h1 with rfl | h1
              · exact hlt2
              · have := a1.1 m h1; omega
            · exact b1.1 m h1
/-- what two valid lists that do not clash come to -/
theorem both_facts [DecidableEq α] (ok : α → Bool) {ws : List α} {as bs : List (Mark α)} (ha : validM ok ws as = true) (hb : validM ok ws bs = true) (hc : clashL as bs = false) :
    Asc (merge as bs) ∧ Pos (merge as bs) ∧ chk ok ws.length (-1) (merge as bs) = true := by
  obtain ⟨a1, a2, a3, a4⟩ := valid_parts ok ha
  obtain ⟨b1, b2, b3, b4⟩ := valid_parts ok hb
  obtain ⟨x1, x2, x3⟩ := chk_asc ok ws.length as (-1) a3
  obtain ⟨y1, y2, y3⟩ := chk_asc ok ws.length bs (-1) b3
  have h1 := merge_asc _ as bs (Nat.le_refl _) x1 y1 x2 y2 (clashL_false hc)
  refine ⟨h1, fun m hm => ?_, asc_chk ok _ _ _ h1 fun m hm => ?_⟩
  · rcases (mem_merge as bs m).1 hm with h | h
    · exact x2 m h
    · exact y2 m h
  · rcases (mem_merge as bs m).1 hm with h | h
    · exact x3 m h
    · exact y3 m h
theorem merge_comm [DecidableEq α] (ok : α → Bool) {ws : List α} {as bs : List (Mark α)} (ha : validM ok ws as = true) (hb : validM ok ws bs = true) (hc : clashL as bs = false) : merge bs as = merge as bs := by
  have h1 := both_facts ok ha hb hc
  have h2 := both_facts ok hb ha (by rw [clashL_symm]; exact hc)
  refine asc_unique _ _ h2.1 h1.1 h2.2.1 h1.2.1 fun m => ?_
  rw [mem_merge, mem_merge]
  exact ⟨Or.symm, Or.symm⟩
theorem merge_self [DecidableEq α] (ms : List (Mark α)) : merge ms ms = ms := by
  induction ms with
  | nil => exact merge_nil []
  | cons m ms ih => rw [merge_cons, if_pos (sameM_self m), ih]
theorem asc_get {ms : List (Mark α)} (h : Asc ms) : ∀ a ∈ ms, ∀ b ∈ ms, a = b ∨ a.at_ + a.cut < b.at_ ∨ b.at_ + b.cut < a.at_ := by
  induction ms with
  | nil => intro a ha; simp at ha
  | cons m ms ih =>
    have h1 := List.pairwise_cons.1 h
    intro a ha b hb
    rcases List.mem_cons.1 ha with e1 | ha' <;> rcases List.mem_cons.1 hb with e2 | hb'
    · exact .inl (e1.trans e2.symm)
    · rw [e1]; exact .inr (.inl (h1.1 b hb'))
    · rw [e2]; exact .inr (.inr (h1.1 a ha'))
    · exact ih h1.2 a ha' b hb'
theorem no_self_clash [DecidableEq α] {ms : List (Mark α)} (h : Asc ms) : clashL ms ms = false := by
  rw [Bool.eq_false_iff]
  intro hc
  obtain ⟨a, ha, b, hb, h1⟩ := (clashL_iff ms ms).1 hc
  simp only [clash1, touch, Bool.and_eq_true, Bool.not_eq_true', decide_eq_true_eq] at h1
  rcases asc_get h a ha b hb with e | e
  · rw [e, sameM_self] at h1; cases h1.1
  · omega
/-- equal marks once: the marks of the first list, then those of the second that are not there yet -/
def uniq [DecidableEq α] (as bs : List (Mark α)) : List (Mark α) := as ++ bs.filter fun b => !as.any (sameM b)
theorem any_same [DecidableEq α] (as : List (Mark α)) (b : Mark α) : as.any (sameM b) = true ↔ b ∈ as := by
  rw [List.any_eq_true]
  constructor
  · rintro ⟨x, hx, h⟩; rw [(sameM_iff b x).1 h]; exact hx
  · intro h; exact ⟨b, h, sameM_self b⟩
theorem mem_uniq [DecidableEq α] (as bs : List (Mark α)) (m : Mark α) : m ∈ uniq as bs ↔ m ∈ as ∨ m ∈ bs := by
  unfold uniq
  rw [List.mem_append, List.mem_filter]
  by_cases h : m ∈ as
  · simp [h]
  · have : as.any (sameM m) = false := by rw [Bool.eq_false_iff]; exact fun e => h ((any_same as m).1 e)
    simp [h, this]
theorem asc_distinct {ms : List (Mark α)} (h : Asc ms) (hp : Pos ms) : ms.Pairwise (· ≠ ·) := by
  induction ms with
  | nil => exact List.Pairwise.nil
  | cons m ms ih =>
    have h1 := List.pairwise_cons.1 h
    refine List.Pairwise.cons (fun b hb e => ?_) (ih h1.2 fun x hx => hp x (by simp [hx]))
    have := h1.1 b hb
    have := hp m (by simp)
    rw [← e] at *
    omega
theorem uniq_distinct [DecidableEq α] {as bs : List (Mark α)} (ha : as.Pairwise (· ≠ ·)) (hb : bs.Pairwise (· ≠ ·)) : (uniq as bs).Pairwise (· ≠ ·) := by
  unfold uniq
  rw [List.pairwise_append]
  refine ⟨ha, hb.filter _, fun a h1 b h2 e => ?_⟩
  rw [List.mem_filter] at h2
  have : as.any (sameM b) = true := (any_same as b).2 (e ▸ h1)
  rw [this] at h2
  simp at h2
/-- a list with the same marks, once each, sorted by their index, is the merged list -/
theorem sorted_is_merge [DecidableEq α] (ok : α → Bool) {ws : List α} {as bs s : List (Mark α)} (ha : validM ok ws as = true) (hb : validM ok ws bs = true) (hc : clashL as bs = false)
    (hm : ∀ m, m ∈ s ↔ m ∈ as ∨ m ∈ bs) (hd : s.Pairwise (· ≠ ·)) (hs : s.Pairwise fun a b => a.at_ ≤ b.at_) : s = merge as bs := by
  obtain ⟨h1, h2, h3⟩ := both_facts ok ha hb hc
  have hmem : ∀ m, m ∈ s ↔ m ∈ merge as bs := fun m => by rw [hm, mem_merge]
  have hasc : Asc s := by
    have : s.Pairwise fun a b => a ∈ s ∧ b ∈ s ∧ a ≠ b ∧ a.at_ ≤ b.at_ := by
      refine List.Pairwise.imp_of_mem (fun {a b} ha hb h => ⟨ha, hb, h.1, h.2⟩) (hd.and hs)
    refine this.imp fun {a b} h => ?_
    obtain ⟨ma, mb, hne, hle⟩ := h
    rcases asc_get h1 a ((hmem a).1 ma) b ((hmem b).1 mb) with e | e | e
    · exact absurd e hne
    · exact e
    · have := h2 b ((hmem b).1 mb); omega
  exact asc_unique s _ hasc h1 (fun m hm => h2 m ((hmem m).1 hm)) h2 hmem
theorem asc_len (ok : α → Bool) {n : Nat} {ms : List (Mark α)} (h : chk ok n (-1) ms = true) (hn : n ≤ 20) (hz : ms.length = 21) : ∀ m ∈ ms, m.cut = 0 := by
  obtain ⟨g1, g2, g3, _, g5⟩ := gaps_of_chk ok n ms 0 (-1) (Nat.zero_le _) (by omega) (.inr ⟨rfl, rfl⟩) (by omega) h
  rw [Nat.sub_zero] at g2
  have hl : (gapsFrom 0 ms).length = 21 := by
    have := abs_len (gapsFrom 0 ms) 0
    rw [g1] at this
    omega
  have hcut : cutG (gapsFrom 0 ms) = 0 := by
    cases hg : gapsFrom 0 ms with
    | nil => rfl
    | cons g gs =>
      rw [hg] at g2 g3 g5 hl
      have h1 := count_gaps ok gs _ g2.2 (fun x hx => g3 x (by simp [hx])) g5
      have := g2.1
      simp only [List.length_cons] at hl
      simp only [cutG]
      omega
  intro m hm
  rw [← g1] at hm
  have : ∀ (gs : List (Gap α)) (p : Nat), cutG gs = 0 → ∀ m ∈ abs p gs, m.cut = 0 := by
    intro gs
    induction gs with
    | nil => intro p _ m hm; simp [abs] at hm
    | cons g gs ih =>
      intro p hc m hm
      simp only [cutG] at hc
      simp only [abs] at hm
      rcases List.mem_cons.1 hm with rfl | hm
      · simp only; omega
      · exact ih _ (by omega) m hm
  exact this _ 0 hcut m hm
theorem no_cut_nil (ok : α → Bool) {ws : List α} {ms : List (Mark α)} (h : validM ok ws ms = true) (hn : ws.length = 20) (hz : ∀ m ∈ ms, m.cut = 0) : ms = [] := by
  obtain ⟨_, _, h3, h4⟩ := valid_parts ok h
  have : ∀ (ms : List (Mark α)), (∀ m ∈ ms, m.cut = 0) → (∀ m ∈ ms, fitM ok ws.length m = true) → grow ms ≤ 0 → ms = [] := by
    intro ms
    cases ms with
    | nil => intro _ _ _; rfl
    | cons m ms =>
      intro hz hf hg
      have f := fit_parts ok (hf m (by simp))
      have hzm := hz m (by simp)
      have : ∀ (l : List (Mark α)), (∀ m ∈ l, m.cut = 0) → 0 ≤ grow l := by
        intro l
        induction l with
        | nil => intro _; exact Int.le_refl 0
        | cons x l ih =>
          intro hx
          have := ih fun y hy => hx y (by simp [hy])
          have := hx x (by simp)
          simp only [grow]
          omega
      have := this ms fun y hy => hz y (by simp [hy])
      simp only [grow] at hg
      omega
  exact this ms hz (fun m hm => ((chk_asc ok ws.length ms (-1) h3).2.2 m hm).1) (by omega)
/-- at most twenty marks come together -/
theorem both_count [DecidableEq α] (ok : α → Bool) {ws : List α} {as bs : List (Mark α)} (ha : validM ok ws as = true) (hb : validM ok ws bs = true) (hc : clashL as bs = false) : (merge as bs).length ≤ 20 := by
  have h1 := (both_facts ok ha hb hc).2.2
  have hw := (speech_parts ok (valid_parts ok ha).1).1
  obtain ⟨g1, g2, g3, _, g5⟩ := gaps_of_chk ok ws.length (merge as bs) 0 (-1) (Nat.zero_le _) (by omega) (.inr ⟨rfl, rfl⟩) (by omega) h1
  rw [Nat.sub_zero] at g2
  have hl : (gapsFrom 0 (merge as bs)).length = (merge as bs).length := by
    have := abs_len (gapsFrom 0 (merge as bs)) 0
    rw [g1] at this
    omega
  have h21 : (merge as bs).length ≤ ws.length + 1 := by
    cases hg : gapsFrom 0 (merge as bs) with
    | nil => rw [hg] at hl; simp at hl; omega
    | cons g gs =>
      rw [hg] at g2 g3 g5 hl
      have h1 := count_gaps ok gs _ g2.2 (fun x hx => g3 x (by simp [hx])) g5
      have := g2.1
      simp only [List.length_cons] at hl
      omega
  by_cases e : (merge as bs).length = 21
  · have hz := asc_len ok h1 hw e
    have ea := no_cut_nil ok ha (by omega) (fun m hm => hz m ((mem_merge as bs m).2 (.inl hm)))
    have eb := no_cut_nil ok hb (by omega) (fun m hm => hz m ((mem_merge as bs m).2 (.inr hm)))
    rw [ea, eb, merge_nil] at e
    simp at e
  · omega
end Mk
end Go.Proofs.YtjhlcgjhdiheaaaDoor

/- Votes in plain Lean: each word of at least two of three lists. -/
namespace Go.Proofs.YtjhlcgjhdiheaaaDoor
namespace Mk
variable {α : Type}

theorem drop_at {xs : List α} {k : Nat} {x : α} (h : xs[k]? = some x) : xs.drop k = x :: xs.drop (k + 1) := by
  obtain ⟨h1, h2⟩ := List.getElem?_eq_some_iff.1 h
  rw [← h2]
  exact List.drop_eq_getElem_cons h1
variable [DecidableEq α]

def vote1 (x y z : α) : Option α := if x = y ∨ x = z then some x else if y = z then some y else none
def vote : List α → List α → List α → Option (List α)
  | x :: a, y :: b, z :: c => match vote1 x y z with
    | none => none
    | some v => (vote a b c).map (v :: ·)
  | _, _, _ => some []

theorem vote_some {x y z v : α} (h : vote1 x y z = some v) (a b c : List α) : vote (x :: a) (y :: b) (z :: c) = (vote a b c).map (v :: ·) := by
  simp only [vote, h]
theorem vote_none {x y z : α} (h : vote1 x y z = none) (a b c : List α) : vote (x :: a) (y :: b) (z :: c) = none := by
  simp only [vote, h]
theorem vote_go {a b c out : List α} {k : Nat} {x y z v : α} (ha : a[k]? = some x) (hb : b[k]? = some y) (hc : c[k]? = some z)
    (h : vote a b c = (vote (a.drop k) (b.drop k) (c.drop k)).map (out ++ ·)) (hv : vote1 x y z = some v) :
    vote a b c = (vote (a.drop (k + 1)) (b.drop (k + 1)) (c.drop (k + 1))).map ((out ++ [v]) ++ ·) := by
  rw [h, drop_at ha, drop_at hb, drop_at hc, vote_some hv, Option.map_map]
  congr 1
  funext l
  simp
theorem vote_stop {a b c out : List α} {k : Nat} {x y z : α} (ha : a[k]? = some x) (hb : b[k]? = some y) (hc : c[k]? = some z)
    (h : vote a b c = (vote (a.drop k) (b.drop k) (c.drop k)).map (out ++ ·)) (hv : vote1 x y z = none) : vote a b c = none := by
  rw [h, drop_at ha, drop_at hb, drop_at hc, vote_none hv]; rfl
theorem vote_done {a b c out : List α} {k : Nat} (hk : a.length ≤ k) (h : vote a b c = (vote (a.drop k) (b.drop k) (c.drop k)).map (out ++ ·)) : vote a b c = some out := by
  rw [h, List.drop_of_length_le hk]
  simp [vote]
theorem vote1_rot (x y z : α) : vote1 y z x = vote1 x y z := by
  unfold vote1
  by_cases h1 : x = y <;> by_cases h2 : x = z <;> by_cases h3 : y = z <;> simp_all [eq_comm]
theorem vote1_swap (x y z : α) : vote1 y x z = vote1 x y z := by
  unfold vote1
  by_cases h1 : x = y <;> by_cases h2 : x = z <;> by_cases h3 : y = z <;> simp_all [eq_comm]
theorem vote_rot : ∀ a b c : List α, vote b c a = vote a b c
  | [], b, c => by cases b <;> cases c <;> simp [vote]
  | x :: a, [], c => by cases c <;> simp [vote]
  | x :: a, y :: b, [] => by simp [vote]
  | x :: a, y :: b, z :: c => by
    unfold vote
    rw [vote1_rot x y z, vote_rot a b c]
theorem vote_swap : ∀ a b c : List α, vote b a c = vote a b c
  | [], b, c => by cases b <;> cases c <;> simp [vote]
  | x :: a, [], c => by cases c <;> simp [vote]
  | x :: a, y :: b, [] => by simp [vote]
  | x :: a, y :: b, z :: c => by
    unfold vote
    rw [vote1_swap x y z, vote_swap a b c]
theorem vote1_same (x z : α) : vote1 x x z = some x := by unfold vote1; simp
theorem vote_same : ∀ a c : List α, a.length = c.length → vote a a c = some a
  | [], c, _ => by cases c <;> simp [vote]
  | x :: a, [], h => by simp at h
  | x :: a, z :: c, h => by
    rw [vote_some (vote1_same x z), vote_same a c (by simpa using h)]; rfl
theorem vote1_two {x y z v : α} (h : vote1 x y z = some v) : (x = v ∧ y = v) ∨ (x = v ∧ z = v) ∨ (y = v ∧ z = v) := by
  unfold vote1 at h
  by_cases h1 : x = y <;> by_cases h2 : x = z <;> by_cases h3 : y = z <;> simp_all
theorem vote_two : ∀ (a b c out : List α), a.length = b.length → a.length = c.length → vote a b c = some out → out.length = a.length ∧ ∀ (i : Nat) (v : α), out[i]? = some v → ∃ x y z : α, a[i]? = some x ∧ b[i]? = some y ∧ c[i]? = some z ∧ ((x = v ∧ y = v) ∨ (x = v ∧ z = v) ∨ (y = v ∧ z = v))
  | [], b, c, out, _, _, h => by
    cases b <;> cases c <;> simp [vote] at h <;> subst h <;> simp
  | x :: a, [], c, out, h1, _, h => by simp at h1
  | x :: a, y :: b, [], out, _, h2, h => by simp at h2
  | x :: a, y :: b, z :: c, out, h1, h2, h => by
    cases hv : vote1 x y z with
    | none => rw [vote_none hv] at h; cases h
    | some v =>
      rw [vote_some hv] at h
      cases hr : vote a b c with
      | none => rw [hr] at h; cases h
      | some r =>
        rw [hr] at h
        simp only [Option.map_some, Option.some.injEq] at h
        subst h
        have ih := vote_two a b c r (by simpa using h1) (by simpa using h2) hr
        refine ⟨by simp [ih.1], fun i w hw => ?_⟩
        cases i with
        | zero =>
          simp only [List.getElem?_cons_zero, Option.some.injEq] at hw
          subst hw
          exact ⟨x, y, z, rfl, rfl, rfl, vote1_two hv⟩
        | succ i =>
          simp only [List.getElem?_cons_succ] at hw ⊢
          exact ih.2 i w hw
end Mk
end Go.Proofs.YtjhlcgjhdiheaaaDoor

/- Marks as both programs run through them, mark by mark, in plain Lean. -/
namespace Go.Proofs.YtjhlcgjhdiheaaaDoor
namespace Mk
variable {α : Type}

theorem snoc_at {β : Type} {xs : List β} {k : Nat} {x : β} (h : xs[k]? = some x) : xs.take (k + 1) = xs.take k ++ [x] := by
  rw [List.take_add_one, h]; rfl
theorem take_all {β : Type} {xs : List β} {n : Nat} (h : xs.length = n) : xs.take n = xs := List.take_of_length_le (by omega)

/-- the end of the last mark -/
def lastEnd : Int → List (Mark α) → Int
  | e, [] => e
  | _, m :: ms => lastEnd (m.at_ + m.cut) ms
theorem lastEnd_snoc (xs : List (Mark α)) (m : Mark α) : ∀ e, lastEnd e (xs ++ [m]) = m.at_ + m.cut := by
  induction xs with
  | nil => intro e; rfl
  | cons x xs ih => intro e; exact ih _
theorem chk_append (ok : α → Bool) (n : Nat) (xs ys : List (Mark α)) : ∀ e, chk ok n e (xs ++ ys) = (chk ok n e xs && chk ok n (lastEnd e xs) ys) := by
  induction xs with
  | nil => intro e; simp [chk, lastEnd]
  | cons x xs ih => intro e; simp only [List.cons_append, chk, lastEnd, ih, Bool.and_assoc]
theorem chk_step (ok : α → Bool) {n : Nat} {e : Int} {ms : List (Mark α)} {k : Nat} {m : Mark α} (hm : ms[k]? = some m) (h : chk ok n e (ms.take k) = true) (h1 : fitM ok n m = true) (h2 : lastEnd e (ms.take k) < m.at_) : chk ok n e (ms.take (k + 1)) = true := by
  rw [snoc_at hm, chk_append, h]
  simp [chk, h1, h2]
theorem chk_stop (ok : α → Bool) {n : Nat} {e : Int} {ms : List (Mark α)} {k : Nat} {m : Mark α} (hm : ms[k]? = some m) (h : fitM ok n m = false ∨ ¬ lastEnd e (ms.take k) < m.at_) : chk ok n e ms = false := by
  have : ms = ms.take k ++ m :: ms.drop (k + 1) := by rw [← drop_at hm, List.take_append_drop]
  rw [this, chk_append]
  rcases h with h | h
  · simp [chk, h]
  · have h2 : decide (lastEnd e (ms.take k) < m.at_) = false := decide_eq_false h
    simp only [chk, h2, Bool.and_false, Bool.false_and]
theorem fit_no_at (ok : α → Bool) {n : Nat} {m : Mark α} (h : m.at_ < 0 ∨ (n : Int) < m.at_ ∨ m.cut < 0 ∨ (n : Int) - m.at_ < m.cut) : fitM ok n m = false := by
  cases hf : fitM ok n m with
  | false => rfl
  | true => have := fit_parts ok hf; omega
theorem fit_no_some (ok : α → Bool) {n : Nat} {m : Mark α} (h : m.cut = 0 ∧ m.put.length = 0) : fitM ok n m = false := by
  cases hf : fitM ok n m with
  | false => rfl
  | true => have := fit_parts ok hf; omega
theorem fit_no_put (ok : α → Bool) {n : Nat} {m : Mark α} (h : speech ok m.put = false) : fitM ok n m = false := by
  cases hf : fitM ok n m with
  | false => rfl
  | true => have := fit_parts ok hf; rw [h] at this; simp at this
theorem fit_yes (ok : α → Bool) {n : Nat} {m : Mark α} (h1 : 0 ≤ m.at_) (h2 : m.at_ ≤ n) (h3 : 0 ≤ m.cut) (h4 : m.cut ≤ n - m.at_) (h5 : speech ok m.put = true) (h6 : ¬ (m.cut = 0 ∧ m.put.length = 0)) : fitM ok n m = true :=
  fit_mk ok h1 h2 h3 h4 h5 (by omega)
theorem valid_no_words (ok : α → Bool) {ws : List α} (ms : List (Mark α)) (h : speech ok ws = false) : validM ok ws ms = false := by unfold validM; rw [h]; rfl
theorem valid_no_len (ok : α → Bool) {ws : List α} {ms : List (Mark α)} (h : ¬ ms.length ≤ 20) : validM ok ws ms = false := by unfold validM; simp [h]
theorem valid_no_chk (ok : α → Bool) {ws : List α} {ms : List (Mark α)} (h : chk ok ws.length (-1) ms = false) : validM ok ws ms = false := by unfold validM; simp [h]
theorem valid_end (ok : α → Bool) {ws : List α} {ms : List (Mark α)} (h1 : speech ok ws = true) (h2 : ms.length ≤ 20) (h3 : chk ok ws.length (-1) ms = true) : validM ok ws ms = decide ((ws.length : Int) + grow ms ≤ 20) := by unfold validM; simp [h1, h2, h3]
theorem grow_snoc (xs : List (Mark α)) (m : Mark α) : grow (xs ++ [m]) = grow xs + (m.put.length - m.cut) := by
  induction xs with
  | nil => simp [grow]
  | cons x xs ih => simp only [List.cons_append, grow, ih]; omega

/-- both kinds of words -/
def sizeM : List (Mark α) → Int
  | [] => 0
  | m :: ms => m.cut + m.put.length + sizeM ms
theorem sizeM_snoc (xs : List (Mark α)) (m : Mark α) : sizeM (xs ++ [m]) = sizeM xs + (m.cut + m.put.length) := by
  induction xs with
  | nil => simp [sizeM]
  | cons x xs ih => simp only [List.cons_append, sizeM, ih]; omega
theorem sizeM_append (xs ys : List (Mark α)) : sizeM (xs ++ ys) = sizeM xs + sizeM ys := by
  induction xs with
  | nil => simp [sizeM]
  | cons x xs ih => simp only [List.cons_append, sizeM, ih]; omega
theorem sizeM_abs (gs : List (Gap α)) : ∀ p, sizeM (abs p gs) = (sizeG gs : Nat) := by
  induction gs with
  | nil => intro p; rfl
  | cons g gs ih => intro p; simp only [abs, sizeM, sizeG, ih]; omega

/-- what marks make of the words from an index on -/
def doM (ws : List α) : Nat → List (Mark α) → List α
  | p, [] => ws.drop p
  | p, m :: ms => (ws.drop p).take (m.at_.toNat - p) ++ m.put ++ doM ws (m.at_.toNat + m.cut.toNat) ms
theorem doM_abs (ws : List α) (gs : List (Gap α)) : ∀ p, doM ws p (abs p gs) = doG (ws.drop p) gs := by
  induction gs with
  | nil => intro p; rfl
  | cons g gs ih =>
    intro p
    simp only [abs, doM, doG, Int.toNat_natCast, ih, List.drop_drop]
    rw [show p + g.gap - p = g.gap by omega, show p + g.gap + g.cut = p + (g.gap + g.cut) by omega]
theorem doM_go {ws done : List α} {p k : Nat} {ms : List (Mark α)} {m : Mark α} {all : List α} (hm : ms[k]? = some m) (h : all = done ++ doM ws p (ms.drop k)) :
    all = (done ++ (ws.drop p).take (m.at_.toNat - p) ++ m.put) ++ doM ws (m.at_.toNat + m.cut.toNat) (ms.drop (k + 1)) := by
  rw [h, drop_at hm]
  simp only [doM, List.append_assoc]
theorem doM_end {ws done : List α} {p k : Nat} {ms : List (Mark α)} {all : List α} (hk : ms.length ≤ k) (h : all = done ++ doM ws p (ms.drop k)) : all = done ++ ws.drop p := by
  rw [h, List.drop_of_length_le hk]; rfl
/-- the marks back -/
def backM (ws : List α) : Int → List (Mark α) → List (Mark α)
  | _, [] => []
  | s, m :: ms => ⟨m.at_ + s, (m.put.length : Int), (ws.drop m.at_.toNat).take m.cut.toNat⟩ :: backM ws (s + (m.put.length - m.cut)) ms
theorem backM_abs (ws : List α) (gs : List (Gap α)) : ∀ p q : Nat, backM ws ((q : Int) - p) (abs p gs) = abs q (backG (ws.drop p) gs) := by
  induction gs with
  | nil => intro p q; rfl
  | cons g gs ih =>
    intro p q
    simp only [abs, backM, backG, Int.toNat_natCast, List.drop_drop]
    have := ih (p + g.gap + g.cut) (q + g.gap + g.put.length)
    rw [show (((q + g.gap + g.put.length : Nat) : Int) - ((p + g.gap + g.cut : Nat) : Int)) = (q : Int) - p + (g.put.length - g.cut) by omega] at this
    rw [this, show p + g.gap + g.cut = p + (g.gap + g.cut) by omega]
    congr 2
    omega
theorem backM_len (ws : List α) (ms : List (Mark α)) : ∀ s, (backM ws s ms).length = ms.length := by
  induction ms with
  | nil => intro s; rfl
  | cons m ms ih => intro s; simp only [backM, List.length_cons, ih]
theorem backM_snoc (ws : List α) (xs : List (Mark α)) (m : Mark α) : ∀ s, backM ws s (xs ++ [m]) = backM ws s xs ++ [⟨m.at_ + (s + grow xs), (m.put.length : Int), (ws.drop m.at_.toNat).take m.cut.toNat⟩] := by
  induction xs with
  | nil => intro s; simp [backM, grow]
  | cons x xs ih =>
    intro s
    simp only [List.cons_append, backM, ih, grow]
    rw [show s + ((x.put.length : Int) - x.cut) + grow xs = s + ((x.put.length : Int) - x.cut + grow xs) by omega]

theorem inCut_snoc (i : Int) (xs : List (Mark α)) (m : Mark α) : inCut i (xs ++ [m]) = (inCut i xs || (decide (m.at_ ≤ i) && decide (i < m.at_ + m.cut))) := by
  induction xs with
  | nil => simp [inCut]
  | cons x xs ih => simp only [List.cons_append, inCut, ih, Bool.or_assoc]
theorem inCut_mem {i : Int} {ms : List (Mark α)} {m : Mark α} (hm : m ∈ ms) (h1 : m.at_ ≤ i) (h2 : i < m.at_ + m.cut) : inCut i ms = true := by
  induction ms with
  | nil => cases hm
  | cons x xs ih =>
    rcases List.mem_cons.1 hm with rfl | h
    · simp [inCut, h1, h2]
    · simp [inCut, ih h]
theorem moved_snoc (i : Int) (xs : List (Mark α)) (m : Mark α) : moved i (xs ++ [m]) = moved i xs + (if m.at_ + m.cut ≤ i then (m.put.length : Int) - m.cut else 0) := by
  induction xs with
  | nil => simp [moved]
  | cons x xs ih => simp only [List.cons_append, moved, ih]; omega
end Mk
end Go.Proofs.YtjhlcgjhdiheaaaDoor

/- The way through two lists of words, step by step, in plain Lean. -/
namespace Go.Proofs.YtjhlcgjhdiheaaaDoor
namespace Mk
variable {α : Type} [DecidableEq α]

def farAt (a b : List α) (i j : Nat) : Nat := far (a.drop i) (b.drop j)
/-- done marks, then what the steps from i and j on make behind P words, g that stay, c left out and the words p put in -/
def Way (a b : List α) (done : List (Mark α)) (P g c : Nat) (p : List α) (i j : Nat) : Prop :=
  done ++ abs P (gapsOf g c p (path (a.drop i) (b.drop j))) = abs 0 (made a b) ∧ P + g + c = i ∧ i ≤ a.length ∧ j ≤ b.length ∧ p.length ≤ j ∧ p = (b.drop (j - p.length)).take p.length
theorem way_start (a b : List α) : Way a b [] 0 0 0 [] 0 0 := ⟨by simp [made], rfl, Nat.zero_le _, Nat.zero_le _, Nat.le_refl _, by simp⟩
/-- the mark that is open -/
def openM (P g c : Nat) (p : List α) : List (Mark α) := if 0 < c + p.length then [⟨((P + g : Nat) : Int), (c : Int), p⟩] else []
theorem way_end {a b : List α} {done : List (Mark α)} {P g c i j : Nat} {p : List α} (h : Way a b done P g c p i j) (hi : a.length ≤ i) (hj : b.length ≤ j) : abs 0 (made a b) = done ++ openM P g c p := by
  obtain ⟨h1, _⟩ := h
  rw [← h1, List.drop_of_length_le hi, List.drop_of_length_le hj, path_nil]
  simp only [gapsOf, openM]
  split <;> rfl
theorem way_keep {a b : List α} {done : List (Mark α)} {P g c i j : Nat} {p : List α} {x : α} (h : Way a b done P g c p i j) (ha : a[i]? = some x) (hb : b[j]? = some x) :
    ∃ P' g', P' + g' = i + 1 ∧ Way a b (done ++ openM P g c p) P' g' 0 [] (i + 1) (j + 1) := by
  obtain ⟨h1, h2, h3, h4, h5, h6⟩ := h
  have l1 := (List.getElem?_eq_some_iff.1 ha).1
  have l2 := (List.getElem?_eq_some_iff.1 hb).1
  rw [drop_at ha, drop_at hb, path_keep] at h1
  simp only [gapsOf] at h1
  by_cases ho : 0 < c + p.length
  · rw [if_pos ho] at h1
    refine ⟨P + g + c, 1, by omega, ?_, by omega, by omega, by omega, Nat.zero_le _, by simp⟩
    rw [← h1]
    simp only [openM, if_pos ho, abs, List.append_assoc, List.cons_append, List.nil_append]
  · rw [if_neg ho] at h1
    refine ⟨P, g + 1, by omega, ?_, by omega, by omega, by omega, Nat.zero_le _, by simp⟩
    rw [← h1]
    simp only [openM, if_neg ho, List.append_nil]
theorem way_cut {a b : List α} {done : List (Mark α)} {P g c i j : Nat} {p : List α} (h : Way a b done P g c p i j) (hi : i < a.length) (hne : ∀ x, a[i]? = some x → b[j]? ≠ some x) (hf : farAt a b (i + 1) j < farAt a b i j) :
    Way a b done P g (c + 1) p (i + 1) j := by
  obtain ⟨h1, h2, h3, h4, h5, h6⟩ := h
  have ha := List.getElem?_eq_getElem hi
  have e : path (a.drop i) (b.drop j) = some none :: path (a.drop (i + 1)) (b.drop j) := by
    rw [drop_at ha]
    by_cases hj : j < b.length
    · have hb := List.getElem?_eq_getElem hj
      have hxy : a[i] ≠ b[j] := fun e => hne _ ha (by rw [hb, e])
      unfold farAt at hf
      rw [drop_at ha, drop_at hb] at hf
      rw [drop_at hb, path_ne hxy, if_pos hf]
    · rw [List.drop_of_length_le (by omega : b.length ≤ j), path_cut]
  rw [e] at h1
  simp only [gapsOf] at h1
  exact ⟨h1, by omega, by omega, h4, h5, h6⟩
theorem way_put {a b : List α} {done : List (Mark α)} {P g c i j : Nat} {p : List α} (h : Way a b done P g c p i j) (hd : i < a.length ∨ j < b.length) (hne : ∀ x, a[i]? = some x → b[j]? ≠ some x) (hf : ¬ (i < a.length ∧ farAt a b (i + 1) j < farAt a b i j)) :
    ∃ y, b[j]? = some y ∧ Way a b done P g c (p ++ [y]) i (j + 1) := by
  obtain ⟨h1, h2, h3, h4, h5, h6⟩ := h
  have hj : j < b.length := by
    rcases Nat.lt_or_ge j b.length with hj | hj
    · exact hj
    · exfalso
      have hi : i < a.length := by omega
      refine hf ⟨hi, ?_⟩
      unfold farAt
      rw [List.drop_of_length_le hj, far_nil', far_nil', List.length_drop, List.length_drop]
      omega
  have hb := List.getElem?_eq_getElem hj
  refine ⟨b[j], hb, ?_⟩
  have e : path (a.drop i) (b.drop j) = some (some b[j]) :: path (a.drop i) (b.drop (j + 1)) := by
    rw [drop_at hb]
    by_cases hi : i < a.length
    · have ha := List.getElem?_eq_getElem hi
      have hxy : a[i] ≠ b[j] := fun e => hne _ ha (by rw [hb, e])
      have hf2 : ¬ farAt a b (i + 1) j < farAt a b i j := fun h => hf ⟨hi, h⟩
      unfold farAt at hf2
      rw [drop_at ha, drop_at hb] at hf2
      rw [drop_at ha, path_ne hxy, if_neg hf2]
    · rw [List.drop_of_length_le (by omega : a.length ≤ i), path_put]
  rw [e] at h1
  simp only [gapsOf] at h1
  refine ⟨h1, h2, h3, by omega, by simp; omega, ?_⟩
  simp only [List.length_append, List.length_singleton]
  rw [show j + 1 - (p.length + 1) = j - p.length by omega]
  have h7 : (b.drop (j - p.length))[p.length]? = some b[j] := by
    rw [List.getElem?_drop, show j - p.length + p.length = j by omega]; exact hb
  rw [snoc_at h7, ← h6]
theorem far_less (a b : List α) (i j : Nat) (hi : i < a.length) : farAt a b (i + 1) j < farAt a b i j ↔ 1 + farAt a b (i + 1) j = farAt a b i j := by
  have ha := List.getElem?_eq_getElem hi
  unfold farAt
  rw [drop_at ha]
  have := far_cons_le (a.drop (i + 1)) (b.drop j) a[i]
  omega
end Mk
end Go.Proofs.YtjhlcgjhdiheaaaDoor

/- Marks of two lists, equal ones once, and their order, in plain Lean. -/
namespace Go.Proofs.YtjhlcgjhdiheaaaDoor
namespace Mk
variable {α : Type} [DecidableEq α]

/-- marks taken one by one, none twice -/
def dd : List (Mark α) → List (Mark α) → List (Mark α)
  | acc, [] => acc
  | acc, m :: ms => if acc.any (sameM m) = true then dd acc ms else dd (acc ++ [m]) ms
theorem dd_append (xs ys : List (Mark α)) : ∀ acc, dd acc (xs ++ ys) = dd (dd acc xs) ys := by
  induction xs with
  | nil => intro acc; rfl
  | cons x xs ih =>
    intro acc
    simp only [List.cons_append, dd]
    split <;> exact ih _
theorem dd_filter (bs : List (Mark α)) : ∀ acc, bs.Pairwise (· ≠ ·) → dd acc bs = acc ++ bs.filter fun b => !acc.any (sameM b) := by
  induction bs with
  | nil => intro acc _; simp [dd]
  | cons b bs ih =>
    intro acc h
    obtain ⟨h1, h2⟩ := List.pairwise_cons.1 h
    simp only [dd]
    split
    · rename_i hb
      rw [ih acc h2, List.filter_cons_of_neg (by rw [hb]; simp)]
    · rename_i hb
      rw [ih _ h2, List.filter_cons_of_pos (by simpa using hb), List.append_assoc, List.singleton_append]
      congr 2
      apply List.filter_congr
      intro x hx
      have hxb : x ≠ b := fun e => h1 x hx e.symm
      have := sameM_false hxb
      simp [List.any_append, this]
theorem dd_uniq {as bs : List (Mark α)} (ha : as.Pairwise (· ≠ ·)) (hb : bs.Pairwise (· ≠ ·)) : dd [] (as ++ bs) = uniq as bs := by
  rw [dd_append, dd_filter as [] ha, dd_filter bs _ hb]
  unfold uniq
  simp
theorem dd_go {all acc : List (Mark α)} {ms : List (Mark α)} {k : Nat} {m : Mark α} (hm : ms[k]? = some m) (h : all = dd acc (ms.drop k)) : all = dd (if acc.any (sameM m) = true then acc else acc ++ [m]) (ms.drop (k + 1)) := by
  rw [h, drop_at hm]
  simp only [dd]
  split <;> rfl
theorem dd_end {all acc : List (Mark α)} {ms : List (Mark α)} {k : Nat} (hk : ms.length ≤ k) (h : all = dd acc (ms.drop k)) : all = acc := by
  rw [h, List.drop_of_length_le hk]; rfl
/-- the marks of both lists from two indexes on -/
theorem merge_same {out all as bs : List (Mark α)} {i k : Nat} {m : Mark α} (ha : as[i]? = some m) (hb : bs[k]? = some m) (h : all = out ++ merge (as.drop i) (bs.drop k)) : all = (out ++ [m]) ++ merge (as.drop (i + 1)) (bs.drop (k + 1)) := by
  rw [h, drop_at ha, drop_at hb, merge_cons, if_pos (sameM_self m)]; simp
theorem merge_left {out all as bs : List (Mark α)} {i k : Nat} {a : Mark α} (ha : as[i]? = some a) (hb : ∀ b, bs[k]? = some b → a ≠ b ∧ a.at_ < b.at_) (h : all = out ++ merge (as.drop i) (bs.drop k)) : all = (out ++ [a]) ++ merge (as.drop (i + 1)) (bs.drop k) := by
  rw [h, drop_at ha]
  rcases Nat.lt_or_ge k bs.length with hk | hk
  · have e := List.getElem?_eq_getElem hk
    obtain ⟨h1, h2⟩ := hb _ e
    rw [drop_at e, merge_cons, if_neg (by rw [sameM_false h1]; simp), if_pos h2]; simp
  · rw [List.drop_of_length_le hk, merge_nil', merge_nil']; simp
theorem merge_right {out all as bs : List (Mark α)} {i k : Nat} {b : Mark α} (hb : bs[k]? = some b) (ha : ∀ a, as[i]? = some a → a ≠ b ∧ ¬ a.at_ < b.at_) (h : all = out ++ merge (as.drop i) (bs.drop k)) : all = (out ++ [b]) ++ merge (as.drop i) (bs.drop (k + 1)) := by
  rw [h, drop_at hb]
  rcases Nat.lt_or_ge i as.length with hk | hk
  · have e := List.getElem?_eq_getElem hk
    obtain ⟨h1, h2⟩ := ha _ e
    rw [drop_at e, merge_cons, if_neg (by rw [sameM_false h1]; simp), if_neg h2]; simp
  · rw [List.drop_of_length_le hk, merge_nil, merge_nil]; simp
theorem merge_end {out all as bs : List (Mark α)} {i k : Nat} (ha : as.length ≤ i) (hb : bs.length ≤ k) (h : all = out ++ merge (as.drop i) (bs.drop k)) : all = out := by
  rw [h, List.drop_of_length_le ha, List.drop_of_length_le hb, merge_nil]; simp
end Mk
end Go.Proofs.YtjhlcgjhdiheaaaDoor

/- What the statements say of marks, in plain Lean. -/
namespace Go.Proofs.YtjhlcgjhdiheaaaDoor
namespace Mk
variable {α : Type}

theorem grow_of (ok : α → Bool) {ws : List α} {ms : List (Mark α)} (h : validM ok ws ms = true) : ((doM ws 0 ms).length : Int) = ws.length + grow ms := by
  obtain ⟨e, g⟩ := good_of_valid ok h
  rw [← e, doM_abs, List.drop_zero, grow_abs]
  have := doG_len _ ws g.fits
  omega
theorem valid_after (ok : α → Bool) {ws : List α} {ms : List (Mark α)} (h : validM ok ws ms = true) : speech ok (doM ws 0 ms) = true := by
  obtain ⟨e, g⟩ := good_of_valid ok h
  rw [← e, doM_abs, List.drop_zero]
  exact good_after ok g
theorem back_eq (ok : α → Bool) {ws : List α} {ms : List (Mark α)} (h : validM ok ws ms = true) : backM ws 0 ms = abs 0 (backG ws (gapsFrom 0 ms)) := by
  obtain ⟨e, g⟩ := good_of_valid ok h
  have := backM_abs ws (gapsFrom 0 ms) 0 0
  rw [e] at this
  simpa using this
theorem valid_back (ok : α → Bool) {ws : List α} {ms : List (Mark α)} (h : validM ok ws ms = true) : validM ok (doM ws 0 ms) (backM ws 0 ms) = true := by
  obtain ⟨e, g⟩ := good_of_valid ok h
  rw [back_eq ok h]
  conv => lhs; rw [← e]
  rw [doM_abs, List.drop_zero]
  rw [show gapsFrom 0 (abs 0 (gapsFrom 0 ms)) = gapsFrom 0 ms by rw [e]]
  exact valid_of_good ok (good_back ok g)
theorem do_do (ok : α → Bool) {ws : List α} {ms : List (Mark α)} (h : validM ok ws ms = true) : doM (doM ws 0 ms) 0 (backM ws 0 ms) = ws := by
  obtain ⟨e, g⟩ := good_of_valid ok h
  rw [back_eq ok h, doM_abs, List.drop_zero]
  have h2 : doM ws 0 ms = doG ws (gapsFrom 0 ms) := by
    conv => lhs; rw [← e]
    rw [doM_abs, List.drop_zero]
  rw [h2]
  exact do_back _ ws g.fits
theorem gaps_abs (gs : List (Gap α)) : ∀ p, gapsFrom p (abs p gs) = gs := by
  induction gs with
  | nil => intro p; rfl
  | cons g gs ih =>
    intro p
    simp only [abs, gapsFrom, Int.toNat_natCast, ih]
    rw [show p + g.gap - p = g.gap by omega]
theorem back_again (ok : α → Bool) {ws : List α} {ms : List (Mark α)} (h : validM ok ws ms = true) : backM (doM ws 0 ms) 0 (backM ws 0 ms) = ms := by
  obtain ⟨e, g⟩ := good_of_valid ok h
  rw [back_eq ok (valid_back ok h), back_eq ok h, gaps_abs]
  have h2 : doM ws 0 ms = doG ws (gapsFrom 0 ms) := by
    conv => lhs; rw [← e]
    rw [doM_abs, List.drop_zero]
  rw [h2, back_back _ ws g.fits, e]
theorem back_size (ok : α → Bool) {ws : List α} {ms : List (Mark α)} (h : validM ok ws ms = true) : sizeM (backM ws 0 ms) = sizeM ms := by
  obtain ⟨e, g⟩ := good_of_valid ok h
  rw [back_eq ok h, sizeM_abs]
  conv => rhs; rw [← e]
  rw [sizeM_abs, sizeG_eq, sizeG_eq]
  have := back_cut _ ws g.fits
  omega
theorem size_pos (ok : α → Bool) {ws : List α} {ms : List (Mark α)} (h : validM ok ws ms = true) : 0 ≤ sizeM ms ∧ (sizeM ms = 0 ↔ ms = []) := by
  obtain ⟨e, g⟩ := good_of_valid ok h
  have h3 : sizeM ms = (sizeG (gapsFrom 0 ms) : Nat) := by
    conv => lhs; rw [← e]
    rw [sizeM_abs]
  rw [h3]
  refine ⟨by omega, ?_⟩
  constructor
  · intro h0
    cases ms with
    | nil => rfl
    | cons m ms =>
      have := (g.each ⟨m.at_.toNat - 0, m.cut.toNat, m.put⟩ (List.mem_cons_self ..)).1
      unfold Some1 at this
      simp only [gapsFrom, sizeG] at h0
      simp only at this
      omega
  · rintro rfl; rfl
theorem far_size [DecidableEq α] (ok : α → Bool) {ws : List α} {ms : List (Mark α)} (h : validM ok ws ms = true) : (far ws (doM ws 0 ms) : Int) ≤ sizeM ms := by
  obtain ⟨e, g⟩ := good_of_valid ok h
  have := far_do _ ws g.fits
  have h2 : doM ws 0 ms = doG ws (gapsFrom 0 ms) := by
    conv => lhs; rw [← e]
    rw [doM_abs, List.drop_zero]
  have h3 : sizeM ms = (sizeG (gapsFrom 0 ms) : Nat) := by
    conv => lhs; rw [← e]
    rw [sizeM_abs]
  rw [h2, h3]
  omega
theorem valid_take (ok : α → Bool) {ws : List α} {ms : List (Mark α)} (h : validM ok ws ms = true) (k : Nat) : validM ok ws (ms.take k) = decide ((ws.length : Int) + grow (ms.take k) ≤ 20) := by
  obtain ⟨h1, h2, h3, h4⟩ := valid_parts ok h
  have h5 : chk ok ws.length (-1) (ms.take k) = true := by
    have e := chk_append ok ws.length (ms.take k) (ms.drop k) (-1)
    rw [List.take_append_drop, h3] at e
    cases hc : chk ok ws.length (-1) (ms.take k) with
    | true => rfl
    | false => rw [hc] at e; simp at e
  exact valid_end ok h1 (by rw [List.length_take]; omega) h5
theorem chk_mem (ok : α → Bool) {n : Nat} {ms : List (Mark α)} : ∀ {e : Int}, chk ok n e ms = true → ∀ m ∈ ms, fitM ok n m = true := by
  induction ms with
  | nil => intro e _ m hm; cases hm
  | cons x xs ih =>
    intro e h m hm
    obtain ⟨h1, _, h3⟩ := chk_cons ok h
    rcases List.mem_cons.1 hm with rfl | hm
    · exact h1
    · exact ih h3 m hm
theorem valid_mem (ok : α → Bool) {ws : List α} {ms : List (Mark α)} (h : validM ok ws ms = true) : ∀ m ∈ ms, fitM ok ws.length m = true := chk_mem ok (valid_parts ok h).2.2.1
theorem back_at (ws : List α) {ms : List (Mark α)} {k : Nat} {m : Mark α} (hm : ms[k]? = some m) (s : Int) : (backM ws s ms)[k]? = some ⟨m.at_ + (s + grow (ms.take k)), (m.put.length : Int), (ws.drop m.at_.toNat).take m.cut.toNat⟩ := by
  have e : ms = ms.take k ++ [m] ++ ms.drop (k + 1) := by rw [← snoc_at hm, List.take_append_drop]
  have h2 : ∀ (xs ys : List (Mark α)) (s : Int), backM ws s (xs ++ ys) = backM ws s xs ++ backM ws (s + grow xs) ys := by
    intro xs
    induction xs with
    | nil => intro ys s; simp [backM, grow]
    | cons x xs ih =>
      intro ys s
      simp only [List.cons_append, backM, ih, grow]
      rw [show s + ((x.put.length : Int) - x.cut) + grow xs = s + ((x.put.length : Int) - x.cut + grow xs) by omega]
  have hl : (ms.take k).length = k := by
    rw [List.length_take]; have := (List.getElem?_eq_some_iff.1 hm).1; omega
  conv => lhs; rw [e]
  rw [h2, backM_snoc, List.getElem?_append, if_pos (by simp [backM_len]; have := (List.getElem?_eq_some_iff.1 hm).1; omega), List.getElem?_append, if_neg (by rw [backM_len]; omega), backM_len, hl, Nat.sub_self]
  rfl
theorem cut_len (ok : α → Bool) {ws : List α} {m : Mark α} (h : fitM ok ws.length m = true) : (((ws.drop m.at_.toNat).take m.cut.toNat).length : Int) = m.cut := by
  have := fit_parts ok h
  rw [List.length_take, List.length_drop]
  omega

theorem asc_head {m : Mark α} {ms : List (Mark α)} (h : Asc (m :: ms)) (hp : Pos (m :: ms)) : (∀ x ∈ ms, m.at_ < x.at_) ∧ Asc ms ∧ Pos ms := by
  obtain ⟨h1, h2⟩ := List.pairwise_cons.1 h
  have := hp m (List.mem_cons_self ..)
  exact ⟨fun x hx => by have := h1 x hx; omega, h2, fun x hx => hp x (List.mem_cons_of_mem _ hx)⟩

/-! made marks -/
variable [DecidableEq α]
theorem valid_made (ok : α → Bool) {a b : List α} (ha : speech ok a = true) (hb : speech ok b = true) : validM ok a (abs 0 (made a b)) = true := valid_of_good ok (good_made ok ha hb)
theorem do_made (a b : List α) : doM a 0 (abs 0 (made a b)) = b := by rw [doM_abs, List.drop_zero, made_do]
theorem size_made (a b : List α) : sizeM (abs 0 (made a b)) = (far a b : Nat) := by rw [sizeM_abs, made_size]
theorem made_none (a b : List α) : (abs 0 (made a b)).length = 0 ↔ a = b := by
  rw [abs_len, List.length_eq_zero_iff, made_nil]

/-! both -/
/-- what marks of one list are again in the other -/
def common1 (a : Mark α) : List (Mark α) → Int
  | [] => 0
  | b :: bs => (if sameM a b = true then a.cut + a.put.length else 0) + common1 a bs
def common : List (Mark α) → List (Mark α) → Int
  | [], _ => 0
  | a :: as, bs => common1 a bs + common as bs
theorem common1_no (a : Mark α) (bs : List (Mark α)) (h : ∀ b ∈ bs, a ≠ b) : common1 a bs = 0 := by
  induction bs with
  | nil => rfl
  | cons b bs ih =>
    simp only [common1]
    rw [if_neg (by rw [sameM_false (h b (List.mem_cons_self ..))]; simp), ih fun x hx => h x (List.mem_cons_of_mem _ hx)]; rfl
theorem common_no (as : List (Mark α)) (b : Mark α) (bs : List (Mark α)) (h : ∀ a ∈ as, a ≠ b) : common as (b :: bs) = common as bs := by
  induction as with
  | nil => rfl
  | cons a as ih =>
    simp only [common, common1]
    rw [if_neg (by rw [sameM_false (h a (List.mem_cons_self ..))]; simp), ih fun x hx => h x (List.mem_cons_of_mem _ hx)]; omega
theorem size_merge (n : Nat) : ∀ (as bs : List (Mark α)), as.length + bs.length ≤ n → Asc as → Asc bs → Pos as → Pos bs → sizeM (merge as bs) = sizeM as + sizeM bs - common as bs := by
  induction n with
  | zero =>
    intro as bs h _ _ _ _
    obtain rfl : as = [] := List.eq_nil_of_length_eq_zero (by omega)
    obtain rfl : bs = [] := List.eq_nil_of_length_eq_zero (by omega)
    rw [merge_nil]; rfl
  | succ n ih =>
    intro as bs h h1 h2 h3 h4
    cases as with
    | nil => rw [merge_nil]; simp [sizeM, common]
    | cons a as =>
      cases bs with
      | nil =>
        rw [merge_nil']
        have : ∀ xs : List (Mark α), common xs [] = 0 := by
          intro xs; induction xs with
          | nil => rfl
          | cons x xs ih => simp [common, common1, ih]
        rw [this]; simp [sizeM]
      | cons b bs =>
        obtain ⟨a1, a2, a3⟩ := asc_head h1 h3
        obtain ⟨b1, b2, b3⟩ := asc_head h2 h4
        simp only [List.length_cons] at h
        rw [merge_cons]
        by_cases hs : sameM a b = true
        · rw [if_pos hs]
          have hab := (sameM_iff a b).1 hs
          subst hab
          have i := ih as bs (by omega) a2 b2 a3 b3
          have c1 := common1_no a bs (fun x hx e => by subst e; have := b1 _ hx; omega)
          have c2 := common_no as a bs (fun x hx e => by subst e; have := a1 _ hx; omega)
          simp only [sizeM, common, common1, if_pos hs, i, c1, c2]; omega
        · rw [if_neg hs]
          have hne : a ≠ b := fun e => hs ((sameM_iff a b).2 e)
          by_cases hlt : a.at_ < b.at_
          · rw [if_pos hlt]
            have i := ih as (b :: bs) (by simp only [List.length_cons]; omega) a2 h2 a3 h4
            have c1 := common1_no a (b :: bs) (fun x hx e => by
              subst e
              rcases List.mem_cons.1 hx with e | hx
              · exact hne e
              · have := b1 _ hx; omega)
            simp only [sizeM, common, i, c1]; omega
          · rw [if_neg hlt]
            have i := ih (a :: as) bs (by simp only [List.length_cons]; omega) h1 b2 h3 b3
            have c1 := common_no (a :: as) b bs (fun x hx e => by
              subst e
              rcases List.mem_cons.1 hx with e | hx
              · exact hne e.symm
              · have := a1 _ hx; omega)
            simp only [sizeM, i, c1]; omega
end Mk
end Go.Proofs.YtjhlcgjhdiheaaaDoor

