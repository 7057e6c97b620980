/- Where a word stands behind marks, in plain Lean. -/
import Derived.Test.YtjhlcgjhdiheaaaValid
namespace Go.Proofs.Ytjhlcgjhdiheaaa
namespace Mk
variable {α : Type}

/-- the index of a word behind gaps, if it stays -/
def shiftG : Nat → List (Gap α) → Option Nat
  | i, [] => some i
  | i, g :: gs => if i < g.gap then some i else if i < g.gap + g.cut then none else (shiftG (i - (g.gap + g.cut)) gs).map (· + (g.gap + g.put.length))
def inCut (i : Int) : List (Mark α) → Bool
  | [] => false
  | m :: ms => (decide (m.at_ ≤ i) && decide (i < m.at_ + m.cut)) || inCut i ms
def moved (i : Int) : List (Mark α) → Int
  | [] => 0
  | m :: ms => (if m.at_ + m.cut ≤ i then (m.put.length : Int) - m.cut else 0) + moved i ms
theorem far_marks (gs : List (Gap α)) : ∀ (p : Nat) (i : Int), i < p → inCut i (abs p gs) = false ∧ moved i (abs p gs) = 0 := by
  induction gs with
  | nil => intro p i _; exact ⟨rfl, rfl⟩
  | cons g gs ih =>
    intro p i h
    have := ih (p + g.gap + g.cut) i (by omega)
    simp only [abs, inCut, moved, this]
    rw [if_neg (by omega)]
    simp
    omega
theorem shift_abs (gs : List (Gap α)) : ∀ (p i : Nat), (shiftG i gs = none ∧ inCut ((p + i : Nat) : Int) (abs p gs) = true) ∨ (∃ out, shiftG i gs = some out ∧ inCut ((p + i : Nat) : Int) (abs p gs) = false ∧ (out : Int) = i + moved ((p + i : Nat) : Int) (abs p gs)) := by
  induction gs with
  | nil => intro p i; exact .inr ⟨i, rfl, rfl, by simp [abs, moved]⟩
  | cons g gs ih =>
    intro p i
    simp only [shiftG, abs, inCut, moved]
    by_cases h1 : i < g.gap
    · rw [if_pos h1, if_neg (by omega)]
      have := far_marks gs (p + g.gap + g.cut) ((p + i : Nat) : Int) (by omega)
      rw [this.1, this.2]
      refine .inr ⟨i, rfl, ?_, by omega⟩
      simp
      omega
    · rw [if_neg h1]
      by_cases h2 : i < g.gap + g.cut
      · rw [if_pos h2]
        refine .inl ⟨rfl, ?_⟩
        simp
        omega
      · rw [if_neg h2, if_pos (by omega)]
        have := ih (p + g.gap + g.cut) (i - (g.gap + g.cut))
        rw [show p + g.gap + g.cut + (i - (g.gap + g.cut)) = p + i by omega] at this
        rcases this with ⟨h3, h4⟩ | ⟨out, h3, h4, h5⟩
        · rw [h3, h4]
          exact .inl ⟨rfl, by simp⟩
        · rw [h3, h4]
          refine .inr ⟨out + (g.gap + g.put.length), rfl, ?_, by omega⟩
          simp
          omega
theorem shift_do (gs : List (Gap α)) : ∀ (ws : List α) (i out : Nat), Fits ws.length gs → i < ws.length → shiftG i gs = some out → (doG ws gs)[out]? = ws[i]? := by
  induction gs with
  | nil =>
    intro ws i out _ _ h
    simp only [shiftG, Option.some.injEq] at h
    subst h
    rfl
  | cons g gs ih =>
    intro ws i out hf hi h
    obtain ⟨f1, f2⟩ := hf
    have hl : (ws.take g.gap).length = g.gap := by rw [List.length_take]; omega
    simp only [shiftG] at h
    simp only [doG]
    by_cases h1 : i < g.gap
    · rw [if_pos h1] at h
      injection h with h
      subst h
      rw [List.append_assoc, List.getElem?_append_left (by omega), List.getElem?_take_of_lt h1]
    · rw [if_neg h1] at h
      by_cases h2 : i < g.gap + g.cut
      · rw [if_pos h2] at h; cases h
      · rw [if_neg h2] at h
        cases h3 : shiftG (i - (g.gap + g.cut)) gs with
        | none => rw [h3] at h; cases h
        | some o =>
          rw [h3] at h
          simp only [Option.map_some, Option.some.injEq] at h
          subst h
          have := ih (ws.drop (g.gap + g.cut)) (i - (g.gap + g.cut)) o (by rw [List.length_drop]; exact f2) (by rw [List.length_drop]; omega) h3
          rw [List.getElem?_append_right (by rw [List.length_append, hl]; omega), List.length_append, hl, show o + (g.gap + g.put.length) - (g.gap + g.put.length) = o by omega, this, List.getElem?_drop]
          congr 1
          omega
theorem shift_back (gs : List (Gap α)) : ∀ (ws : List α) (i out : Nat), Fits ws.length gs → i < ws.length → shiftG i gs = some out → shiftG out (backG ws gs) = some i := by
  induction gs with
  | nil =>
    intro ws i out _ _ h
    simp only [shiftG, Option.some.injEq] at h
    subst h
    rfl
  | cons g gs ih =>
    intro ws i out hf hi h
    obtain ⟨f1, f2⟩ := hf
    have e4 : ((ws.drop g.gap).take g.cut).length = g.cut := by rw [List.length_take, List.length_drop]; omega
    simp only [shiftG] at h
    simp only [backG, shiftG, e4]
    by_cases h1 : i < g.gap
    · rw [if_pos h1] at h
      injection h with h
      subst h
      rw [if_pos h1]
    · rw [if_neg h1] at h
      by_cases h2 : i < g.gap + g.cut
      · rw [if_pos h2] at h; cases h
      · rw [if_neg h2] at h
        cases h3 : shiftG (i - (g.gap + g.cut)) gs with
        | none => rw [h3] at h; cases h
        | some o =>
          rw [h3] at h
          simp only [Option.map_some, Option.some.injEq] at h
          subst h
          have := ih (ws.drop (g.gap + g.cut)) (i - (g.gap + g.cut)) o (by rw [List.length_drop]; exact f2) (by rw [List.length_drop]; omega) h3
          rw [if_neg (by omega), if_neg (by omega), show o + (g.gap + g.put.length) - (g.gap + g.put.length) = o by omega, this]
          simp only [Option.map_some, Option.some.injEq]
          omega
theorem shift_mono (gs : List (Gap α)) : ∀ (i x y : Nat), shiftG i gs = some x → shiftG (i + 1) gs = some y → x < y := by
  induction gs with
  | nil =>
    intro i x y hx hy
    simp only [shiftG, Option.some.injEq] at hx hy
    omega
  | cons g gs ih =>
    intro i x y hx hy
    simp only [shiftG] at hx hy
    by_cases h1 : i < g.gap
    · rw [if_pos h1] at hx
      injection hx with hx
      by_cases h2 : i + 1 < g.gap
      · rw [if_pos h2] at hy
        injection hy with hy
        omega
      · rw [if_neg h2] at hy
        by_cases h3 : i + 1 < g.gap + g.cut
        · rw [if_pos h3] at hy; cases hy
        · rw [if_neg h3] at hy
          cases h4 : shiftG (i + 1 - (g.gap + g.cut)) gs with
          | none => rw [h4] at hy; cases hy
          | some o =>
            rw [h4] at hy
            simp only [Option.map_some, Option.some.injEq] at hy
            omega
    · rw [if_neg h1] at hx
      rw [if_neg (by omega)] at hy
      by_cases h2 : i < g.gap + g.cut
      · rw [if_pos h2] at hx; cases hx
      · rw [if_neg h2] at hx
        rw [if_neg (by omega)] at hy
        cases h3 : shiftG (i - (g.gap + g.cut)) gs with
        | none => rw [h3] at hx; cases hx
        | some o =>
          rw [h3] at hx
          rw [show i + 1 - (g.gap + g.cut) = i - (g.gap + g.cut) + 1 by omega] at hy
          cases h4 : shiftG (i - (g.gap + g.cut) + 1) gs with
          | none => rw [h4] at hy; cases hy
          | some q =>
            rw [h4] at hy
            simp only [Option.map_some, Option.some.injEq] at hx hy
            have := ih _ _ _ h3 h4
            omega
end Mk
end Go.Proofs.Ytjhlcgjhdiheaaa
