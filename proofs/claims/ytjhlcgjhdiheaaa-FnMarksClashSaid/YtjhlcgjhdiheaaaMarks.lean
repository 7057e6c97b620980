/- Marks in plain Lean: a mark leaves out words and puts in others; marks as gaps. -/
import Derived.Test.YtjhlcgjhdiheaaaFar
namespace Go.Proofs.Ytjhlcgjhdiheaaa
namespace Mk
variable {α : Type}

/-- a mark: At, Cut, Put -/
structure Mark (α : Type) where
  at_ : Int
  cut : Int
  put : List α
/-- a mark by the gap ahead of it: words that stay, words left out, words put in -/
structure Gap (α : Type) where
  gap : Nat
  cut : Nat
  put : List α

/-- the marks of gaps, the first one behind 'p' words -/
def abs (p : Nat) : List (Gap α) → List (Mark α)
  | [] => []
  | g :: gs => ⟨((p + g.gap : Nat) : Int), (g.cut : Int), g.put⟩ :: abs (p + g.gap + g.cut) gs
/-- what marks make of the words that are left -/
def doG : List α → List (Gap α) → List α
  | ws, [] => ws
  | ws, g :: gs => ws.take g.gap ++ g.put ++ doG (ws.drop (g.gap + g.cut)) gs
/-- the way back -/
def backG : List α → List (Gap α) → List (Gap α)
  | _, [] => []
  | ws, g :: gs => ⟨g.gap, g.put.length, (ws.drop g.gap).take g.cut⟩ :: backG (ws.drop (g.gap + g.cut)) gs
def sizeG : List (Gap α) → Nat
  | [] => 0
  | g :: gs => g.cut + g.put.length + sizeG gs
def cutG : List (Gap α) → Nat
  | [] => 0
  | g :: gs => g.cut + cutG gs
def putG : List (Gap α) → Nat
  | [] => 0
  | g :: gs => g.put.length + putG gs
/-- the gaps fit into so many words -/
def Fits : Nat → List (Gap α) → Prop
  | _, [] => True
  | n, g :: gs => g.gap + g.cut ≤ n ∧ Fits (n - (g.gap + g.cut)) gs
/-- every mark but the first has a gap ahead of it, and every mark does something -/
def Some1 (g : Gap α) : Prop := 0 < g.cut + g.put.length
def Parted : List (Gap α) → Prop
  | [] => True
  | _ :: gs => ∀ g ∈ gs, 1 ≤ g.gap

theorem doG_len (gs : List (Gap α)) : ∀ ws : List α, Fits ws.length gs → (doG ws gs).length + cutG gs = ws.length + putG gs := by
  induction gs with
  | nil => intro ws _; simp [doG, cutG, putG]
  | cons g gs ih =>
    intro ws h
    obtain ⟨h1, h2⟩ := h
    have := ih (ws.drop (g.gap + g.cut)) (by rw [List.length_drop]; exact h2)
    simp only [doG, cutG, putG, List.length_append, List.length_take, List.length_drop] at this ⊢
    omega
theorem cut_le (gs : List (Gap α)) : ∀ n, Fits n gs → cutG gs ≤ n := by
  induction gs with
  | nil => intro n _; simp [cutG]
  | cons g gs ih =>
    intro n h
    have := ih _ h.2
    have := h.1
    simp only [cutG]
    omega
theorem sizeG_eq (gs : List (Gap α)) : sizeG gs = cutG gs + putG gs := by
  induction gs with
  | nil => rfl
  | cons g gs ih => simp only [sizeG, cutG, putG, ih]; omega
/-- the way back leads back -/
theorem do_back (gs : List (Gap α)) : ∀ ws : List α, Fits ws.length gs → doG (doG ws gs) (backG ws gs) = ws := by
  induction gs with
  | nil => intro ws _; rfl
  | cons g gs ih =>
    intro ws h
    obtain ⟨h1, h2⟩ := h
    have hl : (ws.take g.gap).length = g.gap := by rw [List.length_take]; omega
    have e1 : (ws.take g.gap ++ g.put ++ doG (ws.drop (g.gap + g.cut)) gs).take g.gap = ws.take g.gap := by
      rw [List.append_assoc, List.take_left' hl]
    have e2 : (ws.take g.gap ++ g.put ++ doG (ws.drop (g.gap + g.cut)) gs).drop (g.gap + g.put.length) = doG (ws.drop (g.gap + g.cut)) gs := by
      rw [List.drop_left' (by rw [List.length_append, hl])]
    simp only [doG, backG, e1, e2]
    rw [ih _ (by rw [List.length_drop]; exact h2)]
    have e3 : ws.drop (g.gap + g.cut) = (ws.drop g.gap).drop g.cut := by rw [List.drop_drop]
    rw [e3, List.append_assoc, List.take_append_drop, List.take_append_drop]
theorem back_fits (gs : List (Gap α)) : ∀ ws : List α, Fits ws.length gs → Fits (doG ws gs).length (backG ws gs) := by
  induction gs with
  | nil => intro ws _; trivial
  | cons g gs ih =>
    intro ws h
    obtain ⟨h1, h2⟩ := h
    have h3 := ih (ws.drop (g.gap + g.cut)) (by rw [List.length_drop]; exact h2)
    simp only [doG, backG, Fits, List.length_append, List.length_take]
    refine ⟨by omega, ?_⟩
    have e : min g.gap ws.length + g.put.length + (doG (ws.drop (g.gap + g.cut)) gs).length - (g.gap + g.put.length) = (doG (ws.drop (g.gap + g.cut)) gs).length := by omega
    rw [e]
    exact h3
theorem back_back (gs : List (Gap α)) : ∀ ws : List α, Fits ws.length gs → backG (doG ws gs) (backG ws gs) = gs := by
  induction gs with
  | nil => intro ws _; rfl
  | cons g gs ih =>
    intro ws h
    obtain ⟨h1, h2⟩ := h
    have hl : (ws.take g.gap).length = g.gap := by rw [List.length_take]; omega
    have e2 : (ws.take g.gap ++ g.put ++ doG (ws.drop (g.gap + g.cut)) gs).drop (g.gap + g.put.length) = doG (ws.drop (g.gap + g.cut)) gs := by
      rw [List.drop_left' (by rw [List.length_append, hl])]
    have e3 : ((ws.take g.gap ++ g.put ++ doG (ws.drop (g.gap + g.cut)) gs).drop g.gap).take g.put.length = g.put := by
      rw [List.append_assoc, List.drop_left' hl, List.take_left' rfl]
    have e4 : ((ws.drop g.gap).take g.cut).length = g.cut := by rw [List.length_take, List.length_drop]; omega
    simp only [doG, backG, e2, e3, e4]
    rw [ih _ (by rw [List.length_drop]; exact h2)]
theorem back_len (gs : List (Gap α)) : ∀ ws : List α, (backG ws gs).length = gs.length := by
  induction gs with
  | nil => intro ws; rfl
  | cons g gs ih => intro ws; simp [backG, ih]
theorem back_cut (gs : List (Gap α)) : ∀ ws : List α, Fits ws.length gs → cutG (backG ws gs) = putG gs ∧ putG (backG ws gs) = cutG gs := by
  induction gs with
  | nil => intro ws _; exact ⟨rfl, rfl⟩
  | cons g gs ih =>
    intro ws h
    obtain ⟨h1, h2⟩ := h
    have := ih (ws.drop (g.gap + g.cut)) (by rw [List.length_drop]; exact h2)
    have e4 : ((ws.drop g.gap).take g.cut).length = g.cut := by rw [List.length_take, List.length_drop]; omega
    simp only [backG, cutG, putG, this, e4]
    exact ⟨trivial, trivial⟩
/-- marks lead from words to what they make of them, so their size is at least the least one -/
theorem far_do [DecidableEq α] (gs : List (Gap α)) : ∀ ws : List α, Fits ws.length gs → far ws (doG ws gs) ≤ sizeG gs := by
  induction gs with
  | nil => intro ws _; simp [doG, sizeG, far_self]
  | cons g gs ih =>
    intro ws h
    obtain ⟨h1, h2⟩ := h
    have h3 := ih (ws.drop (g.gap + g.cut)) (by rw [List.length_drop]; exact h2)
    simp only [doG, sizeG, List.append_assoc]
    have e : ws = ws.take g.gap ++ ((ws.drop g.gap).take g.cut ++ ws.drop (g.gap + g.cut)) := by
      rw [← List.drop_drop, List.take_append_drop, List.take_append_drop]
    have e4 : ((ws.drop g.gap).take g.cut).length = g.cut := by rw [List.length_take, List.length_drop]; omega
    have h4 : far ws (ws.take g.gap ++ (g.put ++ doG (ws.drop (g.gap + g.cut)) gs)) = far ((ws.drop g.gap).take g.cut ++ ws.drop (g.gap + g.cut)) (g.put ++ doG (ws.drop (g.gap + g.cut)) gs) := by
      conv => lhs; arg 1; rw [e]
      rw [far_ahead]
    rw [h4]
    have h5 := far_cut ((ws.drop g.gap).take g.cut) (ws.drop (g.gap + g.cut)) (g.put ++ doG (ws.drop (g.gap + g.cut)) gs)
    have h6 := far_put g.put (ws.drop (g.gap + g.cut)) (doG (ws.drop (g.gap + g.cut)) gs)
    omega
end Mk
end Go.Proofs.Ytjhlcgjhdiheaaa
