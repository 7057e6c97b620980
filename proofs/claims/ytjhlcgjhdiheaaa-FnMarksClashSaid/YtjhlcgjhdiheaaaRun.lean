/- Marks as both programs run through them, mark by mark, in plain Lean. -/
import Derived.Test.YtjhlcgjhdiheaaaBoth
import Derived.Test.YtjhlcgjhdiheaaaVote
namespace Go.Proofs.Ytjhlcgjhdiheaaa
namespace Mk
variable {α : Type}

theorem snoc_at {β : Type} {xs : List β} {k : Nat} {x : β} (h : xs[k]? = some x) : xs.take (k + 1) = xs.take k ++ [x] := by
  rw [List.take_add_one, h]; rfl
theorem take_all {β : Type} {xs : List β} {n : Nat} (h : xs.length = n) : xs.take n = xs := List.take_of_length_le (by omega)

/-- the end of the last mark -/
def lastEnd : Int → List (Mark α) → Int
  | e, [] => e
  | _, m :: ms => lastEnd (m.at_ + m.cut) ms
theorem lastEnd_snoc (xs : List (Mark α)) (m : Mark α) : ∀ e, lastEnd e (xs ++ [m]) = m.at_ + m.cut := by
  induction xs with
  | nil => intro e; rfl
  | cons x xs ih => intro e; exact ih _
theorem chk_append (ok : α → Bool) (n : Nat) (xs ys : List (Mark α)) : ∀ e, chk ok n e (xs ++ ys) = (chk ok n e xs && chk ok n (lastEnd e xs) ys) := by
  induction xs with
  | nil => intro e; simp [chk, lastEnd]
  | cons x xs ih => intro e; simp only [List.cons_append, chk, lastEnd, ih, Bool.and_assoc]
theorem chk_step (ok : α → Bool) {n : Nat} {e : Int} {ms : List (Mark α)} {k : Nat} {m : Mark α} (hm : ms[k]? = some m) (h : chk ok n e (ms.take k) = true) (h1 : fitM ok n m = true) (h2 : lastEnd e (ms.take k) < m.at_) : chk ok n e (ms.take (k + 1)) = true := by
  rw [snoc_at hm, chk_append, h]
  simp [chk, h1, h2]
theorem chk_stop (ok : α → Bool) {n : Nat} {e : Int} {ms : List (Mark α)} {k : Nat} {m : Mark α} (hm : ms[k]? = some m) (h : fitM ok n m = false ∨ ¬ lastEnd e (ms.take k) < m.at_) : chk ok n e ms = false := by
  have : ms = ms.take k ++ m :: ms.drop (k + 1) := by rw [← drop_at hm, List.take_append_drop]
  rw [this, chk_append]
  rcases h with h | h
  · simp [chk, h]
  · have h2 : decide (lastEnd e (ms.take k) < m.at_) = false := decide_eq_false h
    simp only [chk, h2, Bool.and_false, Bool.false_and]
theorem fit_no_at (ok : α → Bool) {n : Nat} {m : Mark α} (h : m.at_ < 0 ∨ (n : Int) < m.at_ ∨ m.cut < 0 ∨ (n : Int) - m.at_ < m.cut) : fitM ok n m = false := by
  cases hf : fitM ok n m with
  | false => rfl
  | true => have := fit_parts ok hf; omega
theorem fit_no_some (ok : α → Bool) {n : Nat} {m : Mark α} (h : m.cut = 0 ∧ m.put.length = 0) : fitM ok n m = false := by
  cases hf : fitM ok n m with
  | false => rfl
  | true => have := fit_parts ok hf; omega
theorem fit_no_put (ok : α → Bool) {n : Nat} {m : Mark α} (h : speech ok m.put = false) : fitM ok n m = false := by
  cases hf : fitM ok n m with
  | false => rfl
  | true => have := fit_parts ok hf; rw [h] at this; simp at this
theorem fit_yes (ok : α → Bool) {n : Nat} {m : Mark α} (h1 : 0 ≤ m.at_) (h2 : m.at_ ≤ n) (h3 : 0 ≤ m.cut) (h4 : m.cut ≤ n - m.at_) (h5 : speech ok m.put = true) (h6 : ¬ (m.cut = 0 ∧ m.put.length = 0)) : fitM ok n m = true :=
  fit_mk ok h1 h2 h3 h4 h5 (by omega)
theorem valid_no_words (ok : α → Bool) {ws : List α} (ms : List (Mark α)) (h : speech ok ws = false) : validM ok ws ms = false := by unfold validM; rw [h]; rfl
theorem valid_no_len (ok : α → Bool) {ws : List α} {ms : List (Mark α)} (h : ¬ ms.length ≤ 20) : validM ok ws ms = false := by unfold validM; simp [h]
theorem valid_no_chk (ok : α → Bool) {ws : List α} {ms : List (Mark α)} (h : chk ok ws.length (-1) ms = false) : validM ok ws ms = false := by unfold validM; simp [h]
theorem valid_end (ok : α → Bool) {ws : List α} {ms : List (Mark α)} (h1 : speech ok ws = true) (h2 : ms.length ≤ 20) (h3 : chk ok ws.length (-1) ms = true) : validM ok ws ms = decide ((ws.length : Int) + grow ms ≤ 20) := by unfold validM; simp [h1, h2, h3]
theorem grow_snoc (xs : List (Mark α)) (m : Mark α) : grow (xs ++ [m]) = grow xs + (m.put.length - m.cut) := by
  induction xs with
  | nil => simp [grow]
  | cons x xs ih => simp only [List.cons_append, grow, ih]; omega

/-- both kinds of words -/
def sizeM : List (Mark α) → Int
  | [] => 0
  | m :: ms => m.cut + m.put.length + sizeM ms
theorem sizeM_snoc (xs : List (Mark α)) (m : Mark α) : sizeM (xs ++ [m]) = sizeM xs + (m.cut + m.put.length) := by
  induction xs with
  | nil => simp [sizeM]
  | cons x xs ih => simp only [List.cons_append, sizeM, ih]; omega
theorem sizeM_append (xs ys : List (Mark α)) : sizeM (xs ++ ys) = sizeM xs + sizeM ys := by
  induction xs with
  | nil => simp [sizeM]
  | cons x xs ih => simp only [List.cons_append, sizeM, ih]; omega
theorem sizeM_abs (gs : List (Gap α)) : ∀ p, sizeM (abs p gs) = (sizeG gs : Nat) := by
  induction gs with
  | nil => intro p; rfl
  | cons g gs ih => intro p; simp only [abs, sizeM, sizeG, ih]; omega

/-- what marks make of the words from an index on -/
def doM (ws : List α) : Nat → List (Mark α) → List α
  | p, [] => ws.drop p
  | p, m :: ms => (ws.drop p).take (m.at_.toNat - p) ++ m.put ++ doM ws (m.at_.toNat + m.cut.toNat) ms
theorem doM_abs (ws : List α) (gs : List (Gap α)) : ∀ p, doM ws p (abs p gs) = doG (ws.drop p) gs := by
  induction gs with
  | nil => intro p; rfl
  | cons g gs ih =>
    intro p
    simp only [abs, doM, doG, Int.toNat_natCast, ih, List.drop_drop]
    rw [show p + g.gap - p = g.gap by omega, show p + g.gap + g.cut = p + (g.gap + g.cut) by omega]
theorem doM_go {ws done : List α} {p k : Nat} {ms : List (Mark α)} {m : Mark α} {all : List α} (hm : ms[k]? = some m) (h : all = done ++ doM ws p (ms.drop k)) :
    all = (done ++ (ws.drop p).take (m.at_.toNat - p) ++ m.put) ++ doM ws (m.at_.toNat + m.cut.toNat) (ms.drop (k + 1)) := by
  rw [h, drop_at hm]
  simp only [doM, List.append_assoc]
theorem doM_end {ws done : List α} {p k : Nat} {ms : List (Mark α)} {all : List α} (hk : ms.length ≤ k) (h : all = done ++ doM ws p (ms.drop k)) : all = done ++ ws.drop p := by
  rw [h, List.drop_of_length_le hk]; rfl
/-- the marks back -/
def backM (ws : List α) : Int → List (Mark α) → List (Mark α)
  | _, [] => []
  | s, m :: ms => ⟨m.at_ + s, (m.put.length : Int), (ws.drop m.at_.toNat).take m.cut.toNat⟩ :: backM ws (s + (m.put.length - m.cut)) ms
theorem backM_abs (ws : List α) (gs : List (Gap α)) : ∀ p q : Nat, backM ws ((q : Int) - p) (abs p gs) = abs q (backG (ws.drop p) gs) := by
  induction gs with
  | nil => intro p q; rfl
  | cons g gs ih =>
    intro p q
    simp only [abs, backM, backG, Int.toNat_natCast, List.drop_drop]
    have := ih (p + g.gap + g.cut) (q + g.gap + g.put.length)
    rw [show (((q + g.gap + g.put.length : Nat) : Int) - ((p + g.gap + g.cut : Nat) : Int)) = (q : Int) - p + (g.put.length - g.cut) by omega] at this
    rw [this, show p + g.gap + g.cut = p + (g.gap + g.cut) by omega]
    congr 2
    omega
theorem backM_len (ws : List α) (ms : List (Mark α)) : ∀ s, (backM ws s ms).length = ms.length := by
  induction ms with
  | nil => intro s; rfl
  | cons m ms ih => intro s; simp only [backM, List.length_cons, ih]
theorem backM_snoc (ws : List α) (xs : List (Mark α)) (m : Mark α) : ∀ s, backM ws s (xs ++ [m]) = backM ws s xs ++ [⟨m.at_ + (s + grow xs), (m.put.length : Int), (ws.drop m.at_.toNat).take m.cut.toNat⟩] := by
  induction xs with
  | nil => intro s; simp [backM, grow]
  | cons x xs ih =>
    intro s
    simp only [List.cons_append, backM, ih, grow]
    rw [show s + ((x.put.length : Int) - x.cut) + grow xs = s + ((x.put.length : Int) - x.cut + grow xs) by omega]

theorem inCut_snoc (i : Int) (xs : List (Mark α)) (m : Mark α) : inCut i (xs ++ [m]) = (inCut i xs || (decide (m.at_ ≤ i) && decide (i < m.at_ + m.cut))) := by
  induction xs with
  | nil => simp [inCut]
  | cons x xs ih => simp only [List.cons_append, inCut, ih, Bool.or_assoc]
theorem inCut_mem {i : Int} {ms : List (Mark α)} {m : Mark α} (hm : m ∈ ms) (h1 : m.at_ ≤ i) (h2 : i < m.at_ + m.cut) : inCut i ms = true := by
  induction ms with
  | nil => cases hm
  | cons x xs ih =>
    rcases List.mem_cons.1 hm with rfl | h
    · simp [inCut, h1, h2]
    · simp [inCut, ih h]
theorem moved_snoc (i : Int) (xs : List (Mark α)) (m : Mark α) : moved i (xs ++ [m]) = moved i xs + (if m.at_ + m.cut ≤ i then (m.put.length : Int) - m.cut else 0) := by
  induction xs with
  | nil => simp [moved]
  | cons x xs ih => simp only [List.cons_append, moved, ih]; omega
end Mk
end Go.Proofs.Ytjhlcgjhdiheaaa
