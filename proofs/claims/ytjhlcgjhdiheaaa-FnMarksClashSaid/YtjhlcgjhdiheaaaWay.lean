/- The way through two lists of words, step by step, in plain Lean. -/
import Derived.Test.YtjhlcgjhdiheaaaRun
namespace Go.Proofs.Ytjhlcgjhdiheaaa
namespace Mk
variable {α : Type} [DecidableEq α]

def farAt (a b : List α) (i j : Nat) : Nat := far (a.drop i) (b.drop j)
/-- done marks, then what the steps from i and j on make behind P words, g that stay, c left out and the words p put in -/
def Way (a b : List α) (done : List (Mark α)) (P g c : Nat) (p : List α) (i j : Nat) : Prop :=
  done ++ abs P (gapsOf g c p (path (a.drop i) (b.drop j))) = abs 0 (made a b) ∧ P + g + c = i ∧ i ≤ a.length ∧ j ≤ b.length ∧ p.length ≤ j ∧ p = (b.drop (j - p.length)).take p.length
theorem way_start (a b : List α) : Way a b [] 0 0 0 [] 0 0 := ⟨by simp [made], rfl, Nat.zero_le _, Nat.zero_le _, Nat.le_refl _, by simp⟩
/-- the mark that is open -/
def openM (P g c : Nat) (p : List α) : List (Mark α) := if 0 < c + p.length then [⟨((P + g : Nat) : Int), (c : Int), p⟩] else []
theorem way_end {a b : List α} {done : List (Mark α)} {P g c i j : Nat} {p : List α} (h : Way a b done P g c p i j) (hi : a.length ≤ i) (hj : b.length ≤ j) : abs 0 (made a b) = done ++ openM P g c p := by
  obtain ⟨h1, _⟩ := h
  rw [← h1, List.drop_of_length_le hi, List.drop_of_length_le hj, path_nil]
  simp only [gapsOf, openM]
  split <;> rfl
theorem way_keep {a b : List α} {done : List (Mark α)} {P g c i j : Nat} {p : List α} {x : α} (h : Way a b done P g c p i j) (ha : a[i]? = some x) (hb : b[j]? = some x) :
    ∃ P' g', P' + g' = i + 1 ∧ Way a b (done ++ openM P g c p) P' g' 0 [] (i + 1) (j + 1) := by
  obtain ⟨h1, h2, h3, h4, h5, h6⟩ := h
  have l1 := (List.getElem?_eq_some_iff.1 ha).1
  have l2 := (List.getElem?_eq_some_iff.1 hb).1
  rw [drop_at ha, drop_at hb, path_keep] at h1
  simp only [gapsOf] at h1
  by_cases ho : 0 < c + p.length
  · rw [if_pos ho] at h1
    refine ⟨P + g + c, 1, by omega, ?_, by omega, by omega, by omega, Nat.zero_le _, by simp⟩
    rw [← h1]
    simp only [openM, if_pos ho, abs, List.append_assoc, List.cons_append, List.nil_append]
  · rw [if_neg ho] at h1
    refine ⟨P, g + 1, by omega, ?_, by omega, by omega, by omega, Nat.zero_le _, by simp⟩
    rw [← h1]
    simp only [openM, if_neg ho, List.append_nil]
theorem way_cut {a b : List α} {done : List (Mark α)} {P g c i j : Nat} {p : List α} (h : Way a b done P g c p i j) (hi : i < a.length) (hne : ∀ x, a[i]? = some x → b[j]? ≠ some x) (hf : farAt a b (i + 1) j < farAt a b i j) :
    Way a b done P g (c + 1) p (i + 1) j := by
  obtain ⟨h1, h2, h3, h4, h5, h6⟩ := h
  have ha := List.getElem?_eq_getElem hi
  have e : path (a.drop i) (b.drop j) = some none :: path (a.drop (i + 1)) (b.drop j) := by
    rw [drop_at ha]
    by_cases hj : j < b.length
    · have hb := List.getElem?_eq_getElem hj
      have hxy : a[i] ≠ b[j] := fun e => hne _ ha (by rw [hb, e])
      unfold farAt at hf
      rw [drop_at ha, drop_at hb] at hf
      rw [drop_at hb, path_ne hxy, if_pos hf]
    · rw [List.drop_of_length_le (by omega : b.length ≤ j), path_cut]
  rw [e] at h1
  simp only [gapsOf] at h1
  exact ⟨h1, by omega, by omega, h4, h5, h6⟩
theorem way_put {a b : List α} {done : List (Mark α)} {P g c i j : Nat} {p : List α} (h : Way a b done P g c p i j) (hd : i < a.length ∨ j < b.length) (hne : ∀ x, a[i]? = some x → b[j]? ≠ some x) (hf : ¬ (i < a.length ∧ farAt a b (i + 1) j < farAt a b i j)) :
    ∃ y, b[j]? = some y ∧ Way a b done P g c (p ++ [y]) i (j + 1) := by
  obtain ⟨h1, h2, h3, h4, h5, h6⟩ := h
  have hj : j < b.length := by
    rcases Nat.lt_or_ge j b.length with hj | hj
    · exact hj
    · exfalso
      have hi : i < a.length := by omega
      refine hf ⟨hi, ?_⟩
      unfold farAt
      rw [List.drop_of_length_le hj, far_nil', far_nil', List.length_drop, List.length_drop]
      omega
  have hb := List.getElem?_eq_getElem hj
  refine ⟨b[j], hb, ?_⟩
  have e : path (a.drop i) (b.drop j) = some (some b[j]) :: path (a.drop i) (b.drop (j + 1)) := by
    rw [drop_at hb]
    by_cases hi : i < a.length
    · have ha := List.getElem?_eq_getElem hi
      have hxy : a[i] ≠ b[j] := fun e => hne _ ha (by rw [hb, e])
      have hf2 : ¬ farAt a b (i + 1) j < farAt a b i j := fun h => hf ⟨hi, h⟩
      unfold farAt at hf2
      rw [drop_at ha, drop_at hb] at hf2
      rw [drop_at ha, path_ne hxy, if_neg hf2]
    · rw [List.drop_of_length_le (by omega : a.length ≤ i), path_put]
  rw [e] at h1
  simp only [gapsOf] at h1
  refine ⟨h1, h2, h3, by omega, by simp; omega, ?_⟩
  simp only [List.length_append, List.length_singleton]
  rw [show j + 1 - (p.length + 1) = j - p.length by omega]
  have h7 : (b.drop (j - p.length))[p.length]? = some b[j] := by
    rw [List.getElem?_drop, show j - p.length + p.length = j by omega]; exact hb
  rw [snoc_at h7, ← h6]
theorem far_less (a b : List α) (i j : Nat) (hi : i < a.length) : farAt a b (i + 1) j < farAt a b i j ↔ 1 + farAt a b (i + 1) j = farAt a b i j := by
  have ha := List.getElem?_eq_getElem hi
  unfold farAt
  rw [drop_at ha]
  have := far_cons_le (a.drop (i + 1)) (b.drop j) a[i]
  omega
end Mk
end Go.Proofs.Ytjhlcgjhdiheaaa
