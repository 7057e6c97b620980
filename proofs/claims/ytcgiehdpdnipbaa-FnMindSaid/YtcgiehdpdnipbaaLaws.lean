/- Plain laws of the talk chapter, as the statements ask them. No program in sight but for the words for lists. -/
import Derived.Test.YtcgiehdpdnipbaaDrawC
namespace Go.Proofs.Ytcgiehdpdnipbaa
open Go.RowKit
set_option linter.unusedVariables false
theorem IsRow.len_cap {k : IntKind} {w : World} {a : Option Addr} {len cap : Nat} {zs : List Int} (h : IsRow k w a len cap zs) : len ≤ cap := by
  rcases h with ⟨_, rfl, rfl, _⟩ | ⟨x, _, h1, _⟩
  · omega
  · exact h1
namespace Talk
theorem speed_cases (xs : List Int) : speed xs = -1 ∨ valid xs = true ∧ xs.length ≠ 0 := by
  unfold speed
  split
  · rename_i h; exact .inr h
  · exact .inl rfl
theorem div_facts {a n : Int} (ha : 0 ≤ a) (hn : 0 < n) : 0 ≤ a / n ∧ 0 ≤ a - a / n * n ∧ a - a / n * n < n ∧ 0 ≤ a / n * n := by
  have h1 := Int.emod_nonneg a (by omega : n ≠ 0)
  have h2 := Int.emod_lt_of_pos a hn
  have h3 := Int.mul_ediv_add_emod a n
  have h4 : 0 ≤ a / n := Int.ediv_nonneg ha (by omega)
  have h5 : n * (a / n) = a / n * n := Int.mul_comm _ _
  have h6 : 0 ≤ a / n * n := Int.mul_nonneg h4 (by omega)
  omega
theorem speed_facts {xs : List Int} (hv : valid xs = true) (h0 : xs.length ≠ 0) : 0 ≤ speed xs ∧ speed xs ≤ 540 ∧ 0 ≤ 60 * words xs - speed xs * xs.length ∧ 60 * words xs - speed xs * xs.length < xs.length ∧ 0 ≤ speed xs * xs.length ∧ 0 ≤ words xs ∧ words xs ≤ 270 := by
  have hb := sum_bd (valid_all hv)
  have hl := valid_len hv
  rw [speed_yes hv h0, words_yes hv]
  have hd := div_facts (a := 60 * sum xs) (n := xs.length) (by omega) (by omega)
  refine ⟨hd.1, ?_, hd.2.1, hd.2.2.1, hd.2.2.2, hb.1, by omega⟩
  refine Int.ediv_le_of_le_mul (by omega) ?_
  omega
theorem speed_twice {xs : List Int} (hv : valid (xs ++ xs) = true) : speed (xs ++ xs) = speed xs := by
  have hv1 : valid xs = true := by
    have := joinOk_eq xs xs
    unfold joinOk at this
    rw [hv] at this
    have := this.symm
    simp only [Bool.and_eq_true] at this
    exact this.1.1
  by_cases h0 : xs.length = 0
  · rw [speed_nil h0, speed_nil (by simp [h0])]
  · rw [speed_yes hv1 h0, speed_yes hv (by rw [List.length_append]; omega), sum_append]
    have e1 : 60 * (sum xs + sum xs) = 2 * (60 * sum xs) := by omega
    have e2 : (((xs ++ xs).length : Nat) : Int) = 2 * (xs.length : Int) := by simp; omega
    rw [e1, e2, Int.mul_ediv_mul_of_pos _ _ (by omega)]
end Talk
end Go.Proofs.Ytcgiehdpdnipbaa
