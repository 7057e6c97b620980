/- The text of marks, in plain Lean. -/
import Derived.Test.YtjhlcgjhdiheaaaDoorPla
import Derived.Lib.Join
import Derived.Lib.ItoaMem
namespace Go.Proofs.YtjhlcgjhdiheaaaDoor
namespace Mk
set_option linter.unusedVariables false

/-- the text of a mark: At, -, Cut, + and the words with commas between -/
def textOne (m : Mark ByteArray) : List UInt8 := Lib.decDigits m.at_.toNat ++ [45] ++ Lib.decDigits m.cut.toNat ++ [43] ++ Lib.join (m.put.map (·.data.toList)) [44]
/-- the texts of marks with spaces between -/
def textAll (ms : List (Mark ByteArray)) : List UInt8 := Lib.join (ms.map textOne) [32]
theorem join_snoc (sep : List UInt8) (y : List UInt8) : ∀ xs : List (List UInt8), xs ≠ [] → Lib.join (xs ++ [y]) sep = Lib.join xs sep ++ sep ++ y := by
  intro xs hx
  cases xs with
  | nil => exact absurd rfl hx
  | cons x r =>
    rw [List.cons_append, Lib.join_cons, Lib.join_cons]
    simp [Lib.joinTail, List.append_assoc]
theorem join_go {sep y : List UInt8} {xs : List (List UInt8)} {k : Nat} (hy : xs[k]? = some y) : Lib.join (xs.take (k + 1)) sep = Lib.join (xs.take k) sep ++ (if k = 0 then [] else sep) ++ y := by
  rw [List.take_add_one, hy, Option.toList_some]
  by_cases h0 : k = 0
  · subst h0; simp [Lib.join_one, Lib.join_nil]
  · rw [if_neg h0, join_snoc]
    intro e
    have hk : k < xs.length := (List.getElem?_eq_some_iff.1 hy).1
    have := congrArg List.length e
    rw [List.length_take] at this
    simp only [List.length_nil] at this
    omega
theorem textAll_go {ms : List (Mark ByteArray)} {m : Mark ByteArray} {k : Nat} (hm : ms[k]? = some m) : textAll (ms.take (k + 1)) = textAll (ms.take k) ++ (if k = 0 then [] else [32]) ++ textOne m := by
  unfold textAll
  rw [List.map_take, List.map_take]
  exact join_go (by rw [List.getElem?_map, hm]; rfl)
theorem count_join (c : UInt8) (sep : List UInt8) (hs : sep.count c = 0) : ∀ xs : List (List UInt8), (Lib.join xs sep).count c = (xs.map (·.count c)).sum
  | [] => by simp [Lib.join_nil]
  | x :: r => by
    rw [Lib.join_cons, List.count_append, List.map_cons, List.sum_cons]
    congr 1
    induction r with
    | nil => simp [Lib.joinTail]
    | cons y r ih =>
      simp only [Lib.joinTail, List.map_cons, List.flatten_cons, List.sum_cons, List.count_append] at ih ⊢
      rw [ih, hs]
      omega
theorem digits_plus (n : Nat) (hn : n ≤ 20) : (Lib.decDigits n).count 43 = 0 := by
  have h : ∀ n : Nat, n ≤ 20 → (if n < 10 then [UInt8.ofNat (48 + n)] else [UInt8.ofNat (48 + n / 10), UInt8.ofNat (48 + n % 10)]).count 43 = 0 := by decide
  have := h n hn
  by_cases h1 : n < 10
  · rw [if_pos h1] at this
    rw [Lib.decDigits_one h1]; exact this
  · rw [if_neg h1] at this
    rw [Lib.decDigits_two h1 (by omega)]; exact this
theorem sum_zero {α : Type} (f : α → Nat) : ∀ xs : List α, (∀ x ∈ xs, f x = 0) → (xs.map f).sum = 0
  | [], _ => rfl
  | x :: xs, h => by rw [List.map_cons, List.sum_cons, h x (by simp), sum_zero f xs fun y hy => h y (by simp [hy])]
theorem sum_one {α : Type} (f : α → Nat) : ∀ xs : List α, (∀ x ∈ xs, f x = 1) → (xs.map f).sum = xs.length
  | [], _ => rfl
  | x :: xs, h => by rw [List.map_cons, List.sum_cons, h x (by simp), sum_one f xs fun y hy => h y (by simp [hy]), List.length_cons]; omega
theorem plus_one {m : Mark ByteArray} (h1 : 0 ≤ m.at_ ∧ m.at_ ≤ 20) (h2 : 0 ≤ m.cut ∧ m.cut ≤ 20) (h3 : ∀ x ∈ m.put, x.data.toList.count 43 = 0) : (textOne m).count 43 = 1 := by
  have hz : (Lib.join (m.put.map (·.data.toList)) [44]).count 43 = 0 := by
    rw [count_join 43 [44] (by decide), List.map_map]
    exact sum_zero _ _ fun x hx => h3 x hx
  unfold textOne
  simp only [List.count_append]
  rw [hz, digits_plus _ (by omega), digits_plus _ (by omega)]
  decide
theorem plus_all {ms : List (Mark ByteArray)} (h : ∀ m ∈ ms, (textOne m).count 43 = 1) : (textAll ms).count 43 = ms.length := by
  unfold textAll
  rw [count_join 43 [32] (by decide), List.map_map]
  exact sum_one _ _ fun m hm => h m hm
theorem text_some {m : Mark ByteArray} {ms : List (Mark ByteArray)} : textAll (m :: ms) ≠ [] := by
  intro e
  unfold textAll at e
  rw [List.map_cons, Lib.join_cons] at e
  have := congrArg List.length e
  simp [textOne] at this
end Mk
end Go.Proofs.YtjhlcgjhdiheaaaDoor
