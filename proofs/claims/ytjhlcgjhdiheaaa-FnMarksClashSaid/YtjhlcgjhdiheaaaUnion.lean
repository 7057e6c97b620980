/- Marks of two lists, equal ones once, and their order, in plain Lean. -/
import Derived.Test.YtjhlcgjhdiheaaaWay
namespace Go.Proofs.Ytjhlcgjhdiheaaa
namespace Mk
variable {α : Type} [DecidableEq α]

/-- marks taken one by one, none twice -/
def dd : List (Mark α) → List (Mark α) → List (Mark α)
  | acc, [] => acc
  | acc, m :: ms => if acc.any (sameM m) = true then dd acc ms else dd (acc ++ [m]) ms
theorem dd_append (xs ys : List (Mark α)) : ∀ acc, dd acc (xs ++ ys) = dd (dd acc xs) ys := by
  induction xs with
  | nil => intro acc; rfl
  | cons x xs ih =>
    intro acc
    simp only [List.cons_append, dd]
    split <;> exact ih _
theorem dd_filter (bs : List (Mark α)) : ∀ acc, bs.Pairwise (· ≠ ·) → dd acc bs = acc ++ bs.filter fun b => !acc.any (sameM b) := by
  induction bs with
  | nil => intro acc _; simp [dd]
  | cons b bs ih =>
    intro acc h
    obtain ⟨h1, h2⟩ := List.pairwise_cons.1 h
    simp only [dd]
    split
    · rename_i hb
      rw [ih acc h2, List.filter_cons_of_neg (by rw [hb]; simp)]
    · rename_i hb
      rw [ih _ h2, List.filter_cons_of_pos (by simpa using hb), List.append_assoc, List.singleton_append]
      congr 2
      apply List.filter_congr
      intro x hx
      have hxb : x ≠ b := fun e => h1 x hx e.symm
      have := sameM_false hxb
      simp [List.any_append, this]
theorem dd_uniq {as bs : List (Mark α)} (ha : as.Pairwise (· ≠ ·)) (hb : bs.Pairwise (· ≠ ·)) : dd [] (as ++ bs) = uniq as bs := by
  rw [dd_append, dd_filter as [] ha, dd_filter bs _ hb]
  unfold uniq
  simp
theorem dd_go {all acc : List (Mark α)} {ms : List (Mark α)} {k : Nat} {m : Mark α} (hm : ms[k]? = some m) (h : all = dd acc (ms.drop k)) : all = dd (if acc.any (sameM m) = true then acc else acc ++ [m]) (ms.drop (k + 1)) := by
  rw [h, drop_at hm]
  simp only [dd]
  split <;> rfl
theorem dd_end {all acc : List (Mark α)} {ms : List (Mark α)} {k : Nat} (hk : ms.length ≤ k) (h : all = dd acc (ms.drop k)) : all = acc := by
  rw [h, List.drop_of_length_le hk]; rfl
/-- the marks of both lists from two indexes on -/
theorem merge_same {out all as bs : List (Mark α)} {i k : Nat} {m : Mark α} (ha : as[i]? = some m) (hb : bs[k]? = some m) (h : all = out ++ merge (as.drop i) (bs.drop k)) : all = (out ++ [m]) ++ merge (as.drop (i + 1)) (bs.drop (k + 1)) := by
  rw [h, drop_at ha, drop_at hb, merge_cons, if_pos (sameM_self m)]; simp
theorem merge_left {out all as bs : List (Mark α)} {i k : Nat} {a : Mark α} (ha : as[i]? = some a) (hb : ∀ b, bs[k]? = some b → a ≠ b ∧ a.at_ < b.at_) (h : all = out ++ merge (as.drop i) (bs.drop k)) : all = (out ++ [a]) ++ merge (as.drop (i + 1)) (bs.drop k) := by
  rw [h, drop_at ha]
  rcases Nat.lt_or_ge k bs.length with hk | hk
  · have e := List.getElem?_eq_getElem hk
    obtain ⟨h1, h2⟩ := hb _ e
    rw [drop_at e, merge_cons, if_neg (by rw [sameM_false h1]; simp), if_pos h2]; simp
  · rw [List.drop_of_length_le hk, merge_nil', merge_nil']; simp
theorem merge_right {out all as bs : List (Mark α)} {i k : Nat} {b : Mark α} (hb : bs[k]? = some b) (ha : ∀ a, as[i]? = some a → a ≠ b ∧ ¬ a.at_ < b.at_) (h : all = out ++ merge (as.drop i) (bs.drop k)) : all = (out ++ [b]) ++ merge (as.drop i) (bs.drop (k + 1)) := by
  rw [h, drop_at hb]
  rcases Nat.lt_or_ge i as.length with hk | hk
  · have e := List.getElem?_eq_getElem hk
    obtain ⟨h1, h2⟩ := ha _ e
    rw [drop_at e, merge_cons, if_neg (by rw [sameM_false h1]; simp), if_neg h2]; simp
  · rw [List.drop_of_length_le hk, merge_nil, merge_nil]; simp
theorem merge_end {out all as bs : List (Mark α)} {i k : Nat} (ha : as.length ≤ i) (hb : bs.length ≤ k) (h : all = out ++ merge (as.drop i) (bs.drop k)) : all = out := by
  rw [h, List.drop_of_length_le ha, List.drop_of_length_le hb, merge_nil]; simp
end Mk
end Go.Proofs.Ytjhlcgjhdiheaaa
