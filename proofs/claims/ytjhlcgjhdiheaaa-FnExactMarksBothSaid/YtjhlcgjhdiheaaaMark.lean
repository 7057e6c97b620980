/- Marked lists of marks, in plain Lean. -/
import Derived.Test.YtjhlcgjhdiheaaaBase3
import Derived.Test.YtjhlcgjhdiheaaaMemM
namespace Go.Proofs.Ytjhlcgjhdiheaaa
open Go.RowKit

/-- the numbers and texts that a list of marks is marked with, from k on -/
def mmarks : Nat → List M → List M
  | _, [] => []
  | k, m :: ms => ⟨(k : Nat), ((k + 1 : Nat) : Int), mtexts (k + 2) m.put.length⟩ :: mmarks (k + 2 + m.put.length) ms
def mcount : Nat → List M → Nat
  | k, [] => k
  | k, m :: ms => mcount (k + 2 + m.put.length) ms
def totPut : List M → Nat
  | [] => 0
  | m :: ms => m.put.length + totPut ms
theorem mmarks_len : ∀ (k : Nat) (ms : List M), (mmarks k ms).length = ms.length
  | k, [] => rfl
  | k, m :: ms => by simp only [mmarks, List.length_cons, mmarks_len (k + 2 + m.put.length) ms]
theorem mcount_snoc : ∀ (k : Nat) (ms : List M) (m : M), mcount k (ms ++ [m]) = mcount k ms + 2 + m.put.length
  | k, [], m => rfl
  | k, m' :: ms, m => by simp only [List.cons_append, mcount, mcount_snoc (k + 2 + m'.put.length) ms m]
theorem mmarks_snoc : ∀ (k : Nat) (ms : List M) (m : M), mmarks k (ms ++ [m]) = mmarks k ms ++ [⟨((mcount k ms : Nat) : Int), ((mcount k ms + 1 : Nat) : Int), mtexts (mcount k ms + 2) m.put.length⟩]
  | k, [], m => rfl
  | k, m' :: ms, m => by simp only [List.cons_append, mmarks, mcount, mmarks_snoc (k + 2 + m'.put.length) ms m]
theorem totPut_snoc : ∀ (ms : List M) (m : M), totPut (ms ++ [m]) = totPut ms + m.put.length
  | [], m => by simp [totPut]
  | m' :: ms, m => by simp only [List.cons_append, totPut, totPut_snoc ms m]; omega
theorem totPut_take : ∀ (ms : List M) (k : Nat), totPut (ms.take k) ≤ totPut ms
  | [], k => by simp [totPut]
  | m :: ms, 0 => by simp [totPut]
  | m :: ms, k + 1 => by have := totPut_take ms k; simp only [List.take_succ_cons, totPut]; omega
theorem totPut_mem : ∀ (ms : List M) (m : M), m ∈ ms → m.put.length ≤ totPut ms
  | [], m, h => by cases h
  | m' :: ms, m, h => by
    rcases List.mem_cons.1 h with rfl | h1
    · simp [totPut]
    · have := totPut_mem ms m h1; simp only [totPut]; omega
theorem mcount_eq : ∀ (k : Nat) (ms : List M), mcount k ms = k + 2 * ms.length + totPut ms
  | k, [] => rfl
  | k, m :: ms => by simp only [mcount, mcount_eq (k + 2 + m.put.length) ms, List.length_cons, totPut]; omega
theorem mcount_le (k : Nat) (ms : List M) (j : Nat) (hj : j ≤ ms.length) : mcount k (ms.take j) ≤ k + 2 * j + totPut ms := by
  rw [mcount_eq, List.length_take, Nat.min_eq_left hj]
  have := totPut_take ms j
  omega
theorem mmarks_step {k : Nat} {ms : List M} {j : Nat} {m : M} (hm : ms[j]? = some m) :
    (mmarks k (ms.take j) ++ ms.drop j).set j ⟨((mcount k (ms.take j) : Nat) : Int), ((mcount k (ms.take j) + 1 : Nat) : Int), mtexts (mcount k (ms.take j) + 2) m.put.length⟩ = mmarks k (ms.take (j + 1)) ++ ms.drop (j + 1) := by
  have hl : j < ms.length := (List.getElem?_eq_some_iff.1 hm).1
  have e : ms[j] = m := (List.getElem?_eq_some_iff.1 hm).2
  rw [take_snoc hm, mmarks_snoc, List.drop_eq_getElem_cons hl, e, List.set_append, if_neg (by rw [mmarks_len, List.length_take]; omega), mmarks_len, List.length_take, Nat.min_eq_left (by omega), Nat.sub_self, List.set_cons_zero]
  simp
theorem mmarks_mid {k : Nat} {ms : List M} {j : Nat} {m : M} (hm : ms[j]? = some m) : (mmarks k (ms.take j) ++ ms.drop j)[j]? = some m := by
  have hl : j < ms.length := (List.getElem?_eq_some_iff.1 hm).1
  rw [List.getElem?_append, if_neg (by rw [mmarks_len, List.length_take]; omega), mmarks_len, List.length_take, Nat.min_eq_left (by omega), Nat.sub_self, List.getElem?_drop, Nat.add_zero]
  exact hm
theorem mmarks_at {k : Nat} {ms : List M} {j : Nat} {m : M} (hm : ms[j]? = some m) : (mmarks k ms)[j]? = some ⟨((mcount k (ms.take j) : Nat) : Int), ((mcount k (ms.take j) + 1 : Nat) : Int), mtexts (mcount k (ms.take j) + 2) m.put.length⟩ := by
  have hl : j < ms.length := (List.getElem?_eq_some_iff.1 hm).1
  have e : ms[j] = m := (List.getElem?_eq_some_iff.1 hm).2
  have h1 : ms = ms.take j ++ [m] ++ ms.drop (j + 1) := by
    rw [← take_snoc hm, List.take_append_drop]
  have h2 : ∀ (k : Nat) (xs ys : List M), mmarks k (xs ++ ys) = mmarks k xs ++ mmarks (mcount k xs) ys := by
    intro k xs
    induction xs generalizing k with
    | nil => intro ys; rfl
    | cons x xs ih => intro ys; simp only [List.cons_append, mmarks, mcount, ih]
  conv => lhs; rw [h1]
  rw [h2, mmarks_snoc, List.getElem?_append, if_pos (by simp [mmarks_len]; omega), List.getElem?_append, if_neg (by rw [mmarks_len, List.length_take]; omega), mmarks_len, List.length_take, Nat.min_eq_left (by omega), Nat.sub_self]
  rfl
end Go.Proofs.Ytjhlcgjhdiheaaa
