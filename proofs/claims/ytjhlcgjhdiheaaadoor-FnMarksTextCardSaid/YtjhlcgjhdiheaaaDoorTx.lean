/- strings.Join as the marks' texts use it; the text of marks by the reference. -/
import Derived.Test.YtjhlcgjhdiheaaaDoorDec
import Derived.Test.YtjhlcgjhdiheaaaDoorLay
import Derived.Test.YtjhlcgjhdiheaaaDoorUse
namespace Go.Proofs.YtjhlcgjhdiheaaaDoor
open Go.RowKit
set_option linter.unusedVariables false
set_option linter.unusedSimpArgs false

abbrev bOf (l : List UInt8) : ByteArray := ⟨l.toArray⟩
theorem bOf_append (a b : List UInt8) : bOf a ++ bOf b = bOf (a ++ b) := by
  apply ByteArray.ext
  simp [bOf, ByteArray.data_append]
theorem bOf_data (x : ByteArray) : bOf x.data.toList = x := by
  apply ByteArray.ext
  simp [bOf]
theorem bOf_size (l : List UInt8) : (bOf l).size = l.length := by simp [bOf, ByteArray.size]
theorem append_bOf (l : List UInt8) (x : ByteArray) : bOf l ++ x = bOf (l ++ x.data.toList) := by rw [← bOf_append, bOf_data]
def textI (ws : List ByteArray) (ms : List M) : ByteArray := if valid ws ms = true then bOf (Mk.textAll ms) else bOf []
theorem textI_no {ws : List ByteArray} {ms : List M} (h : valid ws ms = false) : textI ws ms = bOf [] := by unfold textI; rw [h]; rfl
theorem textI_yes {ws : List ByteArray} {ms : List M} (h : valid ws ms = true) : textI ws ms = bOf (Mk.textAll ms) := by unfold textI; rw [h]; rfl
theorem word_ok {ws : List ByteArray} {ms : List M} (h : valid ws ms = true) {m : M} (hm : m ∈ ms) {x : ByteArray} (hx : x ∈ m.put) : wok x = true :=
  (Mk.speech_parts wok (Mk.fit_parts wok (Mk.valid_mem wok h m hm)).2.2.2.2.1).2 x hx
theorem word_size {x : ByteArray} (h : wok x = true) : x.size ≤ 12 := by
  unfold wok at h
  simp only [Bool.and_eq_true, decide_eq_true_eq] at h
  exact h.1.2
theorem decB_size {n : Nat} (h : n < 100) : (decB n).size ≤ 2 := by
  by_cases h1 : n < 10
  · rw [decB_one h1, strOfNums_size]; simp
  · rw [decB_two h1 h, ByteArray.size_append, decB_one (by omega), strOfNums_size, strOfNums_size]; simp
theorem dec_any (n : Nat) (w : World) (h : n < 100) : Calls Tryd.prog 22 #[.int .i64 n] w fun e w' => e = .returned (.string (decB n)) ∧ ∃ q os', w' = Go.Sort.grow (w.drewN q) os' := by
  by_cases h1 : n < 10
  · refine (dec_one n w h1).mono ?_
    rintro e w' ⟨rfl, rfl⟩
    exact ⟨rfl, 0, _, Go.Sort.alloc_eq_grow _ _⟩
  · exact dec_two n w h1 h
/-- strings.Join -/
theorem join_any (A : Option Addr) (n c : Nat) (xs : List ByteArray) (sep : ByteArray) (w : World) (h : Strs w A n xs) (hn : n ≤ 1000) (hnc : n ≤ c) (hlen : (Lib.join (xs.map (·.data.toList)) sep.data.toList).length ≤ 140737488355328) :
    Calls Tryd.prog 20 #[.slice A n c, .string sep] w fun e w' => e = .returned (.string (bOf (Lib.join (xs.map (·.data.toList)) sep.data.toList))) ∧ Below w.heap.size w w' := by
  rcases Nat.eq_zero_or_pos n with h0 | h0
  · subst h0
    obtain rfl : xs = [] := List.eq_nil_of_length_eq_zero h.1
    refine (strings_Join_none A c sep w).mono ?_
    rintro e w' ⟨rfl, rfl⟩
    exact ⟨rfl, Below.refl _ _⟩
  · obtain ⟨b, off, rfl, hb, hc⟩ := h.2.2 h0
    obtain rfl := h.1
    exact strings_Join b off c xs sep w hc hb (by omega) hnc hlen
end Go.Proofs.YtjhlcgjhdiheaaaDoor
