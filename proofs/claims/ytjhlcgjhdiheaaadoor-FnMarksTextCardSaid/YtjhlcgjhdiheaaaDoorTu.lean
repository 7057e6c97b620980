/- How many plus signs are in the text of marks. -/
import Derived.Test.YtjhlcgjhdiheaaaDoorTi
namespace Go.Proofs.YtjhlcgjhdiheaaaDoor
open Go.RowKit
set_option linter.unusedVariables false

theorem IsRow.len_le {k : IntKind} {w : World} {a : Option Addr} {len cap : Nat} {zs : List Int} (h : IsRow k w a len cap zs) : len ≤ 9223372036854775807 := by
  rcases h with ⟨_, rfl, _⟩ | ⟨x, _, h1, h2, _⟩
  · omega
  · unfold maxLen at h2; omega
theorem IsRow.len_cap {k : IntKind} {w : World} {a : Option Addr} {len cap : Nat} {zs : List Int} (h : IsRow k w a len cap zs) : len ≤ cap := by
  rcases h with ⟨_, rfl, rfl, _⟩ | ⟨x, _, h1, _⟩
  · omega
  · exact h1
/-- how many plus signs are in the first bytes of a text -/
def plusB (s : ByteArray) (k : Nat) : Nat := (s.data.toList.take k).count 43
theorem plus_go {s : ByteArray} {k : Nat} (h : k < s.size) : plusB s (k + 1) = plusB s k + (if s[k] = 43 then 1 else 0) := by
  unfold plusB
  rw [List.take_add_one, bytes_at s k h, Option.toList_some, List.count_append, List.count_singleton]
  simp
theorem plus_le (s : ByteArray) (k : Nat) : plusB s k ≤ k := by
  unfold plusB
  exact Nat.le_trans List.count_le_length (by rw [List.length_take]; omega)
theorem plus_full {s : ByteArray} {k : Nat} (h : s.size ≤ k) : plusB s k = s.data.toList.count 43 := by
  unfold plusB
  rw [List.take_of_length_le (show s.data.toList.length ≤ k from by rw [Array.length_toList]; exact h)]
theorem byte_plus (x : UInt8) : (((x.toNat : Nat) : Int) == 43) = decide (x = 43) := by
  rw [Bool.eq_iff_iff, beq_iff_eq, decide_eq_true_iff]
  constructor
  · intro h
    have : x.toNat = 43 := by omega
    exact UInt8.toNat_inj.1 (by rw [this]; rfl)
  · intro h; subst h; rfl
theorem word_plus {x : ByteArray} (h : wok x = true) : x.data.toList.count 43 = 0 := by
  unfold wok at h
  rw [Bool.and_eq_true] at h
  rw [List.count_eq_zero]
  intro hm
  have h1 := List.all_eq_true.1 h.2 43 hm
  revert h1
  decide
theorem text_plus {ws : List ByteArray} {ms : List M} (hv : valid ws ms = true) : (bOf (Mk.textAll ms)).data.toList.count 43 = ms.length := by
  show (Mk.textAll ms).count 43 = ms.length
  refine Mk.plus_all fun m hm => ?_
  obtain ⟨f1, f2, f3, f4, f5, f6, f7, f8⟩ := fit_of hv hm
  exact Mk.plus_one (by omega) (by omega) fun x hx => word_plus (word_ok hv hm hx)
theorem text_len {ws : List ByteArray} {ms : List M} (hv : valid ws ms = true) : (bOf (Mk.textAll ms)).size ≤ 10000 := by
  have := join_len 300 20 32 (ms.map Mk.textOne) (fun z hz => by
    obtain ⟨x, hx, rfl⟩ := List.mem_map.1 hz
    exact textOne_len hv hx) (by rw [List.length_map]; exact (valid_bound hv).1)
  rw [bOf_size]
  unfold Mk.textAll
  omega
theorem text_ne {ms : List M} (h : ms ≠ []) : bOf (Mk.textAll ms) ≠ ⟨#[]⟩ := by
  cases ms with
  | nil => exact absurd rfl h
  | cons m ms =>
    intro e
    have := congrArg ByteArray.size e
    rw [bOf_size] at this
    exact Mk.text_some (List.eq_nil_of_length_eq_zero this)
theorem text_nil : bOf (Mk.textAll []) = ⟨#[]⟩ := rfl
/-- the text of marks, as the statement uses it -/
theorem text_is {ws : List ByteArray} {ms : List M} (hv : valid ws ms = true) (hne : ms ≠ []) : ∃ T : ByteArray, textI ws ms = T ∧ T ≠ ⟨#[]⟩ ∧ T.size ≤ 10000 ∧ T.data.toList.count 43 = ms.length :=
  ⟨_, textI_yes hv, text_ne hne, text_len hv, text_plus hv⟩
theorem text_empty {ws : List ByteArray} {ms : List M} (h : valid ws ms = false ∨ ms = []) : textI ws ms = ⟨#[]⟩ := by
  rcases h with h | h
  · exact textI_no h
  · subst h
    cases hv : valid ws [] with
    | false => exact textI_no hv
    | true => exact textI_yes hv
section
variable (A B : Option Addr) (n c m d : Nat) (ws : List ByteArray) (ms : List M) (w : World) (h : PutIn w A n c ws) (k : Mrks w B m ms) (hm : m ≤ 9223372036854775807) (T : ByteArray) (hT : textI ws ms = T)
include h k hm hT
theorem itext_is : Calls Tryd.prog 6 #[.slice A n c, .slice B m d] w fun e w' => e = .returned (.string T) ∧ Below w.heap.size w w' := by
  subst hT; exact itext_any A B n c m d ws ms w h k hm
theorem stext_is : Calls Tryd.prog 7 #[.slice A n c, .slice B m d] w fun e w' => e = .returned (.string T) ∧ Below w.heap.size w w' := by
  subst hT; exact stext_any A B n c m d ws ms w h k hm
end
end Go.Proofs.YtjhlcgjhdiheaaaDoor
