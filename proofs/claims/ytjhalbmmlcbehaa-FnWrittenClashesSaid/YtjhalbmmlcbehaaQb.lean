/- Regions that draw their order, whose callees lay blocks behind what is there. -/
import Derived.Test.YtjhalbmmlcbehaaOi
import Derived.Test.YtjhalbmmlcbehaaBase3
namespace Go.Proofs.Ytjhalbmmlcbehaa
open Go.RowKit
set_option linter.unusedVariables false

/-- w with blocks behind, and so many draws -/
def afterW (w : World) (n : Nat) (os : Array Obj) : World := ⟨w.heap ++ os, w.tape, n, w.os, w.output⟩
structure AfterBy where
  n : Nat
  os : Array Obj
  deriving Inhabited
theorem after_size (w : World) (n : Nat) (os : Array Obj) : w.heap.size ≤ (afterW w n os).heap.size := by
  show w.heap.size ≤ (w.heap ++ os).size
  rw [Array.size_append]; omega
theorem after_block {w : World} {n : Nat} {os : Array Obj} {i : Nat} (h : i < w.heap.size) : (afterW w n os).heap[i]? = w.heap[i]? := by
  show (w.heap ++ os)[i]? = _
  rw [Array.getElem?_append, if_pos h]
theorem below_after (w : World) (n : Nat) (os : Array Obj) : Below w.heap.size w (afterW w n os) := ⟨rfl, rfl, rfl, after_size w n os, fun i hi => after_block hi⟩
theorem of_below {w w' : World} (h : Below w.heap.size w w') : ∃ n os, w' = afterW w n os := by
  refine ⟨w'.drawn, w'.heap.extract w.heap.size w'.heap.size, ?_⟩
  have e : w'.heap = w.heap ++ w'.heap.extract w.heap.size w'.heap.size := by
    apply Array.ext_getElem?
    intro i
    rw [Array.getElem?_append]
    by_cases hi : i < w.heap.size
    · rw [if_pos hi, h.block i hi]
    · have hs := h.size
      rw [if_neg hi, Array.getElem?_extract]
      by_cases hj : i < w'.heap.size
      · rw [if_pos (by omega), show w.heap.size + (i - w.heap.size) = i by omega]
      · rw [if_neg (by omega), Array.getElem?_eq_none (by omega)]
  have h1 := h.os
  have h2 := h.tape
  have h3 := h.output
  cases w'
  simp only at h1 h2 h3 e
  unfold afterW
  rw [h1, h2, h3]
  congr 1
theorem after_after (w : World) (n m : Nat) (os os' : Array Obj) : afterW (afterW w n os) m os' = afterW w m (os ++ os') := by
  unfold afterW
  simp [Array.append_assoc]
theorem cell_after {w : World} {a : Addr} {v : Value} (hb : a.block < w.heap.size) (h : w.cell? a = some v) (n : Nat) (os : Array Obj) : (afterW w n os).cell? a = some v :=
  ((below_after w n os).cell hb).trans h
theorem wp_region_after {P : Program} {id : Nat} {Q : Exit → Act → World → Prop} {a : Act} {w : World} {l : List Oper} (hm : P.follows .mixedOrders = true) (hB : Region.lexB .any l.toArray = true)
    (h : wpQuiet P l.toArray (fun w' => ∃ p : AfterBy, w' = afterW w p.n p.os) (fun a' => ∀ w', (∃ p : AfterBy, w' = afterW w p.n p.os) → Q .normal a' w') l a) : (Code.region id l.toArray true).wp P Q a w :=
  wp_region_quiet (C := fun w' => ∃ p : AfterBy, w' = afterW w p.n p.os) hm hB ⟨⟨w.drawn + 1, #[]⟩, by unfold afterW; simp⟩ (by simpa using h)
theorem Calls.after_of {P : Program} {f : FuncId} {args : Array Value} {w : World} {n : Nat} {os : Array Obj} {v : Value}
    (h : Calls P f args (afterW w n os) fun e w' => e = .returned v ∧ Below (afterW w n os).heap.size (afterW w n os) w') : Calls P f args (afterW w n os) fun e w'' => e = .returned v ∧ ∃ p : AfterBy, w'' = afterW w p.n p.os :=
  h.mono fun _ _ ⟨he, hb⟩ => ⟨he, by obtain ⟨m, os', hq⟩ := of_below hb; exact ⟨⟨m, os ++ os'⟩, by rw [hq, after_after]⟩⟩
theorem Calls.after_same {P : Program} {f : FuncId} {args : Array Value} {w : World} {n : Nat} {os : Array Obj} {v : Value}
    (h : Calls P f args (afterW w n os) fun e w' => e = .returned v ∧ w' = afterW w n os) : Calls P f args (afterW w n os) fun e w'' => e = .returned v ∧ ∃ p : AfterBy, w'' = afterW w p.n p.os :=
  h.mono fun _ _ ⟨he, hb⟩ => ⟨he, ⟨n, os⟩, hb⟩

/-! decimals of a digit -/
set_option maxRecDepth 4000 in
set_option maxHeartbeats 400000 in
theorem dec_one (n : Nat) (w : World) (h : n < 10) : Calls Try.prog 80 #[.int .i64 n] w fun e w' => e = .returned (.string (strOfNums [48 + (n : Int)])) ∧ Below w.heap.size w w' := by
  have hcv := byte_text w (48 + (n : Int))
  have h1 : ¬ (n : Int) < -9223372036854775807 := by omega
  have h2 : ¬ (n : Int) < 0 := by omega
  have h3 : (n : Int) < 10 := by omega
  have hb : Below w.heap.size w (w.alloc (.cells #[.int .u8 (48 + (n : Int))] 5)) := (Below.refl _ _).alloc (Nat.le_refl _) _
  generalize strOfNums [48 + (n : Int)] = S at *
  go_enter Try.func80, Try.ntmps80
  go_wp2_with fail
  go_ret
  exact ⟨rfl, hb⟩
end Go.Proofs.Ytjhalbmmlcbehaa
