/- Facts that the drawn laws use. -/
import Derived.Test.YtjhalbmmlcbehaaRe
import Derived.Test.YtjhalbmmlcbehaaDw
namespace Go.Proofs.Ytjhalbmmlcbehaa
open Go.RowKit Wr Go.Maps
set_option linter.unusedVariables false

/-- what lies in the world behind the results of the law on one written form -/
structure Pack (w W : World) (A1 : Option Addr) (n1 c1 : Nat) (A3 : Option Addr) (n3 : Nat) (A5 : Option Addr) (g5 : Nat) (l : List Stk) (p : Int) : Prop where
  base : Below w.heap.size w W
  one : KB W A1 n1 l
  two : KB W A3 n3 l
  ints : RowR encI 1 W A5 1 [0]
  blk : Blk W g5 30 #[.slice A1 n1 c1, .int .i64 p]
theorem Pack.below {w W W' : World} {A1 : Option Addr} {n1 c1 : Nat} {A3 : Option Addr} {n3 : Nat} {A5 : Option Addr} {g5 : Nat} {l : List Stk} {p : Int} (h : Pack w W A1 n1 c1 A3 n3 A5 g5 l p) (hb : Below W.heap.size W W') : Pack w W' A1 n1 c1 A3 n3 A5 g5 l p :=
  ⟨h.base.trans (hb.mono h.base.size), h.one.below hb, h.two.below hb, h.ints.below hb, h.blk.below hb h.blk.lt⟩
theorem dict_one {s : ByteArray} (h : wok s = true) : dictOk [s] = true := by
  unfold dictOk
  simp [dictChk, h]
theorem ix_one {ss : List Sgn} {s : ByteArray} {l : List Stk} (h : outF ss s = some l) : ixW (wl ss [s]) l (posW s) = [0] := by
  unfold wl wlF
  rw [wlOne_some h]
  simp [wlF, ixW]
theorem strs_one (w : World) (s : ByteArray) (h : s.size ≤ 9223372036854775807) : Strs (w.alloc (.cells #[.string s] 9)) (some ⟨w.heap.size, 0, none⟩) 1 [s] := strs_lit w [s] (fun x hx => by rw [List.mem_singleton] at hx; subst hx; exact h)
theorem ints_zero {w w' : World} (hb : Below (w.alloc (.cells #[.int .i64 0] 3)).heap.size (w.alloc (.cells #[.int .i64 0] 3)) w') : RowR encI 1 w' (some ⟨w.heap.size, 0, none⟩) 1 [0] := by
  have hB := (Blk.new w 3 #[.int .i64 0]).below hb (by simp)
  refine ⟨rfl, fun _ => ⟨w.heap.size, 0, rfl, hB.lt, fun j x hx c v hv => ?_⟩⟩
  have hj : j = 0 := by
    have := (List.getElem?_eq_some_iff.1 hx).1
    simpa using this
  subst hj
  simp at hx
  subst hx
  rw [hB.cell]
  simpa [encI] using hv
end Go.Proofs.Ytjhalbmmlcbehaa
