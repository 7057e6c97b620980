/- What marking leaves as it was. -/
import Derived.Test.YtjhlcgjhdiheaaaH3
import Derived.Test.YtjhlcgjhdiheaaaH4
namespace Go.Proofs.Ytjhlcgjhdiheaaa
open Go.RowKit
set_option linter.unusedVariables false

theorem below_markM {w w1 w2 : World} {lo hi : Nat} (hb : Below w.heap.size w w1) (hg : Chg w1 w2 (Within lo hi)) (hlo : w.heap.size ≤ lo) : Below w.heap.size w w2 :=
  hb.trans (hg.below hb.size (fun i h1 h2 => by have := h2.1; omega))
theorem OwnS.mark_farM {w w' : World} {lo hi lo2 hi2 n c : Nat} {A : Option Addr} {xs : List ByteArray} (h : OwnS w lo hi A n c xs) (hg : Chg w w' (Within lo2 hi2)) (hd : hi ≤ lo2 ∨ hi2 ≤ lo) : OwnS w' lo hi A n c xs :=
  h.chg hg (fun i hi => by have := hi.1; have := hi.2; omega)
theorem OwnM.mark_farMM {w w' : World} {lo hi lo2 hi2 n c : Nat} {A : Option Addr} {xs : List M} (h : OwnM w lo hi A n c xs) (hg : Chg w w' (Within lo2 hi2)) (hd : hi ≤ lo2 ∨ hi2 ≤ lo) : OwnM w' lo hi A n c xs :=
  h.chg hg (fun i hi => by have := hi.1; have := hi.2; omega)
theorem OwnM.mark_farS {w w' : World} {lo hi n c lo2 hi2 n2 c2 : Nat} {A A2 : Option Addr} {xs : List M} {ys : List ByteArray} (h : OwnM w lo hi A n c xs) (hg : w.grownBy w' (A2.map (·.block))) (h2 : OwnS w lo2 hi2 A2 n2 c2 ys) (hd : hi ≤ lo2 ∨ hi2 ≤ lo) : OwnM w' lo hi A n c xs := by
  refine h.far hg (fun g e => ?_)
  cases A2 with
  | none => cases e
  | some a =>
    have e : a.block = g := by injection e
    have := h2.lo_le a rfl
    omega
end Go.Proofs.Ytjhlcgjhdiheaaa
