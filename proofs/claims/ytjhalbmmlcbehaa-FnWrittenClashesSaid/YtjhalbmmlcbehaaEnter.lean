/- The program may be entered (a closed fact of every row), proved by way of a list of codes: the kernel then never decodes the long text of the cut's roots. -/
import Derived.Test.YtjhalbmmlcbehaaRows
import Derived.ProofKit
namespace Go.Proofs.Ytjhalbmmlcbehaa
set_option maxRecDepth 100000

def initCodes : List Nat := [104, 97, 114, 110, 101, 115, 115, 32, 57, 53, 56, 100, 51, 56, 57, 97, 97, 98, 101, 98, 48, 57, 99, 102, 48, 97, 54, 56, 55, 53, 97, 100, 53, 56, 57, 54, 53, 97, 99, 100, 53, 49, 54, 100, 100, 98, 49, 98, 55, 97, 57, 99, 49, 54, 54, 57, 52, 54, 52, 97, 57, 97, 102, 49, 97, 101, 49, 99, 55, 97, 100, 101, 32, 99, 117, 116, 32, 97, 116, 32, 108, 111, 111, 112, 46, 101, 120, 97, 109, 112, 108, 101, 47, 115, 104, 111, 114, 116, 104, 97, 110, 100, 47, 108, 97, 119, 115, 46, 70, 110, 87, 114, 105, 116, 116, 101, 110, 67, 108, 97, 115, 104, 101, 115, 32, 108, 111, 111, 112, 46, 101, 120, 97, 109, 112, 108, 101, 47, 115, 104, 111, 114, 116, 104, 97, 110, 100, 47, 108, 97, 119, 115, 46, 70, 110, 87, 114, 105, 116, 116, 101, 110, 79, 102, 32, 108, 111, 111, 112, 46, 101, 120, 97, 109, 112, 108, 101, 47, 115, 104, 111, 114, 116, 104, 97, 110, 100, 47, 108, 97, 119, 115, 46, 70, 110, 69, 120, 97, 99, 116, 87, 114, 105, 116, 116, 101, 110, 67, 108, 97, 115, 104, 101, 115]
def rootCodes : List (List Nat) := [[97, 116], [108, 111, 111, 112, 46, 101, 120, 97, 109, 112, 108, 101, 47, 115, 104, 111, 114, 116, 104, 97, 110, 100, 47, 108, 97, 119, 115, 46, 70, 110, 87, 114, 105, 116, 116, 101, 110, 67, 108, 97, 115, 104, 101, 115], [108, 111, 111, 112, 46, 101, 120, 97, 109, 112, 108, 101, 47, 115, 104, 111, 114, 116, 104, 97, 110, 100, 47, 108, 97, 119, 115, 46, 70, 110, 87, 114, 105, 116, 116, 101, 110, 79, 102], [108, 111, 111, 112, 46, 101, 120, 97, 109, 112, 108, 101, 47, 115, 104, 111, 114, 116, 104, 97, 110, 100, 47, 108, 97, 119, 115, 46, 70, 110, 69, 120, 97, 99, 116, 87, 114, 105, 116, 116, 101, 110, 67, 108, 97, 115, 104, 101, 115]]
def chars (l : List Nat) : List Char := l.map Char.ofNat
theorem init_str : Try.prog.initOrder = String.ofList (chars initCodes) := by kernel_rfl
theorem init_list : Try.prog.initOrder.toList = chars initCodes := (congrArg String.toList init_str).trans String.toList_ofList
theorem init_words : behindMainWord (wordsSigns (chars initCodes)) = chars [99, 117, 116] :: rootCodes.map chars := by kernel_rfl
theorem no_lifts : stripLifts liftWords (chars [99, 117, 116] :: rootCodes.map chars) = ([], chars [99, 117, 116] :: rootCodes.map chars) := by kernel_rfl
theorem cut_word : chars [99, 117, 116] = "cut".toList := by kernel_rfl
theorem lays_not : Try.prog.laysLater = false := by kernel_rfl
theorem bears_not : Try.prog.bearsReflect = false := by kernel_rfl
theorem door_fits : Try.prog.doorFits [] = true := by kernel_rfl
theorem enter_cut (P : Program) (c : List Char) (rest : List (List Char)) (h : behindMainWord (wordsSigns P.initOrder.toList) = c :: rest) (hs : stripLifts liftWords (c :: rest) = ([], c :: rest)) (hc : c = "cut".toList)
    (h1 : P.laysLater = false) (h2 : P.bearsReflect = false) (h3 : P.doorFits [] = true) : P.mayEnter = true := by
  unfold Program.mayEnter
  rw [h]
  simp only [hs]
  simp [hc, h1, h2, h3]
theorem may_enter : Try.prog.mayEnter = true :=
  enter_cut Try.prog _ _ ((congrArg (fun l => behindMainWord (wordsSigns l)) init_list).trans init_words) no_lifts cut_word lays_not bears_not door_fits

theorem lifts_cut (P : Program) (c : List Char) (rest : List (List Char)) (h : behindMainWord (wordsSigns P.initOrder.toList) = c :: rest) (hs : stripLifts liftWords (c :: rest) = ([], c :: rest)) (hc : c = "cut".toList) : P.liftsFinal = false := by
  unfold Program.liftsFinal Program.headLifts
  simp only [h, hs]
  simp [hc]
theorem make_of (P : Program) (c : List Char) (rest : List (List Char)) (h : behindMainWord (wordsSigns P.initOrder.toList) = c :: rest) (hc : c = "cut".toList) : P.make = some .cut := by
  unfold Program.make
  simp only [h]
  simp [hc]
theorem lifts_final : Try.prog.liftsFinal = false := lifts_cut Try.prog _ _ ((congrArg (fun l => behindMainWord (wordsSigns l)) init_list).trans init_words) no_lifts cut_word
theorem make_cut : Try.prog.make = some .cut := make_of Try.prog _ _ ((congrArg (fun l => behindMainWord (wordsSigns l)) init_list).trans init_words) cut_word
end Go.Proofs.Ytjhalbmmlcbehaa
