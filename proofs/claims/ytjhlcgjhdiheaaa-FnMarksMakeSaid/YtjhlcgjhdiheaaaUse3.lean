/- The contracts of MarksMake as the statements use them. -/
import Derived.Test.YtjhlcgjhdiheaaaMk5
import Derived.Test.YtjhlcgjhdiheaaaMk2
import Derived.Test.YtjhlcgjhdiheaaaPla
namespace Go.Proofs.Ytjhlcgjhdiheaaa
open Go.RowKit
set_option linter.unusedVariables false

abbrev madeM (a b : List ByteArray) : List M := Mk.abs 0 (Mk.made a b)
theorem valid_madeM {a b : List ByteArray} (ha : speak a = true) (hb : speak b = true) : valid a (madeM a b) = true := Mk.valid_made wok ha hb
theorem makeF_bound (a b : List ByteArray) : ((makeF a b).getD []).length ≤ 20 ∧ totPut ((makeF a b).getD []) ≤ 400 := by
  cases h : (speak a && speak b) with
  | false => rw [makeF_no h]; exact ⟨by simp, by simp [totPut]⟩
  | true =>
    rw [Bool.and_eq_true] at h
    rw [makeF_yes h.1 h.2]
    exact valid_bound (valid_madeM h.1 h.2)
section
variable (A B : Option Addr) (n c m d : Nat) (a b : List ByteArray) (w : World) (h : PutIn w A n c a) (k : PutIn w B m d b)
include h k
theorem imake_yes (ha : speak a = true) (hb : speak b = true) : Calls Try.prog 64 #[.slice A n c, .slice B m d] w (GetM w true (madeM a b)) := (imake_any A B n c m d a b w h.max k.max k.2.1 k.2.2.1 k.2.2.2 h.1 k.1).mono fun e w' hp => hp.yes (makeF_yes ha hb)
theorem imake_no (hs : (speak a && speak b) = false) : Calls Try.prog 64 #[.slice A n c, .slice B m d] w (GetM w false []) := (imake_any A B n c m d a b w h.max k.max k.2.1 k.2.2.1 k.2.2.2 h.1 k.1).mono fun e w' hp => hp.no (makeF_no hs)
theorem smake_yes (ha : speak a = true) (hb : speak b = true) : Calls Try.prog 63 #[.slice A n c, .slice B m d] w (GetM w true (madeM a b)) := (smake_any A B n c m d a b w h.max k.max h.1 k.1).mono fun e w' hp => hp.yes (makeF_yes ha hb)
theorem smake_no (hs : (speak a && speak b) = false) : Calls Try.prog 63 #[.slice A n c, .slice B m d] w (GetM w false []) := (smake_any A B n c m d a b w h.max k.max h.1 k.1).mono fun e w' hp => hp.no (makeF_no hs)
end
/-- a word "so" ahead of both -/
def soW : ByteArray := ⟨#[115, 111]⟩
theorem speak_so {a : List ByteArray} (h : speak a = true) (hl : a.length < 20) : speak (soW :: a) = true := by
  unfold speak Mk.speech at *
  rw [Bool.and_eq_true, decide_eq_true_iff] at *
  refine ⟨by simp; omega, ?_⟩
  rw [List.all_cons, h.2, Bool.and_true]
  decide
theorem made_soM (a b : List ByteArray) : madeM (soW :: a) (soW :: b) = (madeM a b).map fun m => ⟨m.at_ + 1, m.cut, m.put⟩ := Mk.made_so_abs soW a b
theorem made_so_at {a b : List ByteArray} {j : Nat} {x : M} (h : (madeM a b)[j]? = some x) : (madeM (soW :: a) (soW :: b))[j]? = some ⟨x.at_ + 1, x.cut, x.put⟩ := by
  rw [made_soM, List.getElem?_map, h]; rfl
theorem made_so_len (a b : List ByteArray) : (madeM (soW :: a) (soW :: b)).length = (madeM a b).length := by rw [made_soM, List.length_map]
theorem do_madeM (a b : List ByteArray) : Mk.doM a 0 (madeM a b) = b := Mk.do_made a b
theorem size_madeM {a b : List ByteArray} (ha : speak a = true) (hb : speak b = true) : sizeI a (madeM a b) = farI a b := by
  rw [sizeI_yes (valid_madeM ha hb), farI_yes ha hb]
  exact Mk.size_made a b
/-- how far the words have grown behind some marks is a small number -/
theorem grow_small {ws : List ByteArray} {ms : List M} (h : valid ws ms = true) (j : Nat) (hj : j ≤ ms.length) : -20 * (j : Int) ≤ Mk.grow (ms.take j) ∧ Mk.grow (ms.take j) ≤ 20 * (j : Int) := by
  induction j with
  | zero => simp [Mk.grow]
  | succ j ih =>
    obtain ⟨i1, i2⟩ := ih (by omega)
    have hx := List.getElem?_eq_getElem (l := ms) (i := j) (by omega)
    rw [grow_go hx]
    have := fit_of h (mem_at hx)
    omega
theorem grow_all {ws : List ByteArray} {ms : List M} (h : valid ws ms = true) : ((Mk.doM ws 0 ms).length : Int) = ws.length + Mk.grow ms := Mk.grow_of wok h
end Go.Proofs.Ytjhlcgjhdiheaaa
