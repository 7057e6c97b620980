/- The contracts as the statements use them: valid marks, and others. -/
import Derived.Test.YtjhlcgjhdiheaaaSameM
import Derived.Test.YtjhlcgjhdiheaaaLawsR
import Derived.Test.YtjhlcgjhdiheaaaBack4
namespace Go.Proofs.Ytjhlcgjhdiheaaa
open Go.RowKit
set_option linter.unusedVariables false

def GetM (w : World) (b : Bool) (ms : List M) (e : Ending) (w' : World) : Prop := ∃ A n c, e = .returned (.tuple #[.slice A n c, .bool b]) ∧ OwnM w' w.heap.size w'.heap.size A n c ms ∧ Below w.heap.size w w'
def GetS (w : World) (b : Bool) (xs : List ByteArray) (e : Ending) (w' : World) : Prop := ∃ A n c, e = .returned (.tuple #[.slice A n c, .bool b]) ∧ OwnS w' w.heap.size w'.heap.size A n c xs ∧ Below w.heap.size w w'
theorem MrkPost.yes {w : World} {r : Option (List M)} {xs : List M} {e : Ending} {w' : World} (h : r = some xs) (k : MrkPost w r e w') : GetM w true xs e w' := by subst h; exact k
theorem MrkPost.no {w : World} {r : Option (List M)} {e : Ending} {w' : World} (h : r = none) (k : MrkPost w r e w') : GetM w false [] e w' := by subst h; exact k
theorem ListPost.yes {w : World} {r : Option (List ByteArray)} {xs : List ByteArray} {e : Ending} {w' : World} (h : r = some xs) (k : ListPost w r e w') : GetS w true xs e w' := by subst h; exact k
theorem ListPost.no {w : World} {r : Option (List ByteArray)} {e : Ending} {w' : World} (h : r = none) (k : ListPost w r e w') : GetS w false [] e w' := by subst h; exact k
section
variable (A B : Option Addr) (n c m d : Nat) (ws : List ByteArray) (ms : List M) (w : World) (h : PutIn w A n c ws) (k : Mrks w B m ms) (hm : m ≤ 9223372036854775807)
include h k hm
theorem iback_yes (hv : valid ws ms = true) : Calls Try.prog 58 #[.slice A n c, .slice B m d] w (GetM w true (Mk.backM ws 0 ms)) := (iback_any A B n c m d ws ms w h.max hm h.2.1 h.2.2.1 h.2.2.2 h.1 k).mono fun e w' hp => hp.yes (backF_yes hv)
theorem iback_no (hv : valid ws ms = false) : Calls Try.prog 58 #[.slice A n c, .slice B m d] w (GetM w false []) := (iback_any A B n c m d ws ms w h.max hm h.2.1 h.2.2.1 h.2.2.2 h.1 k).mono fun e w' hp => hp.no (backF_no hv)
theorem sback_yes (hv : valid ws ms = true) : Calls Try.prog 59 #[.slice A n c, .slice B m d] w (GetM w true (Mk.backM ws 0 ms)) := (sback_any A B n c m d ws ms w h.max hm h.2.1 h.2.2.1 h.2.2.2 h.1 k).mono fun e w' hp => hp.yes (backF_yes hv)
theorem sback_no (hv : valid ws ms = false) : Calls Try.prog 59 #[.slice A n c, .slice B m d] w (GetM w false []) := (sback_any A B n c m d ws ms w h.max hm h.2.1 h.2.2.1 h.2.2.2 h.1 k).mono fun e w' hp => hp.no (backF_no hv)
theorem ido_yes (hv : valid ws ms = true) : Calls Try.prog 54 #[.slice A n c, .slice B m d] w (GetS w true (Mk.doM ws 0 ms)) := (ido_any A B n c m d ws ms w h.max hm h.2.1 h.2.2.2 h.1 k).mono fun e w' hp => hp.yes (doF_yes hv)
theorem ido_no (hv : valid ws ms = false) : Calls Try.prog 54 #[.slice A n c, .slice B m d] w (GetS w false []) := (ido_any A B n c m d ws ms w h.max hm h.2.1 h.2.2.2 h.1 k).mono fun e w' hp => hp.no (doF_no hv)
theorem sdo_yes (hv : valid ws ms = true) : Calls Try.prog 53 #[.slice A n c, .slice B m d] w (GetS w true (Mk.doM ws 0 ms)) := (sdo_any A B n c m d ws ms w h.max hm h.2.1 h.2.2.2 h.1 k).mono fun e w' hp => hp.yes (doF_yes hv)
theorem sdo_no (hv : valid ws ms = false) : Calls Try.prog 53 #[.slice A n c, .slice B m d] w (GetS w false []) := (sdo_any A B n c m d ws ms w h.max hm h.2.1 h.2.2.2 h.1 k).mono fun e w' hp => hp.no (doF_no hv)
theorem ivalid_is {b : Bool} (hv : valid ws ms = b) : Calls Try.prog 46 #[.slice A n c, .slice B m d] w fun e w' => e = .returned (.bool b) ∧ Below w.heap.size w w' := (ivalidm_any A B n c m d ws ms w h.max hm h.1 k).mono fun e w' hp => ⟨hp.1.trans (ret_bool hv), hp.2⟩
theorem svalid_is {b : Bool} (hv : valid ws ms = b) : Calls Try.prog 45 #[.slice A n c, .slice B m d] w fun e w' => e = .returned (.bool b) ∧ Below w.heap.size w w' := (svalidm_any A B n c m d ws ms w h.max hm h.1 k).mono fun e w' hp => ⟨hp.1.trans (ret_bool hv), hp.2⟩
theorem ishift_is (i v : Int) (b : Bool) (h1 : shiftOk ws ms i = b) (h2 : shiftV ws ms i = v) : Calls Try.prog 50 #[.slice A n c, .slice B m d, .int .i64 i] w fun e w' => e = .returned (.tuple #[.int .i64 v, .bool b]) ∧ Below w.heap.size w w' := (ishiftm_any A B n c m d ws ms i w h.max hm h.1 k).mono fun e w' hp => ⟨hp.1.trans (ret_two h2 h1), hp.2⟩
theorem sshift_is (i v : Int) (b : Bool) (h1 : shiftOk ws ms i = b) (h2 : shiftV ws ms i = v) : Calls Try.prog 49 #[.slice A n c, .slice B m d, .int .i64 i] w fun e w' => e = .returned (.tuple #[.int .i64 v, .bool b]) ∧ Below w.heap.size w w' := (sshiftm_any A B n c m d ws ms i w h.max hm h.1 k).mono fun e w' hp => ⟨hp.1.trans (ret_two h2 h1), hp.2⟩
end
theorem samem_self (A B : Option Addr) (n c m d : Nat) (xs : List M) (w : World) (hn : n ≤ 9223372036854775807) (hm : m ≤ 9223372036854775807) (h : Mrks w A n xs) (k : Mrks w B m xs) :
    Calls Try.prog 60 #[.slice A n c, .slice B m d] w fun e w' => e = .returned (.bool true) ∧ Below w.heap.size w w' :=
  (samem_any A B n c m d xs xs w hn hm h k).mono fun e w' ⟨he, hb⟩ => ⟨he.trans (ret_bool (eqMs_self xs)), hb⟩
end Go.Proofs.Ytjhlcgjhdiheaaa
