/- The contracts as the statements use them: valid marks, and others. -/
import Derived.Test.YtjhlcgjhdiheaaaDoorSameM
import Derived.Test.YtjhlcgjhdiheaaaDoorLawsR
import Derived.Test.YtjhlcgjhdiheaaaDoorBack4
namespace Go.Proofs.YtjhlcgjhdiheaaaDoor
open Go.RowKit
set_option linter.unusedVariables false

def GetM (w : World) (b : Bool) (ms : List M) (e : Ending) (w' : World) : Prop := ∃ A n c, e = .returned (.tuple #[.slice A n c, .bool b]) ∧ OwnM w' w.heap.size w'.heap.size A n c ms ∧ Below w.heap.size w w'
def GetS (w : World) (b : Bool) (xs : List ByteArray) (e : Ending) (w' : World) : Prop := ∃ A n c, e = .returned (.tuple #[.slice A n c, .bool b]) ∧ OwnS w' w.heap.size w'.heap.size A n c xs ∧ Below w.heap.size w w'
theorem MrkPost.yes {w : World} {r : Option (List M)} {xs : List M} {e : Ending} {w' : World} (h : r = some xs) (k : MrkPost w r e w') : GetM w true xs e w' := by subst h; exact k
theorem MrkPost.no {w : World} {r : Option (List M)} {e : Ending} {w' : World} (h : r = none) (k : MrkPost w r e w') : GetM w false [] e w' := by subst h; exact k
theorem ListPost.yes {w : World} {r : Option (List ByteArray)} {xs : List ByteArray} {e : Ending} {w' : World} (h : r = some xs) (k : ListPost w r e w') : GetS w true xs e w' := by subst h; exact k
theorem ListPost.no {w : World} {r : Option (List ByteArray)} {e : Ending} {w' : World} (h : r = none) (k : ListPost w r e w') : GetS w false [] e w' := by subst h; exact k
section
variable (A B : Option Addr) (n c m d : Nat) (ws : List ByteArray) (ms : List M) (w : World) (h : PutIn w A n c ws) (k : Mrks w B m ms) (hm : m ≤ 9223372036854775807)
include h k hm
theorem iback_yes (hv : valid ws ms = true) : Calls Tryd.prog 9 #[.slice A n c, .slice B m d] w (GetM w true (Mk.backM ws 0 ms)) := (iback_any A B n c m d ws ms w h.max hm h.2.1 h.2.2.1 h.2.2.2 h.1 k).mono fun e w' hp => hp.yes (backF_yes hv)
theorem iback_no (hv : valid ws ms = false) : Calls Tryd.prog 9 #[.slice A n c, .slice B m d] w (GetM w false []) := (iback_any A B n c m d ws ms w h.max hm h.2.1 h.2.2.1 h.2.2.2 h.1 k).mono fun e w' hp => hp.no (backF_no hv)
theorem ido_yes (hv : valid ws ms = true) : Calls Tryd.prog 8 #[.slice A n c, .slice B m d] w (GetS w true (Mk.doM ws 0 ms)) := (ido_any A B n c m d ws ms w h.max hm h.2.1 h.2.2.2 h.1 k).mono fun e w' hp => hp.yes (doF_yes hv)
theorem ido_no (hv : valid ws ms = false) : Calls Tryd.prog 8 #[.slice A n c, .slice B m d] w (GetS w false []) := (ido_any A B n c m d ws ms w h.max hm h.2.1 h.2.2.2 h.1 k).mono fun e w' hp => hp.no (doF_no hv)
theorem ivalid_is {b : Bool} (hv : valid ws ms = b) : Calls Tryd.prog 18 #[.slice A n c, .slice B m d] w fun e w' => e = .returned (.bool b) ∧ Below w.heap.size w w' := (ivalidm_any A B n c m d ws ms w h.max hm h.1 k).mono fun e w' hp => ⟨hp.1.trans (ret_bool hv), hp.2⟩
theorem svalid_is {b : Bool} (hv : valid ws ms = b) : Calls Tryd.prog 21 #[.slice A n c, .slice B m d] w fun e w' => e = .returned (.bool b) ∧ Below w.heap.size w w' := (svalidm_any A B n c m d ws ms w h.max hm h.1 k).mono fun e w' hp => ⟨hp.1.trans (ret_bool hv), hp.2⟩
end
end Go.Proofs.YtjhlcgjhdiheaaaDoor

