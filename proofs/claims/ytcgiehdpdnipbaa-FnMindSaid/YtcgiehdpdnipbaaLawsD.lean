/- Plain laws of the talk chapter, fourth part: the mind after a second. -/
import Derived.Test.YtcgiehdpdnipbaaLawsC
namespace Go.Proofs.Ytcgiehdpdnipbaa
namespace Talk
theorem minds_at (r h : Int) (xs : List Int) (k : Nat) (x : Int) (hx : xs[k]? = some x) : (minds r h 0 xs)[k]? = some (nxt r h (endM r h 0 (xs.take k)) x) := by
  have h1 : (minds r h 0 xs)[k]? = (minds r h 0 (xs.take (k + 1)))[k]? := by
    rw [minds_take, List.getElem?_take_of_lt (by omega)]
  have hk : k < xs.length := (List.getElem?_eq_some_iff.1 hx).1
  rw [h1, take_snoc hx, minds_append, List.getElem?_append_right (by rw [minds_len, List.length_take]; omega), minds_len, List.length_take, show k - min k xs.length = 0 by omega]
  rfl
end Talk
end Go.Proofs.Ytcgiehdpdnipbaa
