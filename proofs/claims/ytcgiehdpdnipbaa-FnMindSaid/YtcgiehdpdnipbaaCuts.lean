/- Slices cut at their head and at their end; roots of rows. -/
import Derived.Test.YtcgiehdpdnipbaaLawsB
namespace Go.Proofs.Ytcgiehdpdnipbaa
open Go.RowKit
theorem Ints.take {w : World} {A : Option Addr} {n k : Nat} {xs : List Int} (h : Ints w A n xs) (hk : k ≤ n) : Ints w A k (xs.take k) := by
  refine ⟨by rw [List.length_take, h.len]; omega, fun x hx => h.wf x (List.mem_of_mem_take hx), fun hn => ?_⟩
  obtain ⟨b, off, e, hb, hc⟩ := h.2.2 (by omega)
  refine ⟨b, off, e, hb, fun j x hx => hc j x ?_⟩
  have hj : j < k := by
    have := (List.getElem?_eq_some_iff.1 hx).1
    rw [List.length_take] at this; omega
  rwa [List.getElem?_take_of_lt hj] at hx
theorem OwnI.root {w : World} {lo hi n c : Nat} {A : Option Addr} {xs : List Int} (h : OwnI w lo hi A n c xs) : (A = none ∧ c = 0) ∨ ∃ g, A = some ⟨g, 0, none⟩ := by
  rcases h.1.2 with ⟨e, _⟩ | ⟨g, cap, cur, hv, _⟩
  · injection e with e1 _ e3; exact .inl ⟨e1, e3⟩
  · injection hv with hv; exact .inr ⟨g, hv⟩
theorem Ints.rest {w : World} {A : Option Addr} {n k c : Nat} {xs : List Int} (h : Ints w A n xs) (hk : k ≤ n) (hc : n ≤ c) (hr : (A = none ∧ c = 0) ∨ ∃ g, A = some ⟨g, 0, none⟩) : Ints w (if c = k then A else A.map (·.add k)) (n - k) (xs.drop k) := by
  refine ⟨by rw [List.length_drop, h.len], fun x hx => h.wf x (List.mem_of_mem_drop hx), fun hn => ?_⟩
  rw [if_neg (by omega)]
  obtain ⟨b, off, e, hb, hcell⟩ := h.2.2 (by omega)
  subst e
  rcases hr with ⟨e, _⟩ | ⟨g, e⟩
  · cases e
  · injection e with e
    injection e with e1 e2
    subst e1 e2
    refine ⟨b, k, by simp [add_none], hb, fun j x hx => ?_⟩
    rw [List.getElem?_drop] at hx
    have := hcell _ x hx
    rwa [Nat.zero_add] at this
end Go.Proofs.Ytcgiehdpdnipbaa
