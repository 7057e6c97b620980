/- The statements' helpers for lists of marks, first part: measured. -/
import Derived.Test.YtjhlcgjhdiheaaaDoorMark
import Derived.Test.YtjhlcgjhdiheaaaDoorCat
namespace Go.Proofs.YtjhlcgjhdiheaaaDoor
open Go.RowKit
set_option linter.unusedVariables false
set_option linter.unusedSimpArgs false

def SzMark (w : World) (n : Nat) (xs : List ByteArray) (m : Int) (e : Ending) (w' : World) : Prop := ∃ r : Int, e = .returned (.int .i64 r) ∧ SzPost n xs m r ∧ Below w.heap.size w w'
set_option maxHeartbeats 400000 in
theorem szmark_any (x y : Int) (A : Option Addr) (n c : Nat) (xs : List ByteArray) (m : Int) (w : World) (hn : n ≤ 9223372036854775807) (m0 : 0 ≤ m) (m1 : m ≤ 1048576) (h : Strs w A n xs) :
    Calls Tryd.prog 26 #[.agg #[.int .i64 x, .int .i64 y, .slice A n c], .int .i64 m] w (SzMark w n xs m) := by
  have b0 : Below w.heap.size w (w.alloc (.cells #[.int .i64 x, .int .i64 y, .slice A n c] 56)) := (Below.refl _ _).alloc (Nat.le_refl _) _
  go_enter Tryd.func26, Tryd.ntmps26
  go_wp2_with fail
  refine (sz_any A n c xs m _ hn m0 m1 (h.below b0)).mono ?_
  rintro e w' ⟨⟨r, rfl, hr⟩, rfl⟩
  by_cases hr0 : r < 0
  · go_wp2
    go_ret
    exact ⟨_, rfl, .inl (by omega), b0⟩
  · go_wp2
    go_ret
    exact ⟨_, rfl, hr.out, b0⟩
/-- what a measured list of marks has -/
def SzmPost (n : Nat) (ms : List M) (m : Int) (r : Int) : Prop := r < 0 ∨ (0 ≤ r ∧ r + n ≤ m ∧ (∀ x ∈ ms, x.put.length ≤ 1048576) ∧ (n : Int) + totPut ms + r ≤ m)

set_option maxHeartbeats 400000 in
theorem szm_any (A : Option Addr) (n c : Nat) (ms : List M) (m : Int) (w : World) (hn : n ≤ 9223372036854775807) (m0 : 0 ≤ m) (m1 : m ≤ 1048576) (h : Mrks w A n ms) :
    Calls Tryd.prog 11 #[.slice A n c, .int .i64 m] w fun e w' => (∃ r : Int, e = .returned (.int .i64 r) ∧ Hid (SzmPost n ms m r)) ∧ Below w.heap.size w w' := by
  have hlen := Lib.hid h.len
  by_cases hnm : (n : Int) ≤ m
  rotate_left
  · go_enter Tryd.func11, Tryd.ntmps11
    go_wp2
    go_ret
    exact ⟨⟨_, rfl, Lib.hid (.inl (by omega))⟩, Below.refl _ _⟩
  go_enter Tryd.func11, Tryd.ntmps11
  go_wp2
  go_loopw [1, 5] (fun b i wr => ∃ k : Nat, k ≤ n ∧ i = .int .i64 k ∧ ∃ t : Int, 0 ≤ t ∧ t ≤ 1048576 ∧ b = .int .i64 t ∧ Below w.heap.size w wr ∧ Hid (t + n + totPut (ms.take k) ≤ m ∧ ∀ x ∈ ms.take k, x.put.length ≤ 1048576)) (fun _ i _ => n - (intOf i).toNat)
  case atStart => exact ⟨0, Nat.zero_le _, rfl, m - n, by omega, by omega, rfl, Below.refl _ _, Lib.hid ⟨by simp [totPut], by simp⟩⟩
  case round =>
    obtain ⟨k, hk, rfl, t, t0, t1, rfl, hbel, ha⟩ := hrel
    by_cases hlt : k < n
    · obtain ⟨b, off, x, rfl, hx, i1, i2, c0, c1, A', n', c', c2, hp⟩ := (h.below hbel).at_ hlt
      have hX := Lib.hid hx
      have hpm := hp.max
      clear hx
      go_wp2_with fail
      refine (szmark_any x.at_ x.cut A' n' c' x.put t wr hpm t0 t1 hp.1).mono ?_
      rintro e w1 ⟨r, rfl, hr, hb1⟩
      have hbel1 := hbel.trans (hb1.mono hbel.size)
      have hR := Lib.hid hr
      have hP := Lib.hid hp.len
      clear hr hp hbel hb1 c0 c1 c2
      by_cases hr0 : r < 0
      · go_wp2
        go_ret
        exact ⟨⟨_, rfl, Lib.hid (.inl (by omega))⟩, hbel1⟩
      · have hl : Hid (r + n + totPut (ms.take (k + 1)) ≤ m ∧ ∀ y ∈ ms.take (k + 1), y.put.length ≤ 1048576) := Lib.hid (by
          have h1 := ha.out
          have h2 := hR.out
          have h3 := hP.out
          rw [take_snoc hX.out, totPut_snoc]
          rcases h2 with h2 | ⟨h2, h4, h5⟩
          · omega
          · refine ⟨by omega, fun y hy => ?_⟩
            rcases List.mem_append.1 hy with h6 | h6
            · exact h1.2 y h6
            · rw [List.mem_singleton] at h6; subst h6; omega)
        have hr1 : r ≤ 1048576 := by rcases hR.out with h2 | ⟨h2, h4, h5⟩ <;> omega
        go_wp2
        go_roundw
        case rel => exact ⟨k + 1, by omega, by go_num, r, by omega, hr1, rfl, hbel1, hl⟩
        case measure => simp [intOf]; omega
    · rw [List.take_of_length_le (by rw [hlen.out]; omega)] at ha
      go_wp2
      go_ret
      exact ⟨⟨_, rfl, Lib.hid (.inr ⟨t0, by have := ha.out.1; omega, ha.out.2, by have := ha.out.1; omega⟩)⟩, hbel⟩
end Go.Proofs.YtjhlcgjhdiheaaaDoor

