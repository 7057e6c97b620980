/- Outlines and forms that are compared by the program. -/
import Derived.Test.YtjhalbmmlcbehaaCl
namespace Go.Proofs.Ytjhalbmmlcbehaa
open Go.RowKit Wr
set_option linter.unusedVariables false
set_option linter.unusedSimpArgs false

theorem lists_ne {α : Type} {l m : List α} {j : Nat} {x y : α} (hx : l[j]? = some x) (hy : m[j]? = some y) (h : x ≠ y) : l ≠ m := by
  rintro rfl
  rw [hx] at hy
  injection hy with hy
  exact h hy
set_option maxRecDepth 8000 in
set_option maxHeartbeats 4000000 in
theorem eqK_any (A B : Option Addr) (n c m d : Nat) (l q : List Stk) (w : World) (h : Stks w A n l) (k : Stks w B m q) (hn : n ≤ 1048576) (hm : m ≤ 1048576) :
    Calls Try.prog 34 #[.slice A n c, .slice B m d] w fun e w' => e = .returned (.bool (decide (l = q))) ∧ Below w.heap.size w w' := by
  have hlen := Lib.hid h.len
  have hlen2 := Lib.hid k.len
  by_cases hnm : n = m
  rotate_left
  · have hb : ((n : Int) != (m : Int)) = true := by simp; omega
    have hr : Hid (decide (l = q) = false) := Lib.hid (decide_eq_false fun e => hnm (by rw [← hlen.out, ← hlen2.out, e]))
    clear hnm
    go_enter Try.func34, Try.ntmps34
    go_wp2_with fail
    go_ret
    exact ⟨ret_bool hr.out.symm, Below.refl _ _⟩
  subst hnm
  go_enter Try.func34, Try.ntmps34
  go_wp2_with fail
  go_loopw [13] (fun iv wr => ∃ j u : Nat, j ≤ n ∧ iv = .int .i64 j ∧ Hid (l.take j = q.take j) ∧ wr = w.drewN u) (fun iv _ => n - (intOf iv).toNat)
  case atStart => exact ⟨0, 0, Nat.zero_le _, rfl, Lib.hid rfl, rfl⟩
  case round =>
    obtain ⟨j, u, hj, rfl, heq, rfl⟩ := hrel
    by_cases hlt : j < n
    · obtain ⟨b, off, x, rfl, hx, c0, c1⟩ := Stks.at2 h hlt
      obtain ⟨b2, off2, y, rfl, hy, e0, e1⟩ := Stks.at2 k hlt
      have j1 : (0 : Int) ≤ (j : Int) := by omega
      have j2 : (j : Int) < (n : Int) := by omega
      have hX := Lib.hid hx
      have hY := Lib.hid hy
      have bad : x ≠ y → Hid (decide (l = q) = false) := fun hne => Lib.hid (decide_eq_false (lists_ne hX.out hY.out hne))
      clear hx hy
      by_cases hd : x.dir = y.dir
      · by_cases hz : x.size = y.size
        · have hN : Hid (l.take (j + 1) = q.take (j + 1)) := Lib.hid (by rw [take_snoc hX.out, take_snoc hY.out, heq.out, stk_of hd hz])
          clear bad
          go_wp2_with fail
          go_quiet (fail)
          go_wp2_with fail
          go_roundw
          case rel => exact ⟨j + 1, _, by omega, by go_num, hN, rfl⟩
          case measure => simp [intOf]; omega
        · have hr := bad (fun e => hz (by rw [e]))
          clear bad
          go_wp2_with fail
          go_quiet (fail)
          go_wp2_with fail
          go_ret
          exact ⟨ret_bool hr.out.symm, below_drewN (below_drewN (Below.refl _ _) _) _⟩
      · have hr := bad (fun e => hd (by rw [e]))
        clear bad
        go_wp2_with fail
        go_quiet (fail)
        go_wp2_with fail
        go_ret
        exact ⟨ret_bool hr.out.symm, below_drewN (below_drewN (Below.refl _ _) _) _⟩
    · have hr : Hid (decide (l = q) = true) := Lib.hid (decide_eq_true (by
        have := heq.out
        rwa [List.take_of_length_le (by rw [hlen.out]; omega), List.take_of_length_le (by rw [hlen2.out]; omega)] at this))
      go_wp2_with fail
      go_ret
      exact ⟨ret_bool hr.out.symm, below_drewN (Below.refl _ _) _⟩
set_option maxRecDepth 8000 in
set_option maxHeartbeats 4000000 in
theorem same_any (A B : Option Addr) (n c m d : Nat) (l q : List Stk) (w : World) (h : Stks w A n l) (k : Stks w B m q) (hn : n ≤ 1048576) (hm : m ≤ 1048576) :
    Calls Try.prog 71 #[.agg #[.slice A n c], .agg #[.slice B m d]] w fun e w' => e = .returned (.bool (decide (l = q))) ∧ Below w.heap.size w w' := by
  have hb1 : Below w.heap.size w (w.alloc (.cells #[.slice A n c] 60)) := (Below.refl _ _).alloc (Nat.le_refl _) _
  have HB2 := Lib.hid (hb1.alloc hb1.size (.cells #[.slice B m d] 60))
  go_enter Try.func71, Try.ntmps71
  go_wp2_with fail
  refine (eqK_any A B n c m d l q _ (h.below HB2.out) (k.below HB2.out) hn hm).mono ?_
  rintro e w1 ⟨rfl, hb⟩
  have HB3 := Lib.hid (HB2.out.trans (hb.mono HB2.out.size))
  clear hb HB2 hb1
  go_wp2_with fail
  go_ret
  exact ⟨rfl, HB3.out⟩
set_option maxRecDepth 8000 in
set_option maxHeartbeats 4000000 in
theorem formeq_any (A B : Option Addr) (n c m d : Nat) (l q : List Stk) (p r : Int) (w : World) (h : Stks w A n l) (k : Stks w B m q) (hn : n ≤ 1048576) (hm : m ≤ 1048576) :
    Calls Try.prog 48 #[fv A n c p, fv B m d r] w fun e w' => e = .returned (.bool (decide (p = r ∧ l = q))) ∧ Below w.heap.size w w' := by
  have hb1 : Below w.heap.size w (w.alloc (.cells #[.slice A n c, .int .i64 p] 62)) := (Below.refl _ _).alloc (Nat.le_refl _) _
  have HB2 := Lib.hid (hb1.alloc hb1.size (.cells #[.slice B m d, .int .i64 r] 62))
  clear hb1
  by_cases hp : p = r
  · have hq : (p == r) = true := by simp [hp]
    have hr : Hid (decide (p = r ∧ l = q) = decide (l = q)) := Lib.hid (by simp [hp])
    clear hp
    go_enter Try.func48, Try.ntmps48
    go_wp2_with fail
    refine (same_any A B n c m d l q _ (h.below HB2.out) (k.below HB2.out) hn hm).mono ?_
    rintro e w1 ⟨rfl, hb⟩
    have HB3 := Lib.hid (HB2.out.trans (hb.mono HB2.out.size))
    clear hb HB2
    go_wp2_with fail
    go_ret
    exact ⟨ret_bool hr.out.symm, HB3.out⟩
  · have hq : (p == r) = false := by simp [hp]
    have hr : Hid (decide (p = r ∧ l = q) = false) := Lib.hid (by simp [hp])
    clear hp
    go_enter Try.func48, Try.ntmps48
    go_wp2_with fail
    go_ret
    exact ⟨ret_bool hr.out.symm, HB2.out⟩
end Go.Proofs.Ytjhalbmmlcbehaa
