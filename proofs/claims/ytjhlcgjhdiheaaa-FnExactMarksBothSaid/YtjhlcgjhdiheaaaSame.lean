/- Words and marks compared, by both programs and by the statements; what a comparison leaves behind, as an equation. -/
import Derived.Test.YtjhlcgjhdiheaaaSize
import Derived.Test.YtjhlcgjhdiheaaaH3
namespace Go.Proofs.Ytjhlcgjhdiheaaa
open Go.RowKit
set_option linter.unusedVariables false
set_option linter.unusedSimpArgs false

set_option maxHeartbeats 400000 in
theorem eq4_any (A B : Option Addr) (n c m d : Nat) (xs ys : List ByteArray) (w : World) (hn : n ≤ 9223372036854775807) (hm : m ≤ 9223372036854775807) (h : Strs w A n xs) (k : Strs w B m ys) :
    Calls Try.prog 104 #[.slice A n c, .slice B m d] w fun e w' => e = .returned (.bool (decide (xs = ys))) ∧ ∃ q, w' = w.drewN q := by
  have hlen := Lib.hid h.len
  have hlen2 := Lib.hid k.len
  by_cases hnm : n = m
  · subst hnm
    go_enter Try.func104, Try.ntmps104
    go_wp2
    go_loopw [5] (fun i wr => ∃ j : Nat, j ≤ n ∧ i = .int .i64 j ∧ Hid (xs.take j = ys.take j) ∧ ∃ q, wr = w.drewN q) (fun i _ => n - (intOf i).toNat)
    case atStart => exact ⟨0, Nat.zero_le _, rfl, Lib.hid rfl, 0, rfl⟩
    case round =>
      obtain ⟨j, hj, rfl, heq, q, rfl⟩ := hrel
      by_cases hlt : j < n
      · obtain ⟨b, off, x, rfl, hx, hx1, hc⟩ := h.at_ hlt
        obtain ⟨b2, off2, y, rfl, hy, hy1, hc2⟩ := k.at_ hlt
        have hX := Lib.hid hx
        have hY := Lib.hid hy
        clear hx hy
        have i1 : (0 : Int) ≤ (j : Int) := by omega
        have i2 : (j : Int) < (n : Int) := by omega
        by_cases hxy : x = y
        · have hb : (x.toList == y.toList) = true := by rw [bytes_eq]; simp [hxy]
          have HX := Lib.hid hxy
          clear hxy
          go_wp2
          go_quiet (fail)
          go_wp2
          go_roundw
          case rel => exact ⟨j + 1, by omega, by go_num, Lib.hid (by rw [take_snoc hX.out, take_snoc hY.out, heq.out, HX.out]), _, rfl⟩
          case measure => simp [intOf]; omega
        · have hb : (x.toList == y.toList) = false := by rw [bytes_eq]; simp [hxy]
          have HX := Lib.hid hxy
          clear hxy
          go_wp2
          go_quiet (fail)
          go_wp2
          go_ret
          refine ⟨ret_bool ?_, q + nq, World.drewN_drewN _ _ _⟩
          have hne : xs ≠ ys := by
            rintro rfl
            have := hX.out.symm.trans hY.out
            exact HX.out (by injection this)
          simp [hne]
      · have he : xs = ys := by
          have := heq.out
          rwa [List.take_of_length_le (by rw [hlen.out]; omega), List.take_of_length_le (by rw [hlen2.out]; omega)] at this
        go_wp2
        go_ret
        exact ⟨ret_bool (by simp [he]), q, rfl⟩
  · have hb : ((n : Int) != (m : Int)) = true := by simp; omega
    have hne : xs ≠ ys := by rintro rfl; exact hnm (hlen.out.symm.trans hlen2.out)
    go_enter Try.func104, Try.ntmps104
    go_wp2
    go_ret
    exact ⟨ret_bool (by simp [hne]), 0, rfl⟩

set_option maxHeartbeats 400000 in
theorem eqt_any (A B : Option Addr) (n c m d : Nat) (xs ys : List ByteArray) (w : World) (hn : n ≤ 9223372036854775807) (hm : m ≤ 9223372036854775807) (h : Strs w A n xs) (k : Strs w B m ys) :
    Calls Try.prog 42 #[.slice A n c, .slice B m d] w fun e w' => e = .returned (.bool (decide (xs = ys))) ∧ ∃ q, w' = w.drewN q := by
  have hlen := Lib.hid h.len
  have hlen2 := Lib.hid k.len
  by_cases hnm : n = m
  · subst hnm
    go_enter Try.func42, Try.ntmps42
    go_wp2
    go_loopw [5] (fun i wr => ∃ j : Nat, j ≤ n ∧ i = .int .i64 j ∧ Hid (xs.take j = ys.take j) ∧ ∃ q, wr = w.drewN q) (fun i _ => n - (intOf i).toNat)
    case atStart => exact ⟨0, Nat.zero_le _, rfl, Lib.hid rfl, 0, rfl⟩
    case round =>
      obtain ⟨j, hj, rfl, heq, q, rfl⟩ := hrel
      by_cases hlt : j < n
      · obtain ⟨b, off, x, rfl, hx, hx1, hc⟩ := h.at_ hlt
        obtain ⟨b2, off2, y, rfl, hy, hy1, hc2⟩ := k.at_ hlt
        have hX := Lib.hid hx
        have hY := Lib.hid hy
        clear hx hy
        have i1 : (0 : Int) ≤ (j : Int) := by omega
        have i2 : (j : Int) < (n : Int) := by omega
        by_cases hxy : x = y
        · have hb : (x.toList == y.toList) = true := by rw [bytes_eq]; simp [hxy]
          have HX := Lib.hid hxy
          clear hxy
          go_wp2
          go_quiet (fail)
          go_wp2
          go_roundw
          case rel => exact ⟨j + 1, by omega, by go_num, Lib.hid (by rw [take_snoc hX.out, take_snoc hY.out, heq.out, HX.out]), _, rfl⟩
          case measure => simp [intOf]; omega
        · have hb : (x.toList == y.toList) = false := by rw [bytes_eq]; simp [hxy]
          have HX := Lib.hid hxy
          clear hxy
          go_wp2
          go_quiet (fail)
          go_wp2
          go_ret
          refine ⟨ret_bool ?_, q + nq, World.drewN_drewN _ _ _⟩
          have hne : xs ≠ ys := by
            rintro rfl
            have := hX.out.symm.trans hY.out
            exact HX.out (by injection this)
          simp [hne]
      · have he : xs = ys := by
          have := heq.out
          rwa [List.take_of_length_le (by rw [hlen.out]; omega), List.take_of_length_le (by rw [hlen2.out]; omega)] at this
        go_wp2
        go_ret
        exact ⟨ret_bool (by simp [he]), q, rfl⟩
  · have hb : ((n : Int) != (m : Int)) = true := by simp; omega
    have hne : xs ≠ ys := by rintro rfl; exact hnm (hlen.out.symm.trans hlen2.out)
    go_enter Try.func42, Try.ntmps42
    go_wp2
    go_ret
    exact ⟨ret_bool (by simp [hne]), 0, rfl⟩

set_option maxHeartbeats 400000 in
theorem eqs_any (A B : Option Addr) (n c m d : Nat) (xs ys : List ByteArray) (w : World) (hn : n ≤ 9223372036854775807) (hm : m ≤ 9223372036854775807) (h : Strs w A n xs) (k : Strs w B m ys) :
    Calls Try.prog 107 #[.slice A n c, .slice B m d] w fun e w' => e = .returned (.bool (decide (xs = ys))) ∧ ∃ q, w' = w.drewN q := by
  have hlen := Lib.hid h.len
  have hlen2 := Lib.hid k.len
  by_cases hnm : n = m
  · subst hnm
    go_enter Try.func107, Try.ntmps107
    go_wp2
    go_loopw [13] (fun i wr => ∃ j : Nat, j ≤ n ∧ i = .int .i64 j ∧ Hid (xs.take j = ys.take j) ∧ ∃ q, wr = w.drewN q) (fun i _ => n - (intOf i).toNat)
    case atStart => exact ⟨0, Nat.zero_le _, rfl, Lib.hid rfl, 0, rfl⟩
    case round =>
      obtain ⟨j, hj, rfl, heq, q, rfl⟩ := hrel
      by_cases hlt : j < n
      · obtain ⟨b, off, x, rfl, hx, hx1, hc⟩ := h.at_ hlt
        obtain ⟨b2, off2, y, rfl, hy, hy1, hc2⟩ := k.at_ hlt
        have hX := Lib.hid hx
        have hY := Lib.hid hy
        clear hx hy
        have i1 : (0 : Int) ≤ (j : Int) := by omega
        have i2 : (j : Int) < (n : Int) := by omega
        by_cases hxy : x = y
        · have hb : (x.toList == y.toList) = true := by rw [bytes_eq]; simp [hxy]
          have HX := Lib.hid hxy
          clear hxy
          go_wp2
          go_quiet (fail)
          go_wp2
          go_roundw
          case rel => exact ⟨j + 1, by omega, by go_num, Lib.hid (by rw [take_snoc hX.out, take_snoc hY.out, heq.out, HX.out]), _, rfl⟩
          case measure => simp [intOf]; omega
        · have hb : (x.toList == y.toList) = false := by rw [bytes_eq]; simp [hxy]
          have HX := Lib.hid hxy
          clear hxy
          go_wp2
          go_quiet (fail)
          go_wp2
          go_ret
          refine ⟨ret_bool ?_, q + nq, World.drewN_drewN _ _ _⟩
          have hne : xs ≠ ys := by
            rintro rfl
            have := hX.out.symm.trans hY.out
            exact HX.out (by injection this)
          simp [hne]
      · have he : xs = ys := by
          have := heq.out
          rwa [List.take_of_length_le (by rw [hlen.out]; omega), List.take_of_length_le (by rw [hlen2.out]; omega)] at this
        go_wp2
        go_ret
        exact ⟨ret_bool (by simp [he]), q, rfl⟩
  · have hb : ((n : Int) != (m : Int)) = true := by simp; omega
    have hne : xs ≠ ys := by rintro rfl; exact hnm (hlen.out.symm.trans hlen2.out)
    go_enter Try.func107, Try.ntmps107
    go_wp2
    go_ret
    exact ⟨ret_bool (by simp [hne]), 0, rfl⟩

theorem two_allocs (w : World) (o1 o2 : Obj) (q : Nat) : ∃ p os', ((w.alloc o1).alloc o2).drewN q = Go.Sort.grow (w.drewN p) os' :=
  ⟨q, #[o1, o2], by
    show ({ w with heap := (w.heap.push o1).push o2, drawn := w.drawn + q } : World) = { w with heap := w.heap ++ #[o1, o2], drawn := w.drawn + q }
    congr 1⟩

set_option maxHeartbeats 400000 in
theorem l7same_any (x y : M) (A B : Option Addr) (n c m d : Nat) (w : World) (hn : n ≤ 9223372036854775807) (hm : m ≤ 9223372036854775807) (h : Strs w A n x.put) (k : Strs w B m y.put) :
    Calls Try.prog 76 #[mv x A n c, mv y B m d] w fun e w' => e = .returned (.bool (Mk.sameM x y)) ∧ ∃ q os', w' = Go.Sort.grow (w.drewN q) os' := by
  have b2 : Below w.heap.size w ((w.alloc (.cells #[.int .i64 x.at_, .int .i64 x.cut, .slice A n c] 58)).alloc (.cells #[.int .i64 y.at_, .int .i64 y.cut, .slice B m d] 58)) :=
    ((Below.refl _ _).alloc (Nat.le_refl _) _).alloc (by simp) _
  have hg := fun q => two_allocs w (.cells #[.int .i64 x.at_, .int .i64 x.cut, .slice A n c] 58) (.cells #[.int .i64 y.at_, .int .i64 y.cut, .slice B m d] 58) q
  have HG := Lib.hid hg
  clear hg
  by_cases h1 : x.at_ = y.at_
  · by_cases h2 : x.cut = y.cut
    · have hs := Lib.hid (same_put h1 h2)
      have e1 : (x.at_ == y.at_) = true := by simp [h1]
      have e2 : (x.cut == y.cut) = true := by simp [h2]
      clear h1 h2
      go_enter Try.func76, Try.ntmps76
      go_wp2_with fail
      refine (eq4_any A B n c m d x.put y.put _ hn hm (h.below b2) (k.below b2)).mono ?_
      rintro e w1 ⟨rfl, q, hq⟩
      have HQ := Lib.hid hq
      clear hq
      generalize hd : decide (x.put = y.put) = r at *
      have HD := Lib.hid hd
      clear hd
      go_wp2_with fail
      go_ret
      exact ⟨ret_bool hs.out.symm, by rw [HQ.out]; exact HG.out q⟩
    · have hs := Lib.hid (same_no_cut h2)
      have e1 : (x.at_ == y.at_) = true := by simp [h1]
      have e2 : (x.cut == y.cut) = false := by simp [h2]
      clear h1 h2
      go_enter Try.func76, Try.ntmps76
      go_wp2_with fail
      go_ret
      exact ⟨ret_bool (by rw [hs.out]), HG.out 0⟩
  · have hs := Lib.hid (same_no_at h1)
    have e1 : (x.at_ == y.at_) = false := by simp [h1]
    clear h1
    go_enter Try.func76, Try.ntmps76
    go_wp2_with fail
    go_ret
    exact ⟨ret_bool (by rw [hs.out]), HG.out 0⟩

set_option maxHeartbeats 400000 in
theorem isame_m (x y : M) (A B : Option Addr) (n c m d : Nat) (w : World) (hn : n ≤ 9223372036854775807) (hm : m ≤ 9223372036854775807) (h : Strs w A n x.put) (k : Strs w B m y.put) :
    Calls Try.prog 81 #[mv x A n c, mv y B m d] w fun e w' => e = .returned (.bool (Mk.sameM x y)) ∧ ∃ q os', w' = Go.Sort.grow (w.drewN q) os' := by
  have b2 : Below w.heap.size w ((w.alloc (.cells #[.int .i64 x.at_, .int .i64 x.cut, .slice A n c] 58)).alloc (.cells #[.int .i64 y.at_, .int .i64 y.cut, .slice B m d] 58)) :=
    ((Below.refl _ _).alloc (Nat.le_refl _) _).alloc (by simp) _
  have hg := fun q => two_allocs w (.cells #[.int .i64 x.at_, .int .i64 x.cut, .slice A n c] 58) (.cells #[.int .i64 y.at_, .int .i64 y.cut, .slice B m d] 58) q
  have HG := Lib.hid hg
  clear hg
  by_cases h1 : x.at_ = y.at_
  · by_cases h2 : x.cut = y.cut
    · have hs := Lib.hid (same_put h1 h2)
      have e1 : (x.at_ == y.at_) = true := by simp [h1]
      have e2 : (x.cut == y.cut) = true := by simp [h2]
      clear h1 h2
      go_enter Try.func81, Try.ntmps81
      go_wp2_with fail
      refine (eqs_any A B n c m d x.put y.put _ hn hm (h.below b2) (k.below b2)).mono ?_
      rintro e w1 ⟨rfl, q, hq⟩
      have HQ := Lib.hid hq
      clear hq
      generalize hd : decide (x.put = y.put) = r at *
      have HD := Lib.hid hd
      clear hd
      go_wp2_with fail
      go_ret
      exact ⟨ret_bool hs.out.symm, by rw [HQ.out]; exact HG.out q⟩
    · have hs := Lib.hid (same_no_cut h2)
      have e1 : (x.at_ == y.at_) = true := by simp [h1]
      have e2 : (x.cut == y.cut) = false := by simp [h2]
      clear h1 h2
      go_enter Try.func81, Try.ntmps81
      go_wp2_with fail
      go_ret
      exact ⟨ret_bool (by rw [hs.out]), HG.out 0⟩
  · have hs := Lib.hid (same_no_at h1)
    have e1 : (x.at_ == y.at_) = false := by simp [h1]
    clear h1
    go_enter Try.func81, Try.ntmps81
    go_wp2_with fail
    go_ret
    exact ⟨ret_bool (by rw [hs.out]), HG.out 0⟩

end Go.Proofs.Ytjhlcgjhdiheaaa
