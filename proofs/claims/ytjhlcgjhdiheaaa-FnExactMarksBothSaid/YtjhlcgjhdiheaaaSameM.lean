/- The statements' sameTexts and sameMarks. -/
import Derived.Test.YtjhlcgjhdiheaaaSame
import Derived.Test.YtjhlcgjhdiheaaaH3
import Derived.Test.YtjhlcgjhdiheaaaClash2
namespace Go.Proofs.Ytjhlcgjhdiheaaa
open Go.RowKit
set_option linter.unusedVariables false
set_option linter.unusedSimpArgs false

theorem drew_grow (w : World) (q : Nat) : w.drewN q = Go.Sort.grow (w.drewN q) #[] := by
  show w.drewN q = ({ w.drewN q with heap := (w.drewN q).heap ++ #[] } : World)
  rw [Array.append_empty]
theorem grow_more {w wr : World} (h : ∃ q os', wr = Go.Sort.grow (w.drewN q) os') (r : Nat) (os : Array Obj) : ∃ q os', Go.Sort.grow (wr.drewN r) os = Go.Sort.grow (w.drewN q) os' := by
  obtain ⟨q, os', e⟩ := h
  subst e
  refine ⟨q + r, os' ++ os, ?_⟩
  show ({ w with heap := (w.heap ++ os') ++ os, drawn := w.drawn + q + r } : World) = { w with heap := w.heap ++ (os' ++ os), drawn := w.drawn + (q + r) }
  rw [Array.append_assoc, Nat.add_assoc]
theorem eqtb_any (A B : Option Addr) (n c m d : Nat) (xs ys : List ByteArray) (w : World) (hn : n ≤ 9223372036854775807) (hm : m ≤ 9223372036854775807) (h : Strs w A n xs) (k : Strs w B m ys) :
    Calls Try.prog 42 #[.slice A n c, .slice B m d] w fun e w' => e = .returned (.bool (decide (xs = ys))) ∧ Below w.heap.size w w' :=
  (eqt_any A B n c m d xs ys w hn hm h k).mono fun e w' ⟨he, q, hw⟩ => ⟨he, by subst hw; exact below_drewN (Below.refl _ _) q⟩
theorem eqt_self (A B : Option Addr) (n c m d : Nat) (xs : List ByteArray) (w : World) (hn : n ≤ 9223372036854775807) (hm : m ≤ 9223372036854775807) (h : Strs w A n xs) (k : Strs w B m xs) :
    Calls Try.prog 42 #[.slice A n c, .slice B m d] w fun e w' => e = .returned (.bool true) ∧ Below w.heap.size w w' :=
  (eqtb_any A B n c m d xs xs w hn hm h k).mono fun e w' ⟨he, hb⟩ => ⟨he.trans (ret_bool (by simp)), hb⟩

set_option maxHeartbeats 1000000 in
theorem samemg_any (A B : Option Addr) (n c m d : Nat) (xs ys : List M) (w : World) (hn : n ≤ 9223372036854775807) (hm : m ≤ 9223372036854775807) (h : Mrks w A n xs) (k : Mrks w B m ys) :
    Calls Try.prog 60 #[.slice A n c, .slice B m d] w fun e w' => e = .returned (.bool (eqMs xs ys)) ∧ ∃ q os', w' = Go.Sort.grow (w.drewN q) os' := by
  have hlen := Lib.hid h.len
  have hlen2 := Lib.hid k.len
  by_cases hnm : n = m
  · subst hnm
    go_enter Try.func60, Try.ntmps60
    go_wp2
    go_loopw [5] (fun i wr => ∃ j : Nat, j ≤ n ∧ i = .int .i64 j ∧ Hid (xs.take j = ys.take j) ∧ ∃ q os', wr = Go.Sort.grow (w.drewN q) os') (fun i _ => n - (intOf i).toNat)
    case atStart => exact ⟨0, Nat.zero_le _, rfl, Lib.hid rfl, 0, #[], drew_grow w 0⟩
    case round =>
      obtain ⟨j, hj, rfl, heq, hgr⟩ := hrel
      have hbel : Below w.heap.size w wr := by obtain ⟨q, os', e⟩ := hgr; rw [e]; exact below_grow (Below.refl _ _) (Nat.le_refl _) q os'
      by_cases hlt : j < n
      · obtain ⟨b, off, x, rfl, hx, x1, x2, c0, c1, A', n', c', c2, hp⟩ := (h.below hbel).at_ hlt
        obtain ⟨b2, off2, y, rfl, hy, y1, y2, d0, d1, B', m', d', d2, hq⟩ := (k.below hbel).at_ hlt
        have hX := Lib.hid hx
        have hY := Lib.hid hy
        have hpm := hp.max
        have hqm := hq.max
        clear hx hy
        have i1 : (0 : Int) ≤ (j : Int) := by omega
        have i2 : (j : Int) < (n : Int) := by omega
        have E0 := fun r os => cell_grown (w := wr) (lt_of_cell c0) c0 r os
        have E1 := fun r os => cell_grown (w := wr) (lt_of_cell c1) c1 r os
        have E2 := fun r os => cell_grown (w := wr) (lt_of_cell c2) c2 r os
        have G0 := fun r os => cell_grown (w := wr) (lt_of_cell d0) d0 r os
        have G1 := fun r os => cell_grown (w := wr) (lt_of_cell d1) d1 r os
        have G2 := fun r os => cell_grown (w := wr) (lt_of_cell d2) d2 r os
        have SX := Lib.hid (fun r os => hp.1.below (below_grow (Below.refl _ _) (Nat.le_refl _) r os))
        have SY := Lib.hid (fun r os => hq.1.below (below_grow (Below.refl _ _) (Nat.le_refl _) r os))
        have HB := Lib.hid (fun r os => grow_more hgr r os)
        have hmix := mixed
        clear c0 c1 c2 d0 d1 d2 hp hq hbel
        by_cases hs : x = y
        · have hE := Lib.hid hs
          have u1 : (x.at_ != y.at_) = false := by simp [hs]
          have u2 : (x.cut != y.cut) = false := by simp [hs]
          have u3 := Lib.hid (show decide (x.put = y.put) = true by simp [hs])
          clear hs
          go_wp2_with fail
          refine wp_region_quiet_grown (by assumption) (by kernel_rfl) ?_
          repeat (go_big_quiet_step (first | (go_at_call 42; refine Calls.grown_of ((eqt_any A' B' n' c' m' d' x.put y.put _ hpm hqm (SX.out _ _) (SY.out _ _)).mono fun e w' h => ⟨h.1.trans (ret_bool u3.out), by obtain ⟨q, hq⟩ := h.2; exact ⟨q, #[], hq.trans (drew_grow _ q)⟩⟩))))
          refine wpQuiet_nil ?_
          intro _ hw'
          obtain ⟨⟨nq, osq⟩, hw''⟩ := hw'
          subst hw''
          go_wp2_with fail
          go_roundw
          case rel => exact ⟨j + 1, by omega, by go_num, Lib.hid (by rw [take_snoc hX.out, take_snoc hY.out, heq.out, hE.out]), HB.out _ _⟩
          case measure => simp [intOf]; omega
        · have hN := Lib.hid (show eqMs xs ys = false from eqMs_ne (by
            rintro rfl
            have := hX.out.symm.trans hY.out
            injection this with this
            exact hs this))
          by_cases e1 : x.at_ = y.at_
          · by_cases e2 : x.cut = y.cut
            · have u1 : (x.at_ != y.at_) = false := by simp [e1]
              have u2 : (x.cut != y.cut) = false := by simp [e2]
              have u3 := Lib.hid (show decide (x.put = y.put) = false by simp; intro e3; exact hs (by cases x; cases y; simp_all))
              clear hs e1 e2
              go_wp2_with fail
              refine wp_region_quiet_grown (by assumption) (by kernel_rfl) ?_
              repeat (go_big_quiet_step (first | (go_at_call 42; refine Calls.grown_of ((eqt_any A' B' n' c' m' d' x.put y.put _ hpm hqm (SX.out _ _) (SY.out _ _)).mono fun e w' h => ⟨h.1.trans (ret_bool u3.out), by obtain ⟨q, hq⟩ := h.2; exact ⟨q, #[], hq.trans (drew_grow _ q)⟩⟩))))
              refine wpQuiet_nil ?_
              intro _ hw'
              obtain ⟨⟨nq, osq⟩, hw''⟩ := hw'
              subst hw''
              go_wp2_with fail
              go_ret
              exact ⟨ret_bool hN.out.symm, HB.out _ _⟩
            · have u1 : (x.at_ != y.at_) = false := by simp [e1]
              have u2 : (x.cut != y.cut) = true := by simp [e2]
              clear hs e1 e2
              go_wp2_with fail
              refine wp_region_quiet_grown (by assumption) (by kernel_rfl) ?_
              repeat (go_big_quiet_step (first | (go_at_call 42; refine Calls.grown_of ((eqt_any A' B' n' c' m' d' x.put y.put _ hpm hqm (SX.out _ _) (SY.out _ _)).mono fun e w' h => ⟨h.1, by obtain ⟨q, hq⟩ := h.2; exact ⟨q, #[], hq.trans (drew_grow _ q)⟩⟩))))
              refine wpQuiet_nil ?_
              intro _ hw'
              obtain ⟨⟨nq, osq⟩, hw''⟩ := hw'
              subst hw''
              go_wp2_with fail
              go_ret
              exact ⟨ret_bool hN.out.symm, HB.out _ _⟩
          · have u1 : (x.at_ != y.at_) = true := by simp [e1]
            clear hs e1
            go_wp2_with fail
            refine wp_region_quiet_grown (by assumption) (by kernel_rfl) ?_
            repeat (go_big_quiet_step (first | (go_at_call 42; refine Calls.grown_of ((eqt_any A' B' n' c' m' d' x.put y.put _ hpm hqm (SX.out _ _) (SY.out _ _)).mono fun e w' h => ⟨h.1, by obtain ⟨q, hq⟩ := h.2; exact ⟨q, #[], hq.trans (drew_grow _ q)⟩⟩))))
            refine wpQuiet_nil ?_
            intro _ hw'
            obtain ⟨⟨nq, osq⟩, hw''⟩ := hw'
            subst hw''
            go_wp2_with fail
            go_ret
            exact ⟨ret_bool hN.out.symm, HB.out _ _⟩
      · have he : xs = ys := by
          have := heq.out
          rwa [List.take_of_length_le (by rw [hlen.out]; omega), List.take_of_length_le (by rw [hlen2.out]; omega)] at this
        go_wp2
        go_ret
        exact ⟨ret_bool (by rw [he, eqMs_self]), hgr⟩
  · have hb : ((n : Int) != (m : Int)) = true := by simp; omega
    have hne : xs ≠ ys := by rintro rfl; exact hnm (hlen.out.symm.trans hlen2.out)
    go_enter Try.func60, Try.ntmps60
    go_wp2
    go_ret
    exact ⟨ret_bool (eqMs_ne hne).symm, 0, #[], drew_grow w 0⟩
theorem samem_any (A B : Option Addr) (n c m d : Nat) (xs ys : List M) (w : World) (hn : n ≤ 9223372036854775807) (hm : m ≤ 9223372036854775807) (h : Mrks w A n xs) (k : Mrks w B m ys) :
    Calls Try.prog 60 #[.slice A n c, .slice B m d] w fun e w' => e = .returned (.bool (eqMs xs ys)) ∧ Below w.heap.size w w' :=
  (samemg_any A B n c m d xs ys w hn hm h k).mono fun e w' ⟨he, q, os, hw⟩ => ⟨he, by subst hw; exact below_grow (Below.refl _ _) (Nat.le_refl _) q os⟩
end Go.Proofs.Ytjhlcgjhdiheaaa
