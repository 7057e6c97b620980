/- MarksShift of both programs. -/
import Derived.Test.YtjhlcgjhdiheaaaSize
namespace Go.Proofs.Ytjhlcgjhdiheaaa
open Go.RowKit
set_option linter.unusedVariables false
set_option linter.unusedSimpArgs false

def shiftOk (ws : List ByteArray) (ms : List M) (i : Int) : Bool := valid ws ms && (decide (0 ≤ i) && decide (i < ws.length)) && !Mk.inCut i ms
def shiftV (ws : List ByteArray) (ms : List M) (i : Int) : Int := if shiftOk ws ms i = true then i + Mk.moved i ms else 0
theorem shift_no {ws : List ByteArray} {ms : List M} {i : Int} (h : shiftOk ws ms i = false) : shiftV ws ms i = 0 := by unfold shiftV; rw [h]; rfl
theorem shift_yes {ws : List ByteArray} {ms : List M} {i : Int} (h : shiftOk ws ms i = true) : shiftV ws ms i = i + Mk.moved i ms := by unfold shiftV; rw [h]; rfl
theorem ret_two {a b : Int} {c d : Bool} (h : a = b) (k : c = d) : Ending.returned (.tuple #[.int .i64 a, .bool c]) = .returned (.tuple #[.int .i64 b, .bool d]) := by rw [h, k]
theorem ok_no_valid {ws : List ByteArray} {ms : List M} {i : Int} (h : valid ws ms = false) : shiftOk ws ms i = false := by unfold shiftOk; rw [h]; rfl
theorem ok_no_at {ws : List ByteArray} {ms : List M} {i : Int} (h : i < 0 ∨ (ws.length : Int) ≤ i) : shiftOk ws ms i = false := by
  unfold shiftOk
  have : (decide (0 ≤ i) && decide (i < (ws.length : Int))) = false := by
    rcases h with h | h
    · rw [decide_eq_false (by omega)]; rfl
    · rw [decide_eq_false (by omega : ¬ i < (ws.length : Int))]; simp
  rw [this]; simp
theorem ok_no_cut {ws : List ByteArray} {ms : List M} {i : Int} (h : Mk.inCut i ms = true) : shiftOk ws ms i = false := by unfold shiftOk; rw [h]; simp
theorem ok_yes {ws : List ByteArray} {ms : List M} {i : Int} (h : valid ws ms = true) (h1 : 0 ≤ i) (h2 : i < ws.length) (h3 : Mk.inCut i ms = false) : shiftOk ws ms i = true := by
  unfold shiftOk
  rw [h, h3, decide_eq_true h1, decide_eq_true h2]; rfl

def ShiftPost (w : World) (ws : List ByteArray) (ms : List M) (i : Int) (e : Ending) (w' : World) : Prop := e = .returned (.tuple #[.int .i64 (shiftV ws ms i), .bool (shiftOk ws ms i)]) ∧ Below w.heap.size w w'
theorem ShiftPost.no {w w' : World} {ws : List ByteArray} {ms : List M} {i : Int} (h : shiftOk ws ms i = false) (hb : Below w.heap.size w w') : ShiftPost w ws ms i (.returned (.tuple #[.int .i64 0, .bool false])) w' := ⟨ret_two (shift_no h).symm h.symm, hb⟩
theorem ShiftPost.yes {w w' : World} {ws : List ByteArray} {ms : List M} {i t : Int} (h : shiftOk ws ms i = true) (ht : t = i + Mk.moved i ms) (hb : Below w.heap.size w w') : ShiftPost w ws ms i (.returned (.tuple #[.int .i64 t, .bool true])) w' := ⟨ret_two (ht.trans (shift_yes h).symm) h.symm, hb⟩

set_option maxHeartbeats 1000000 in
theorem ishiftm_any (A B : Option Addr) (n c m d : Nat) (ws : List ByteArray) (ms : List M) (i : Int) (w : World) (hn : n ≤ 9223372036854775807) (hm : m ≤ 9223372036854775807) (h : Strs w A n ws) (k : Mrks w B m ms) :
    Calls Try.prog 50 #[.slice A n c, .slice B m d, .int .i64 i] w (ShiftPost w ws ms i) := by
  have hlen := Lib.hid h.len
  have hlen2 := Lib.hid k.len
  cases hv : valid ws ms with
  | false =>
    have hr := Lib.hid (ok_no_valid (i := i) hv)
    go_enter Try.func50, Try.ntmps50
    go_wp2_with fail
    refine (ivalidm_any A B n c m d ws ms _ hn hm h k).mono ?_
    rintro e W ⟨rfl, hb⟩
    rw [hv]
    go_wp2_with fail
    go_ret2
    exact ShiftPost.no hr.out hb
  | true =>
    have hV := Lib.hid hv
    have hn20 : n ≤ 20 := by rw [← hlen.out]; exact (Mk.speech_parts wok (Mk.valid_parts wok hv).1).1
    by_cases a1 : 0 ≤ i
    rotate_left
    · have hr := Lib.hid (ok_no_at (ws := ws) (ms := ms) (i := i) (.inl (by omega)))
      go_enter Try.func50, Try.ntmps50
      go_wp2_with fail
      refine (ivalidm_any A B n c m d ws ms _ hn hm h k).mono ?_
      rintro e W ⟨rfl, hb⟩
      rw [hv]
      go_wp2_with fail
      go_ret2
      exact ShiftPost.no hr.out hb
    by_cases a2 : i < (n : Int)
    rotate_left
    · have hr := Lib.hid (ok_no_at (ws := ws) (ms := ms) (i := i) (.inr (by rw [hlen.out]; omega)))
      go_enter Try.func50, Try.ntmps50
      go_wp2_with fail
      refine (ivalidm_any A B n c m d ws ms _ hn hm h k).mono ?_
      rintro e W ⟨rfl, hb⟩
      rw [hv]
      go_wp2_with fail
      go_ret2
      exact ShiftPost.no hr.out hb
    go_enter Try.func50, Try.ntmps50
    go_wp2_with fail
    refine (ivalidm_any A B n c m d ws ms _ hn hm h k).mono ?_
    rintro e W ⟨rfl, hb⟩
    rw [hv]
    clear hv
    go_wp2_with fail
    go_loopw [8, 28] (fun s q wr => ∃ (j : Nat) (t : Int), j ≤ m ∧ q = .int .i64 j ∧ s = .int .i64 t ∧ t ≤ 20 + 20 * (j : Int) ∧ -(20 * (j : Int)) ≤ t ∧ (j : Int) ≤ 20 ∧ Hid (t = i + Mk.moved i (ms.take j)) ∧ Hid (Mk.inCut i (ms.take j) = false) ∧ Below w.heap.size w wr) (fun _ q _ => m - (intOf q).toNat)
    case atStart => exact ⟨0, i, Nat.zero_le _, rfl, rfl, by omega, by omega, by omega, Lib.hid (by simp [Mk.moved]), Lib.hid (by simp [Mk.inCut]), hb⟩
    case round =>
      obtain ⟨j, t, hj, rfl, rfl, t1, t2, t3, hT, hC, hbel⟩ := hrel
      by_cases hlt : j < m
      · obtain ⟨b, off, x, rfl, hx, x1, x2, c0, c1, A', n', c', c2, hp⟩ := (k.below hbel).at_ hlt
        have hX := Lib.hid hx
        have hf := fit_of hV.out (mem_at hx)
        have hpl := hp.len
        obtain ⟨f1, f2, f3, f4, f5, f6, f7, f8⟩ := hf
        have hPL := Lib.hid hpl
        have g0 : x.at_ ≤ 20 := by omega
        have g1 : x.cut ≤ 20 := by omega
        have g2 : n' ≤ 20 := by omega
        have g3 : (j : Int) + 1 ≤ 20 := by have := hlen2.out; omega
        have hs1 := hbel.size
        have hb1 : Below w.heap.size w (wr.alloc (.cells #[.int .i64 x.at_, .int .i64 x.cut, .slice A' n' c'] 58)) := hbel.alloc hbel.size _
        have hb2 : Below w.heap.size w ((wr.alloc (.cells #[.int .i64 x.at_, .int .i64 x.cut, .slice A' n' c'] 58)).alloc (.cells #[.int .i64 x.at_, .int .i64 x.cut, .slice A' n' c'] 58)) := hb1.alloc hb1.size _
        have hb3 : Below w.heap.size w (((wr.alloc (.cells #[.int .i64 x.at_, .int .i64 x.cut, .slice A' n' c'] 58)).alloc (.cells #[.int .i64 x.at_, .int .i64 x.cut, .slice A' n' c'] 58)).alloc (.cells #[.int .i64 x.at_, .int .i64 x.cut, .slice A' n' c'] 58)) := hb2.alloc hb2.size _
        have HB1 := Lib.hid hb1
        have HB2 := Lib.hid hb2
        have HB3 := Lib.hid hb3
        clear hp hx f2 f4 f5 f6 f7 f8 hpl hbel hb1 hb2 hb3
        by_cases p1 : x.at_ ≤ i
        · by_cases p2 : i < x.at_ + x.cut
          · have hr := Lib.hid (ok_no_cut (ws := ws) (Mk.inCut_mem (mem_at hX.out) p1 p2))
            go_wp2_with fail
            refine (end_any x A' n' c' _ f1 (by omega) f3 (by omega)).mono ?_
            rintro e w2 ⟨rfl, rfl⟩
            go_wp2_with fail
            go_ret2
            exact ShiftPost.no hr.out HB2.out
          · have hT2 : Hid (t + ((n' : Int) - x.cut) = i + Mk.moved i (ms.take (j + 1))) := Lib.hid (by rw [take_snoc hX.out, Mk.moved_snoc, if_pos (by omega), hT.out, hPL.out]; omega)
            have hC2 : Hid (Mk.inCut i (ms.take (j + 1)) = false) := Lib.hid (by rw [take_snoc hX.out, Mk.inCut_snoc, hC.out, decide_eq_false p2]; simp)
            go_wp2_with fail
            refine (end_any x A' n' c' _ f1 (by omega) f3 (by omega)).mono ?_
            rintro e w2 ⟨rfl, rfl⟩
            go_wp2_with fail
            refine (end_any x A' n' c' _ f1 (by omega) f3 (by omega)).mono ?_
            rintro e w2 ⟨rfl, rfl⟩
            go_wp2_with fail
            go_roundw
            case rel => exact ⟨j + 1, _, by omega, by go_num, rfl, by omega, by omega, by omega, hT2, hC2, HB3.out⟩
            case measure => simp [intOf]; omega
        · have hT2 : Hid (t = i + Mk.moved i (ms.take (j + 1))) := Lib.hid (by rw [take_snoc hX.out, Mk.moved_snoc, if_neg (by omega), hT.out]; omega)
          have hC2 : Hid (Mk.inCut i (ms.take (j + 1)) = false) := Lib.hid (by rw [take_snoc hX.out, Mk.inCut_snoc, hC.out, decide_eq_false p1]; simp)
          go_wp2_with fail
          refine (end_any x A' n' c' _ f1 (by omega) f3 (by omega)).mono ?_
          rintro e w2 ⟨rfl, rfl⟩
          go_wp2_with fail
          go_roundw
          case rel => exact ⟨j + 1, _, by omega, by go_num, rfl, by omega, by omega, by omega, hT2, hC2, HB2.out⟩
          case measure => simp [intOf]; omega
      · have h1 := hT.out
        have h2 := hC.out
        rw [List.take_of_length_le (by rw [hlen2.out]; omega)] at h1 h2
        have H1 := Lib.hid h1
        have H2 := Lib.hid (ok_yes hV.out a1 (by rw [hlen.out]; exact a2) h2)
        clear h1 h2 hT hC
        go_wp2_with fail
        go_ret2
        exact ShiftPost.yes H2.out H1.out hbel

set_option maxHeartbeats 1000000 in
theorem sshiftm_any (A B : Option Addr) (n c m d : Nat) (ws : List ByteArray) (ms : List M) (i : Int) (w : World) (hn : n ≤ 9223372036854775807) (hm : m ≤ 9223372036854775807) (h : Strs w A n ws) (k : Mrks w B m ms) :
    Calls Try.prog 49 #[.slice A n c, .slice B m d, .int .i64 i] w (ShiftPost w ws ms i) := by
  have hlen := Lib.hid h.len
  have hlen2 := Lib.hid k.len
  cases hv : valid ws ms with
  | false =>
    have hr := Lib.hid (ok_no_valid (i := i) hv)
    go_enter Try.func49, Try.ntmps49
    go_wp2_with fail
    refine (svalidm_any A B n c m d ws ms _ hn hm h k).mono ?_
    rintro e W ⟨rfl, hb⟩
    rw [hv]
    go_wp2_with fail
    go_ret2
    exact ShiftPost.no hr.out hb
  | true =>
    have hV := Lib.hid hv
    have hn20 : n ≤ 20 := by rw [← hlen.out]; exact (Mk.speech_parts wok (Mk.valid_parts wok hv).1).1
    cases hi : (decide ((0 : Int) ≤ i) && decide (i ≤ (n : Int) - 1)) with
    | false =>
      have hr := Lib.hid (ok_no_at (ws := ws) (ms := ms) (i := i) (by
        rw [hlen.out]
        rw [Bool.and_eq_false_iff, decide_eq_false_iff_not, decide_eq_false_iff_not] at hi
        omega))
      go_enter Try.func49, Try.ntmps49
      go_wp2_with fail
      refine (svalidm_any A B n c m d ws ms _ hn hm h k).mono ?_
      rintro e W ⟨rfl, hb⟩
      rw [hv]
      go_wp2_with fail
      refine (in_any _ _ _ _).mono ?_
      rintro e w' ⟨rfl, rfl⟩
      rw [hi]
      go_wp2_with fail
      go_ret2
      exact ShiftPost.no hr.out hb
    | true =>
      have hi2 := hi
      rw [Bool.and_eq_true, decide_eq_true_eq, decide_eq_true_eq] at hi2
      obtain ⟨a1, a2'⟩ := hi2
      have a2 : i < (n : Int) := by omega
      go_enter Try.func49, Try.ntmps49
      go_wp2_with fail
      refine (svalidm_any A B n c m d ws ms _ hn hm h k).mono ?_
      rintro e W ⟨rfl, hb⟩
      rw [hv]
      clear hv
      go_wp2_with fail
      refine (in_any _ _ _ _).mono ?_
      rintro e w' ⟨rfl, rfl⟩
      rw [hi]
      clear hi a2'
      go_wp2_with fail
      go_loopw [8, 9] (fun s q wr => ∃ (j : Nat) (t : Int), j ≤ m ∧ q = .int .i64 j ∧ s = .int .i64 t ∧ t ≤ 20 + 20 * (j : Int) ∧ -(20 * (j : Int)) ≤ t ∧ (j : Int) ≤ 20 ∧ Hid (t = i + Mk.moved i (ms.take j)) ∧ Hid (Mk.inCut i (ms.take j) = false) ∧ Below w.heap.size w wr) (fun _ q _ => m - (intOf q).toNat)
      case atStart => exact ⟨0, i, Nat.zero_le _, rfl, rfl, by omega, by omega, by omega, Lib.hid (by simp [Mk.moved]), Lib.hid (by simp [Mk.inCut]), hb⟩
      case round =>
        obtain ⟨j, t, hj, rfl, rfl, t1, t2, t3, hT, hC, hbel⟩ := hrel
        by_cases hlt : j < m
        · obtain ⟨b, off, x, rfl, hx, x1, x2, c0, c1, A', n', c', c2, hp⟩ := (k.below hbel).at_ hlt
          have hX := Lib.hid hx
          have hf := fit_of hV.out (mem_at hx)
          have hpl := hp.len
          obtain ⟨f1, f2, f3, f4, f5, f6, f7, f8⟩ := hf
          have hPL := Lib.hid hpl
          have g0 : x.at_ ≤ 20 := by omega
          have g1 : x.cut ≤ 20 := by omega
          have g2 : n' ≤ 20 := by omega
          have g3 : (j : Int) + 1 ≤ 20 := by have := hlen2.out; omega
          have hb1 : Below w.heap.size w (wr.alloc (.cells #[.int .i64 x.at_, .int .i64 x.cut, .slice A' n' c'] 58)) := hbel.alloc hbel.size _
          have HB1 := Lib.hid hb1
          clear hp hx f2 f4 f5 f6 f7 f8 hpl hbel hb1
          cases hc : (decide (x.at_ ≤ i) && decide (i ≤ x.at_ + x.cut - 1)) with
          | true =>
            have hc2 := hc
            rw [Bool.and_eq_true, decide_eq_true_eq, decide_eq_true_eq] at hc2
            have hr := Lib.hid (ok_no_cut (ws := ws) (Mk.inCut_mem (mem_at hX.out) hc2.1 (by omega)))
            clear hc2
            go_wp2_with fail
            refine (in_any _ _ _ _).mono ?_
            rintro e w' ⟨rfl, rfl⟩
            rw [hc]
            go_wp2_with fail
            go_ret2
            exact ShiftPost.no hr.out HB1.out
          | false =>
            have hc2 := hc
            rw [Bool.and_eq_false_iff, decide_eq_false_iff_not, decide_eq_false_iff_not] at hc2
            have hC2 : Hid (Mk.inCut i (ms.take (j + 1)) = false) := Lib.hid (by
              rw [take_snoc hX.out, Mk.inCut_snoc, hC.out, Bool.false_or, Bool.and_eq_false_iff, decide_eq_false_iff_not, decide_eq_false_iff_not]
              omega)
            by_cases p1 : x.at_ ≤ i
            · have hT2 : Hid (t + (n' : Int) - x.cut = i + Mk.moved i (ms.take (j + 1))) := Lib.hid (by rw [take_snoc hX.out, Mk.moved_snoc, if_pos (by omega), hT.out, hPL.out]; omega)
              clear hc2
              go_wp2_with fail
              refine (in_any _ _ _ _).mono ?_
              rintro e w' ⟨rfl, rfl⟩
              rw [hc]
              go_wp2_with fail
              go_roundw
              case rel => exact ⟨j + 1, _, by omega, by go_num, rfl, by omega, by omega, by omega, hT2, hC2, HB1.out⟩
              case measure => simp [intOf]; omega
            · have hT2 : Hid (t = i + Mk.moved i (ms.take (j + 1))) := Lib.hid (by rw [take_snoc hX.out, Mk.moved_snoc, if_neg (by omega), hT.out]; omega)
              clear hc2
              go_wp2_with fail
              refine (in_any _ _ _ _).mono ?_
              rintro e w' ⟨rfl, rfl⟩
              rw [hc]
              go_wp2_with fail
              go_roundw
              case rel => exact ⟨j + 1, _, by omega, by go_num, rfl, by omega, by omega, by omega, hT2, hC2, HB1.out⟩
              case measure => simp [intOf]; omega
        · have h1 := hT.out
          have h2 := hC.out
          rw [List.take_of_length_le (by rw [hlen2.out]; omega)] at h1 h2
          have H1 := Lib.hid h1
          have H2 := Lib.hid (ok_yes hV.out a1 (by rw [hlen.out]; exact a2) h2)
          clear h1 h2 hT hC
          go_wp2_with fail
          go_ret2
          exact ShiftPost.yes H2.out H1.out hbel
end Go.Proofs.Ytjhlcgjhdiheaaa
