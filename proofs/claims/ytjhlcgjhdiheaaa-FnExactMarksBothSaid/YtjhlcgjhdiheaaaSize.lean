/- MarksSize of both programs. -/
import Derived.Test.YtjhlcgjhdiheaaaVal3
namespace Go.Proofs.Ytjhlcgjhdiheaaa
open Go.RowKit
set_option linter.unusedVariables false
set_option linter.unusedSimpArgs false

def sizeI (ws : List ByteArray) (ms : List M) : Int := if valid ws ms = true then Mk.sizeM ms else -1
theorem sizeI_no {ws : List ByteArray} {ms : List M} (h : valid ws ms = false) : sizeI ws ms = -1 := by unfold sizeI; rw [h]; rfl
theorem sizeI_yes {ws : List ByteArray} {ms : List M} (h : valid ws ms = true) : sizeI ws ms = Mk.sizeM ms := by unfold sizeI; rw [h]; rfl
/-- what a mark of valid ones has -/
theorem fit_of {ws : List ByteArray} {ms : List M} (h : valid ws ms = true) {m : M} (hm : m ∈ ms) : 0 ≤ m.at_ ∧ m.at_ ≤ ws.length ∧ 0 ≤ m.cut ∧ m.cut ≤ ws.length - m.at_ ∧ m.put.length ≤ 20 ∧ 0 < m.cut + m.put.length ∧ ws.length ≤ 20 ∧ ms.length ≤ 20 := by
  have h1 := Mk.fit_parts wok (Mk.valid_mem wok h m hm)
  have h2 := Mk.valid_parts wok h
  have h3 := (Mk.speech_parts wok h1.2.2.2.2.1).1
  have h4 := (Mk.speech_parts wok h2.1).1
  exact ⟨h1.1, h1.2.1, h1.2.2.1, h1.2.2.2.1, h3, h1.2.2.2.2.2, h4, h2.2.1⟩

set_option maxHeartbeats 1000000 in
theorem ssizem_any (A B : Option Addr) (n c m d : Nat) (ws : List ByteArray) (ms : List M) (w : World) (hn : n ≤ 9223372036854775807) (hm : m ≤ 9223372036854775807) (h : Strs w A n ws) (k : Mrks w B m ms) :
    Calls Try.prog 47 #[.slice A n c, .slice B m d] w fun e w' => e = .returned (.int .i64 (sizeI ws ms)) ∧ Below w.heap.size w w' := by
  have hlen2 := Lib.hid k.len
  cases hv : valid ws ms with
  | false =>
    have hr := Lib.hid (sizeI_no hv)
    go_enter Try.func47, Try.ntmps47
    go_wp2_with fail
    refine (svalidm_any A B n c m d ws ms _ hn hm h k).mono ?_
    rintro e W ⟨rfl, hb⟩
    rw [hv]
    go_wp2_with fail
    go_ret
    exact ⟨ret_int hr.out.symm, hb⟩
  | true =>
    have hr := Lib.hid (sizeI_yes hv)
    have hV := Lib.hid hv
    go_enter Try.func47, Try.ntmps47
    go_wp2_with fail
    refine (svalidm_any A B n c m d ws ms _ hn hm h k).mono ?_
    rintro e W ⟨rfl, hb⟩
    rw [hv]
    clear hv
    go_wp2_with fail
    go_loopw [5, 6] (fun s i wr => ∃ (j : Nat) (t : Int), j ≤ m ∧ i = .int .i64 j ∧ s = .int .i64 t ∧ 0 ≤ t ∧ t ≤ 40 * (j : Int) ∧ (j : Int) ≤ 20 ∧ Hid (t = Mk.sizeM (ms.take j)) ∧ Below w.heap.size w wr) (fun _ i _ => m - (intOf i).toNat)
    case atStart => exact ⟨0, 0, Nat.zero_le _, rfl, rfl, by omega, by omega, by omega, Lib.hid (by simp [Mk.sizeM]), hb⟩
    case round =>
      obtain ⟨j, t, hj, rfl, rfl, t1, t2, t3, hT, hbel⟩ := hrel
      by_cases hlt : j < m
      · obtain ⟨b, off, x, rfl, hx, x1, x2, c0, c1, A', n', c', c2, hp⟩ := (k.below hbel).at_ hlt
        have hT2 : Hid (t + x.cut + (n' : Int) = Mk.sizeM (ms.take (j + 1))) := Lib.hid (by rw [take_snoc hx, Mk.sizeM_snoc, hT.out, hp.len]; omega)
        have hf := fit_of hV.out (mem_at hx)
        have hpl := hp.len
        obtain ⟨f1, f2, f3, f4, f5, f6, f7, f8⟩ := hf
        have g1 : x.cut ≤ 20 := by omega
        have g2 : n' ≤ 20 := by omega
        have g3 : (j : Int) + 1 ≤ 20 := by have := hlen2.out; omega
        have i1 : (0 : Int) ≤ (j : Int) := by omega
        have i2 : (j : Int) < (m : Int) := by omega
        have w1 : IntKind.i64.wrap (t + x.cut) = t + x.cut := IntWalk.i64_in _ (by omega)
        have w2 : IntKind.i64.wrap (t + x.cut + (n' : Int)) = t + x.cut + (n' : Int) := IntWalk.i64_in _ (by omega)
        clear hp hx f1 f2 f4 f5 f6 f7 f8 hpl
        go_wp2_with fail
        go_quiet (fail)
        go_wp2_with fail
        go_roundw
        case rel => exact ⟨j + 1, _, by omega, by go_num, rfl, by omega, by omega, by omega, hT2, below_drewN hbel _⟩
        case measure => simp [intOf]; omega
      · have h1 := hT.out
        rw [List.take_of_length_le (by rw [hlen2.out]; omega)] at h1
        have H1 := Lib.hid h1
        clear h1 hT
        go_wp2_with fail
        go_ret
        exact ⟨ret_int (H1.out.trans hr.out.symm), hbel⟩

set_option maxHeartbeats 1000000 in
theorem isizem_any (A B : Option Addr) (n c m d : Nat) (ws : List ByteArray) (ms : List M) (w : World) (hn : n ≤ 9223372036854775807) (hm : m ≤ 9223372036854775807) (h : Strs w A n ws) (k : Mrks w B m ms) :
    Calls Try.prog 48 #[.slice A n c, .slice B m d] w fun e w' => e = .returned (.int .i64 (sizeI ws ms)) ∧ Below w.heap.size w w' := by
  have hlen2 := Lib.hid k.len
  cases hv : valid ws ms with
  | false =>
    have hr := Lib.hid (sizeI_no hv)
    go_enter Try.func48, Try.ntmps48
    go_wp2_with fail
    refine (ivalidm_any A B n c m d ws ms _ hn hm h k).mono ?_
    rintro e W ⟨rfl, hb⟩
    rw [hv]
    go_wp2_with fail
    go_ret
    exact ⟨ret_int hr.out.symm, hb⟩
  | true =>
    have hr := Lib.hid (sizeI_yes hv)
    have hV := Lib.hid hv
    go_enter Try.func48, Try.ntmps48
    go_wp2_with fail
    refine (ivalidm_any A B n c m d ws ms _ hn hm h k).mono ?_
    rintro e W ⟨rfl, hb⟩
    rw [hv]
    clear hv
    go_wp2_with fail
    go_loopw [5, 14] (fun s i wr => ∃ (j : Nat) (t : Int), j ≤ m ∧ i = .int .i64 j ∧ s = .int .i64 t ∧ 0 ≤ t ∧ t ≤ 40 * (j : Int) ∧ (j : Int) ≤ 20 ∧ Hid (t = Mk.sizeM (ms.take j)) ∧ Below w.heap.size w wr) (fun _ i _ => m - (intOf i).toNat)
    case atStart => exact ⟨0, 0, Nat.zero_le _, rfl, rfl, by omega, by omega, by omega, Lib.hid (by simp [Mk.sizeM]), hb⟩
    case round =>
      obtain ⟨j, t, hj, rfl, rfl, t1, t2, t3, hT, hbel⟩ := hrel
      by_cases hlt : j < m
      · obtain ⟨b, off, x, rfl, hx, x1, x2, c0, c1, A', n', c', c2, hp⟩ := (k.below hbel).at_ hlt
        have hT2 : Hid (t + (x.cut + (n' : Int)) = Mk.sizeM (ms.take (j + 1))) := Lib.hid (by rw [take_snoc hx, Mk.sizeM_snoc, hT.out, hp.len])
        have hf := fit_of hV.out (mem_at hx)
        have hpl := hp.len
        obtain ⟨f1, f2, f3, f4, f5, f6, f7, f8⟩ := hf
        have g1 : x.cut ≤ 20 := by omega
        have g2 : n' ≤ 20 := by omega
        have g3 : (j : Int) + 1 ≤ 20 := by have := hlen2.out; omega
        have hb1 := hbel.alloc hbel.size (.cells #[.int .i64 x.at_, .int .i64 x.cut, .slice A' n' c'] 58)
        clear hp hx f1 f2 f4 f5 f6 f7 f8 hpl
        go_wp2_with fail
        go_roundw
        case rel => exact ⟨j + 1, _, by omega, by go_num, rfl, by omega, by omega, by omega, hT2, hb1⟩
        case measure => simp [intOf]; omega
      · have h1 := hT.out
        rw [List.take_of_length_le (by rw [hlen2.out]; omega)] at h1
        have H1 := Lib.hid h1
        clear h1 hT
        go_wp2_with fail
        go_ret
        exact ⟨ret_int (H1.out.trans hr.out.symm), hbel⟩
end Go.Proofs.Ytjhlcgjhdiheaaa
