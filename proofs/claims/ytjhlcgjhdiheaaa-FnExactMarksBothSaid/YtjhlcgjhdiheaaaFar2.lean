/- The least size between two transcripts (MarksFar) and the words that can stay (ProofSame): both programs. -/
import Derived.Test.YtjhlcgjhdiheaaaTable2
namespace Go.Proofs.Ytjhlcgjhdiheaaa
open Go.RowKit
set_option linter.unusedVariables false
set_option linter.unusedSimpArgs false

/-- the least size, or -1 -/
def farI (a b : List ByteArray) : Int := if speak a && speak b then (Mk.far a b : Nat) else -1
theorem farI_yes {a b : List ByteArray} (h1 : speak a = true) (h2 : speak b = true) : farI a b = (Mk.far a b : Nat) := by unfold farI; simp [h1, h2]
theorem farI_no {a b : List ByteArray} (h : (speak a && speak b) = false) : farI a b = -1 := by unfold farI; simp [h]
theorem speak_len {a : List ByteArray} (h : speak a = true) : a.length ≤ 20 := (Mk.speech_parts wok h).1
theorem farI_bound (a b : List ByteArray) : -1 ≤ farI a b ∧ farI a b ≤ 40 := by
  cases h : (speak a && speak b) with
  | false => rw [farI_no h]; omega
  | true =>
    rw [Bool.and_eq_true] at h
    rw [farI_yes h.1 h.2]
    have h1 := speak_len h.1
    have h2 := speak_len h.2
    have := Mk.far_le a b
    omega
/-- the words that can stay, or -1 -/
def sameI (a b : List ByteArray) : Int := if farI a b < 0 then -1 else ((a.length : Int) + b.length - farI a b) / 2
theorem sameI_no {a b : List ByteArray} (h : (speak a && speak b) = false) : sameI a b = -1 := by unfold sameI; rw [farI_no h]; rfl
theorem sameI_yes {a b : List ByteArray} (h1 : speak a = true) (h2 : speak b = true) : sameI a b = ((a.length : Int) + b.length - (Mk.far a b : Nat)) / 2 := by
  unfold sameI; rw [farI_yes h1 h2, if_neg (by omega)]


set_option maxHeartbeats 400000 in
theorem ifar_any (A B : Option Addr) (n c m d : Nat) (a b : List ByteArray) (w : World) (hn : n ≤ 9223372036854775807) (hm : m ≤ 9223372036854775807) (h : Strs w A n a) (k : Strs w B m b) :
    Calls Try.prog 28 #[.slice A n c, .slice B m d] w fun e w' => e = .returned (.int .i64 (farI a b)) ∧ Below w.heap.size w w' := by
  have ha := Lib.hid h.len
  have hb := Lib.hid k.len
  cases h1 : speak a with
  | false =>
    have hr := Lib.hid (farI_no (a := a) (b := b) (by rw [h1]; rfl))
    go_enter Try.func28, Try.ntmps28
    go_wp2_with (go_at_call 72; refine (ispeech_any _ _ _ _ _ hn h).mono ?_; rintro e w' ⟨rfl, rfl⟩)
    go_ret
    exact ⟨ret_int hr.out.symm, Below.refl _ _⟩
  | true =>
    cases h2 : speak b with
    | false =>
      have hr := Lib.hid (farI_no (a := a) (b := b) (by rw [h2, Bool.and_false]))
      go_enter Try.func28, Try.ntmps28
      go_wp2_with fail
      refine (ispeech_any A n c a _ hn h).mono ?_
      rintro e w' ⟨rfl, rfl⟩
      go_wp2_with fail
      refine (ispeech_any B m d b _ hm k).mono ?_
      rintro e w' ⟨rfl, rfl⟩
      go_wp2_with fail
      go_ret
      exact ⟨ret_int hr.out.symm, Below.refl _ _⟩
    | true =>
      have hn2 : n ≤ 20 := by have := speak_len h1; rw [ha.out] at this; exact this
      have hm2 : m ≤ 20 := by have := speak_len h2; rw [hb.out] at this; exact this
      have hr := Lib.hid (farI_yes h1 h2)
      go_enter Try.func28, Try.ntmps28
      go_wp2_with fail
      refine (ispeech_any A n c a _ hn h).mono ?_
      rintro e w' ⟨rfl, rfl⟩
      go_wp2_with fail
      refine (ispeech_any B m d b _ hm k).mono ?_
      rintro e w' ⟨rfl, rfl⟩
      go_wp2_with fail
      refine (itable_any A B n c m d a b _ hn2 hm2 h k).mono ?_
      rintro e w' ⟨G, R, cs, rfl, hT, hbel⟩
      obtain ⟨r1, r2, r3⟩ := hT.rows 0 (Nat.le_refl _) (by omega)
      have hc1 : w'.cell? ⟨G, 0, none⟩ = some (.slice (some ⟨R 0, 0, none⟩) (m + 1 : Nat) (m + 1 : Nat)) := (hT.blk.cell 0).trans r1
      have hc2 := (r3.cell 0).trans (rowF_cell _ m 0 (by omega))
      have hvb := V_bound (i := 0) (j := 0) ha.out hb.out
      have hV := Lib.hid (show V a b 0 0 = (Mk.far a b : Nat) by unfold V; simp)
      generalize V a b 0 0 = v at *
      generalize R 0 = g1 at *
      have n1 : 0 < n + 1 := by omega
      have m1 : 0 < m + 1 := by omega
      clear r1 r3 hT
      go_wp2_with fail
      go_ret
      exact ⟨ret_int (hV.out.trans hr.out.symm), hbel⟩

set_option maxHeartbeats 400000 in
theorem sfar_any (A B : Option Addr) (n c m d : Nat) (a b : List ByteArray) (w : World) (hn : n ≤ 9223372036854775807) (hm : m ≤ 9223372036854775807) (h : Strs w A n a) (k : Strs w B m b) :
    Calls Try.prog 26 #[.slice A n c, .slice B m d] w fun e w' => e = .returned (.int .i64 (farI a b)) ∧ Below w.heap.size w w' := by
  have ha := Lib.hid h.len
  have hb := Lib.hid k.len
  cases h1 : speak a with
  | false =>
    have hr := Lib.hid (farI_no (a := a) (b := b) (by rw [h1]; rfl))
    go_enter Try.func26, Try.ntmps26
    go_wp2_with (go_at_call 70; refine (sspeech_any _ _ _ _ _ hn h).mono ?_; rintro e w' ⟨rfl, rfl⟩)
    go_ret
    exact ⟨ret_int hr.out.symm, Below.refl _ _⟩
  | true =>
    cases h2 : speak b with
    | false =>
      have hr := Lib.hid (farI_no (a := a) (b := b) (by rw [h2, Bool.and_false]))
      go_enter Try.func26, Try.ntmps26
      go_wp2_with fail
      refine (sspeech_any A n c a _ hn h).mono ?_
      rintro e w' ⟨rfl, rfl⟩
      go_wp2_with fail
      refine (sspeech_any B m d b _ hm k).mono ?_
      rintro e w' ⟨rfl, rfl⟩
      go_wp2_with fail
      go_ret
      exact ⟨ret_int hr.out.symm, Below.refl _ _⟩
    | true =>
      have hn2 : n ≤ 20 := by have := speak_len h1; rw [ha.out] at this; exact this
      have hm2 : m ≤ 20 := by have := speak_len h2; rw [hb.out] at this; exact this
      have hr := Lib.hid (farI_yes h1 h2)
      go_enter Try.func26, Try.ntmps26
      go_wp2_with fail
      refine (sspeech_any A n c a _ hn h).mono ?_
      rintro e w' ⟨rfl, rfl⟩
      go_wp2_with fail
      refine (sspeech_any B m d b _ hm k).mono ?_
      rintro e w' ⟨rfl, rfl⟩
      go_wp2_with fail
      refine (stable_any A B n c m d a b _ hn2 hm2 h k).mono ?_
      rintro e w' ⟨G, R, cs, rfl, hT, hbel⟩
      obtain ⟨r1, r2, r3⟩ := hT.rows 0 (Nat.le_refl _) (by omega)
      have hc1 : w'.cell? ⟨G, 0, none⟩ = some (.slice (some ⟨R 0, 0, none⟩) (m + 1 : Nat) (m + 1 : Nat)) := (hT.blk.cell 0).trans r1
      have hc2 := (r3.cell 0).trans (rowF_cell _ m 0 (by omega))
      have hvb := V_bound (i := 0) (j := 0) ha.out hb.out
      have hV := Lib.hid (show V a b 0 0 = (Mk.far a b : Nat) by unfold V; simp)
      generalize V a b 0 0 = v at *
      generalize R 0 = g1 at *
      have n1 : 0 < n + 1 := by omega
      have m1 : 0 < m + 1 := by omega
      clear r1 r3 hT
      go_wp2_with fail
      go_ret
      exact ⟨ret_int (hV.out.trans hr.out.symm), hbel⟩

set_option maxHeartbeats 400000 in
theorem isame_any (A B : Option Addr) (n c m d : Nat) (a b : List ByteArray) (w : World) (hn : n ≤ 9223372036854775807) (hm : m ≤ 9223372036854775807) (h : Strs w A n a) (k : Strs w B m b) :
    Calls Try.prog 44 #[.slice A n c, .slice B m d] w fun e w' => e = .returned (.int .i64 (sameI a b)) ∧ Below w.heap.size w w' := by
  have ha := Lib.hid h.len
  have hb := Lib.hid k.len
  cases h0 : (speak a && speak b) with
  | false =>
    have hr := Lib.hid (sameI_no h0)
    have hv := Lib.hid (farI_no h0)
    go_enter Try.func44, Try.ntmps44
    go_wp2_with fail
    refine (ifar_any A B n c m d a b _ hn hm h k).mono ?_
    rintro e w' ⟨rfl, hbel⟩
    rw [hv.out]
    go_wp2_with fail
    go_ret
    exact ⟨ret_int hr.out.symm, hbel⟩
  | true =>
    rw [Bool.and_eq_true] at h0
    have hn2 : n ≤ 20 := by have := speak_len h0.1; rw [ha.out] at this; exact this
    have hm2 : m ≤ 20 := by have := speak_len h0.2; rw [hb.out] at this; exact this
    have hr := Lib.hid (sameI_yes h0.1 h0.2)
    have hv := Lib.hid (farI_yes h0.1 h0.2)
    have hf : Mk.far a b ≤ n + m := by have := Mk.far_le a b; rwa [ha.out, hb.out] at this
    clear h0
    go_enter Try.func44, Try.ntmps44
    go_wp2_with fail
    refine (ifar_any A B n c m d a b _ hn hm h k).mono ?_
    rintro e w' ⟨rfl, hbel⟩
    rw [hv.out]
    generalize Mk.far a b = F at *
    go_wp2_with fail
    go_ret
    exact ⟨ret_int (by rw [hr.out, ha.out, hb.out]), hbel⟩

set_option maxHeartbeats 400000 in
theorem ssame_any (A B : Option Addr) (n c m d : Nat) (a b : List ByteArray) (w : World) (hn : n ≤ 9223372036854775807) (hm : m ≤ 9223372036854775807) (h : Strs w A n a) (k : Strs w B m b) :
    Calls Try.prog 43 #[.slice A n c, .slice B m d] w fun e w' => e = .returned (.int .i64 (sameI a b)) ∧ Below w.heap.size w w' := by
  have ha := Lib.hid h.len
  have hb := Lib.hid k.len
  cases h0 : (speak a && speak b) with
  | false =>
    have hr := Lib.hid (sameI_no h0)
    have hv := Lib.hid (farI_no h0)
    go_enter Try.func43, Try.ntmps43
    go_wp2_with fail
    refine (sfar_any A B n c m d a b _ hn hm h k).mono ?_
    rintro e w' ⟨rfl, hbel⟩
    rw [hv.out]
    go_wp2_with fail
    go_ret
    exact ⟨ret_int hr.out.symm, hbel⟩
  | true =>
    rw [Bool.and_eq_true] at h0
    have hn2 : n ≤ 20 := by have := speak_len h0.1; rw [ha.out] at this; exact this
    have hm2 : m ≤ 20 := by have := speak_len h0.2; rw [hb.out] at this; exact this
    have hr := Lib.hid (sameI_yes h0.1 h0.2)
    have hv := Lib.hid (farI_yes h0.1 h0.2)
    have hf : Mk.far a b ≤ n + m := by have := Mk.far_le a b; rwa [ha.out, hb.out] at this
    clear h0
    go_enter Try.func43, Try.ntmps43
    go_wp2_with fail
    refine (sfar_any A B n c m d a b _ hn hm h k).mono ?_
    rintro e w' ⟨rfl, hbel⟩
    rw [hv.out]
    generalize Mk.far a b = F at *
    go_wp2_with fail
    go_ret
    exact ⟨ret_int (by rw [hr.out, ha.out, hb.out]), hbel⟩
end Go.Proofs.Ytjhlcgjhdiheaaa
