/- Words that are drawn. -/
import Derived.Test.YtjhalbmmlcbehaaMemW
namespace Go.Proofs.Ytjhalbmmlcbehaa
open Go.RowKit
set_option linter.unusedVariables false
set_option linter.unusedSimpArgs false

def WordPost2 (w : World) (R : Nat) (K : Int) (e : Ending) (w' : World) : Prop := ∃ x : ByteArray, e = .returned (.string x) ∧ x.size ≤ 16 ∧ RdB w' R (K + 1) ∧ w.grownBy w' (some R)
set_option maxHeartbeats 400000 in
theorem of_any2 (R n c : Nat) (K : Int) (A : Option Addr) (xs : List ByteArray) (w : World) (h : RdB w R K) (hK : K ≤ 1000000) (hs : Strs w A n xs) (hM : ∀ x ∈ xs, x.size ≤ 16) (hn : 1 ≤ n) (hn2 : n ≤ 1000000) :
    Calls Try.prog 69 #[.pointer (some ⟨R, 0, none⟩), .slice A n c] w (WordPost2 w R K) := by
  go_enter Try.func69, Try.ntmps69
  go_wp2_with fail
  refine (pickB R K n _ h (by omega) (by omega) (by omega)).mono ?_
  rintro e w1 ⟨y, rfl, hy, hr, hg⟩
  obtain ⟨b, off, x, rfl, hx, x1, hc⟩ := (hs.rd h hg).at_ (k := y) (by omega)
  have hX := Lib.hid (hM x (mem_at hx))
  clear hx
  go_wp2
  go_ret
  exact ⟨x, rfl, hX.out, hr, hg⟩
/-- a word out of a row of literals -/
theorem of_lits (R : Nat) (K : Int) (xs : List ByteArray) (w : World) (h : RdB w R K) (hK : K ≤ 1000000) (hM : ∀ x ∈ xs, x.size ≤ 16) (hn : 1 ≤ xs.length) (hn2 : xs.length ≤ 100) (c : Nat) :
    Calls Try.prog 69 #[.pointer (some ⟨R, 0, none⟩), .slice (some ⟨w.heap.size, 0, none⟩) xs.length c] (w.alloc (.cells (xs.map Value.string).toArray 9)) fun e w' => ∃ x : ByteArray, e = .returned (.string x) ∧ x.size ≤ 16 ∧ RdB w' R (K + 1) ∧ w.grownBy w' (some R) := by
  refine (of_any2 R xs.length c K _ xs _ (h.alloc _) hK (strs_lit w xs (fun x hx => Nat.le_trans (hM x hx) (by omega))) hM hn (by omega)).mono ?_
  rintro e w' ⟨x, rfl, h1, h2, h3⟩
  exact ⟨x, rfl, h1, h2, only_again (only_alloc (World.grownBy.refl _ _) _) h3⟩
theorem lit4a : ∀ x ∈ ([⟨#[]⟩, ⟨#[65]⟩, ⟨#[97, 49]⟩, ⟨#[97, 98, 99, 100, 101, 102, 103, 104, 105, 106, 107, 108, 109]⟩] : List ByteArray), x.size ≤ 16 := by decide
theorem lit6 : ∀ x ∈ ([⟨#[98]⟩, ⟨#[100]⟩, ⟨#[116]⟩, ⟨#[110]⟩, ⟨#[110, 110]⟩, ⟨#[115]⟩] : List ByteArray), x.size ≤ 16 := by decide
theorem lit5 : ∀ x ∈ ([⟨#[97]⟩, ⟨#[101]⟩, ⟨#[105]⟩, ⟨#[]⟩, ⟨#[111]⟩] : List ByteArray), x.size ≤ 16 := by decide
theorem lit4b : ∀ x ∈ ([⟨#[]⟩, ⟨#[97]⟩, ⟨#[]⟩, ⟨#[101]⟩] : List ByteArray), x.size ≤ 16 := by decide
theorem lit4c : ∀ x ∈ ([⟨#[97]⟩, ⟨#[]⟩, ⟨#[98, 98]⟩, ⟨#[66]⟩] : List ByteArray), x.size ≤ 16 := by decide
def WPost (w : World) (R : Nat) (K : Int) (e : Ending) (w' : World) : Prop := ∃ x : ByteArray, e = .returned (.string x) ∧ x.size ≤ 200 ∧ RdB w' R (K + 20) ∧ w.grownBy w' (some R)
set_option maxRecDepth 8000 in
set_option maxHeartbeats 4000000 in
theorem word_any (R : Nat) (K : Int) (w : World) (h : RdB w R K) (hK : K ≤ 100000) : Calls Try.prog 54 #[.pointer (some ⟨R, 0, none⟩)] w (WPost w R K) := by
  go_enter Try.func54, Try.ntmps54
  go_wp2_with fail
  refine (pickB R K 40 _ h (by omega) (by omega) (by omega)).mono ?_
  rintro e w1 ⟨x, rfl, hx, hr1, hg1⟩
  have HR1 := Lib.hid hr1
  have HG1 := Lib.hid hg1
  clear hr1 hg1
  cases hx0 : ((x : Int) == 0) with
  | true =>
    go_wp2_with fail
    refine (of_lits R (K + 1) _ _ HR1.out (by omega) lit4a (by decide) (by decide) _).mono ?_
    rintro e w2 ⟨y, rfl, hy, hr2, hg2⟩
    go_wp2_with fail
    go_ret
    exact ⟨y, rfl, by omega, hr2.mono (by omega), only_again HG1.out hg2⟩
  | false =>
    go_wp2_with fail
    refine (pickB R (K + 1) 3 _ HR1.out (by omega) (by omega) (by omega)).mono ?_
    rintro e w2 ⟨m, rfl, hm, hr2, hg2⟩
    have HR2 := Lib.hid hr2
    have HG2 := Lib.hid (only_again HG1.out hg2)
    clear hr2 hg2 HR1 HG1
    have u1 : IntKind.i64.wrap (1 + (m : Int)) = 1 + (m : Int) := IntWalk.i64_in _ (by omega)
    go_wp2_with fail
    go_loopw [3, 5] (fun tv iv wr => ∃ (i : Nat) (s : ByteArray), i ≤ m + 1 ∧ iv = .int .i64 i ∧ tv = .string s ∧ s.size ≤ 32 * i ∧ RdB wr R (K + 2 + 2 * i) ∧ w.grownBy wr (some R)) (fun _ iv _ => m + 1 - (intOf iv).toNat)
    case atStart => exact ⟨0, _, Nat.zero_le _, rfl, rfl, Nat.le_refl _, HR2.out.mono (by omega), HG2.out⟩
    case round =>
      clear HR2 HG2
      obtain ⟨i, s, hi, rfl, rfl, hs, hr, hg⟩ := hrel
      have HR := Lib.hid hr
      have HG := Lib.hid hg
      clear hr hg
      by_cases hlt : i < m + 1
      · have g1 : (i : Int) < 1 + (m : Int) := by omega
        go_wp2_with fail
        refine (of_lits R (K + 2 + 2 * i) _ _ HR.out (by omega) lit6 (by decide) (by decide) _).mono ?_
        rintro e w3 ⟨y, rfl, hy, hr3, hg3⟩
        have HR3 := Lib.hid hr3
        have HG3 := Lib.hid (only_again HG.out hg3)
        clear hr3 hg3 HR HG
        have hsz := ByteArray.size_append (a := s) (b := y)
        go_wp2_with fail
        refine (of_lits R (K + 2 + 2 * i + 1) _ _ HR3.out (by omega) lit5 (by decide) (by decide) _).mono ?_
        rintro e w4 ⟨z, rfl, hz, hr4, hg4⟩
        have HR4 := Lib.hid hr4
        have HG4 := Lib.hid (only_again HG3.out hg4)
        clear hr4 hg4 HR3 HG3
        have hsz2 := ByteArray.size_append (a := s ++ y) (b := z)
        go_wp2_with fail
        go_roundw
        case rel => exact ⟨i + 1, _, by omega, by go_num, rfl, by omega, HR4.out.mono (by omega), HG4.out⟩
        case measure => simp [intOf]; omega
      · have g1 : ¬ (i : Int) < 1 + (m : Int) := by omega
        go_wp2_with fail
        refine (of_lits R (K + 2 + 2 * i) _ _ HR.out (by omega) lit4b (by decide) (by decide) _).mono ?_
        rintro e w3 ⟨y, rfl, hy, hr3, hg3⟩
        have HR3 := Lib.hid hr3
        have HG3 := Lib.hid (only_again HG.out hg3)
        clear hr3 hg3 HR HG
        have hsz := ByteArray.size_append (a := y) (b := s)
        go_wp2_with fail
        go_ret
        exact ⟨_, rfl, by omega, HR3.out.mono (by omega), HG3.out⟩
end Go.Proofs.Ytjhalbmmlcbehaa
