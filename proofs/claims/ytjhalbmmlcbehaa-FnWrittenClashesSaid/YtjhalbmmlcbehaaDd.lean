/- Dictionaries that are drawn. -/
import Derived.Test.YtjhalbmmlcbehaaDs
namespace Go.Proofs.Ytjhalbmmlcbehaa
open Go.RowKit Wr
set_option linter.unusedVariables false
set_option linter.unusedSimpArgs false

set_option maxRecDepth 8000 in
set_option maxHeartbeats 4000000 in
theorem is_any (A : Option Addr) (n c : Nat) (xs : List ByteArray) (s : ByteArray) (w : World) (h : Strs w A n xs) (hn : n ≤ 1048576) :
    Calls Try.prog 70 #[.slice A n c, .string s] w fun e w' => ∃ b, e = .returned (.bool b) ∧ w = w' := by
  go_enter Try.func70, Try.ntmps70
  go_wp2_with fail
  go_loopw [5] (fun iv wr => ∃ j : Nat, j ≤ n ∧ iv = .int .i64 j ∧ wr = w) (fun iv _ => n - (intOf iv).toNat)
  case atStart => exact ⟨0, Nat.zero_le _, rfl, rfl⟩
  case round =>
    obtain ⟨j, hj, rfl, rfl⟩ := hrel
    by_cases hlt : j < n
    · obtain ⟨b, off, x, rfl, hx, x1, hc⟩ := h.at_ hlt
      have j1 : (0 : Int) ≤ (j : Int) := by omega
      have j2 : (j : Int) < (n : Int) := by omega
      have hb := bytes_eq x s
      cases hq : decide (x = s) with
      | true =>
        rw [hq] at hb
        clear hq
        go_wp2_with fail
        go_ret
        exact ⟨_, rfl, by first | rfl | trivial⟩
      | false =>
        rw [hq] at hb
        clear hq
        go_wp2_with fail
        go_roundw
        case rel => exact ⟨j + 1, by omega, by go_num, trivial⟩
        case measure => simp [intOf]; omega
    · obtain rfl : j = n := by omega
      go_wp2_with fail
      go_ret
      exact ⟨_, rfl, by first | rfl | trivial⟩
def DictPost (w : World) (R : Nat) (K : Int) (e : Ending) (w' : World) : Prop := ∃ A n c, e = .returned (.slice A n c) ∧ n ≤ 20 ∧ DrawnS w R (K + 300) n A c w'
set_option maxRecDepth 8000 in
set_option maxHeartbeats 8000000 in
theorem dictD_any (R : Nat) (K : Int) (w : World) (h : RdB w R K) (hK : K ≤ 50000) : Calls Try.prog 47 #[.pointer (some ⟨R, 0, none⟩)] w (DictPost w R K) := by
  have hR := h.lt
  have H0 := Lib.hid (drawnS_start h)
  go_enter Try.func47, Try.ntmps47
  go_wp2_with fail
  refine (pickB R K 9 _ H0.out.rd (by omega) (by omega) (by omega)).mono ?_
  rintro e w1 ⟨m, rfl, hm, hr1, hg1⟩
  have H1 := Lib.hid (H0.out.pick hR hr1 hg1)
  clear H0 hr1 hg1 h
  go_wp2_with fail
  go_loopw [3, 5] (fun tv iv wr => ∃ (i n g c : Nat), i ≤ m ∧ iv = .int .i64 i ∧ tv = .slice (some ⟨g, 0, none⟩) n c ∧ n ≤ i ∧ Hid (DrawnS w R (K + 1 + 20 * i) n (some ⟨g, 0, none⟩) c wr)) (fun _ iv _ => m - (intOf iv).toNat)
  case atStart => exact ⟨0, 0, _, 0, Nat.zero_le _, rfl, rfl, Nat.le_refl _, Lib.hid (H1.out.mono (by omega))⟩
  case round =>
    clear H1
    obtain ⟨i, n, g, c, hi, rfl, rfl, hni, HD⟩ := hrel
    by_cases hlt : i < m
    · have g1 : (i : Int) < (m : Int) := by omega
      go_wp2_with fail
      refine (word_any R (K + 1 + 20 * i) _ HD.out.rd (by omega)).mono ?_
      rintro e w2 ⟨s, rfl, hs, hr, hg⟩
      have HD2 := Lib.hid (HD.out.pick hR hr hg)
      clear hr hg HD
      go_wp2_with fail
      refine (sword_any s _ (by omega)).mono ?_
      rintro e w' ⟨rfl, rfl⟩
      cases hw : wok s with
      | false =>
        clear hw
        go_wp2_with fail
        go_roundw
        case rel => exact ⟨i + 1, n, g, c, by omega, by go_num, rfl, by omega, Lib.hid (HD2.out.mono (by omega))⟩
        case measure => simp [intOf]; omega
      | true =>
        clear hw
        go_wp2_with fail
        refine (is_any _ n c HD2.out.choose s _ HD2.out.choose_spec.1.ints (by omega)).mono ?_
        rintro e w' ⟨b, rfl, rfl⟩
        cases b with
        | true =>
          go_wp2_with fail
          go_roundw
          case rel => exact ⟨i + 1, n, g, c, by omega, by go_num, rfl, by omega, Lib.hid (HD2.out.mono (by omega))⟩
          case measure => simp [intOf]; omega
        | false =>
          have HD3 := Lib.hid (HD2.out.alloc (.cells #[.string s] 9))
          go_wp2_with (at_builtin; go_must (refine drawnS_push w _ rfl (.tmp 25) (.tmp 27) rfl R n c (K + 1 + 20 * i + 20) (some ⟨g, 0, none⟩) rfl HD3.out hR s w2.heap.size rfl (by unfold Sz; omega) (by go_simp) (by omega) ?_); intro g5 c5 w5 hd5; have HD5 := Lib.hid hd5; clear hd5)
          go_roundw
          case rel => exact ⟨i + 1, n + 1, g5, c5, by omega, by go_num, rfl, by omega, Lib.hid (HD5.out.mono (by omega))⟩
          case measure => simp [intOf]; omega
    · have g1 : ¬ (i : Int) < (m : Int) := by omega
      by_cases hn0 : n = 0
      · have g2 : ¬ (0 : Int) < (n : Int) := by omega
        clear hn0
        go_wp2_with fail
        go_ret
        exact ⟨_, _, _, rfl, by omega, HD.out.mono (by omega)⟩
      have g2 : (0 : Int) < (n : Int) := by omega
      have hn1 : 0 < n := by omega
      clear hn0
      go_wp2_with fail
      refine (pickB R (K + 1 + 20 * i) 40 _ HD.out.rd (by omega) (by omega) (by omega)).mono ?_
      rintro e w3 ⟨x, rfl, hx, hr3, hg3⟩
      have HD3 := Lib.hid (HD.out.pick hR hr3 hg3)
      clear hr3 hg3 HD
      cases hx0 : ((x : Int) == 0) with
      | false =>
        go_wp2_with fail
        go_ret
        exact ⟨_, _, _, rfl, by omega, HD3.out.mono (by omega)⟩
      | true =>
        obtain ⟨b, off, y, he, hy, hy1, hc⟩ := HD3.out.choose_spec.1.ints.at_ hn1
        obtain ⟨rfl, rfl⟩ : g = b ∧ 0 = off := by injection he with he; injection he with e1 e2; exact ⟨e1, e2⟩
        have HD4 := Lib.hid (HD3.out.alloc (.cells #[.string y] 9))
        clear he hy
        go_wp2_with (at_builtin; go_must (refine drawnS_push w _ rfl (.tmp 37) (.tmp 41) rfl R n c (K + 1 + 20 * i + 1) (some ⟨g, 0, none⟩) rfl HD4.out hR y w3.heap.size rfl hy1 (by go_simp) (by omega) ?_); intro g5 c5 w5 hd5; have HD5 := Lib.hid hd5; clear hd5)
        go_ret
        exact ⟨_, _, _, rfl, by omega, HD5.out.mono (by omega)⟩
/-- a system and a dictionary that are drawn -/
def SdPost (w : World) (e : Ending) (w' : World) : Prop := ∃ A n c ss B m d ws, e = .returned (.tuple #[.slice A n c, .slice B m d]) ∧ OwnG w' w.heap.size w'.heap.size A n c ss ∧ (∀ y ∈ ss, OkG y) ∧ n ≤ 22 ∧ OwnS w' w.heap.size w'.heap.size B m d ws ∧ m ≤ 20 ∧ Below w.heap.size w w'
def BothPost (w w0 : World) (e : Ending) (w' : World) : Prop := ∃ A n c ss B m d ws, e = .returned (.tuple #[.slice A n c, .slice B m d]) ∧ OwnG w' w0.heap.size w'.heap.size A n c ss ∧ (∀ y ∈ ss, OkG y) ∧ n ≤ 22 ∧ OwnS w' w0.heap.size w'.heap.size B m d ws ∧ m ≤ 20 ∧ Below w0.heap.size w0 w'
set_option maxRecDepth 8000 in
set_option maxHeartbeats 4000000 in
theorem bothD_any (w0 w : World) (HR : Hid (RdB w w0.heap.size 0)) (HB : Hid (Below w0.heap.size w0 w)) : Calls Try.prog 26 #[.pointer (some ⟨w0.heap.size, 0, none⟩)] w (BothPost w w0) := by
  go_enter Try.func26, Try.ntmps26
  go_wp2_with fail
  refine (system_any w0.heap.size 0 _ HR.out (by omega)).mono ?_
  rintro e w2 ⟨A2, n2, c2, ss, rfl, ho, hk, hn2, hr, hg⟩
  have HO := Lib.hid ho
  have HK := Lib.hid hk
  have HR2 := Lib.hid hr
  have HB2 := Lib.hid (below_only HB.out hg (fun q e => by injection e with e; omega))
  have hRl := Lib.hid HR.out.lt
  clear ho hk hr hg
  go_wp2_with fail
  refine (dictD_any w0.heap.size (0 + 20) _ HR2.out (by omega)).mono ?_
  rintro e w3 ⟨B, m, d, rfl, hm, ws, hos, hr, hg⟩
  have HO3 := Lib.hid (((HO.out.far hg (fun q e => by injection e with e; have := hRl.out; omega)).wide HB.out.size hg.size (Nat.le_refl _)))
  have HB3 := Lib.hid (below_only HB2.out hg (fun q e => by injection e with e; omega))
  have HS3 := Lib.hid (hos.wide HB2.out.size (Nat.le_refl _) (Nat.le_refl _))
  clear hr hg hos
  go_wp2_with fail
  go_ret2
  exact ⟨_, _, _, ss, _, _, _, ws, rfl, HO3.out, HK.out, hn2, HS3.out, hm, HB3.out⟩
set_option maxRecDepth 8000 in
set_option maxHeartbeats 4000000 in
theorem drawsd_any (A : Option Addr) (n c : Nat) (w : World) (h : Bytes w w.heap.size A n) (hn : n ≤ 1048576) (hnc : n ≤ c) : Calls Try.prog 6 #[.slice A n c] w (SdPost w) := by
  go_enter Try.func6, Try.ntmps6
  go_wp2_with fail
  refine (open_any A n c _ h hn hnc).mono ?_
  rintro e w1 ⟨rfl, hr, hb⟩
  have HR := Lib.hid hr
  have HB := Lib.hid hb
  clear hr hb
  go_wp2_with fail
  refine (bothD_any w _ HR HB).mono ?_
  rintro e w3 ⟨A2, n2, c2, ss, B, m, d, ws, rfl, h1, h2, h3, h4, h5, h6⟩
  have HP : Hid (SdPost w (.returned (.tuple #[.slice A2 n2 c2, .slice B m d])) w3) := Lib.hid ⟨A2, n2, c2, ss, B, m, d, ws, rfl, h1, h2, h3, h4, h5, h6⟩
  clear h1 h2 h4 h6
  go_wp2_with fail
  go_ret2
  exact HP.out
end Go.Proofs.Ytjhalbmmlcbehaa
