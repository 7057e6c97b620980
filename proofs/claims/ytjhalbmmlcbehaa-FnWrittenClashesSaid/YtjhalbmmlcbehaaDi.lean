/- Dictionaries by both programs. -/
import Derived.Test.YtjhalbmmlcbehaaWc
namespace Go.Proofs.Ytjhalbmmlcbehaa
open Go.RowKit Wr
set_option linter.unusedVariables false
set_option linter.unusedSimpArgs false

theorem lawB : LawfulBEq ByteArray where
  eq_of_beq {a b} h := by
    have h1 : (a.data == b.data) = true := h
    exact ByteArray.ext (eq_of_beq h1)
  rfl {a} := by
    show (a.data == a.data) = true
    exact beq_self_eq_true _
theorem contains_mem (l : List ByteArray) (x : ByteArray) : l.contains x = true ↔ x ∈ l := by
  haveI := lawB
  exact List.contains_iff_mem
theorem contains_not (l : List ByteArray) (x : ByteArray) : l.contains x = false ↔ ¬ x ∈ l := by
  rw [← contains_mem]; simp
theorem containsS_eq (l : List ByteArray) (x : ByteArray) : Lib.containsS l x = l.contains x := by
  rw [Bool.eq_iff_iff, Lib.containsS_iff, contains_mem]
theorem Strs.getD {w : World} {b off n : Nat} {xs : List ByteArray} (h : Strs w (some ⟨b, off, none⟩) n xs) : ∀ j, j < xs.length → w.cell? ⟨b, off + j, none⟩ = some (.string (xs.getD j ByteArray.empty)) := by
  intro j hj
  obtain ⟨b', off', x, e, hx, _, hc⟩ := h.at_ (k := j) (by have := h.len; omega)
  injection e with e; injection e with e1 e2
  subst e1 e2
  rw [hc, List.getD_eq_getElem?_getD, hx]; rfl
theorem dict_no_len {ws : List ByteArray} (h : ¬ ws.length ≤ 20) : dictOk ws = false := by unfold dictOk; rw [decide_eq_false h]; rfl
theorem dict_no {ws : List ByteArray} {k : Nat} (h : dictChk [] (ws.take k) = false) : dictOk ws = false := by unfold dictOk; rw [dict_stop h]; simp
theorem dict_yes {ws : List ByteArray} {n : Nat} (hn : ws.length = n) (h : dictChk [] (ws.take n) = true) : dictOk ws = decide (n ≤ 20) := by
  unfold dictOk
  rw [List.take_of_length_le (by omega)] at h
  rw [h, hn, Bool.and_true]
set_option maxRecDepth 8000 in
set_option maxHeartbeats 2000000 in
theorem idict_any (A : Option Addr) (n c : Nat) (xs : List ByteArray) (w : World) (h : Strs w A n xs) (hn : n ≤ 9223372036854775807) (hnc : n ≤ c) :
    Calls Try.prog 53 #[.slice A n c] w fun e w' => e = .returned (.bool (dictOk xs)) ∧ w' = w := by
  have hlen := Lib.hid h.len
  by_cases h20 : n ≤ 20
  rotate_left
  · have hr := Lib.hid (dict_no_len (by rw [hlen.out]; exact h20))
    have g1 : (20 : Int) < (n : Int) := by omega
    clear h20
    go_enter Try.func53, Try.ntmps53
    go_wp2_with fail
    go_ret
    exact ⟨ret_bool hr.out.symm, rfl⟩
  have g1 : ¬ (20 : Int) < (n : Int) := by omega
  go_enter Try.func53, Try.ntmps53
  go_wp2_with fail
  go_loopw [10] (fun iv wr => ∃ k : Nat, k ≤ n ∧ iv = .int .i64 k ∧ Hid (dictChk [] (xs.take k) = true) ∧ wr = w) (fun iv _ => n - (intOf iv).toNat)
  case atStart => exact ⟨0, Nat.zero_le _, rfl, Lib.hid rfl, rfl⟩
  case round =>
    obtain ⟨k, hk, rfl, hC, rfl⟩ := hrel
    by_cases hlt : k < n
    · obtain ⟨b, off, x, rfl, hx, hx1, hc⟩ := h.at_ hlt
      have hgo := Lib.hid (dict_go hx)
      have k1 : (0 : Int) ≤ (k : Int) := by omega
      have k2 : (k : Int) < (n : Int) := by omega
      have k3 : (k : Int) ≤ (c : Int) := by omega
      have k4 : k ≤ c := by omega
      cases hw : wok x with
      | false =>
        have hr := Lib.hid (dict_no (ws := xs) (k := k + 1) (by rw [hgo.out, hw]; simp))
        have HW := Lib.hid hw
        clear hw hx
        go_wp2_with (go_at_call 40; refine (iword_any x _ hx1).mono ?_; rw [HW.out]; rintro e w' ⟨rfl, rfl⟩)
        go_ret
        exact ⟨ret_bool hr.out.symm, rfl⟩
      | true =>
        have HW := Lib.hid hw
        cases hq : (xs.take k).contains x with
        | true =>
          have hr := Lib.hid (dict_no (ws := xs) (k := k + 1) (by rw [hgo.out, hw, hq]; simp))
          have HQ : Hid (Lib.containsS (xs.take k) x = true) := Lib.hid (by rw [containsS_eq]; exact hq)
          clear hw hq hx
          go_wp2_with (first | (go_at_call 40; refine (iword_any x _ hx1).mono ?_; rw [HW.out]; rintro e w' ⟨rfl, rfl⟩) | (go_at_call 76; refine (slices_Contains_string b off k _ xs x _ (by rw [hlen.out]; omega) (by omega) h.getD).mono ?_; rw [HQ.out]; rintro e w' ⟨rfl, rfl⟩))
          go_ret
          exact ⟨ret_bool hr.out.symm, rfl⟩
        | false =>
          have hN : Hid (dictChk [] (xs.take (k + 1)) = true) := Lib.hid (by rw [hgo.out, hC.out, hw, hq]; rfl)
          have HQ : Hid (Lib.containsS (xs.take k) x = false) := Lib.hid (by rw [containsS_eq]; exact hq)
          clear hw hq hx
          go_wp2_with (first | (go_at_call 40; refine (iword_any x _ hx1).mono ?_; rw [HW.out]; rintro e w' ⟨rfl, rfl⟩) | (go_at_call 76; refine (slices_Contains_string b off k _ xs x _ (by rw [hlen.out]; omega) (by omega) h.getD).mono ?_; rw [HQ.out]; rintro e w' ⟨rfl, rfl⟩))
          go_roundw
          case rel => exact ⟨k + 1, by omega, by go_num, hN, by first | rfl | trivial⟩
          case measure => simp [intOf]; omega
    · obtain rfl : k = n := by omega
      have hr := Lib.hid (dict_yes hlen.out hC.out)
      have hr2 := Lib.hid (decide_eq_true h20)
      go_wp2_with fail
      go_ret
      exact ⟨ret_bool (by rw [hr.out, hr2.out]), rfl⟩
set_option maxRecDepth 8000 in
set_option maxHeartbeats 2000000 in
theorem sdict_any (A : Option Addr) (n c : Nat) (xs : List ByteArray) (w : World) (h : Strs w A n xs) (hn : n ≤ 9223372036854775807) :
    Calls Try.prog 50 #[.slice A n c] w fun e w' => e = .returned (.bool (dictOk xs)) ∧ Below w.heap.size w w' := by
  have hlen := Lib.hid h.len
  go_enter Try.func50, Try.ntmps50
  go_wp2_with fail
  go_loopw [3] (fun iv wr => ∃ (k q : Nat), k ≤ n ∧ iv = .int .i64 k ∧ Hid (dictChk [] (xs.take k) = true) ∧ wr = w.drewN q) (fun iv _ => n - (intOf iv).toNat)
  case atStart => exact ⟨0, 0, Nat.zero_le _, rfl, Lib.hid rfl, rfl⟩
  case round =>
    obtain ⟨k, q, hk, rfl, hC, rfl⟩ := hrel
    by_cases hlt : k < n
    · obtain ⟨b, off, x, rfl, hx, hx1, hc⟩ := h.at_ hlt
      have hgo := Lib.hid (dict_go hx)
      have k1 : (0 : Int) ≤ (k : Int) := by omega
      have k2 : (k : Int) < (n : Int) := by omega
      cases hw : wok x with
      | false =>
        have hr := Lib.hid (dict_no (ws := xs) (k := k + 1) (by rw [hgo.out, hw]; simp))
        have HW := Lib.hid hw
        clear hw hx
        go_wp2_with (go_at_call 55; refine (sword_any x _ hx1).mono ?_; rw [HW.out]; rintro e w' ⟨rfl, rfl⟩)
        go_ret
        exact ⟨ret_bool hr.out.symm, below_drewN (Below.refl _ _) q⟩
      | true =>
        have HW := Lib.hid hw
        have hX := Lib.hid hx
        clear hw hx
        go_wp2_with (go_at_call 55; refine (sword_any x _ hx1).mono ?_; rw [HW.out]; rintro e w' ⟨rfl, rfl⟩)
        go_loopw [4] (fun iv wr => ∃ (j q : Nat), j ≤ k ∧ iv = .int .i64 j ∧ Hid ((xs.take j).contains x = false) ∧ wr = w.drewN q) (fun iv _ => n - (intOf iv).toNat)
        case atStart => exact ⟨0, q, Nat.zero_le _, rfl, Lib.hid rfl, rfl⟩
        case round =>
          obtain ⟨j, q, hj, rfl, hD, rfl⟩ := hrel
          by_cases hjk : j < k
          · obtain ⟨b', off', y, he, hy, hy1, hd⟩ := h.at_ (k := j) (by omega)
            obtain ⟨rfl, rfl⟩ : b = b' ∧ off = off' := by injection he with he; injection he with e1 e2; exact ⟨e1, e2⟩
            have hsn := Lib.hid (take_snoc hy)
            have hsn2 := Lib.hid (mem_at (show (xs.take k)[j]? = some y by rw [List.getElem?_take_of_lt hjk]; exact hy))
            have j1 : (0 : Int) ≤ (j : Int) := by omega
            have j2 : (j : Int) < (n : Int) := by omega
            have j3 : (j : Int) < (k : Int) := by omega
            clear he hy
            by_cases hxy : y = x
            · have hb : (y.toList == x.toList) = true := by rw [bytes_eq]; exact decide_eq_true hxy
              have hr := Lib.hid (dict_no (ws := xs) (k := k + 1) (by rw [hgo.out, show (xs.take k).contains x = true by rw [contains_mem, ← hxy]; exact hsn2.out]; simp))
              clear hxy
              go_wp2_with fail
              go_quiet (fail)
              go_wp2_with fail
              go_ret
              exact ⟨ret_bool hr.out.symm, below_drewN (below_drewN (Below.refl _ _) _) _⟩
            · have hb : (y.toList == x.toList) = false := by rw [bytes_eq]; exact decide_eq_false hxy
              have hN : Hid ((xs.take (j + 1)).contains x = false) := Lib.hid (by
                rw [hsn.out]
                have := hD.out
                rw [contains_not] at this ⊢
                simp only [List.mem_append, List.mem_singleton]
                exact fun e => e.elim this (fun e => hxy e.symm))
              clear hxy
              go_wp2_with fail
              go_quiet (fail)
              go_wp2_with fail
              go_roundw
              case rel => exact ⟨j + 1, _, by omega, by go_num, hN, rfl⟩
              case measure => simp [intOf]; omega
          · obtain rfl : j = k := by omega
            have hN : Hid (dictChk [] (xs.take (j + 1)) = true) := Lib.hid (by rw [hgo.out, hC.out, HW.out, hD.out]; rfl)
            go_wp2_with fail
            go_roundw
            case rel => exact ⟨j + 1, q, by omega, by go_num, hN, rfl⟩
            case measure => simp [intOf]; omega
    · obtain rfl : k = n := by omega
      have hr := Lib.hid (dict_yes hlen.out hC.out)
      go_wp2_with fail
      go_ret
      exact ⟨ret_bool (by rw [hr.out]; exact decide_eq_decide.2 (by omega)), below_drewN (Below.refl _ _) _⟩
end Go.Proofs.Ytjhalbmmlcbehaa
