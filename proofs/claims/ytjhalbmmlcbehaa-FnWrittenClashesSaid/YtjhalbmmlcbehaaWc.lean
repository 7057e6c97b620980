/- Bare forms and vowels of words by the reference; positions by both. -/
import Derived.Test.YtjhalbmmlcbehaaWb
namespace Go.Proofs.Ytjhalbmmlcbehaa
open Go.RowKit Wr
set_option linter.unusedVariables false
set_option linter.unusedSimpArgs false

theorem cut_one (s : ByteArray) (k : Nat) (h : k < s.size) : s.extract k (k + 1) = bS [s[k]] := by
  apply ByteArray.ext
  rw [ByteArray.data_extract]
  apply Array.toList_inj.1
  have h1 := bytes_at s k h
  have h2 : k < s.data.toList.length := (List.getElem?_eq_some_iff.1 h1).1
  rw [Array.toList_extract]
  simp only [List.extract_eq_take_drop]
  rw [show k + 1 - k = 1 by omega, List.drop_eq_getElem_cons h2, List.take_succ_cons, List.take_zero]
  have h3 := (List.getElem?_eq_some_iff.1 h1).2
  rw [h3]
set_option maxRecDepth 8000 in
set_option maxHeartbeats 2000000 in
theorem svowels_any (s : ByteArray) (w : World) (hm : s.size ≤ 9223372036854775807) :
    Calls Try.prog 59 #[.string s] w fun e w' => e = .returned (.string (vowS s)) ∧ w' = w := by
  cases hw : wok s with
  | false =>
    have hr := Lib.hid (vowS_no hw)
    have HW := Lib.hid hw
    clear hw
    go_enter Try.func59, Try.ntmps59
    go_wp2_with fail
    go_loopw [3, 4] (fun tv iv wr => iv = .int .i64 0 ∧ tv = .string (bS []) ∧ wr = w) (fun _ iv _ => s.size - (intOf iv).toNat)
    case atStart => exact ⟨rfl, rfl, rfl⟩
    case round =>
      obtain ⟨rfl, rfl, rfl⟩ := hrel
      by_cases h0 : s.size = 0
      · have g1 : ¬ (0 : Int) < (s.size : Int) := by omega
        clear h0
        go_wp2_with fail
        go_ret
        exact ⟨ret_str hr.out.symm, rfl⟩
      · have g1 : (0 : Int) < (s.size : Int) := by omega
        clear h0
        go_wp2_with (go_at_call 55; refine (sword_any s _ hm).mono ?_; rw [HW.out]; rintro e w' ⟨rfl, rfl⟩)
        go_ret
        exact ⟨ret_str hr.out.symm, rfl⟩
  | true =>
    have hr := Lib.hid (vowS_yes hw)
    have HW := Lib.hid hw
    have hs12 := wok_size hw
    clear hw
    go_enter Try.func59, Try.ntmps59
    go_wp2_with fail
    go_loopw [3, 4] (fun tv iv wr => ∃ (k : Nat), k ≤ s.size ∧ iv = .int .i64 k ∧ tv = .string (bS ((s.data.toList.take k).filter vowel)) ∧ wr = w) (fun _ iv _ => s.size - (intOf iv).toNat)
    case atStart => exact ⟨0, Nat.zero_le _, rfl, rfl, rfl⟩
    case round =>
      obtain ⟨k, hk, rfl, rfl, rfl⟩ := hrel
      by_cases hlt : k < s.size
      · have hgo := Lib.hid (filter_go hlt)
        have hln := filter_len s.data.toList k
        have hsz := bS_size ((s.data.toList.take k).filter vowel)
        have k1 : (0 : Int) ≤ (k : Int) := by omega
        have k2 : (k : Int) < (s.size : Int) := by omega
        cases hv : vowel s[k] with
        | false =>
          have HO2 : Hid ((s.data.toList.take (k + 1)).filter vowel = (s.data.toList.take k).filter vowel) := Lib.hid (by rw [hgo.out, hv]; simp)
          have HV := Lib.hid hv
          clear hv hgo
          go_wp2_with (first | (go_at_call 55; refine (sword_any s _ hm).mono ?_; rw [HW.out]; rintro e w' ⟨rfl, rfl⟩) | (go_at_call 72; refine (svowel_any s[k] _).mono ?_; rw [HV.out]; rintro e w' ⟨rfl, rfl⟩))
          go_roundw
          case rel => exact ⟨k + 1, by omega, by go_num, by rw [HO2.out], by first | rfl | trivial⟩
          case measure => simp [intOf]; omega
        | true =>
          have HO2 : Hid ((s.data.toList.take (k + 1)).filter vowel = (s.data.toList.take k).filter vowel ++ [s[k]]) := Lib.hid (by rw [hgo.out, hv]; simp)
          have HV := Lib.hid hv
          clear hv hgo
          go_wp2_with (first | (go_at_call 55; refine (sword_any s _ hm).mono ?_; rw [HW.out]; rintro e w' ⟨rfl, rfl⟩) | (go_at_call 72; refine (svowel_any s[k] _).mono ?_; rw [HV.out]; rintro e w' ⟨rfl, rfl⟩))
          go_roundw
          case rel => exact ⟨k + 1, by omega, by go_num, by rw [HO2.out, ← bS_append, cut_one s k hlt], by first | rfl | trivial⟩
          case measure => simp [intOf]; omega
      · obtain rfl : k = s.size := by omega
        have hfin : (s.data.toList.take s.size).filter vowel = vowels s := by unfold vowels; rw [List.take_of_length_le (by rw [Array.length_toList]; exact Nat.le_refl _)]
        have hr2 : Hid (bS ((s.data.toList.take s.size).filter vowel) = vowS s) := Lib.hid (by rw [hfin, hr.out])
        clear hfin
        go_wp2_with fail
        go_ret
        exact ⟨ret_str hr2.out, rfl⟩

set_option maxRecDepth 8000 in
set_option maxHeartbeats 2000000 in
theorem sbare_any (s : ByteArray) (w : World) (hm : s.size ≤ 9223372036854775807) :
    Calls Try.prog 56 #[.string s] w fun e w' => e = .returned (.string (bareS s)) ∧ Below w.heap.size w w' := by
  cases hw : wok s with
  | false =>
    have hr := Lib.hid (bareS_no hw)
    have HW := Lib.hid hw
    clear hw
    go_enter Try.func56, Try.ntmps56
    go_wp2_with fail
    go_loopw [3, 4] (fun tv iv wr => iv = .int .i64 0 ∧ tv = .string (bS []) ∧ wr = w) (fun _ iv _ => s.size - (intOf iv).toNat)
    case atStart => exact ⟨rfl, rfl, rfl⟩
    case round =>
      obtain ⟨rfl, rfl, rfl⟩ := hrel
      by_cases h0 : s.size = 0
      · have g1 : ¬ (0 : Int) < (s.size : Int) := by omega
        clear h0
        go_wp2_with fail
        go_ret
        exact ⟨ret_str hr.out.symm, Below.refl _ _⟩
      · have g1 : (0 : Int) < (s.size : Int) := by omega
        clear h0
        go_wp2_with (go_at_call 55; refine (sword_any s _ hm).mono ?_; rw [HW.out]; rintro e w' ⟨rfl, rfl⟩)
        go_ret
        exact ⟨ret_str hr.out.symm, Below.refl _ _⟩
  | true =>
    have hr := Lib.hid (bareS_yes hw)
    have HW := Lib.hid hw
    have hs12 := wok_size hw
    clear hw
    go_enter Try.func56, Try.ntmps56
    go_wp2_with fail
    go_loopw [3, 4] (fun tv iv wr => ∃ (k : Nat), k ≤ s.size ∧ iv = .int .i64 k ∧ tv = .string (bS (bareF none (s.data.toList.take k))) ∧ Below w.heap.size w wr) (fun _ iv _ => s.size - (intOf iv).toNat)
    case atStart => exact ⟨0, Nat.zero_le _, rfl, rfl, Below.refl _ _⟩
    case round =>
      obtain ⟨k, hk, rfl, rfl, hbel⟩ := hrel
      by_cases hlt : k < s.size
      · have hgo := Lib.hid (bare_go hlt)
        have hln := bare_len s k
        have hsz := bS_size (bareF none (s.data.toList.take k))
        have k1 : (0 : Int) ≤ (k : Int) := by omega
        have k2 : (k : Int) < (s.size : Int) := by omega
        cases hv : vowel s[k] with
        | true =>
          have HO2 : Hid (bareF none (s.data.toList.take (k + 1)) = bareF none (s.data.toList.take k)) := Lib.hid (by rw [hgo.out, hv]; simp)
          have HV := Lib.hid hv
          clear hv hgo
          go_wp2_with (go_at_call 55; refine (sword_any s _ hm).mono ?_; rw [HW.out]; rintro e w' ⟨rfl, rfl⟩)
          go_quiet ((go_at_call 72; refine Calls.quiet_of_same ((svowel_any s[k] _).mono fun e w' h => ⟨h.1.trans (ret_bool HV.out), h.2⟩)))
          go_wp2_with fail
          go_roundw
          case rel => exact ⟨k + 1, by omega, by go_num, by rw [HO2.out], below_drewN hbel nq⟩
          case measure => simp [intOf]; omega
        | false =>
          have HV := Lib.hid hv
          rcases Nat.eq_zero_or_pos k with h0 | h0
          · have HO2 : Hid (bareF none (s.data.toList.take (k + 1)) = bareF none (s.data.toList.take k) ++ [s[k]]) := Lib.hid (by rw [hgo.out, hv, dif_neg (by omega)]; simp)
            have g1 : ((k : Int) == 0) = true := by simp; omega
            have g2 : (k == 0) = true := by simp; omega
            have g3 : decide (k = 0) = true := by simp; omega
            clear hv hgo h0
            go_wp2_with (go_at_call 55; refine (sword_any s _ hm).mono ?_; rw [HW.out]; rintro e w' ⟨rfl, rfl⟩)
            go_quiet ((go_at_call 72; refine Calls.quiet_of_same ((svowel_any s[k] _).mono fun e w' h => ⟨h.1.trans (ret_bool HV.out), h.2⟩)))
            go_wp2_with fail
            go_roundw
            case rel => exact ⟨k + 1, by omega, by go_num, by rw [HO2.out, ← bS_append, cut_one s k hlt], below_drewN hbel nq⟩
            case measure => simp [intOf]; omega
          · obtain ⟨i, hik⟩ : ∃ i, k = i + 1 := ⟨k - 1, by omega⟩
            have hil : i < s.size := by omega
            have g1 : ((k : Int) == 0) = false := by simp; omega
            have g2 : (k == 0) = false := by simp; omega
            have g3 : decide (k = 0) = false := by simp; omega
            have u1 : IntKind.i64.wrap ((k : Int) - 1) = (i : Int) := by rw [show (k : Int) - 1 = (i : Int) by omega]; exact IntWalk.i64_in _ (by omega)
            have i1 : (0 : Int) ≤ (i : Int) := by omega
            have i2 : (i : Int) < (s.size : Int) := by omega
            have e1 := byte_eq (s[i]'hil) s[k]
            cases hq : ((s[i]'hil) == s[k]) with
            | true =>
              have e2 : (((((s[i]'hil)).toNat : Nat) : Int) == (((s[k]).toNat : Nat) : Int)) = true := by rw [e1]; exact hq
              have e3 : (((((s[i]'hil)).toNat : Nat) : Int) != (((s[k]).toNat : Nat) : Int)) = false := by simp [bne, e2]
              have HO2 : Hid (bareF none (s.data.toList.take (k + 1)) = bareF none (s.data.toList.take k)) := Lib.hid (by rw [hgo.out, hv, dif_pos (by omega)]; simp only [show k - 1 = i by omega]; rw [hq]; simp)
              clear hv hgo h0 hq e1 hik
              go_wp2_with (go_at_call 55; refine (sword_any s _ hm).mono ?_; rw [HW.out]; rintro e w' ⟨rfl, rfl⟩)
              go_quiet ((go_at_call 72; refine Calls.quiet_of_same ((svowel_any s[k] _).mono fun e w' h => ⟨h.1.trans (ret_bool HV.out), h.2⟩)))
              go_wp2_with fail
              go_roundw
              case rel => exact ⟨k + 1, by omega, by go_num, by rw [HO2.out], below_drewN hbel nq⟩
              case measure => simp [intOf]; omega
            | false =>
              have e2 : (((((s[i]'hil)).toNat : Nat) : Int) == (((s[k]).toNat : Nat) : Int)) = false := by rw [e1]; exact hq
              have e3 : (((((s[i]'hil)).toNat : Nat) : Int) != (((s[k]).toNat : Nat) : Int)) = true := by simp [bne, e2]
              have HO2 : Hid (bareF none (s.data.toList.take (k + 1)) = bareF none (s.data.toList.take k) ++ [s[k]]) := Lib.hid (by rw [hgo.out, hv, dif_pos (by omega)]; simp only [show k - 1 = i by omega]; rw [hq]; simp)
              clear hv hgo h0 hq e1 hik
              go_wp2_with (go_at_call 55; refine (sword_any s _ hm).mono ?_; rw [HW.out]; rintro e w' ⟨rfl, rfl⟩)
              go_quiet ((go_at_call 72; refine Calls.quiet_of_same ((svowel_any s[k] _).mono fun e w' h => ⟨h.1.trans (ret_bool HV.out), h.2⟩)))
              go_wp2_with fail
              go_roundw
              case rel => exact ⟨k + 1, by omega, by go_num, by rw [HO2.out, ← bS_append, cut_one s k hlt], below_drewN hbel nq⟩
              case measure => simp [intOf]; omega
      · obtain rfl : k = s.size := by omega
        have hfin : bareF none (s.data.toList.take s.size) = bare s := by unfold bare; rw [List.take_of_length_le (by rw [Array.length_toList]; exact Nat.le_refl _)]
        have hr2 : Hid (bS (bareF none (s.data.toList.take s.size)) = bareS s) := Lib.hid (by rw [hfin, hr.out])
        clear hfin
        go_wp2_with fail
        go_ret
        exact ⟨ret_str hr2.out, hbel⟩

/-- the position of a word -/
theorem posW_no {s : ByteArray} (h : wok s = false) : posW s = -1 := by unfold posW; rw [h]; rfl
theorem posW_nil {s : ByteArray} (h : wok s = true) (hv : vowels s = []) : posW s = 1 := by unfold posW; rw [h, hv]; rfl
theorem posW_cons {s : ByteArray} (h : wok s = true) {c : UInt8} {l : List UInt8} (hv : vowels s = c :: l) : posW s = if c = 97 ∨ c = 111 then 0 else if c = 101 then 1 else 2 := by unfold posW; rw [h, hv]; rfl
theorem bS_nil_eq : ((bS []).toList == (⟨#[]⟩ : ByteArray).toList) = true := by rw [bytes_eq]; exact decide_eq_true rfl
theorem bS_cons_eq (c : UInt8) (l : List UInt8) : ((bS (c :: l)).toList == (⟨#[]⟩ : ByteArray).toList) = false := by
  rw [bytes_eq]
  refine decide_eq_false fun e => ?_
  have := congrArg ByteArray.size e
  rw [bS_size] at this
  have h0 : l.length + 1 = 0 := this
  omega
theorem bS_head (c : UInt8) (l : List UInt8) (h : 0 < (bS (c :: l)).size) : (bS (c :: l))[0] = c := rfl
theorem ipos_any (s : ByteArray) (w : World) (hm : s.size ≤ 9223372036854775807) :
    Calls Try.prog 17 #[.string s] w fun e w' => e = .returned (.int .i64 (posW s)) ∧ Below w.heap.size w w' := by
  cases hw : wok s with
  | false =>
    have hr := Lib.hid (posW_no hw)
    have HW := Lib.hid hw
    clear hw
    go_enter Try.func17, Try.ntmps17
    go_wp2_with (go_at_call 40; refine (iword_any s _ hm).mono ?_; rw [HW.out]; rintro e w' ⟨rfl, rfl⟩)
    go_ret
    exact ⟨ret_int hr.out.symm, Below.refl _ _⟩
  | true =>
    have HW := Lib.hid hw
    have hV := Lib.hid (vowS_yes hw)
    cases hv : vowels s with
    | nil =>
      have hr := Lib.hid (posW_nil hw hv)
      have HV : Hid (vowS s = bS []) := Lib.hid (by rw [hV.out, hv])
      have hb := bS_nil_eq
      clear hw hv
      go_enter Try.func17, Try.ntmps17
      go_wp2_with (first | (go_at_call 40; refine (iword_any s _ hm).mono ?_; rw [HW.out]; rintro e w' ⟨rfl, rfl⟩) | (go_at_call 41; refine (ivowels_any s _ hm).mono ?_; rw [HV.out]; rintro e w' ⟨rfl, hbel⟩))
      go_ret
      exact ⟨ret_int hr.out.symm, hbel⟩
    | cons c l =>
      have hr := Lib.hid (posW_cons hw hv)
      have HV : Hid (vowS s = bS (c :: l)) := Lib.hid (by rw [hV.out, hv])
      have hb := bS_cons_eq c l
      have hh := bS_head c l
      have hz := bS_size (c :: l)
      have c1 := byte_is c 97 (by omega)
      have c2 := byte_is c 111 (by omega)
      have c3 := byte_is c 101 (by omega)
      clear hw hv
      go_enter Try.func17, Try.ntmps17
      go_wp2_with (first | (go_at_call 40; refine (iword_any s _ hm).mono ?_; rw [HW.out]; rintro e w' ⟨rfl, rfl⟩) | (go_at_call 41; refine (ivowels_any s _ hm).mono ?_; rw [HV.out]; rintro e w' ⟨rfl, hbel⟩))
      all_goals
        go_ret
        refine ⟨ret_int ?_, hbel⟩
        rw [hr.out]
        simp_all
theorem spos_any (s : ByteArray) (w : World) (hm : s.size ≤ 9223372036854775807) :
    Calls Try.prog 37 #[.string s] w fun e w' => e = .returned (.int .i64 (posW s)) ∧ w' = w := by
  cases hw : wok s with
  | false =>
    have hr := Lib.hid (posW_no hw)
    have HW := Lib.hid hw
    clear hw
    go_enter Try.func37, Try.ntmps37
    go_wp2_with (go_at_call 55; refine (sword_any s _ hm).mono ?_; rw [HW.out]; rintro e w' ⟨rfl, rfl⟩)
    go_ret
    exact ⟨ret_int hr.out.symm, rfl⟩
  | true =>
    have HW := Lib.hid hw
    have hV := Lib.hid (vowS_yes hw)
    cases hv : vowels s with
    | nil =>
      have hr := Lib.hid (posW_nil hw hv)
      have HV : Hid (vowS s = bS []) := Lib.hid (by rw [hV.out, hv])
      have hb := bS_nil_eq
      clear hw hv
      go_enter Try.func37, Try.ntmps37
      go_wp2_with (first | (go_at_call 55; refine (sword_any s _ hm).mono ?_; rw [HW.out]; rintro e w' ⟨rfl, rfl⟩) | (go_at_call 59; refine (svowels_any s _ hm).mono ?_; rw [HV.out]; rintro e w' ⟨rfl, rfl⟩))
      go_ret
      exact ⟨ret_int hr.out.symm, rfl⟩
    | cons c l =>
      have hr := Lib.hid (posW_cons hw hv)
      have HV : Hid (vowS s = bS (c :: l)) := Lib.hid (by rw [hV.out, hv])
      have hb := bS_cons_eq c l
      have hh := bS_head c l
      have hz := bS_size (c :: l)
      have c1 := byte_is c 97 (by omega)
      have c2 := byte_is c 111 (by omega)
      have c3 := byte_is c 101 (by omega)
      clear hw hv
      go_enter Try.func37, Try.ntmps37
      go_wp2_with (first | (go_at_call 55; refine (sword_any s _ hm).mono ?_; rw [HW.out]; rintro e w' ⟨rfl, rfl⟩) | (go_at_call 59; refine (svowels_any s _ hm).mono ?_; rw [HV.out]; rintro e w' ⟨rfl, rfl⟩))
      all_goals
        go_ret
        refine ⟨ret_int ?_, rfl⟩
        rw [hr.out]
        simp_all
end Go.Proofs.Ytjhalbmmlcbehaa
