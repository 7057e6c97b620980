/- Bare forms and positions of words by both programs. -/
import Derived.Test.YtjhalbmmlcbehaaWe
namespace Go.Proofs.Ytjhalbmmlcbehaa
open Go.RowKit Wr
set_option linter.unusedVariables false
set_option linter.unusedSimpArgs false

theorem byte_eq (a b : UInt8) : (((a.toNat : Nat) : Int) == ((b.toNat : Nat) : Int)) = (a == b) := by
  rw [Bool.eq_iff_iff, beq_iff_eq, beq_iff_eq]
  constructor
  · intro h
    exact UInt8.toNat_inj.1 (by omega)
  · rintro rfl; rfl
theorem bare_len (s : ByteArray) (k : Nat) : (bareF none (s.data.toList.take k)).length ≤ k := Nat.le_trans (bareF_len _ _) (by rw [List.length_take]; omega)
set_option maxRecDepth 8000 in
set_option maxHeartbeats 2000000 in
theorem ibare_any (s : ByteArray) (w : World) (hm : s.size ≤ 9223372036854775807) :
    Calls Try.prog 62 #[.string s] w fun e w' => e = .returned (.string (bareS s)) ∧ Below w.heap.size w w' := by
  obtain ⟨i0, hi0, hz0, hz1, hz2⟩ := info_parts infoB
  cases hw : wok s with
  | false =>
    have hr := Lib.hid (bareS_no hw)
    have HW := Lib.hid hw
    clear hw
    go_enter Try.func62, Try.ntmps62
    go_wp2_with fail
    refine (iword_any s _ hm).mono ?_
    rw [HW.out]
    rintro e w' ⟨rfl, rfl⟩
    go_wp2_with fail
    go_ret
    exact ⟨ret_str hr.out.symm, Below.refl _ _⟩
  | true =>
    have hr := Lib.hid (bareS_yes hw)
    have HW := Lib.hid hw
    have hs12 := wok_size hw
    clear hw
    have hE := own_emptyR (enc := encB) (k := 1) (t := 5) w w.heap.size (Nat.le_refl _)
    have hb0 : Below w.heap.size w (w.alloc (.cells #[] 5)) := (Below.refl _ _).alloc (Nat.le_refl _) _
    have HE := Lib.hid hE
    have HB0 := Lib.hid hb0
    clear hE hb0
    go_enter Try.func62, Try.ntmps62
    go_wp2_with fail
    refine (iword_any s _ hm).mono ?_
    rw [HW.out]
    rintro e w' ⟨rfl, rfl⟩
    go_wp2_with fail
    go_loopw [3, 11] (fun tv iv wr => ∃ (k K g c' hi : Nat), k ≤ s.size ∧ iv = .int .i64 k ∧ tv = .slice (some ⟨g, 0, none⟩) K c' ∧ OwnB wr w.heap.size hi (some ⟨g, 0, none⟩) K c' (bareF none (s.data.toList.take k)) ∧ w.heap.size ≤ hi ∧ Below w.heap.size w wr) (fun _ iv _ => s.size - (intOf iv).toNat)
    case atStart => exact ⟨0, 0, _, _, _, Nat.zero_le _, rfl, rfl, HE.out, by omega, HB0.out⟩
    case round =>
      clear HE HB0
      obtain ⟨k, K, g, c', hi, hk, rfl, rfl, ho, hhi, hbel⟩ := hrel
      have HO := Lib.hid ho
      have hKl := ho.len
      have hK := bare_len s k
      rw [hKl] at hK
      clear ho hKl
      by_cases hlt : k < s.size
      · have hgo := Lib.hid (bare_go hlt)
        have k1 : (0 : Int) ≤ (k : Int) := by omega
        have k2 : (k : Int) < (s.size : Int) := by omega
        cases hv : vowel s[k] with
        | true =>
          have HO2 := Lib.hid (show OwnB wr w.heap.size hi (some ⟨g, 0, none⟩) K c' (bareF none (s.data.toList.take (k + 1))) by rw [hgo.out, hv]; simpa using HO.out)
          have HV := Lib.hid hv
          clear hv hgo
          go_wp2_with fail
          go_quiet ((go_at_call 63; refine Calls.quiet_of_same ((ivowel_any s[k] _).mono fun e w' h => ⟨h.1.trans (ret_bool HV.out), h.2⟩)))
          go_wp2_with fail
          go_roundw
          case rel => exact ⟨k + 1, K, g, c', hi, by omega, by go_num, rfl, HO2.out.drewN nq, hhi, below_drewN hbel nq⟩
          case measure => simp [intOf]; omega
        | false =>
          have HV := Lib.hid hv
          rcases Nat.eq_zero_or_pos k with h0 | h0
          · have HG2 : Hid (bareF none (s.data.toList.take k) ++ [s[k]] = bareF none (s.data.toList.take (k + 1))) := Lib.hid (by rw [hgo.out, hv, dif_neg (by omega)]; simp)
            have g1 : decide ((0 : Int) < (k : Int)) = false := by simp; omega
            have g2 : decide (0 < k) = false := by simp; omega
            clear hv hgo h0
            go_wp2_with fail
            go_quiet ((go_at_call 63; refine Calls.quiet_of_same ((ivowel_any s[k] _).mono fun e w' h => ⟨h.1.trans (ret_bool HV.out), h.2⟩)))
            go_wp2_with (at_builtin; go_must (refine wpList_pushR _ rfl (.tmp 32) (.tmp 36) 22 rfl i0 _ 1 Try.underlying22 hi0 hz0 hz1 hz2 rfl (by omega) (by omega) encB_len encB_one w.heap.size hi _ K c' _ rfl ((HO.out.drewN nq).alloc _) s[k] (wr.drewN nq).heap.size rfl (fun j u hu => by rw [(Blk.new (wr.drewN nq) 5 #[bV s[k]]).cell]; simpa [encB] using hu) (by omega) (by have := hbel.size; simp; omega) ?_); intro g5 c5 w5 o5 g6; rw [HG2.out] at o5; have O5 := Lib.hid o5; have B5 := Lib.hid (below_cat ((below_drewN hbel nq).alloc hbel.size (.cells #[bV s[k]] 5)) g6 (fun a ha => (HO.out.lo_le a ha).1)); clear o5 g6)
            go_roundw
            case rel => exact ⟨k + 1, K + 1, g5, c5, _, by omega, by go_num, rfl, O5.out, by have := B5.out.size; omega, B5.out⟩
            case measure => simp [intOf]; omega
          · obtain ⟨i, hik⟩ : ∃ i, k = i + 1 := ⟨k - 1, by omega⟩
            have hil : i < s.size := by omega
            have g1 : decide ((0 : Int) < (k : Int)) = true := decide_eq_true (by omega)
            have g2 : decide (0 < k) = true := decide_eq_true (by omega)
            have u1 : IntKind.i64.wrap ((k : Int) - 1) = (i : Int) := by rw [show (k : Int) - 1 = (i : Int) by omega]; exact IntWalk.i64_in _ (by omega)
            have i1 : (0 : Int) ≤ (i : Int) := by omega
            have i2 : (i : Int) < (s.size : Int) := by omega
            have e1 := byte_eq s[k] (s[i]'hil)
            cases hq : ((s[i]'hil) == s[k]) with
            | true =>
              have e2 : ((((s[k]).toNat : Nat) : Int) == ((((s[i]'hil)).toNat : Nat) : Int)) = true := by rw [e1, BEq.comm]; exact hq
              have HO2 := Lib.hid (show OwnB wr w.heap.size hi (some ⟨g, 0, none⟩) K c' (bareF none (s.data.toList.take (k + 1))) by rw [hgo.out, hv, dif_pos (by omega)]; simp only [show k - 1 = i by omega]; rw [hq]; simpa using HO.out)
              clear hv hgo h0 hq e1 hik
              go_wp2_with fail
              go_quiet ((go_at_call 63; refine Calls.quiet_of_same ((ivowel_any s[k] _).mono fun e w' h => ⟨h.1.trans (ret_bool HV.out), h.2⟩)))
              go_wp2_with fail
              go_roundw
              case rel => exact ⟨k + 1, K, g, c', hi, by omega, by go_num, rfl, HO2.out.drewN nq, hhi, below_drewN hbel nq⟩
              case measure => simp [intOf]; omega
            | false =>
              have e2 : ((((s[k]).toNat : Nat) : Int) == ((((s[i]'hil)).toNat : Nat) : Int)) = false := by rw [e1, BEq.comm]; exact hq
              have HG2 : Hid (bareF none (s.data.toList.take k) ++ [s[k]] = bareF none (s.data.toList.take (k + 1))) := Lib.hid (by rw [hgo.out, hv, dif_pos (by omega)]; simp only [show k - 1 = i by omega]; rw [hq]; simp)
              clear hv hgo h0 hq e1 hik
              go_wp2_with fail
              go_quiet ((go_at_call 63; refine Calls.quiet_of_same ((ivowel_any s[k] _).mono fun e w' h => ⟨h.1.trans (ret_bool HV.out), h.2⟩)))
              go_wp2_with (at_builtin; go_must (refine wpList_pushR _ rfl (.tmp 32) (.tmp 36) 22 rfl i0 _ 1 Try.underlying22 hi0 hz0 hz1 hz2 rfl (by omega) (by omega) encB_len encB_one w.heap.size hi _ K c' _ rfl ((HO.out.drewN nq).alloc _) s[k] (wr.drewN nq).heap.size rfl (fun j u hu => by rw [(Blk.new (wr.drewN nq) 5 #[bV s[k]]).cell]; simpa [encB] using hu) (by omega) (by have := hbel.size; simp; omega) ?_); intro g5 c5 w5 o5 g6; rw [HG2.out] at o5; have O5 := Lib.hid o5; have B5 := Lib.hid (below_cat ((below_drewN hbel nq).alloc hbel.size (.cells #[bV s[k]] 5)) g6 (fun a ha => (HO.out.lo_le a ha).1)); clear o5 g6)
              go_roundw
              case rel => exact ⟨k + 1, K + 1, g5, c5, _, by omega, by go_num, rfl, O5.out, by have := B5.out.size; omega, B5.out⟩
              case measure => simp [intOf]; omega
      · obtain rfl : k = s.size := by omega
        have hfin : bareF none (s.data.toList.take s.size) = bare s := by unfold bare; rw [List.take_of_length_le (by rw [Array.length_toList]; exact Nat.le_refl _)]
        rw [hfin] at HO
        have hcv := bytes_conv (c := c') (OwnR.reads encB_len HO.out)
        clear hfin
        go_wp2_with fail
        go_ret
        exact ⟨ret_str hr.out.symm, hbel⟩
end Go.Proofs.Ytjhalbmmlcbehaa
