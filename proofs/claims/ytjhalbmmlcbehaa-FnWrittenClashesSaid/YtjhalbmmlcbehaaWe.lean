/- Vowels and bare forms of words by both programs. -/
import Derived.Test.YtjhalbmmlcbehaaWd
namespace Go.Proofs.Ytjhalbmmlcbehaa
open Go.RowKit Wr
set_option linter.unusedVariables false
set_option linter.unusedSimpArgs false

theorem infoB : (Try.prog.info? 5).map (fun i => (i.zero, i.size, i.bytes)) = some (some (.int .u8 0), 1, 1) := by kernel_rfl
def encB (x : UInt8) : List Value := [.int .u8 ((x.toNat : Nat) : Int)]
abbrev OwnB (w : World) (lo hi : Nat) (A : Option Addr) (n c : Nat) (xs : List UInt8) : Prop := OwnR encB 1 5 w lo hi A n c xs
theorem encB_len (x : UInt8) : (encB x).length = 1 := rfl
theorem encB_one (x : UInt8) : ∀ u ∈ encB x, u.oneCell' = true := by
  intro u hu
  simp [encB] at hu
  subst hu
  rfl
/-- the text of bytes that read -/
theorem bytes_conv {w : World} {g n c : Nat} {xs : List UInt8} (h : RowR encB 1 w (some ⟨g, 0, none⟩) n xs) : (convert 22 9 (.slice (some ⟨g, 0, none⟩) n c)).run Try.prog w = .ok (.string (bS xs)) w := by
  have hs : strOfNums (xs.map fun x => ((x.toNat : Nat) : Int)) = bS xs := by
    unfold strOfNums bS
    rw [List.map_map]
    congr 2
    exact (List.map_congr_left (fun x _ => by simp)).trans (List.map_id xs)
  rw [← hs]
  refine run_convert_bytes_arg w 22 5 Try.underlying22 Try.underlying5 g 0 n c _ (by rw [List.length_map]; exact h.1) (fun i hi => ?_) 9 Try.underlying9
  obtain ⟨b, off, x, e, hx, hc⟩ := RowR.at_ h hi
  injection e with e
  injection e with e1 e2
  subst e1 e2
  have := hc 0 _ rfl
  rw [Nat.mul_one, Nat.add_zero] at this
  rw [this]
  simp [List.getD, hx]
def vowS (s : ByteArray) : ByteArray := if wok s = true then bS (vowels s) else bS []
def bareS (s : ByteArray) : ByteArray := if wok s = true then bS (bare s) else bS []
theorem vowS_no {s : ByteArray} (h : wok s = false) : vowS s = bS [] := by unfold vowS; rw [h]; rfl
theorem vowS_yes {s : ByteArray} (h : wok s = true) : vowS s = bS (vowels s) := by unfold vowS; rw [h]; rfl
theorem bareS_no {s : ByteArray} (h : wok s = false) : bareS s = bS [] := by unfold bareS; rw [h]; rfl
theorem bareS_yes {s : ByteArray} (h : wok s = true) : bareS s = bS (bare s) := by unfold bareS; rw [h]; rfl
theorem wok_size {s : ByteArray} (h : wok s = true) : s.size ≤ 12 := by
  unfold wok at h
  simp only [Bool.and_eq_true, decide_eq_true_eq] at h
  exact h.1.2
theorem filter_go {s : ByteArray} {k : Nat} (h : k < s.size) : (s.data.toList.take (k + 1)).filter vowel = (s.data.toList.take k).filter vowel ++ (if vowel s[k] = true then [s[k]] else []) := by
  rw [List.take_add_one, bytes_at s k h, Option.toList_some, List.filter_append]
  congr 1
  rw [List.filter_cons, List.filter_nil]
theorem filter_len (l : List UInt8) (k : Nat) : ((l.take k).filter vowel).length ≤ k := Nat.le_trans (List.length_filter_le _ _) (by rw [List.length_take]; omega)
theorem bareF_len : ∀ (l : List UInt8) (p : Option UInt8), (bareF p l).length ≤ l.length
  | [], p => by simp [bareF]
  | c :: cs, p => by
    have := bareF_len cs (some c)
    rw [bareF, List.length_append, List.length_cons]
    split <;> simp <;> omega
/-- the bare form, one letter on -/
theorem bare_go {s : ByteArray} {k : Nat} (h : k < s.size) : bareF none (s.data.toList.take (k + 1)) = bareF none (s.data.toList.take k) ++ (if (vowel s[k] || (if h0 : 0 < k then s[k - 1] == s[k] else false)) = true then [] else [s[k]]) := by
  rw [List.take_add_one, bytes_at s k h, Option.toList_some, bareF_snoc]
  congr 1
  by_cases h0 : 0 < k
  · rw [dif_pos h0]
    obtain ⟨i, rfl⟩ : ∃ i, k = i + 1 := ⟨k - 1, by omega⟩
    rw [List.take_add_one, bytes_at s i (by omega), Option.toList_some, List.getLast?_append]
    simp only [List.getLast?_singleton, Option.some_or, Nat.add_sub_cancel]
    rfl
  · obtain rfl : k = 0 := by omega
    simp
set_option maxHeartbeats 1000000 in
theorem ivowels_any (s : ByteArray) (w : World) (hm : s.size ≤ 9223372036854775807) :
    Calls Try.prog 41 #[.string s] w fun e w' => e = .returned (.string (vowS s)) ∧ Below w.heap.size w w' := by
  obtain ⟨i0, hi0, hz0, hz1, hz2⟩ := info_parts infoB
  cases hw : wok s with
  | false =>
    have hr := Lib.hid (vowS_no hw)
    have HW := Lib.hid hw
    clear hw
    go_enter Try.func41, Try.ntmps41
    go_wp2_with fail
    refine (iword_any s _ hm).mono ?_
    rw [HW.out]
    rintro e w' ⟨rfl, rfl⟩
    go_wp2_with fail
    go_ret
    exact ⟨ret_str hr.out.symm, Below.refl _ _⟩
  | true =>
    have hr := Lib.hid (vowS_yes hw)
    have HW := Lib.hid hw
    have hs12 := wok_size hw
    clear hw
    have hE := own_emptyR (enc := encB) (k := 1) (t := 5) w w.heap.size (Nat.le_refl _)
    have hb0 : Below w.heap.size w (w.alloc (.cells #[] 5)) := (Below.refl _ _).alloc (Nat.le_refl _) _
    have HE := Lib.hid hE
    have HB0 := Lib.hid hb0
    clear hE hb0
    go_enter Try.func41, Try.ntmps41
    go_wp2_with fail
    refine (iword_any s _ hm).mono ?_
    rw [HW.out]
    rintro e w' ⟨rfl, rfl⟩
    go_wp2_with fail
    go_loopw [3, 11] (fun tv iv wr => ∃ (k K g c' hi : Nat), k ≤ s.size ∧ iv = .int .i64 k ∧ tv = .slice (some ⟨g, 0, none⟩) K c' ∧ OwnB wr w.heap.size hi (some ⟨g, 0, none⟩) K c' ((s.data.toList.take k).filter vowel) ∧ w.heap.size ≤ hi ∧ Below w.heap.size w wr) (fun _ iv _ => s.size - (intOf iv).toNat)
    case atStart => exact ⟨0, 0, _, _, _, Nat.zero_le _, rfl, rfl, HE.out, by omega, HB0.out⟩
    case round =>
      clear HE HB0
      obtain ⟨k, K, g, c', hi, hk, rfl, rfl, ho, hhi, hbel⟩ := hrel
      have HO := Lib.hid ho
      have hKl := ho.len
      have hK := filter_len s.data.toList k
      rw [hKl] at hK
      clear ho hKl
      by_cases hlt : k < s.size
      · have hgo := Lib.hid (filter_go hlt)
        have k1 : (0 : Int) ≤ (k : Int) := by omega
        have k2 : (k : Int) < (s.size : Int) := by omega
        go_wp2_with fail
        refine (ivowel_any s[k] _).mono ?_
        rintro e w' ⟨rfl, hw'⟩
        obtain rfl := hw'.symm
        cases hv : vowel s[k] with
        | false =>
          have HO2 := Lib.hid (show OwnB wr w.heap.size hi (some ⟨g, 0, none⟩) K c' ((s.data.toList.take (k + 1)).filter vowel) by rw [hgo.out, hv]; simpa using HO.out)
          clear hv
          go_wp2_with fail
          go_roundw
          case rel => exact ⟨k + 1, K, g, c', hi, by omega, by go_num, rfl, HO2.out, hhi, hbel⟩
          case measure => simp [intOf]; omega
        | true =>
          have HG2 : Hid ((s.data.toList.take k).filter vowel ++ [s[k]] = (s.data.toList.take (k + 1)).filter vowel) := Lib.hid (by rw [hgo.out, hv]; rfl)
          clear hv
          go_wp2_with (at_builtin; go_must (refine wpList_pushR _ rfl (.tmp 18) (.tmp 22) 22 rfl i0 _ 1 Try.underlying22 hi0 hz0 hz1 hz2 rfl (by omega) (by omega) encB_len encB_one w.heap.size hi _ K c' _ rfl (HO.out.alloc _) s[k] wr.heap.size rfl (fun j u hu => by rw [(Blk.new wr 5 #[bV s[k]]).cell]; simpa [encB] using hu) (by omega) (by have := hbel.size; simp; omega) ?_); intro g5 c5 w5 o5 g6; rw [HG2.out] at o5; have O5 := Lib.hid o5; have B5 := Lib.hid (below_cat (hbel.alloc hbel.size (.cells #[bV s[k]] 5)) g6 (fun a ha => (HO.out.lo_le a ha).1)); clear o5 g6)
          go_roundw
          case rel => exact ⟨k + 1, K + 1, g5, c5, _, by omega, by go_num, rfl, O5.out, by have := B5.out.size; omega, B5.out⟩
          case measure => simp [intOf]; omega
      · obtain rfl : k = s.size := by omega
        have hfin : (s.data.toList.take s.size).filter vowel = vowels s := by unfold vowels; rw [List.take_of_length_le (by rw [Array.length_toList]; exact Nat.le_refl _)]
        rw [hfin] at HO
        have hcv := bytes_conv (c := c') (OwnR.reads encB_len HO.out)
        clear hfin
        go_wp2_with fail
        go_ret
        exact ⟨ret_str hr.out.symm, hbel⟩
end Go.Proofs.Ytjhalbmmlcbehaa
