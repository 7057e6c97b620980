/- The statements' helpers for lists of marks, fourth part: marked, and found marked. -/
import Derived.Test.YtjhlcgjhdiheaaaH1
namespace Go.Proofs.Ytjhlcgjhdiheaaa
open Go.RowKit
set_option linter.unusedVariables false
set_option linter.unusedSimpArgs false

/-- only blocks from lo on and below hi have changed -/
abbrev Within (lo hi : Nat) : Nat → Prop := fun i => lo ≤ i ∧ i < hi
theorem chg_row {a b c : World} {lo hi : Nat} {row : Option Nat} (h : Chg a b (Within lo hi)) (k : b.grownBy c row) (hr : ∀ g, row = some g → lo ≤ g ∧ g < hi) : Chg a c (Within lo hi) :=
  h.trans (Chg.of_grown k) (fun i _ e => hr i e.symm)
theorem chg_below {a b c : World} {S : Nat → Prop} (h : Chg a b S) (k : Below b.heap.size b c) : Chg a c S := h.trans (Chg.of_below k (fun _ => False)) (fun _ _ e => e.elim)

set_option maxHeartbeats 1000000 in
theorem markm_any (A : Option Addr) (n c lo hi k : Nat) (ms : List M) (w : World) (hn : n ≤ 1048576) (k1 : k + 2 * n + totPut ms ≤ 100000000) (k2 : totPut ms ≤ 1048576) (h : OwnM w lo hi A n c ms) :
    Calls Try.prog 36 #[.slice A n c, .int .i64 k] w fun e w' => e = .returned (.int .i64 ((mcount k ms : Nat) : Int)) ∧ OwnM w' lo hi A n c (mmarks k ms) ∧ Chg w w' (Within lo hi) := by
  have hlen := Lib.hid h.len
  go_enter Try.func36, Try.ntmps36
  go_wp2
  go_loopw [1, 5] (fun s i wr => ∃ j K : Nat, j ≤ n ∧ i = .int .i64 j ∧ s = .int .i64 (K : Int) ∧ K ≤ 100000000 ∧ Hid (K = mcount k (ms.take j)) ∧ Hid (OwnM wr lo hi A n c (mmarks k (ms.take j) ++ ms.drop j)) ∧ Chg w wr (Within lo hi)) (fun _ i _ => n - (intOf i).toNat)
  case atStart => exact ⟨0, k, Nat.zero_le _, rfl, rfl, by omega, Lib.hid (by simp [mcount]), Lib.hid (by simpa [mmarks] using h), Chg.refl _ _⟩
  case round =>
    obtain ⟨j, K, hj, rfl, rfl, hK1, hK, hown, hg⟩ := hrel
    by_cases hlt : j < n
    · obtain ⟨ps, hM⟩ := hown.out
      obtain ⟨g, m0, p0, hg0, g1, g2, hm0, hp0, _, _, ho0, hne, d0, d1, d2, f0, f1, f2⟩ := hM.get hlt
      subst hg0
      have hj2 : j < ms.length := by rw [hlen.out]; exact hlt
      obtain rfl : ms[j] = m0 := by
        have := mmarks_mid (k := k) (List.getElem?_eq_getElem hj2)
        rw [hm0] at this; injection this with this; exact this.symm
      have hX := Lib.hid (List.getElem?_eq_getElem hj2)
      have hpl := totPut_mem ms ms[j] (List.getElem_mem hj2)
      generalize ms[j] = m at *
      have s1 := hM.setAt (x := (K : Int)) hm0 ⟨by omega, by omega⟩
      have s2 := s1.setCut (k := j) (m := ⟨K, m.cut, m.put⟩) (x := (K : Int) + 1) (by rw [List.getElem?_set, if_pos rfl, if_pos (by rw [hM.2.1]; exact hlt)]) ⟨by omega, by omega⟩
      have o2 : OwnS ((wr.setCell ⟨g, j * 3, none⟩ (.int .i64 K)).setCell ⟨g, j * 3 + 1, none⟩ (.int .i64 ((K : Int) + 1))) lo hi p0.a p0.n p0.c m.put := (ho0.set_far g _ hne _).set_far g _ hne _
      have hol := ho0.len
      have e2 : (K : Int) + 1 + 1 = ((K + 2 : Nat) : Int) := by omega
      have HM := Lib.hid hm0
      have HP := Lib.hid hp0
      have H2 := Lib.hid s2
      have HN := Lib.hid hM.2.1
      clear hm0 hp0 s1 s2 hM hown
      go_wp2_with fail
      rw [show (K : Int) + 2 = ((K + 2 : Nat) : Int) by omega]
      refine (mark_any p0.a p0.n p0.c lo hi (K + 2) m.put _ (by omega) (by omega) o2).mono ?_
      rintro e w3 ⟨rfl, ho3, hg3⟩
      have hl2 : ∀ (x y : M), (((mmarks k (ms.take j) ++ ms.drop j).set j x).set j y)[j]? = some y := fun x y => by
        rw [List.getElem?_set, if_pos rfl, if_pos (by rw [List.length_set, HN.out]; exact hlt)]
      have s3 := H2.out.putIn (hl2 _ _) HP.out hg3 ho3
      have hg4 : Chg w w3 (Within lo hi) := by
        refine chg_row (chg_row (chg_row hg (grown_setCell wr g (j * 3) (.int .i64 K)) (fun _ e => ?_)) (grown_setCell _ g (j * 3 + 1) (.int .i64 ((K : Int) + 1))) (fun _ e => ?_)) hg3 (fun b e => ?_)
        · injection e with e; subst e; exact ⟨g1, g2⟩
        · injection e with e; subst e; exact ⟨g1, g2⟩
        · obtain ⟨a, ha, rfl⟩ := Option.map_eq_some_iff.1 e
          exact ho3.lo_le a ha
      rw [List.set_set, List.set_set] at s3
      have hstep := mmarks_step (k := k) hX.out
      have hcnt : mcount k (ms.take (j + 1)) = K + 2 + p0.n := by rw [take_snoc hX.out, mcount_snoc, ← hK.out, hol]
      rw [← hK.out] at hstep
      have s4 : OwnM w3 lo hi (some ⟨g, 0, none⟩) n c (mmarks k (ms.take (j + 1)) ++ ms.drop (j + 1)) := by
        rw [← hstep, hol]
        have e5 : ((K + 1 : Nat) : Int) = (K : Int) + 1 := by omega
        rw [e5]
        exact ⟨ps, s3⟩
      have hb : K + 2 + p0.n ≤ 100000000 := by
        have := mcount_le k ms (j + 1) (by omega)
        rw [hcnt] at this
        omega
      have S4 := Lib.hid s4
      have HC := Lib.hid hcnt.symm
      clear s3 s4 hstep hcnt hl2 H2 o2 hg3 ho3 ho0 d0 d1 d2 f0 f1 f2 e2 hol
      go_wp2_with fail
      go_roundw
      case rel => exact ⟨j + 1, K + 2 + p0.n, by omega, by go_num, rfl, hb, HC, S4, hg4⟩
      case measure => simp [intOf]; omega
    · obtain rfl : j = n := by omega
      have h1 := hK.out
      have h2 := hown.out
      rw [List.take_of_length_le (by rw [hlen.out]; omega)] at h1 h2
      rw [List.drop_of_length_le (by rw [hlen.out]; omega), List.append_nil] at h2
      have H1 := Lib.hid h1
      have H2 := Lib.hid h2
      clear h1 h2 hK hown
      go_wp2
      go_ret
      exact ⟨ret_int (congrArg Nat.cast H1.out), H2.out, hg⟩
set_option maxHeartbeats 1000000 in
theorem heldm_any (A : Option Addr) (n c k : Nat) (ms : List M) (w : World) (hn : n ≤ 1048576) (k1 : k + 2 * n + totPut ms ≤ 100000000) (k2 : totPut ms ≤ 1048576) (hlen0 : ms.length = n) (h : Mrks w A n (mmarks k ms)) :
    Calls Try.prog 37 #[.slice A n c, .int .i64 k] w fun e w' => e = .returned (.int .i64 ((mcount k ms : Nat) : Int)) ∧ Below w.heap.size w w' := by
  have hlen := Lib.hid hlen0
  clear hlen0
  go_enter Try.func37, Try.ntmps37
  go_wp2
  go_loopw [1, 5] (fun s i wr => ∃ j K : Nat, j ≤ n ∧ i = .int .i64 j ∧ s = .int .i64 (K : Int) ∧ K ≤ 100000000 ∧ Hid (K = mcount k (ms.take j)) ∧ Below w.heap.size w wr) (fun _ i _ => n - (intOf i).toNat)
  case atStart => exact ⟨0, k, Nat.zero_le _, rfl, rfl, by omega, Lib.hid (by simp [mcount]), Below.refl _ _⟩
  case round =>
    obtain ⟨j, K, hj, rfl, rfl, hK1, hK, hbel⟩ := hrel
    by_cases hlt : j < n
    · obtain ⟨b, off, x, rfl, hx, x1, x2, c0, c1, A', n', c', c2, hp⟩ := (h.below hbel).at_ hlt
      have hj2 : j < ms.length := by rw [hlen.out]; exact hlt
      have hX := List.getElem?_eq_getElem hj2
      rw [mmarks_at hX, ← hK.out] at hx
      have hpl := totPut_mem ms ms[j] (List.getElem_mem hj2)
      injection hx with hx
      subst hx
      generalize ms[j] = m at *
      have hol := hp.len
      rw [mtexts_len] at hol
      have HX := Lib.hid hX
      dsimp only at *
      have hb1 : ((K : Int) != (K : Int)) = false := by simp
      have hb2 : ((K : Int) + 1 != (K : Int) + 1) = false := by simp
      rw [show ((K + 1 : Nat) : Int) = (K : Int) + 1 by omega] at c1
      rw [hol] at hp
      clear hX
      go_wp2_with fail
      rw [show (K : Int) + 1 + 1 = ((K + 2 : Nat) : Int) by omega]
      refine (held_any A' n' c' (K + 2) _ (by omega) (by omega) hp.1).mono ?_
      rintro e w3 ⟨rfl, hb3⟩
      have hbel1 := hbel.trans (hb3.mono hbel.size)
      have hcnt : mcount k (ms.take (j + 1)) = K + 2 + n' := by rw [take_snoc HX.out, mcount_snoc, ← hK.out, hol]
      have hb : K + 2 + n' ≤ 100000000 := by
        have := mcount_le k ms (j + 1) (by omega)
        rw [hcnt] at this
        omega
      have HC := Lib.hid hcnt.symm
      clear hcnt hp c0 c1 c2 hb1 hb2 hol hb3 hbel
      go_wp2_with fail
      go_roundw
      case rel => exact ⟨j + 1, K + 2 + n', by omega, by go_num, rfl, hb, HC, hbel1⟩
      case measure => simp [intOf]; omega
    · obtain rfl : j = n := by omega
      have h1 := hK.out
      rw [List.take_of_length_le (by rw [hlen.out]; omega)] at h1
      have H1 := Lib.hid h1
      clear h1 hK
      go_wp2
      go_ret
      exact ⟨ret_int (congrArg Nat.cast H1.out), hbel⟩
end Go.Proofs.Ytjhlcgjhdiheaaa
