/- Proved: the statement 'FnExactMarksClashSaid': the law FnExactMarksClash returns true for every input, and every argument reads afterwards as it read before. No further conditions. The frame follows the kit's proof-skeleton; the walk is ours. -/
import Derived.Test.YtjhlcgjhdiheaaaRows
import Derived.Test.YtjhlcgjhdiheaaaH3
import Derived.Test.YtjhlcgjhdiheaaaClash2
import Derived.Test.YtjhlcgjhdiheaaaArgM
import Derived.Test.YtjhlcgjhdiheaaaArg
import Derived.Test.YtjhlcgjhdiheaaaEnter
import Derived.WalkKit
import Derived.ProofKit
import Derived.OpenShut
import Derived.ShutString
import Derived.ChangeOld
import Derived.Below
namespace Go.Proofs.Ytjhlcgjhdiheaaa.fnExactMarksClash
open Go.ChangeShapes Go.WideShapes Go.ChangeAt Go.RowKit
open Go.ChangeMaps (open_string shut_string)
set_option linter.unusedVariables false
set_option linter.unusedSimpArgs false

theorem own : ownKnob Try.prog.godebug = none := by kernel_rfl
theorem laidOut : laidOutB Try.prog = true := by kernel_rfl

set_option maxHeartbeats 2000000 in
theorem walk (a0 : Option Addr) (len0 cap0 : Nat) (xs0 : List ByteArray) (a1 : Option Addr) (len1 cap1 : Nat) (ms1 : List (Mk.Mark ByteArray)) (a2 : Option Addr) (len2 cap2 : Nat) (ms2 : List (Mk.Mark ByteArray)) (w : World) (hi0 : Strs w a0 len0 xs0) (hl0 : len0 ≤ cap0) (hM0 : cap0 ≤ 9223372036854775807) (hz0 : a0 = none → cap0 = 0) (hi1 : Mrks w a1 len1 ms1) (hl1 : len1 ≤ cap1) (hM1 : cap1 ≤ 9223372036854775807) (hz1 : a1 = none → cap1 = 0) (hi2 : Mrks w a2 len2 ms2) (hl2 : len2 ≤ cap2) (hM2 : cap2 ≤ 9223372036854775807) (hz2 : a2 = none → cap2 = 0) :
    Calls Try.prog 14 #[.slice a0 len0 cap0, .slice a1 len1 cap1, .slice a2 len2 cap2] w fun e w' => e = .returned (.bool true) ∧ Below w.heap.size w w' := by
  go_enter Try.func14, Try.ntmps14
  go_wp2_with fail
  refine (sz_any a0 len0 cap0 xs0 1048576 _ (by omega) (by omega) (by omega) hi0).mono ?_
  rintro e w' ⟨⟨r0, rfl, hr0⟩, rfl⟩
  by_cases hn0 : r0 < 0
  · go_wp2
    go_ret
    exact ⟨rfl, Below.refl _ _⟩
  · have hq0 := hr0.out
    have hm0 : len0 ≤ 1048576 := by rcases hq0 with h | ⟨h1, h2, h3⟩ <;> omega
    have hs0 : r0 ≤ 1048576 := by rcases hq0 with h | ⟨h1, h2, h3⟩ <;> omega
    have hS0 : r0 + len0 ≤ 1048576 := by rcases hq0 with h | ⟨h1, h2, h3⟩ <;> omega
    clear hq0
    go_wp2_with fail
    refine (szm_any a1 len1 cap1 ms1 r0 _ (by omega) (by omega) (by omega) hi1).mono ?_
    rintro e W1 ⟨⟨r1, rfl, hr1⟩, bz1⟩
    have S1 : w.heap.size ≤ W1.heap.size := bz1.size
    have B1 : Below w.heap.size w W1 := bz1
    by_cases hn1 : r1 < 0
    · go_wp2
      go_ret
      exact ⟨rfl, B1⟩
    · have hq1 := hr1.out
      obtain ⟨hs01, hS1, hB1⟩ : 0 ≤ r1 ∧ r1 + len1 ≤ r0 ∧ (∀ m ∈ ms1, m.put.length ≤ 1048576) ∧ (len1 : Int) + totPut ms1 ≤ 1048576 := by rcases hq1 with h | ⟨h1, h2, h3, h4⟩; (· omega); exact ⟨h1, h2, h3, by omega⟩
      have hm1 : len1 ≤ 1048576 := by omega
      have hs1 : r1 ≤ 1048576 := by omega
      clear hq1
      go_wp2_with fail
      refine (szm_any a2 len2 cap2 ms2 r1 _ (by omega) (by omega) (by omega) (hi2.below B1)).mono ?_
      rintro e W2 ⟨⟨r2, rfl, hr2⟩, bz2⟩
      have S2 : W1.heap.size ≤ W2.heap.size := bz2.size
      have B2 : Below w.heap.size w W2 := Below.next B1 bz2
      by_cases hn2 : r2 < 0
      · go_wp2
        go_ret
        exact ⟨rfl, B2⟩
      · have hq2 := hr2.out
        obtain ⟨hs02, hS2, hB2⟩ : 0 ≤ r2 ∧ r2 + len2 ≤ r1 ∧ (∀ m ∈ ms2, m.put.length ≤ 1048576) ∧ (len2 : Int) + totPut ms2 ≤ 1048576 := by rcases hq2 with h | ⟨h1, h2, h3, h4⟩; (· omega); exact ⟨h1, h2, h3, by omega⟩
        have hm2 : len2 ≤ 1048576 := by omega
        have hs2 : r2 ≤ 1048576 := by omega
        clear hq2
        go_wp2_with fail
        refine (to_any a0 len0 cap0 xs0 _ hm0 (hi0.below B2)).mono ?_
        rintro e W3 ⟨As0, cs0, rfl, os0, bs0⟩
        have S3 : W2.heap.size ≤ W3.heap.size := bs0.size
        have B3 : Below w.heap.size w W3 := Below.next B2 bs0
        go_wp2_with fail
        refine (tom_any a1 len1 cap1 ms1 _ hm1 hB1.1 (hi1.below B3)).mono ?_
        rintro e W4 ⟨As1, cs1, rfl, os1, bs1⟩
        have S4 : W3.heap.size ≤ W4.heap.size := bs1.size
        have B4 : Below w.heap.size w W4 := Below.next B3 bs1
        have os0 := os0.below bs1
        go_wp2_with fail
        refine (tom_any a2 len2 cap2 ms2 _ hm2 hB2.1 (hi2.below B4)).mono ?_
        rintro e W5 ⟨As2, cs2, rfl, os2, bs2⟩
        have S5 : W4.heap.size ≤ W5.heap.size := bs2.size
        have B5 : Below w.heap.size w W5 := Below.next B4 bs2
        have os0 := os0.below bs2
        have os1 := os1.below bs2
        go_wp2_with fail
        refine (sclash_any As0 As1 As2 len0 cs0 len1 cs1 len2 cs2 xs0 ms1 ms2 _ (by omega) (by omega) (by omega) os0.ints os1.ints os2.ints).mono ?_
        rintro e W6 ⟨rfl, bc1⟩
        have S6 : W5.heap.size ≤ W6.heap.size := bc1.size
        have B6 : Below w.heap.size w W6 := Below.next B5 bc1
        have os0 := os0.below bc1
        have os1 := os1.below bc1
        have os2 := os2.below bc1
        go_wp2_with fail
        refine (to_any a0 len0 cap0 xs0 _ hm0 (hi0.below B6)).mono ?_
        rintro e W7 ⟨Ax0, cx0, rfl, ox0, bx0⟩
        have S7 : W6.heap.size ≤ W7.heap.size := bx0.size
        have B7 : Below w.heap.size w W7 := Below.next B6 bx0
        have os0 := os0.below bx0
        have os1 := os1.below bx0
        have os2 := os2.below bx0
        go_wp2_with fail
        refine (tom_any a1 len1 cap1 ms1 _ hm1 hB1.1 (hi1.below B7)).mono ?_
        rintro e W8 ⟨Ax1, cx1, rfl, ox1, bx1⟩
        have S8 : W7.heap.size ≤ W8.heap.size := bx1.size
        have B8 : Below w.heap.size w W8 := Below.next B7 bx1
        have os0 := os0.below bx1
        have os1 := os1.below bx1
        have os2 := os2.below bx1
        have ox0 := ox0.below bx1
        go_wp2_with fail
        refine (tom_any a2 len2 cap2 ms2 _ hm2 hB2.1 (hi2.below B8)).mono ?_
        rintro e W9 ⟨Ax2, cx2, rfl, ox2, bx2⟩
        have S9 : W8.heap.size ≤ W9.heap.size := bx2.size
        have B9 : Below w.heap.size w W9 := Below.next B8 bx2
        have os0 := os0.below bx2
        have os1 := os1.below bx2
        have os2 := os2.below bx2
        have ox0 := ox0.below bx2
        have ox1 := ox1.below bx2
        go_wp2_with fail
        refine (iclash_any Ax0 Ax1 Ax2 len0 cx0 len1 cx1 len2 cx2 xs0 ms1 ms2 _ (by omega) (by omega) (by omega) ox0.ints ox1.ints ox2.ints).mono ?_
        rintro e W10 ⟨rfl, bc2⟩
        have S10 : W9.heap.size ≤ W10.heap.size := bc2.size
        have B10 : Below w.heap.size w W10 := Below.next B9 bc2
        have os0 := os0.below bc2
        have os1 := os1.below bc2
        have os2 := os2.below bc2
        have ox0 := ox0.below bc2
        have ox1 := ox1.below bc2
        have ox2 := ox2.below bc2
        have hv0 : (clashI xs0 ms1 ms2 != clashI xs0 ms1 ms2) = false := by simp
        go_wp2_with fail
        refine (to_any a0 len0 cap0 xs0 _ hm0 (hi0.below B10)).mono ?_
        rintro e W11 ⟨Ay0, cy0, rfl, oy0, by0⟩
        have S11 : W10.heap.size ≤ W11.heap.size := by0.size
        have B11 : Below w.heap.size w W11 := Below.next B10 by0
        have os0 := os0.below by0
        have os1 := os1.below by0
        have os2 := os2.below by0
        have ox0 := ox0.below by0
        have ox1 := ox1.below by0
        have ox2 := ox2.below by0
        go_wp2_with fail
        refine (eq_any Ax0 Ay0 len0 cx0 len0 cy0 xs0 xs0 _ hm0 hm0 ox0.ints oy0.ints).mono ?_
        rintro e W12 ⟨rfl, be1⟩
        have S12 : W11.heap.size ≤ W12.heap.size := be1.size
        have B12 : Below w.heap.size w W12 := Below.next B11 be1
        have os0 := os0.below be1
        have os1 := os1.below be1
        have os2 := os2.below be1
        have ox0 := ox0.below be1
        have ox1 := ox1.below be1
        have ox2 := ox2.below be1
        have oy0 := oy0.below be1
        go_wp2_with fail
        refine (tom_any a1 len1 cap1 ms1 _ hm1 hB1.1 (hi1.below B12)).mono ?_
        rintro e W13 ⟨Ay1, cy1, rfl, oy1, by1⟩
        have S13 : W12.heap.size ≤ W13.heap.size := by1.size
        have B13 : Below w.heap.size w W13 := Below.next B12 by1
        have os0 := os0.below by1
        have os1 := os1.below by1
        have os2 := os2.below by1
        have ox0 := ox0.below by1
        have ox1 := ox1.below by1
        have ox2 := ox2.below by1
        have oy0 := oy0.below by1
        go_wp2_with fail
        refine (eqm_any Ax1 Ay1 len1 cx1 len1 cy1 ms1 ms1 _ hm1 hm1 hB1.1 hB1.1 ox1.ints oy1.ints).mono ?_
        rintro e W14 ⟨rfl, be2⟩
        rw [eqMs_self]
        have S14 : W13.heap.size ≤ W14.heap.size := be2.size
        have B14 : Below w.heap.size w W14 := Below.next B13 be2
        have os0 := os0.below be2
        have os1 := os1.below be2
        have os2 := os2.below be2
        have ox0 := ox0.below be2
        have ox1 := ox1.below be2
        have ox2 := ox2.below be2
        have oy0 := oy0.below be2
        have oy1 := oy1.below be2
        go_wp2_with fail
        refine (tom_any a2 len2 cap2 ms2 _ hm2 hB2.1 (hi2.below B14)).mono ?_
        rintro e W15 ⟨Ay2, cy2, rfl, oy2, by2⟩
        have S15 : W14.heap.size ≤ W15.heap.size := by2.size
        have B15 : Below w.heap.size w W15 := Below.next B14 by2
        have os0 := os0.below by2
        have os1 := os1.below by2
        have os2 := os2.below by2
        have ox0 := ox0.below by2
        have ox1 := ox1.below by2
        have ox2 := ox2.below by2
        have oy0 := oy0.below by2
        have oy1 := oy1.below by2
        go_wp2_with fail
        refine (eqm_any Ax2 Ay2 len2 cx2 len2 cy2 ms2 ms2 _ hm2 hm2 hB2.1 hB2.1 ox2.ints oy2.ints).mono ?_
        rintro e W16 ⟨rfl, be3⟩
        rw [eqMs_self]
        have S16 : W15.heap.size ≤ W16.heap.size := be3.size
        have B16 : Below w.heap.size w W16 := Below.next B15 be3
        have os0 := os0.below be3
        have os1 := os1.below be3
        have os2 := os2.below be3
        have ox0 := ox0.below be3
        have ox1 := ox1.below be3
        have ox2 := ox2.below be3
        have oy0 := oy0.below be3
        have oy1 := oy1.below be3
        have oy2 := oy2.below be3
        go_wp2_with fail
        go_ret
        exact ⟨rfl, B16⟩

set_option maxRecDepth 100000 in
theorem lifted (os : Os) (started : os.Started) (H : Type) (enc : TypeId × Value → H) :
    ReturnsInHanded {} Try.checked os 14 .any (Rows.fnExactMarksClashSpec.pre6 enc Try.prog Try.f14 Rows.fnExactMarksClashRow.domain false) (Rows.fnExactMarksClashSpec.post enc Try.prog Try.f14 false true false false) := by
  refine returnsInHanded_of_change (C := Try.checked) own started (by kernel_rfl) Try.func14
    (ChangeSpec.witness6 (enc := enc) (C := Try.checked) false ⟨#[], #[.slice none 0 0, .slice none 0 0, .slice none 0 0], []⟩ 8 (by kernel_rfl) (by kernel_rfl) (by kernel_rfl) (by kernel_rfl)) ?_
  intro W base args ds gs before hval0 hW hcnd _
  have hval : ∀ (j : Nat) t v, Try.f14.params[j]? = some t → args[j]? = some v → Value.okWide Try.prog W .any base t v := hval0
  have hW' := hW
  obtain ⟨p, q, hA0, hV, rfl, hfz, hnd⟩ := hW
  have hA : DataW.TrodAll enc Try.prog W 0 (fun _ => true) true Try.f14.params.toList args.toList ds p := hA0
  rw [Try.params14] at hA hval
  obtain ⟨v0, vs0, d0, ds0, p0, q0, hargs, rfl, rfl, h0, r0⟩ := trodAll_cons hA
  obtain ⟨v1, vs1, d1, ds1, p1, q1, rfl, rfl, rfl, h1, r1⟩ := trodAll_cons r0
  obtain ⟨v2, vs2, d2, ds2, p2, q2, rfl, rfl, rfl, h2, r2⟩ := trodAll_cons r1
  obtain ⟨rfl, rfl, rfl⟩ := trodAll_nil r2
  obtain rfl : args = #[v0, v1, v2] := by cases args; simp_all
  obtain ⟨rfl, rfl⟩ := trodVars_none hV
  obtain ⟨a0, len0, cap0, rfl⟩ := okWide_slice Try.underlying22 (hval 0 22 v0 rfl rfl)
  have k0 := h0
  have lt0 : ∀ x ∈ p0, x.block < W.heap.size := by obtain ⟨m, hm⟩ := k0; exact DataW.trod_lt m _ _ _ hm
  obtain ⟨⟨xs0, hi0⟩, hl0, hM0, hz0⟩ := strs_in (h0.choose_spec)
  obtain ⟨a1, len1, cap1, rfl⟩ := okWide_slice Try.underlying27 (hval 1 27 v1 rfl rfl)
  have k1 := h1
  have lt1 : ∀ x ∈ p1, x.block < W.heap.size := by obtain ⟨m, hm⟩ := k1; exact DataW.trod_lt m _ _ _ hm
  obtain ⟨⟨ms1, hi1⟩, hl1, hM1, hz1⟩ := mrks_in (h1.choose_spec)
  obtain ⟨a2, len2, cap2, rfl⟩ := okWide_slice Try.underlying27 (hval 2 27 v2 rfl rfl)
  have k2 := h2
  have lt2 : ∀ x ∈ p2, x.block < W.heap.size := by obtain ⟨m, hm⟩ := k2; exact DataW.trod_lt m _ _ _ hm
  obtain ⟨⟨ms2, hi2⟩, hl2, hM2, hz2⟩ := mrks_in (h2.choose_spec)
  clear hA0 hval0
  refine (walk a0 len0 cap0 xs0 a1 len1 cap1 ms1 a2 len2 cap2 ms2 W hi0 hl0 hM0 hz0 hi1 hl1 hM1 hz1 hi2 hl2 hM2 hz2).mono fun e W' ⟨he, bel⟩ => ?_
  subst he
  exact ⟨_, rfl, _, _, _, [], _, [], hW', trodAll_mk1 (shut_bool Try.underlying4 _), (trodAll_cons_mk (Below.trod laidOut (by kernel_rfl) (of_decide_eq_true (by kernel_rfl)) k0 bel lt0) (trodAll_cons_mk (Below.trod laidOut (by kernel_rfl) (of_decide_eq_true (by kernel_rfl)) k1 bel lt1) (trodAll_cons_mk (Below.trod laidOut (by kernel_rfl) (of_decide_eq_true (by kernel_rfl)) k2 bel lt2) trodAll_mk0))), rfl, bel.frame _, fun h => by cases h⟩

theorem closed : joinedFacts Try.prog 14 Try.f14 Rows.fnExactMarksClashSpec Rows.fnExactMarksClashRow = true := by
  unfold joinedFacts
  simp only [may_enter, lifts_final, make_cut]
  kernel_rfl

theorem over : Rows.fnExactMarksClashRow.holds Try.pinned (OpenSpec.ofChange Rows.fnExactMarksClashSpec) :=
  OpenClaim.holds_of_wide 14 Try.f14 rfl rfl rfl rfl rfl rfl rfl ⟨rfl, rfl, rfl, rfl, rfl⟩ rfl rfl rfl rfl rfl (by kernel_rfl) Try.func14 closed
    (of_decide_eq_true (by kernel_rfl)) (by unfold Func.isWrapper; first | (rw [if_pos (by decide +kernel)]; kernel_rfl) | (rw [if_neg (by decide +kernel)]; exact ⟨rfl, rfl⟩))
    (fun os started H enc _ => lifted os started H enc)

theorem proved : Rows.FnExactMarksClashSaid := over
#print axioms proved
end Go.Proofs.Ytjhlcgjhdiheaaa.fnExactMarksClash
