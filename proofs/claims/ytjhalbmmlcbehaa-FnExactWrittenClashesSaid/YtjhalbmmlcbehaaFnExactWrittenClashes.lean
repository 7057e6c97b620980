/- Proved: the statement 'FnExactWrittenClashesSaid': the law FnExactWrittenClashes returns true for every input, and every argument reads afterwards as it read before. No further conditions. The frame follows the kit's proof-skeleton; the walk is ours. -/
import Derived.Test.YtjhalbmmlcbehaaRows
import Derived.Test.YtjhalbmmlcbehaaAr
import Derived.Test.YtjhalbmmlcbehaaIx
import Derived.Test.YtjhalbmmlcbehaaArgG
import Derived.Test.YtjhalbmmlcbehaaArg
import Derived.Test.YtjhalbmmlcbehaaEnter
import Derived.WalkKit
import Derived.ProofKit
import Derived.OpenShut
import Derived.ShutString
import Derived.ChangeOld
import Derived.Below
namespace Go.Proofs.Ytjhalbmmlcbehaa.fnExactWrittenClashes
open Go.ChangeShapes Go.WideShapes Go.ChangeAt Go.RowKit
open Go.ChangeMaps (open_string shut_string)
set_option linter.unusedVariables false
set_option linter.unusedSimpArgs false

theorem own : ownKnob Try.prog.godebug = none := by kernel_rfl
theorem laidOut : laidOutB Try.prog = true := by kernel_rfl

set_option maxRecDepth 20000 in
set_option maxHeartbeats 8000000 in
theorem walk (a0 : Option Addr) (len0 cap0 : Nat) (ss0 : List Wr.Sgn) (a1 : Option Addr) (len1 cap1 : Nat) (xs1 : List ByteArray) (w : World) (hi0 : Sgns w a0 len0 ss0) (hg0 : ∀ x ∈ ss0, OkG x) (hl0 : len0 ≤ cap0) (hM0 : cap0 ≤ 9223372036854775807) (hz0 : a0 = none → cap0 = 0) (hi1 : Strs w a1 len1 xs1) (hl1 : len1 ≤ cap1) (hM1 : cap1 ≤ 9223372036854775807) (hz1 : a1 = none → cap1 = 0) :
    Calls Try.prog 5 #[.slice a0 len0 cap0, .slice a1 len1 cap1] w fun e w' => e = .returned (.bool true) ∧ Below w.heap.size w w' := by
  go_enter Try.func5, Try.ntmps5
  go_wp2_with fail
  refine (szsgns_any a0 len0 cap0 ss0 1048576 _ hi0 hg0 (by omega) (by omega) (by omega)).mono ?_
  rintro e W1 ⟨⟨r0, rfl, hr0⟩, bz1⟩
  have B1 := Lib.hid bz1
  by_cases hn0 : r0 < 0
  · go_wp2_with fail
    go_ret
    exact ⟨rfl, B1.out⟩
  obtain ⟨hs0, hs1, hs2⟩ : 0 ≤ r0 ∧ r0 ≤ 1048576 ∧ (len0 : Int) ≤ 1048576 := by rcases hr0 with h | ⟨h1, h2, h3⟩ <;> omega
  have hm0 : len0 ≤ 1048576 := by omega
  clear hr0 bz1
  go_wp2_with fail
  refine (sz_any a1 len1 cap1 xs1 r0 _ (by omega) (by omega) (by omega) (hi1.below B1.out)).mono ?_
  rintro e w' ⟨⟨r1, rfl, hr1⟩, rfl⟩
  by_cases hn1 : r1 < 0
  · go_wp2_with fail
    go_ret
    exact ⟨rfl, B1.out⟩
  have hm1 : len1 ≤ 1048576 := by rcases hr1.out with h | ⟨h1, h2, h3⟩ <;> omega
  have HR1 := Lib.hid hr1
  clear hr1
  go_wp2_with fail
  refine (tosgns_any a0 len0 cap0 ss0 _ (hi0.below B1.out) hm0).mono ?_
  rintro e W2 ⟨As0, cs0, rfl, os0, b2⟩
  have B2 := Lib.hid (B1.out.trans (b2.mono B1.out.size))
  have S2 := Lib.hid os0
  clear os0 b2
  go_wp2_with fail
  refine (to_any a1 len1 cap1 xs1 _ hm1 (hi1.below B2.out)).mono ?_
  rintro e W3 ⟨As1, cs1, rfl, os1, b3⟩
  have B3 := Lib.hid (B2.out.trans (b3.mono B2.out.size))
  have S3 := Lib.hid (S2.out.below b3)
  have T3 := Lib.hid os1
  clear os1 b3 S2
  go_wp2_with fail
  refine (sclash_any As0 As1 len0 cs0 len1 cs1 ss0 xs1 _ (OwnR.reads encG_len S3.out) hg0 (by omega) T3.out.ints (by omega)).mono ?_
  rintro e W4 ⟨rfl, b4⟩
  have B4 := Lib.hid (B3.out.trans (b4.mono B3.out.size))
  clear b4 S3 T3
  go_wp2_with fail
  refine (tosgns_any a0 len0 cap0 ss0 _ (hi0.below B4.out) hm0).mono ?_
  rintro e W5 ⟨Ax0, cx0, rfl, ox0, b5⟩
  have B5 := Lib.hid (B4.out.trans (b5.mono B4.out.size))
  have X5 := Lib.hid ox0
  clear ox0 b5
  go_wp2_with fail
  refine (to_any a1 len1 cap1 xs1 _ hm1 (hi1.below B5.out)).mono ?_
  rintro e W6 ⟨Ax1, cx1, rfl, ox1, b6⟩
  have B6 := Lib.hid (B5.out.trans (b6.mono B5.out.size))
  have X6 := Lib.hid (X5.out.below b6)
  have Y6 := Lib.hid ox1
  have hcx := ox1.cap_le
  clear ox1 b6 X5
  go_wp2_with fail
  refine (iclash_any Ax0 Ax1 len0 cx0 len1 cx1 ss0 xs1 _ (OwnR.reads encG_len X6.out) hg0 (by omega) Y6.out.ints (by omega) hcx).mono ?_
  rintro e W7 ⟨rfl, b7⟩
  have B7 := Lib.hid (B6.out.trans (b7.mono B6.out.size))
  have X7 := Lib.hid (X6.out.below b7)
  have Y7 := Lib.hid (Y6.out.below b7)
  have hv0 : (Wr.clashN ss0 xs1 != Wr.clashN ss0 xs1) = false := by simp
  clear b7 X6 Y6
  go_wp2_with fail
  refine (tosgns_any a0 len0 cap0 ss0 _ (hi0.below B7.out) hm0).mono ?_
  rintro e W8 ⟨Ay0, cy0, rfl, oy0, b8⟩
  have B8 := Lib.hid (B7.out.trans (b8.mono B7.out.size))
  have X8 := Lib.hid (X7.out.below b8)
  have Y8 := Lib.hid (Y7.out.below b8)
  have Z8 := Lib.hid oy0
  clear b8 X7 Y7 oy0
  go_wp2_with fail
  refine (eqsgns_same Ax0 Ay0 len0 cx0 cy0 ss0 _ (OwnR.reads encG_len X8.out) (OwnR.reads encG_len Z8.out) hm0).mono ?_
  rintro e W9 ⟨rfl, b9⟩
  have B9 := Lib.hid (B8.out.trans (b9.mono B8.out.size))
  have Y9 := Lib.hid (Y8.out.below b9)
  clear b9 X8 Y8 Z8
  go_wp2_with fail
  refine (to_any a1 len1 cap1 xs1 _ hm1 (hi1.below B9.out)).mono ?_
  rintro e W10 ⟨Ay1, cy1, rfl, oy1, b10⟩
  have B10 := Lib.hid (B9.out.trans (b10.mono B9.out.size))
  have Y10 := Lib.hid (Y9.out.below b10)
  have Z10 := Lib.hid oy1
  clear b10 Y9 oy1
  go_wp2_with fail
  refine (eq_any Ax1 Ay1 len1 cx1 len1 cy1 xs1 xs1 _ hm1 hm1 Y10.out.ints Z10.out.ints).mono ?_
  rintro e W11 ⟨rfl, b11⟩
  have B11 := Lib.hid (B10.out.trans (b11.mono B10.out.size))
  clear b11 Y10 Z10
  go_wp2_with fail
  go_ret
  exact ⟨rfl, B11.out⟩

set_option maxRecDepth 100000 in
theorem lifted (os : Os) (started : os.Started) (H : Type) (enc : TypeId × Value → H) :
    ReturnsInHanded {} Try.checked os 5 .any (Rows.fnExactWrittenClashesSpec.pre6 enc Try.prog Try.f5 Rows.fnExactWrittenClashesRow.domain false) (Rows.fnExactWrittenClashesSpec.post enc Try.prog Try.f5 false true false false) := by
  refine returnsInHanded_of_change (C := Try.checked) own started (by kernel_rfl) Try.func5
    (ChangeSpec.witness6 (enc := enc) (C := Try.checked) false ⟨#[], #[.slice none 0 0, .slice none 0 0], []⟩ 8 (by kernel_rfl) (by kernel_rfl) (by kernel_rfl) (by kernel_rfl)) ?_
  intro W base args ds gs before hval0 hW hcnd _
  have hval : ∀ (j : Nat) t v, Try.f5.params[j]? = some t → args[j]? = some v → Value.okWide Try.prog W .any base t v := hval0
  have hW' := hW
  obtain ⟨p, q, hA0, hV, rfl, hfz, hnd⟩ := hW
  have hA : DataW.TrodAll enc Try.prog W 0 (fun _ => true) true Try.f5.params.toList args.toList ds p := hA0
  rw [Try.params5] at hA hval
  obtain ⟨v0, vs0, d0, ds0, p0, q0, hargs, rfl, rfl, h0, r0⟩ := trodAll_cons hA
  obtain ⟨v1, vs1, d1, ds1, p1, q1, rfl, rfl, rfl, h1, r1⟩ := trodAll_cons r0
  obtain ⟨rfl, rfl, rfl⟩ := trodAll_nil r1
  obtain rfl : args = #[v0, v1] := by cases args; simp_all
  obtain ⟨rfl, rfl⟩ := trodVars_none hV
  obtain ⟨a0, len0, cap0, rfl⟩ := okWide_slice Try.underlying45 (hval 0 45 v0 rfl rfl)
  have k0 := h0
  have lt0 : ∀ x ∈ p0, x.block < W.heap.size := by obtain ⟨m, hm⟩ := k0; exact DataW.trod_lt m _ _ _ hm
  obtain ⟨⟨ss0, hi0, hg0⟩, hl0, hM0, hz0⟩ := sgns_in (h0.choose_spec)
  obtain ⟨a1, len1, cap1, rfl⟩ := okWide_slice Try.underlying24 (hval 1 24 v1 rfl rfl)
  have k1 := h1
  have lt1 : ∀ x ∈ p1, x.block < W.heap.size := by obtain ⟨m, hm⟩ := k1; exact DataW.trod_lt m _ _ _ hm
  obtain ⟨⟨xs1, hi1⟩, hl1, hM1, hz1⟩ := strs_in (h1.choose_spec)
  clear hA0 hval0
  refine (walk a0 len0 cap0 ss0 a1 len1 cap1 xs1 W hi0 hg0 hl0 hM0 hz0 hi1 hl1 hM1 hz1).mono fun e W' ⟨he, bel⟩ => ?_
  subst he
  exact ⟨_, rfl, _, _, _, [], _, [], hW', trodAll_mk1 (shut_bool Try.underlying4 _), (trodAll_cons_mk (Below.trod laidOut (by kernel_rfl) (of_decide_eq_true (by kernel_rfl)) k0 bel lt0) (trodAll_cons_mk (Below.trod laidOut (by kernel_rfl) (of_decide_eq_true (by kernel_rfl)) k1 bel lt1) trodAll_mk0)), rfl, bel.frame _, fun h => by cases h⟩

theorem closed : joinedFacts Try.prog 5 Try.f5 Rows.fnExactWrittenClashesSpec Rows.fnExactWrittenClashesRow = true := by
  unfold joinedFacts
  simp only [may_enter, lifts_final, make_cut]
  kernel_rfl

theorem over : Rows.fnExactWrittenClashesRow.holds Try.pinned (OpenSpec.ofChange Rows.fnExactWrittenClashesSpec) :=
  OpenClaim.holds_of_wide 5 Try.f5 rfl rfl rfl rfl rfl rfl rfl ⟨rfl, rfl, rfl, rfl, rfl⟩ rfl rfl rfl rfl rfl (by kernel_rfl) Try.func5 closed
    (of_decide_eq_true (by kernel_rfl)) (by unfold Func.isWrapper; first | (rw [if_pos (by decide +kernel)]; kernel_rfl) | (rw [if_neg (by decide +kernel)]; exact ⟨rfl, rfl⟩))
    (fun os started H enc _ => lifted os started H enc)

theorem proved : Rows.FnExactWrittenClashesSaid := over
#print axioms proved
end Go.Proofs.Ytjhalbmmlcbehaa.fnExactWrittenClashes
