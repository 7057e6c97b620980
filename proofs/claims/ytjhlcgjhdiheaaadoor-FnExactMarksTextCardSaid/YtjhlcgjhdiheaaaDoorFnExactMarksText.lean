/- Proved: the statement 'FnExactMarksTextCardSaid': the law FnExactMarksText returns true for every input, and every argument reads afterwards as it read before. No further conditions. The frame follows the kit's proof-skeleton; the walk is ours. -/
import Derived.Test.YtjhlcgjhdiheaaaDoorRows
import Derived.Test.YtjhlcgjhdiheaaaDoorTi
import Derived.Test.YtjhlcgjhdiheaaaDoorH3
import Derived.Test.YtjhlcgjhdiheaaaDoorArgM
import Derived.Test.YtjhlcgjhdiheaaaDoorArg
import Derived.Test.YtjhlcgjhdiheaaaDoorCards
import Derived.Test.YtjhlcgjhdiheaaaDoorTie
import Derived.SevenTiedAt
import Derived.LaidMore
import Derived.Stop.Joined
import Derived.WalkKit
import Derived.ProofKit
import Derived.OpenShut
import Derived.ShutString
import Derived.ChangeOld
import Derived.Below
namespace Go.Proofs.YtjhlcgjhdiheaaaDoor.fnExactMarksText
open Go.ChangeShapes Go.WideShapes Go.ChangeAt Go.RowKit
open Go.ChangeMaps (open_string shut_string)
set_option linter.unusedVariables false
set_option linter.unusedSimpArgs false

theorem own : ownKnob Tryd.prog.godebug = none := by kernel_rfl
theorem laidOut : laidOutB Tryd.prog = true := by kernel_rfl

set_option maxRecDepth 20000 in
set_option maxHeartbeats 8000000 in
theorem walk (a0 : Option Addr) (len0 cap0 : Nat) (xs0 : List ByteArray) (a1 : Option Addr) (len1 cap1 : Nat) (ms1 : List (Mk.Mark ByteArray)) (w : World) (hi0 : Strs w a0 len0 xs0) (hl0 : len0 ≤ cap0) (hM0 : cap0 ≤ 9223372036854775807) (hz0 : a0 = none → cap0 = 0) (hi1 : Mrks w a1 len1 ms1) (hl1 : len1 ≤ cap1) (hM1 : cap1 ≤ 9223372036854775807) (hz1 : a1 = none → cap1 = 0) :
    Calls Tryd.prog 4 #[.slice a0 len0 cap0, .slice a1 len1 cap1] w fun e w' => e = .returned (.bool true) ∧ Below w.heap.size w w' := by
  go_enter Tryd.func4, Tryd.ntmps4
  go_wp2_with fail
  refine (sz_any a0 len0 cap0 xs0 1048576 _ (by omega) (by omega) (by omega) hi0).mono ?_
  rintro e w' ⟨⟨r0, rfl, hr0⟩, rfl⟩
  by_cases hn0 : r0 < 0
  · go_wp2
    go_ret
    exact ⟨rfl, Below.refl _ _⟩
  · have hq0 := hr0.out
    have hm0 : len0 ≤ 1048576 := by rcases hq0 with h | ⟨h1, h2, h3⟩ <;> omega
    have hs0 : r0 ≤ 1048576 := by rcases hq0 with h | ⟨h1, h2, h3⟩ <;> omega
    have hS0 : r0 + len0 ≤ 1048576 := by rcases hq0 with h | ⟨h1, h2, h3⟩ <;> omega
    clear hq0
    go_wp2_with fail
    refine (szm_any a1 len1 cap1 ms1 r0 _ (by omega) (by omega) (by omega) hi1).mono ?_
    rintro e W1 ⟨⟨r1, rfl, hr1⟩, bz1⟩
    have S1 : w.heap.size ≤ W1.heap.size := bz1.size
    have B1 : Below w.heap.size w W1 := bz1
    by_cases hn1 : r1 < 0
    · go_wp2
      go_ret
      exact ⟨rfl, B1⟩
    · have hq1 := hr1.out
      obtain ⟨hs01, hS1, hB1⟩ : 0 ≤ r1 ∧ r1 + len1 ≤ r0 ∧ (∀ m ∈ ms1, m.put.length ≤ 1048576) ∧ (len1 : Int) + totPut ms1 ≤ 1048576 := by rcases hq1 with h | ⟨h1, h2, h3, h4⟩; (· omega); exact ⟨h1, h2, h3, by omega⟩
      have hm1 : len1 ≤ 1048576 := by omega
      have hs1 : r1 ≤ 1048576 := by omega
      clear hq1
      go_wp2_with fail
      refine (to_any a0 len0 cap0 xs0 _ hm0 (hi0.below B1)).mono ?_
      rintro e W2 ⟨As0, cs0, rfl, os0, bs0⟩
      have S2 : W1.heap.size ≤ W2.heap.size := bs0.size
      have B2 : Below w.heap.size w W2 := Below.next B1 bs0
      go_wp2_with fail
      refine (tom_any a1 len1 cap1 ms1 _ hm1 hB1.1 (hi1.below B2)).mono ?_
      rintro e W3 ⟨As1, cs1, rfl, os1, bs1⟩
      have S3 : W2.heap.size ≤ W3.heap.size := bs1.size
      have B3 : Below w.heap.size w W3 := Below.next B2 bs1
      have os0 := os0.below bs1
      go_wp2_with fail
      refine (stext_any As0 As1 len0 cs0 len1 cs1 xs0 ms1 _ os0.putIn os1.ints (by omega)).mono ?_
      rintro e W4 ⟨rfl, bc1⟩
      have S4 : W3.heap.size ≤ W4.heap.size := bc1.size
      have B4 : Below w.heap.size w W4 := Below.next B3 bc1
      have os0 := os0.below bc1
      have os1 := os1.below bc1
      go_wp2_with fail
      refine (to_any a0 len0 cap0 xs0 _ hm0 (hi0.below B4)).mono ?_
      rintro e W5 ⟨Ax0, cx0, rfl, ox0, bx0⟩
      have S5 : W4.heap.size ≤ W5.heap.size := bx0.size
      have B5 : Below w.heap.size w W5 := Below.next B4 bx0
      have os0 := os0.below bx0
      have os1 := os1.below bx0
      go_wp2_with fail
      refine (tom_any a1 len1 cap1 ms1 _ hm1 hB1.1 (hi1.below B5)).mono ?_
      rintro e W6 ⟨Ax1, cx1, rfl, ox1, bx1⟩
      have S6 : W5.heap.size ≤ W6.heap.size := bx1.size
      have B6 : Below w.heap.size w W6 := Below.next B5 bx1
      have os0 := os0.below bx1
      have os1 := os1.below bx1
      have ox0 := ox0.below bx1
      go_wp2_with fail
      refine (itext_any Ax0 Ax1 len0 cx0 len1 cx1 xs0 ms1 _ ox0.putIn ox1.ints (by omega)).mono ?_
      rintro e W7 ⟨rfl, bc2⟩
      have S7 : W6.heap.size ≤ W7.heap.size := bc2.size
      have B7 : Below w.heap.size w W7 := Below.next B6 bc2
      have os0 := os0.below bc2
      have os1 := os1.below bc2
      have ox0 := ox0.below bc2
      have ox1 := ox1.below bc2
      have hv0 : ((textI xs0 ms1).toList != (textI xs0 ms1).toList) = false := by simp
      generalize textI xs0 ms1 = TT at *
      go_wp2_with fail
      refine (to_any a0 len0 cap0 xs0 _ hm0 (hi0.below B7)).mono ?_
      rintro e W8 ⟨Ay0, cy0, rfl, oy0, by0⟩
      have S8 : W7.heap.size ≤ W8.heap.size := by0.size
      have B8 : Below w.heap.size w W8 := Below.next B7 by0
      have os0 := os0.below by0
      have os1 := os1.below by0
      have ox0 := ox0.below by0
      have ox1 := ox1.below by0
      go_wp2_with fail
      refine (eq_any Ax0 Ay0 len0 cx0 len0 cy0 xs0 xs0 _ hm0 hm0 ox0.ints oy0.ints).mono ?_
      rintro e W9 ⟨rfl, be1⟩
      have S9 : W8.heap.size ≤ W9.heap.size := be1.size
      have B9 : Below w.heap.size w W9 := Below.next B8 be1
      have os0 := os0.below be1
      have os1 := os1.below be1
      have ox0 := ox0.below be1
      have ox1 := ox1.below be1
      have oy0 := oy0.below be1
      go_wp2_with fail
      refine (tom_any a1 len1 cap1 ms1 _ hm1 hB1.1 (hi1.below B9)).mono ?_
      rintro e W10 ⟨Ay1, cy1, rfl, oy1, by1⟩
      have S10 : W9.heap.size ≤ W10.heap.size := by1.size
      have B10 : Below w.heap.size w W10 := Below.next B9 by1
      have os0 := os0.below by1
      have os1 := os1.below by1
      have ox0 := ox0.below by1
      have ox1 := ox1.below by1
      have oy0 := oy0.below by1
      go_wp2_with fail
      refine (eqm_any Ax1 Ay1 len1 cx1 len1 cy1 ms1 ms1 _ hm1 hm1 hB1.1 hB1.1 ox1.ints oy1.ints).mono ?_
      rintro e W11 ⟨rfl, be2⟩
      rw [eqMs_self]
      have S11 : W10.heap.size ≤ W11.heap.size := be2.size
      have B11 : Below w.heap.size w W11 := Below.next B10 be2
      have os0 := os0.below be2
      have os1 := os1.below be2
      have ox0 := ox0.below be2
      have ox1 := ox1.below be2
      have oy0 := oy0.below be2
      have oy1 := oy1.below be2
      go_wp2_with fail
      go_ret
      exact ⟨rfl, B11⟩

/-- the door's own heap meets the condition on the laid tables -/
theorem door_met (os : Os) (args : Array Value) : laidMetH Tryd.prog Rows.fnExactMarksTextRow.laid ((World.doorLaid Tryd.prog 4000 os).forCall (fun _ _ => 0) ⟨#[], args, []⟩).memory :=
  laidMetH_of_parts3 (fuel := 8) (laidMet_of_run' 8 (by kernel_rfl) (by kernel_rfl)) (by kernel_rfl) (by kernel_rfl)

set_option maxRecDepth 100000 in
theorem lifted (os : Os) (started : os.Started) (H : Type) (enc : TypeId × Value → H) :
    ReturnsInHanded {} Tryd.checked os 4 .any (fun w args => (Rows.fnExactMarksTextSpec.pre enc Tryd.prog Tryd.f4 [] false w args ∧ laidMetH Tryd.prog Rows.fnExactMarksTextRow.laid w) ∧ sizedMet enc Tryd.prog Tryd.f4 (OpenSpec.ofChange Rows.fnExactMarksTextSpec) false w args)
      (Rows.fnExactMarksTextSpec.post enc Tryd.prog Tryd.f4 false true false false) := by
  refine returnsInHanded_of_change_and (C := Tryd.checked) (X := fun w _ => laidMetH Tryd.prog Rows.fnExactMarksTextRow.laid w) (fun _ _ _ hh h => h.of_heap hh) own started (by kernel_rfl) Tryd.func4
    (ChangeSpec.witness_shaped (enc := enc) (C := Tryd.checked) (os := os) (X := fun w _ => laidMetH Tryd.prog Rows.fnExactMarksTextRow.laid w) false (World.doorLaid Tryd.prog 4000 os) #[.slice none 0 0, .slice none 0 0] 8 rfl (World.shaped_of_RefB (by kernel_rfl) (by kernel_rfl)) (by kernel_rfl) (by kernel_rfl) (by kernel_rfl) (door_met os _)) ?_
  intro W base args ds gs before hval0 hW hcnd _ _ _
  have hval : ∀ (j : Nat) t v, Tryd.f4.params[j]? = some t → args[j]? = some v → Value.okWide Tryd.prog W .any base t v := hval0
  have hW' := hW
  obtain ⟨p, q, hA0, hV, rfl, hfz, hnd⟩ := hW
  have hA : DataW.TrodAll enc Tryd.prog W 0 (fun _ => true) true Tryd.f4.params.toList args.toList ds p := hA0
  rw [Tryd.params4] at hA hval
  obtain ⟨v0, vs0, d0, ds0, p0, q0, hargs, rfl, rfl, h0, r0⟩ := trodAll_cons hA
  obtain ⟨v1, vs1, d1, ds1, p1, q1, rfl, rfl, rfl, h1, r1⟩ := trodAll_cons r0
  obtain ⟨rfl, rfl, rfl⟩ := trodAll_nil r1
  obtain rfl : args = #[v0, v1] := by cases args; simp_all
  obtain ⟨rfl, rfl⟩ := trodVars_none hV
  obtain ⟨a0, len0, cap0, rfl⟩ := okWide_slice Tryd.underlying23 (hval 0 23 v0 rfl rfl)
  have k0 := h0
  have lt0 : ∀ x ∈ p0, x.block < W.heap.size := by obtain ⟨m, hm⟩ := k0; exact DataW.trod_lt m _ _ _ hm
  obtain ⟨⟨xs0, hi0⟩, hl0, hM0, hz0⟩ := strs_in (h0.choose_spec)
  obtain ⟨a1, len1, cap1, rfl⟩ := okWide_slice Tryd.underlying33 (hval 1 33 v1 rfl rfl)
  have k1 := h1
  have lt1 : ∀ x ∈ p1, x.block < W.heap.size := by obtain ⟨m, hm⟩ := k1; exact DataW.trod_lt m _ _ _ hm
  obtain ⟨⟨ms1, hi1⟩, hl1, hM1, hz1⟩ := mrks_in (h1.choose_spec)
  clear hA0 hval0
  refine (walk a0 len0 cap0 xs0 a1 len1 cap1 ms1 W hi0 hl0 hM0 hz0 hi1 hl1 hM1 hz1).mono fun e W' ⟨he, bel⟩ => ?_
  subst he
  exact ⟨_, rfl, _, _, _, [], _, [], hW', trodAll_mk1 (shut_bool Tryd.underlying4 _), (trodAll_cons_mk (Below.trod laidOut (by kernel_rfl) (of_decide_eq_true (by kernel_rfl)) k0 bel lt0) (trodAll_cons_mk (Below.trod laidOut (by kernel_rfl) (of_decide_eq_true (by kernel_rfl)) k1 bel lt1) trodAll_mk0)), rfl, bel.frame _, fun h => by cases h⟩

theorem closed : joinedFacts Tryd.prog 4 Tryd.f4 Rows.fnExactMarksTextSpec Rows.fnExactMarksTextRow = true := by
  kernel_rfl

theorem over : Rows.fnExactMarksTextRow.holds Tryd.pinned (OpenSpec.ofChange Rows.fnExactMarksTextSpec) :=
  OpenClaim.holds_of_wide 4 Tryd.f4 rfl rfl rfl rfl rfl rfl rfl ⟨rfl, rfl, rfl, rfl, rfl⟩ rfl rfl rfl rfl rfl (by kernel_rfl) Tryd.func4 closed
    (of_decide_eq_true (by kernel_rfl)) (by unfold Func.isWrapper; first | (rw [if_pos (by decide +kernel)]; kernel_rfl) | (rw [if_neg (by decide +kernel)]; exact ⟨rfl, rfl⟩))
    (fun os started H enc _ => lifted os started H enc)

theorem card : Claim7.holds Tryd.pinned (.plain (OpenSpec.ofChange Rows.fnExactMarksTextSpec)) Rows.fnExactMarksTextCard :=
  Claim7.holds_tied_plain_at .later [] [.data, .data, .data] true (true, "fef425edf36c284c46265dcf9c7e8798e90c6e201193b9e296b3782b191379bc") true
    over (fun _ h => by cases h) (by kernel_rfl) (fun _ h => by cases h) fnExactMarksText_row_tie rfl ⟨rfl, rfl⟩ (by kernel_rfl) rfl
    (fun f fn hf hfn => by
      obtain rfl : f = 4 := Option.some.inj ((show Tryd.prog.funcNamed "loop.example/shorthand/laws.FnExactMarksText" = some 4 by kernel_rfl).symm.trans hf) |>.symm
      obtain rfl : fn = Tryd.f4 := (Option.some.inj (Tryd.func4.symm.trans hfn)).symm
      exact ⟨by kernel_rfl, fun j t ht => by
        rw [Tryd.params4] at ht
        have hm : t ∈ [23, 33] := by simpa using Array.mem_of_getElem? ht
        have hall : ([23, 33].all fun u => !Tryd.prog.wantsStandIn u) = true := by kernel_rfl
        exact (show Tryd.prog.wantsStandIn t = false by simpa using List.all_eq_true.1 hall t hm)⟩)
    (by kernel_rfl)

theorem proved : Rows.FnExactMarksTextCardSaid := card
#print axioms proved
end Go.Proofs.YtjhlcgjhdiheaaaDoor.fnExactMarksText
