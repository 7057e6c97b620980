/- Proved: the statement 'FnExactTalkJoinSaid': the law FnExactTalkJoin returns true for every input, and every argument reads afterwards as it read before. No further conditions. The frame was written by the kit's proof-skeleton; the walk is ours. -/
import Derived.Test.YtcgiehdpdnipbaaRows
import Derived.Test.YtcgiehdpdnipbaaMarkB
import Derived.Test.YtcgiehdpdnipbaaMark
import Derived.Test.YtcgiehdpdnipbaaEnter
import Derived.WalkKit
import Derived.ProofKit
import Derived.OpenShut
import Derived.ShutString
import Derived.ChangeOld
import Derived.Below
namespace Go.Proofs.Ytcgiehdpdnipbaa.fnExactTalkJoin
open Go.ChangeShapes Go.WideShapes Go.ChangeAt Go.RowKit
open Go.ChangeMaps (open_string shut_string)
set_option linter.unusedVariables false

theorem own : ownKnob Try.prog.godebug = none := by kernel_rfl
theorem laidOut : laidOutB Try.prog = true := by kernel_rfl

theorem walk (a0 : Option Addr) (len0 cap0 : Nat) (z0 : List Int) (a1 : Option Addr) (len1 cap1 : Nat) (z1 : List Int) (w : World) (w0 : IsRow .i64 w a0 len0 cap0 z0) (w1 : IsRow .i64 w a1 len1 cap1 z1) :
    Calls Try.prog 5 #[.slice a0 len0 cap0, .slice a1 len1 cap1] w fun e w' => e = .returned (.bool true) ∧ Below w.heap.size w w' := by
  have hi0 := w0.ints
  have hl0 := w0.len_le
  generalize z0.take len0 = xs0 at hi0
  have hlen0 := Lib.hid hi0.len
  clear w0
  have hi1 := w1.ints
  have hl1 := w1.len_le
  generalize z1.take len1 = xs1 at hi1
  have hlen1 := Lib.hid hi1.len
  clear w1
  by_cases hm0 : len0 ≤ 1048576
  · by_cases hm1 : len1 ≤ 1048576
    · have hLL : (joinL xs0 xs1).length ≤ 1048576 := by have h1 := joinL_len xs0 xs1; omega
      have hq : (Talk.joinOk xs0 xs1 != Talk.joinOk xs0 xs1) = false := by simp
      go_enter Try.func5, Try.ntmps5
      go_wp2_with fail
      refine (to_any a0 len0 cap0 xs0 _ hm0 hi0).mono ?_
      rintro e W1 ⟨As0, cs0, rfl, os0, bs0⟩
      have S1 : w.heap.size ≤ W1.heap.size := bs0.size
      have B1 : Below w.heap.size w W1 := bs0
      go_wp2_with fail
      refine (to_any a1 len1 cap1 xs1 _ hm1 (hi1.below B1)).mono ?_
      rintro e W2 ⟨As1, cs1, rfl, os1, bs1⟩
      have S2 : W1.heap.size ≤ W2.heap.size := bs1.size
      have B2 : Below w.heap.size w W2 := Below.next B1 bs1
      have os0 := os0.below bs1
      go_wp2_with fail
      refine (sjoin_any As0 As1 len0 len1 cs0 cs1 xs0 xs1 _ hm0 hm1 os0.ints os1.ints os0.cap0 os1.cap0).mono ?_
      rintro e W3 ⟨Ar, nr, cr, rfl, or, br⟩
      have S3 : W2.heap.size ≤ W3.heap.size := br.size
      have B3 : Below w.heap.size w W3 := Below.next B2 br
      have os0 := os0.below br
      have os1 := os1.below br
      have hnr : nr ≤ 1048576 := by have := or.len; omega
      go_wp2_with fail
      refine (to_any a0 len0 cap0 xs0 _ hm0 (hi0.below B3)).mono ?_
      rintro e W4 ⟨Ax0, cx0, rfl, ox0, bx0⟩
      have S4 : W3.heap.size ≤ W4.heap.size := bx0.size
      have B4 : Below w.heap.size w W4 := Below.next B3 bx0
      have os0 := os0.below bx0
      have os1 := os1.below bx0
      have or := or.below bx0
      go_wp2_with fail
      refine (to_any a1 len1 cap1 xs1 _ hm1 (hi1.below B4)).mono ?_
      rintro e W5 ⟨Ax1, cx1, rfl, ox1, bx1⟩
      have S5 : W4.heap.size ≤ W5.heap.size := bx1.size
      have B5 : Below w.heap.size w W5 := Below.next B4 bx1
      have os0 := os0.below bx1
      have os1 := os1.below bx1
      have or := or.below bx1
      have ox0 := ox0.below bx1
      go_wp2_with fail
      refine (ijoin_any Ax0 Ax1 len0 len1 cx0 cx1 xs0 xs1 _ hm0 hm1 ox0.ints ox1.ints ox0.cap0 ox1.cap0).mono ?_
      rintro e W6 ⟨Ag, ng, cg, rfl, og, bg⟩
      have S6 : W5.heap.size ≤ W6.heap.size := bg.size
      have B6 : Below w.heap.size w W6 := Below.next B5 bg
      have os0 := os0.below bg
      have os1 := os1.below bg
      have or := or.below bg
      have ox0 := ox0.below bg
      have ox1 := ox1.below bg
      have hng : ng ≤ 1048576 := by have := og.len; omega
      go_wp2_with fail
      refine (eq_any Ag Ar ng cg nr cr (joinL xs0 xs1) (joinL xs0 xs1) _ hng hnr og.ints or.ints).mono ?_
      rintro e W7 ⟨rfl, be1⟩
      have S7 : W6.heap.size ≤ W7.heap.size := be1.size
      have B7 : Below w.heap.size w W7 := Below.next B6 be1
      have os0 := os0.below be1
      have os1 := os1.below be1
      have or := or.below be1
      have ox0 := ox0.below be1
      have ox1 := ox1.below be1
      have og := og.below be1
      go_wp2_with fail
      refine (to_any a0 len0 cap0 xs0 _ hm0 (hi0.below B7)).mono ?_
      rintro e W8 ⟨Ay0, cy0, rfl, oy0, by0⟩
      have S8 : W7.heap.size ≤ W8.heap.size := by0.size
      have B8 : Below w.heap.size w W8 := Below.next B7 by0
      have os0 := os0.below by0
      have os1 := os1.below by0
      have or := or.below by0
      have ox0 := ox0.below by0
      have ox1 := ox1.below by0
      have og := og.below by0
      go_wp2_with fail
      refine (eq_any Ax0 Ay0 len0 cx0 len0 cy0 xs0 xs0 _ hm0 hm0 ox0.ints oy0.ints).mono ?_
      rintro e W9 ⟨rfl, be2⟩
      have S9 : W8.heap.size ≤ W9.heap.size := be2.size
      have B9 : Below w.heap.size w W9 := Below.next B8 be2
      have os0 := os0.below be2
      have os1 := os1.below be2
      have or := or.below be2
      have ox0 := ox0.below be2
      have ox1 := ox1.below be2
      have og := og.below be2
      have oy0 := oy0.below be2
      go_wp2_with fail
      refine (to_any a1 len1 cap1 xs1 _ hm1 (hi1.below B9)).mono ?_
      rintro e W10 ⟨Ay1, cy1, rfl, oy1, by1⟩
      have S10 : W9.heap.size ≤ W10.heap.size := by1.size
      have B10 : Below w.heap.size w W10 := Below.next B9 by1
      have os0 := os0.below by1
      have os1 := os1.below by1
      have or := or.below by1
      have ox0 := ox0.below by1
      have ox1 := ox1.below by1
      have og := og.below by1
      have oy0 := oy0.below by1
      go_wp2_with fail
      refine (eq_any Ax1 Ay1 len1 cx1 len1 cy1 xs1 xs1 _ hm1 hm1 ox1.ints oy1.ints).mono ?_
      rintro e W11 ⟨rfl, be3⟩
      have S11 : W10.heap.size ≤ W11.heap.size := be3.size
      have B11 : Below w.heap.size w W11 := Below.next B10 be3
      have os0 := os0.below be3
      have os1 := os1.below be3
      have or := or.below be3
      have ox0 := ox0.below be3
      have ox1 := ox1.below be3
      have og := og.below be3
      have oy0 := oy0.below be3
      have oy1 := oy1.below be3
      go_wp2_with fail
      refine (mark_any Ax0 len0 cx0 _ _ xs0 _ _ hm0 (by omega) (by omega) ox0).mono ?_
      rintro e W12 ⟨rfl, m1, g1⟩
      have S12 : W11.heap.size ≤ W12.heap.size := g1.size
      have B12 : Below w.heap.size w W12 := below_mark B11 g1 ox0 (by omega)
      have os0 := os0.mark_far g1 ox0 (by omega)
      have os1 := os1.mark_far g1 ox0 (by omega)
      have or := or.mark_far g1 ox0 (by omega)
      have ox1 := ox1.mark_far g1 ox0 (by omega)
      have og := og.mark_far g1 ox0 (by omega)
      have oy0 := oy0.mark_far g1 ox0 (by omega)
      have oy1 := oy1.mark_far g1 ox0 (by omega)
      have ox0 := m1
      clear m1
      go_wp2_with fail
      refine (mark_any Ax1 len1 cx1 _ _ xs1 _ _ hm1 (by omega) (by omega) ox1).mono ?_
      rintro e W13 ⟨rfl, m2, g2⟩
      have S13 : W12.heap.size ≤ W13.heap.size := g2.size
      have B13 : Below w.heap.size w W13 := below_mark B12 g2 ox1 (by omega)
      have os0 := os0.mark_far g2 ox1 (by omega)
      have os1 := os1.mark_far g2 ox1 (by omega)
      have or := or.mark_far g2 ox1 (by omega)
      have ox0 := ox0.mark_far g2 ox1 (by omega)
      have og := og.mark_far g2 ox1 (by omega)
      have oy0 := oy0.mark_far g2 ox1 (by omega)
      have oy1 := oy1.mark_far g2 ox1 (by omega)
      have ox1 := m2
      clear m2
      go_wp2_with fail
      refine (eq_any Ag Ar ng cg nr cr (joinL xs0 xs1) (joinL xs0 xs1) _ hng hnr og.ints or.ints).mono ?_
      rintro e W14 ⟨rfl, be4⟩
      have S14 : W13.heap.size ≤ W14.heap.size := be4.size
      have B14 : Below w.heap.size w W14 := Below.next B13 be4
      have os0 := os0.below be4
      have os1 := os1.below be4
      have or := or.below be4
      have ox0 := ox0.below be4
      have ox1 := ox1.below be4
      have og := og.below be4
      have oy0 := oy0.below be4
      have oy1 := oy1.below be4
      go_wp2_with fail
      refine (mark_any Ag ng cg _ _ (joinL xs0 xs1) _ _ hng (by omega) (by omega) og).mono ?_
      rintro e W15 ⟨rfl, m3, g3⟩
      have S15 : W14.heap.size ≤ W15.heap.size := g3.size
      have B15 : Below w.heap.size w W15 := below_mark B14 g3 og (by omega)
      have os0 := os0.mark_far g3 og (by omega)
      have os1 := os1.mark_far g3 og (by omega)
      have or := or.mark_far g3 og (by omega)
      have ox0 := ox0.mark_far g3 og (by omega)
      have ox1 := ox1.mark_far g3 og (by omega)
      have oy0 := oy0.mark_far g3 og (by omega)
      have oy1 := oy1.mark_far g3 og (by omega)
      have og := m3
      clear m3
      have hqn : ((1 : Int) + (ng : Int) != 1 + (ng : Int)) = false := by simp
      go_wp2_with fail
      refine (held_any Ag ng cg 1 _ hng (by omega) (by omega) og.ints).mono ?_
      rintro e w' ⟨rfl, rfl⟩
      go_wp2_with fail
      refine (to_any a0 len0 cap0 xs0 _ hm0 (hi0.below B15)).mono ?_
      rintro e W16 ⟨At0, ct0, rfl, ot0, bt0⟩
      have S16 : W15.heap.size ≤ W16.heap.size := bt0.size
      have B16 : Below w.heap.size w W16 := Below.next B15 bt0
      have os0 := os0.below bt0
      have os1 := os1.below bt0
      have or := or.below bt0
      have ox0 := ox0.below bt0
      have ox1 := ox1.below bt0
      have og := og.below bt0
      have oy0 := oy0.below bt0
      have oy1 := oy1.below bt0
      go_wp2_with fail
      refine (to_any a1 len1 cap1 xs1 _ hm1 (hi1.below B16)).mono ?_
      rintro e W17 ⟨At1, ct1, rfl, ot1, bt1⟩
      have S17 : W16.heap.size ≤ W17.heap.size := bt1.size
      have B17 : Below w.heap.size w W17 := Below.next B16 bt1
      have os0 := os0.below bt1
      have os1 := os1.below bt1
      have or := or.below bt1
      have ox0 := ox0.below bt1
      have ox1 := ox1.below bt1
      have og := og.below bt1
      have oy0 := oy0.below bt1
      have oy1 := oy1.below bt1
      have ot0 := ot0.below bt1
      go_wp2_with fail
      refine (ijoin_any At0 At1 len0 len1 ct0 ct1 xs0 xs1 _ hm0 hm1 ot0.ints ot1.ints ot0.cap0 ot1.cap0).mono ?_
      rintro e W18 ⟨Ah, nh, ch, rfl, oh, bh⟩
      have S18 : W17.heap.size ≤ W18.heap.size := bh.size
      have B18 : Below w.heap.size w W18 := Below.next B17 bh
      have os0 := os0.below bh
      have os1 := os1.below bh
      have or := or.below bh
      have ox0 := ox0.below bh
      have ox1 := ox1.below bh
      have og := og.below bh
      have oy0 := oy0.below bh
      have oy1 := oy1.below bh
      have ot0 := ot0.below bh
      have ot1 := ot1.below bh
      have hnh : nh ≤ 1048576 := by have := oh.len; omega
      go_wp2_with fail
      refine (eq_any Ah Ar nh ch nr cr (joinL xs0 xs1) (joinL xs0 xs1) _ hnh hnr oh.ints or.ints).mono ?_
      rintro e W19 ⟨rfl, be5⟩
      have S19 : W18.heap.size ≤ W19.heap.size := be5.size
      have B19 : Below w.heap.size w W19 := Below.next B18 be5
      have os0 := os0.below be5
      have os1 := os1.below be5
      have or := or.below be5
      have ox0 := ox0.below be5
      have ox1 := ox1.below be5
      have og := og.below be5
      have oy0 := oy0.below be5
      have oy1 := oy1.below be5
      have ot0 := ot0.below be5
      have ot1 := ot1.below be5
      have oh := oh.below be5
      go_wp2_with fail
      refine (held_any Ag ng cg 1 _ hng (by omega) (by omega) og.ints).mono ?_
      rintro e w' ⟨rfl, rfl⟩
      go_wp2
      go_ret
      exact ⟨rfl, B19⟩
    · go_enter Try.func5, Try.ntmps5
      go_wp2
      go_ret
      exact ⟨rfl, Below.refl _ _⟩
  · go_enter Try.func5, Try.ntmps5
    go_wp2
    go_ret
    exact ⟨rfl, Below.refl _ _⟩

set_option maxRecDepth 100000 in
theorem lifted (os : Os) (started : os.Started) (H : Type) (enc : TypeId × Value → H) :
    ReturnsInHanded {} Try.checked os 5 .any (Rows.fnExactTalkJoinSpec.pre6 enc Try.prog Try.f5 Rows.fnExactTalkJoinRow.domain false) (Rows.fnExactTalkJoinSpec.post enc Try.prog Try.f5 false true false false) := by
  refine returnsInHanded_of_change (C := Try.checked) own started (by kernel_rfl) Try.func5
    (ChangeSpec.witness6 (enc := enc) (C := Try.checked) false ⟨#[], #[.slice none 0 0, .slice none 0 0], []⟩ 8 (by kernel_rfl) (by kernel_rfl) (by kernel_rfl) (by kernel_rfl)) ?_
  intro W base args ds gs before hval0 hW hcnd _
  have hval : ∀ (j : Nat) t v, Try.f5.params[j]? = some t → args[j]? = some v → Value.okWide Try.prog W .any base t v := hval0
  have hW' := hW
  obtain ⟨p, q, hA0, hV, rfl, hfz, hnd⟩ := hW
  have hA : DataW.TrodAll enc Try.prog W 0 (fun _ => true) true Try.f5.params.toList args.toList ds p := hA0
  rw [Try.params5] at hA hval
  obtain ⟨v0, vs0, d0, ds0, p0, q0, hargs, rfl, rfl, h0, r0⟩ := trodAll_cons hA
  obtain ⟨v1, vs1, d1, ds1, p1, q1, rfl, rfl, rfl, h1, r1⟩ := trodAll_cons r0
  obtain ⟨rfl, rfl, rfl⟩ := trodAll_nil r1
  obtain rfl : args = #[v0, v1] := by cases args; simp_all
  obtain ⟨rfl, rfl⟩ := trodVars_none hV
  obtain ⟨a0, len0, cap0, rfl⟩ := okWide_slice Try.underlying22 (hval 0 22 v0 rfl rfl)
  have k0 := h0
  have lt0 : ∀ x ∈ p0, x.block < W.heap.size := by obtain ⟨m, hm⟩ := k0; exact DataW.trod_lt m _ _ _ hm
  obtain ⟨z0, w0⟩ : ∃ zs, IsRow .i64 W a0 len0 cap0 zs := by
    obtain ⟨fuel, hf⟩ := h0
    rcases open_ints Try.underlying22 Try.underlying3 (by kernel_rfl) hf with ⟨hcs, _⟩ | ⟨x, l, c, zs, hcs, _, hl, hm, hz, _, hcell, hwz⟩
    · simp [Value.cells] at hcs
      obtain ⟨rfl, rfl, rfl⟩ := hcs
      exact ⟨[], .inl ⟨rfl, rfl, rfl, rfl⟩⟩
    · simp [Value.cells] at hcs
      obtain ⟨rfl, rfl, rfl⟩ := hcs
      exact ⟨zs, .inr ⟨_, rfl, hl, hm, by simpa using hz, hcell, hwz⟩⟩
  obtain ⟨a1, len1, cap1, rfl⟩ := okWide_slice Try.underlying22 (hval 1 22 v1 rfl rfl)
  have k1 := h1
  have lt1 : ∀ x ∈ p1, x.block < W.heap.size := by obtain ⟨m, hm⟩ := k1; exact DataW.trod_lt m _ _ _ hm
  obtain ⟨z1, w1⟩ : ∃ zs, IsRow .i64 W a1 len1 cap1 zs := by
    obtain ⟨fuel, hf⟩ := h1
    rcases open_ints Try.underlying22 Try.underlying3 (by kernel_rfl) hf with ⟨hcs, _⟩ | ⟨x, l, c, zs, hcs, _, hl, hm, hz, _, hcell, hwz⟩
    · simp [Value.cells] at hcs
      obtain ⟨rfl, rfl, rfl⟩ := hcs
      exact ⟨[], .inl ⟨rfl, rfl, rfl, rfl⟩⟩
    · simp [Value.cells] at hcs
      obtain ⟨rfl, rfl, rfl⟩ := hcs
      exact ⟨zs, .inr ⟨_, rfl, hl, hm, by simpa using hz, hcell, hwz⟩⟩
  clear hA0 hval0
  refine (walk a0 len0 cap0 z0 a1 len1 cap1 z1 W w0 w1).mono fun e W' ⟨he, bel⟩ => ?_
  subst he
  exact ⟨_, rfl, _, _, _, [], _, [], hW', trodAll_mk1 (shut_bool Try.underlying4 _), (trodAll_cons_mk (Below.trod laidOut (by kernel_rfl) (of_decide_eq_true (by kernel_rfl)) k0 bel lt0) (trodAll_cons_mk (Below.trod laidOut (by kernel_rfl) (of_decide_eq_true (by kernel_rfl)) k1 bel lt1) trodAll_mk0)), rfl, bel.frame _, fun h => by cases h⟩

theorem closed : joinedFacts Try.prog 5 Try.f5 Rows.fnExactTalkJoinSpec Rows.fnExactTalkJoinRow = true := by
  unfold joinedFacts
  simp only [may_enter, lifts_final, make_cut]
  kernel_rfl

theorem over : Rows.fnExactTalkJoinRow.holds Try.pinned (OpenSpec.ofChange Rows.fnExactTalkJoinSpec) :=
  OpenClaim.holds_of_wide 5 Try.f5 rfl rfl rfl rfl rfl rfl rfl ⟨rfl, rfl, rfl, rfl, rfl⟩ rfl rfl rfl rfl rfl (by kernel_rfl) Try.func5 closed
    (of_decide_eq_true (by kernel_rfl)) (by unfold Func.isWrapper; first | (rw [if_pos (by decide +kernel)]; kernel_rfl) | (rw [if_neg (by decide +kernel)]; exact ⟨rfl, rfl⟩))
    (fun os started H enc _ => lifted os started H enc)

theorem proved : Rows.FnExactTalkJoinSaid := over
#print axioms proved
end Go.Proofs.Ytcgiehdpdnipbaa.fnExactTalkJoin
