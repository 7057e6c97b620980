/- Proved: the statement 'FnExactMarksBothSaid': the law FnExactMarksBoth returns true for every input, and every argument reads afterwards as it read before. No further conditions. The frame follows the kit's proof-skeleton; the walk is ours. -/
import Derived.Test.YtjhlcgjhdiheaaaRows
import Derived.Test.YtjhlcgjhdiheaaaH5
import Derived.Test.YtjhlcgjhdiheaaaSBo
import Derived.Test.YtjhlcgjhdiheaaaArgM
import Derived.Test.YtjhlcgjhdiheaaaArg
import Derived.Test.YtjhlcgjhdiheaaaEnter
import Derived.WalkKit
import Derived.ProofKit
import Derived.OpenShut
import Derived.ShutString
import Derived.ChangeOld
import Derived.Below
namespace Go.Proofs.Ytjhlcgjhdiheaaa.fnExactMarksBoth
open Go.ChangeShapes Go.WideShapes Go.ChangeAt Go.RowKit
open Go.ChangeMaps (open_string shut_string)
set_option linter.unusedVariables false
set_option linter.unusedSimpArgs false

theorem own : ownKnob Try.prog.godebug = none := by kernel_rfl
theorem laidOut : laidOutB Try.prog = true := by kernel_rfl

set_option maxRecDepth 20000 in
set_option maxHeartbeats 8000000 in
theorem walk (a0 : Option Addr) (len0 cap0 : Nat) (xs0 : List ByteArray) (a1 : Option Addr) (len1 cap1 : Nat) (ms1 : List (Mk.Mark ByteArray)) (a2 : Option Addr) (len2 cap2 : Nat) (ms2 : List (Mk.Mark ByteArray)) (w : World) (hi0 : Strs w a0 len0 xs0) (hl0 : len0 ≤ cap0) (hM0 : cap0 ≤ 9223372036854775807) (hz0 : a0 = none → cap0 = 0) (hi1 : Mrks w a1 len1 ms1) (hl1 : len1 ≤ cap1) (hM1 : cap1 ≤ 9223372036854775807) (hz1 : a1 = none → cap1 = 0) (hi2 : Mrks w a2 len2 ms2) (hl2 : len2 ≤ cap2) (hM2 : cap2 ≤ 9223372036854775807) (hz2 : a2 = none → cap2 = 0) :
    Calls Try.prog 4 #[.slice a0 len0 cap0, .slice a1 len1 cap1, .slice a2 len2 cap2] w fun e w' => e = .returned (.bool true) ∧ Below w.heap.size w w' := by
  have hLL := Lib.hid (bothF_bound xs0 ms1 ms2)
  have hv1 : ((bothF xs0 ms1 ms2).isSome != (bothF xs0 ms1 ms2).isSome) = false := by simp
  go_enter Try.func4, Try.ntmps4
  go_wp2_with fail
  refine (sz_any a0 len0 cap0 xs0 1048576 _ (by omega) (by omega) (by omega) hi0).mono ?_
  rintro e w' ⟨⟨r0, rfl, hr0⟩, rfl⟩
  by_cases hn0 : r0 < 0
  · go_wp2
    go_ret
    exact ⟨rfl, Below.refl _ _⟩
  · have hq0 := hr0.out
    have hm0 : len0 ≤ 1048576 := by rcases hq0 with h | ⟨h1, h2, h3⟩ <;> omega
    have hs0 : r0 ≤ 1048576 := by rcases hq0 with h | ⟨h1, h2, h3⟩ <;> omega
    have hS0 : r0 + len0 ≤ 1048576 := by rcases hq0 with h | ⟨h1, h2, h3⟩ <;> omega
    clear hq0
    go_wp2_with fail
    refine (szm_any a1 len1 cap1 ms1 r0 _ (by omega) (by omega) (by omega) hi1).mono ?_
    rintro e W1 ⟨⟨r1, rfl, hr1⟩, bz1⟩
    have S1 : w.heap.size ≤ W1.heap.size := bz1.size
    have B1 : Below w.heap.size w W1 := bz1
    by_cases hn1 : r1 < 0
    · go_wp2
      go_ret
      exact ⟨rfl, B1⟩
    · have hq1 := hr1.out
      obtain ⟨hs01, hS1, hB1⟩ : 0 ≤ r1 ∧ r1 + len1 ≤ r0 ∧ (∀ m ∈ ms1, m.put.length ≤ 1048576) ∧ (len1 : Int) + totPut ms1 ≤ 1048576 := by rcases hq1 with h | ⟨h1, h2, h3, h4⟩; (· omega); exact ⟨h1, h2, h3, by omega⟩
      have hm1 : len1 ≤ 1048576 := by omega
      have hs1 : r1 ≤ 1048576 := by omega
      clear hq1
      go_wp2_with fail
      refine (szm_any a2 len2 cap2 ms2 r1 _ (by omega) (by omega) (by omega) (hi2.below B1)).mono ?_
      rintro e W2 ⟨⟨r2, rfl, hr2⟩, bz2⟩
      have S2 : W1.heap.size ≤ W2.heap.size := bz2.size
      have B2 : Below w.heap.size w W2 := Below.next B1 bz2
      by_cases hn2 : r2 < 0
      · go_wp2
        go_ret
        exact ⟨rfl, B2⟩
      · have hq2 := hr2.out
        obtain ⟨hs02, hS2, hB2⟩ : 0 ≤ r2 ∧ r2 + len2 ≤ r1 ∧ (∀ m ∈ ms2, m.put.length ≤ 1048576) ∧ (len2 : Int) + totPut ms2 ≤ 1048576 := by rcases hq2 with h | ⟨h1, h2, h3, h4⟩; (· omega); exact ⟨h1, h2, h3, by omega⟩
        have hm2 : len2 ≤ 1048576 := by omega
        have hs2 : r2 ≤ 1048576 := by omega
        clear hq2
        go_wp2_with fail
        refine (to_any a0 len0 cap0 xs0 _ hm0 (hi0.below B2)).mono ?_
        rintro e W3 ⟨As0, cs0, rfl, os0, bs0⟩
        have S3 : W2.heap.size ≤ W3.heap.size := bs0.size
        have B3 : Below w.heap.size w W3 := Below.next B2 bs0
        go_wp2_with fail
        refine (tom_any a1 len1 cap1 ms1 _ hm1 hB1.1 (hi1.below B3)).mono ?_
        rintro e W4 ⟨As1, cs1, rfl, os1, bs1⟩
        have S4 : W3.heap.size ≤ W4.heap.size := bs1.size
        have B4 : Below w.heap.size w W4 := Below.next B3 bs1
        have os0 := os0.below bs1
        go_wp2_with fail
        refine (tom_any a2 len2 cap2 ms2 _ hm2 hB2.1 (hi2.below B4)).mono ?_
        rintro e W5 ⟨As2, cs2, rfl, os2, bs2⟩
        have S5 : W4.heap.size ≤ W5.heap.size := bs2.size
        have B5 : Below w.heap.size w W5 := Below.next B4 bs2
        have os0 := os0.below bs2
        have os1 := os1.below bs2
        go_wp2_with fail
        refine (sboth_any As0 As1 As2 len0 cs0 len1 cs1 len2 cs2 xs0 ms1 ms2 _ os0.putIn os1.mrkIn os2.mrkIn).mono ?_
        rintro e W6 ⟨Ar, nr, cr, rfl, or, bc1⟩
        have S6 : W5.heap.size ≤ W6.heap.size := bc1.size
        have B6 : Below w.heap.size w W6 := Below.next B5 bc1
        have os0 := os0.below bc1
        have os1 := os1.below bc1
        have os2 := os2.below bc1
        have hnr : nr ≤ 1048576 := by have := or.len; have := hLL.out.1; omega
        have hPr := hLL.out.2
        go_wp2_with fail
        refine (to_any a0 len0 cap0 xs0 _ hm0 (hi0.below B6)).mono ?_
        rintro e W7 ⟨Ax0, cx0, rfl, ox0, bx0⟩
        have S7 : W6.heap.size ≤ W7.heap.size := bx0.size
        have B7 : Below w.heap.size w W7 := Below.next B6 bx0
        have os0 := os0.below bx0
        have os1 := os1.below bx0
        have os2 := os2.below bx0
        have or := or.below bx0
        go_wp2_with fail
        refine (tom_any a1 len1 cap1 ms1 _ hm1 hB1.1 (hi1.below B7)).mono ?_
        rintro e W8 ⟨Ax1, cx1, rfl, ox1, bx1⟩
        have S8 : W7.heap.size ≤ W8.heap.size := bx1.size
        have B8 : Below w.heap.size w W8 := Below.next B7 bx1
        have os0 := os0.below bx1
        have os1 := os1.below bx1
        have os2 := os2.below bx1
        have or := or.below bx1
        have ox0 := ox0.below bx1
        go_wp2_with fail
        refine (tom_any a2 len2 cap2 ms2 _ hm2 hB2.1 (hi2.below B8)).mono ?_
        rintro e W9 ⟨Ax2, cx2, rfl, ox2, bx2⟩
        have S9 : W8.heap.size ≤ W9.heap.size := bx2.size
        have B9 : Below w.heap.size w W9 := Below.next B8 bx2
        have os0 := os0.below bx2
        have os1 := os1.below bx2
        have os2 := os2.below bx2
        have or := or.below bx2
        have ox0 := ox0.below bx2
        have ox1 := ox1.below bx2
        go_wp2_with fail
        refine (iboth_any Ax0 Ax1 Ax2 len0 cx0 len1 cx1 len2 cx2 xs0 ms1 ms2 _ ox0.putIn ox1.mrkIn ox2.mrkIn).mono ?_
        rintro e W10 ⟨Ag, ng, cg, rfl, og, bc2⟩
        have S10 : W9.heap.size ≤ W10.heap.size := bc2.size
        have B10 : Below w.heap.size w W10 := Below.next B9 bc2
        have os0 := os0.below bc2
        have os1 := os1.below bc2
        have os2 := os2.below bc2
        have or := or.below bc2
        have ox0 := ox0.below bc2
        have ox1 := ox1.below bc2
        have ox2 := ox2.below bc2
        have hng : ng ≤ 1048576 := by have := og.len; have := hLL.out.1; omega
        have hPg := hLL.out.2
        go_wp2_with fail
        refine (eqm_any Ag Ar ng cg nr cr ((bothF xs0 ms1 ms2).getD []) ((bothF xs0 ms1 ms2).getD []) _ hng hnr (fun m hm => by have := totPut_mem _ m hm; omega) (fun m hm => by have := totPut_mem _ m hm; omega) og.ints or.ints).mono ?_
        rintro e W11 ⟨rfl, be1⟩
        rw [eqMs_self]
        have S11 : W10.heap.size ≤ W11.heap.size := be1.size
        have B11 : Below w.heap.size w W11 := Below.next B10 be1
        have os0 := os0.below be1
        have os1 := os1.below be1
        have os2 := os2.below be1
        have or := or.below be1
        have ox0 := ox0.below be1
        have ox1 := ox1.below be1
        have ox2 := ox2.below be1
        have og := og.below be1
        go_wp2_with fail
        refine (to_any a0 len0 cap0 xs0 _ hm0 (hi0.below B11)).mono ?_
        rintro e W12 ⟨Ay0, cy0, rfl, oy0, by0⟩
        have S12 : W11.heap.size ≤ W12.heap.size := by0.size
        have B12 : Below w.heap.size w W12 := Below.next B11 by0
        have os0 := os0.below by0
        have os1 := os1.below by0
        have os2 := os2.below by0
        have or := or.below by0
        have ox0 := ox0.below by0
        have ox1 := ox1.below by0
        have ox2 := ox2.below by0
        have og := og.below by0
        go_wp2_with fail
        refine (eq_any Ax0 Ay0 len0 cx0 len0 cy0 xs0 xs0 _ hm0 hm0 ox0.ints oy0.ints).mono ?_
        rintro e W13 ⟨rfl, be2⟩
        have S13 : W12.heap.size ≤ W13.heap.size := be2.size
        have B13 : Below w.heap.size w W13 := Below.next B12 be2
        have os0 := os0.below be2
        have os1 := os1.below be2
        have os2 := os2.below be2
        have or := or.below be2
        have ox0 := ox0.below be2
        have ox1 := ox1.below be2
        have ox2 := ox2.below be2
        have og := og.below be2
        have oy0 := oy0.below be2
        go_wp2_with fail
        refine (tom_any a1 len1 cap1 ms1 _ hm1 hB1.1 (hi1.below B13)).mono ?_
        rintro e W14 ⟨Ay1, cy1, rfl, oy1, by1⟩
        have S14 : W13.heap.size ≤ W14.heap.size := by1.size
        have B14 : Below w.heap.size w W14 := Below.next B13 by1
        have os0 := os0.below by1
        have os1 := os1.below by1
        have os2 := os2.below by1
        have or := or.below by1
        have ox0 := ox0.below by1
        have ox1 := ox1.below by1
        have ox2 := ox2.below by1
        have og := og.below by1
        have oy0 := oy0.below by1
        go_wp2_with fail
        refine (eqm_any Ax1 Ay1 len1 cx1 len1 cy1 ms1 ms1 _ hm1 hm1 hB1.1 hB1.1 ox1.ints oy1.ints).mono ?_
        rintro e W15 ⟨rfl, be3⟩
        rw [eqMs_self]
        have S15 : W14.heap.size ≤ W15.heap.size := be3.size
        have B15 : Below w.heap.size w W15 := Below.next B14 be3
        have os0 := os0.below be3
        have os1 := os1.below be3
        have os2 := os2.below be3
        have or := or.below be3
        have ox0 := ox0.below be3
        have ox1 := ox1.below be3
        have ox2 := ox2.below be3
        have og := og.below be3
        have oy0 := oy0.below be3
        have oy1 := oy1.below be3
        go_wp2_with fail
        refine (tom_any a2 len2 cap2 ms2 _ hm2 hB2.1 (hi2.below B15)).mono ?_
        rintro e W16 ⟨Ay2, cy2, rfl, oy2, by2⟩
        have S16 : W15.heap.size ≤ W16.heap.size := by2.size
        have B16 : Below w.heap.size w W16 := Below.next B15 by2
        have os0 := os0.below by2
        have os1 := os1.below by2
        have os2 := os2.below by2
        have or := or.below by2
        have ox0 := ox0.below by2
        have ox1 := ox1.below by2
        have ox2 := ox2.below by2
        have og := og.below by2
        have oy0 := oy0.below by2
        have oy1 := oy1.below by2
        go_wp2_with fail
        refine (eqm_any Ax2 Ay2 len2 cx2 len2 cy2 ms2 ms2 _ hm2 hm2 hB2.1 hB2.1 ox2.ints oy2.ints).mono ?_
        rintro e W17 ⟨rfl, be4⟩
        rw [eqMs_self]
        have S17 : W16.heap.size ≤ W17.heap.size := be4.size
        have B17 : Below w.heap.size w W17 := Below.next B16 be4
        have os0 := os0.below be4
        have os1 := os1.below be4
        have os2 := os2.below be4
        have or := or.below be4
        have ox0 := ox0.below be4
        have ox1 := ox1.below be4
        have ox2 := ox2.below be4
        have og := og.below be4
        have oy0 := oy0.below be4
        have oy1 := oy1.below be4
        have oy2 := oy2.below be4
        go_wp2_with fail
        refine (mark_any Ax0 len0 cx0 _ _ (1) xs0 _ hm0 (by omega) ox0).mono ?_
        rintro e W18 ⟨rfl, m1, g1⟩
        have S18 : W17.heap.size ≤ W18.heap.size := g1.size
        have B18 : Below w.heap.size w W18 := below_markS B17 g1 ox0 (by omega)
        have os0 := os0.mark_far g1 ox0 (by omega)
        have os1 := os1.mark_farS g1 ox0 (by omega)
        have os2 := os2.mark_farS g1 ox0 (by omega)
        have or := or.mark_farS g1 ox0 (by omega)
        have ox1 := ox1.mark_farS g1 ox0 (by omega)
        have ox2 := ox2.mark_farS g1 ox0 (by omega)
        have og := og.mark_farS g1 ox0 (by omega)
        have oy0 := oy0.mark_far g1 ox0 (by omega)
        have oy1 := oy1.mark_farS g1 ox0 (by omega)
        have oy2 := oy2.mark_farS g1 ox0 (by omega)
        have ox0 := m1
        clear m1
        go_wp2_with fail
        refine (markm_any Ax1 len1 cx1 _ _ (1 + len0) ms1 _ hm1 (by have := hB1; omega) (by have := hB1; omega) ox1).mono ?_
        rintro e W19 ⟨rfl, m2, g2⟩
        have S19 : W18.heap.size ≤ W19.heap.size := g2.size
        have B19 : Below w.heap.size w W19 := below_markM B18 g2 (by omega)
        have os0 := os0.mark_farM g2 (by omega)
        have os1 := os1.mark_farMM g2 (by omega)
        have os2 := os2.mark_farMM g2 (by omega)
        have or := or.mark_farMM g2 (by omega)
        have ox0 := ox0.mark_farM g2 (by omega)
        have ox2 := ox2.mark_farMM g2 (by omega)
        have og := og.mark_farMM g2 (by omega)
        have oy0 := oy0.mark_farM g2 (by omega)
        have oy1 := oy1.mark_farMM g2 (by omega)
        have oy2 := oy2.mark_farMM g2 (by omega)
        have ox1 := m2
        clear m2
        go_wp2_with fail
        refine (markm_any Ax2 len2 cx2 _ _ (mcount (1 + len0) ms1) ms2 _ hm2 (by have := hB2; have := hB1; have := mcount_eq (1 + len0) ms1; have := hi1.len; omega) (by have := hB2; omega) ox2).mono ?_
        rintro e W20 ⟨rfl, m3, g3⟩
        have S20 : W19.heap.size ≤ W20.heap.size := g3.size
        have B20 : Below w.heap.size w W20 := below_markM B19 g3 (by omega)
        have os0 := os0.mark_farM g3 (by omega)
        have os1 := os1.mark_farMM g3 (by omega)
        have os2 := os2.mark_farMM g3 (by omega)
        have or := or.mark_farMM g3 (by omega)
        have ox0 := ox0.mark_farM g3 (by omega)
        have ox1 := ox1.mark_farMM g3 (by omega)
        have og := og.mark_farMM g3 (by omega)
        have oy0 := oy0.mark_farM g3 (by omega)
        have oy1 := oy1.mark_farMM g3 (by omega)
        have oy2 := oy2.mark_farMM g3 (by omega)
        have ox2 := m3
        clear m3
        go_wp2_with fail
        refine (eqm_any Ag Ar ng cg nr cr ((bothF xs0 ms1 ms2).getD []) ((bothF xs0 ms1 ms2).getD []) _ hng hnr (fun m hm => by have := totPut_mem _ m hm; omega) (fun m hm => by have := totPut_mem _ m hm; omega) og.ints or.ints).mono ?_
        rintro e W21 ⟨rfl, be5⟩
        rw [eqMs_self]
        have S21 : W20.heap.size ≤ W21.heap.size := be5.size
        have B21 : Below w.heap.size w W21 := Below.next B20 be5
        have os0 := os0.below be5
        have os1 := os1.below be5
        have os2 := os2.below be5
        have or := or.below be5
        have ox0 := ox0.below be5
        have ox1 := ox1.below be5
        have ox2 := ox2.below be5
        have og := og.below be5
        have oy0 := oy0.below be5
        have oy1 := oy1.below be5
        have oy2 := oy2.below be5
        have hlg := og.len
        go_wp2_with fail
        refine (markm_any Ag ng cg _ _ (1) ((bothF xs0 ms1 ms2).getD []) _ hng (by omega) (by omega) og).mono ?_
        rintro e W22 ⟨rfl, m4, g4⟩
        have S22 : W21.heap.size ≤ W22.heap.size := g4.size
        have B22 : Below w.heap.size w W22 := below_markM B21 g4 (by omega)
        have os0 := os0.mark_farM g4 (by omega)
        have os1 := os1.mark_farMM g4 (by omega)
        have os2 := os2.mark_farMM g4 (by omega)
        have or := or.mark_farMM g4 (by omega)
        have ox0 := ox0.mark_farM g4 (by omega)
        have ox1 := ox1.mark_farMM g4 (by omega)
        have ox2 := ox2.mark_farMM g4 (by omega)
        have oy0 := oy0.mark_farM g4 (by omega)
        have oy1 := oy1.mark_farMM g4 (by omega)
        have oy2 := oy2.mark_farMM g4 (by omega)
        have og := m4
        clear m4
        have hqn : (((mcount 1 ((bothF xs0 ms1 ms2).getD []) : Nat) : Int) != ((mcount 1 ((bothF xs0 ms1 ms2).getD []) : Nat) : Int)) = false := by simp
        go_wp2_with fail
        refine (heldm_any Ag ng cg 1 ((bothF xs0 ms1 ms2).getD []) _ hng (by omega) (by omega) hlg og.ints).mono ?_
        rintro e W23 ⟨rfl, bh1⟩
        have S23 : W22.heap.size ≤ W23.heap.size := bh1.size
        have B23 : Below w.heap.size w W23 := Below.next B22 bh1
        have os0 := os0.below bh1
        have os1 := os1.below bh1
        have os2 := os2.below bh1
        have or := or.below bh1
        have ox0 := ox0.below bh1
        have ox1 := ox1.below bh1
        have ox2 := ox2.below bh1
        have og := og.below bh1
        have oy0 := oy0.below bh1
        have oy1 := oy1.below bh1
        have oy2 := oy2.below bh1
        go_wp2_with fail
        refine (to_any a0 len0 cap0 xs0 _ hm0 (hi0.below B23)).mono ?_
        rintro e W24 ⟨At0, ct0, rfl, ot0, bt0⟩
        have S24 : W23.heap.size ≤ W24.heap.size := bt0.size
        have B24 : Below w.heap.size w W24 := Below.next B23 bt0
        have os0 := os0.below bt0
        have os1 := os1.below bt0
        have os2 := os2.below bt0
        have or := or.below bt0
        have ox0 := ox0.below bt0
        have ox1 := ox1.below bt0
        have ox2 := ox2.below bt0
        have og := og.below bt0
        have oy0 := oy0.below bt0
        have oy1 := oy1.below bt0
        have oy2 := oy2.below bt0
        go_wp2_with fail
        refine (tom_any a1 len1 cap1 ms1 _ hm1 hB1.1 (hi1.below B24)).mono ?_
        rintro e W25 ⟨At1, ct1, rfl, ot1, bt1⟩
        have S25 : W24.heap.size ≤ W25.heap.size := bt1.size
        have B25 : Below w.heap.size w W25 := Below.next B24 bt1
        have os0 := os0.below bt1
        have os1 := os1.below bt1
        have os2 := os2.below bt1
        have or := or.below bt1
        have ox0 := ox0.below bt1
        have ox1 := ox1.below bt1
        have ox2 := ox2.below bt1
        have og := og.below bt1
        have oy0 := oy0.below bt1
        have oy1 := oy1.below bt1
        have oy2 := oy2.below bt1
        have ot0 := ot0.below bt1
        go_wp2_with fail
        refine (tom_any a2 len2 cap2 ms2 _ hm2 hB2.1 (hi2.below B25)).mono ?_
        rintro e W26 ⟨At2, ct2, rfl, ot2, bt2⟩
        have S26 : W25.heap.size ≤ W26.heap.size := bt2.size
        have B26 : Below w.heap.size w W26 := Below.next B25 bt2
        have os0 := os0.below bt2
        have os1 := os1.below bt2
        have os2 := os2.below bt2
        have or := or.below bt2
        have ox0 := ox0.below bt2
        have ox1 := ox1.below bt2
        have ox2 := ox2.below bt2
        have og := og.below bt2
        have oy0 := oy0.below bt2
        have oy1 := oy1.below bt2
        have oy2 := oy2.below bt2
        have ot0 := ot0.below bt2
        have ot1 := ot1.below bt2
        go_wp2_with fail
        refine (iboth_any At0 At1 At2 len0 ct0 len1 ct1 len2 ct2 xs0 ms1 ms2 _ ot0.putIn ot1.mrkIn ot2.mrkIn).mono ?_
        rintro e W27 ⟨Ah, nh, ch, rfl, oh, bc3⟩
        have S27 : W26.heap.size ≤ W27.heap.size := bc3.size
        have B27 : Below w.heap.size w W27 := Below.next B26 bc3
        have os0 := os0.below bc3
        have os1 := os1.below bc3
        have os2 := os2.below bc3
        have or := or.below bc3
        have ox0 := ox0.below bc3
        have ox1 := ox1.below bc3
        have ox2 := ox2.below bc3
        have og := og.below bc3
        have oy0 := oy0.below bc3
        have oy1 := oy1.below bc3
        have oy2 := oy2.below bc3
        have ot0 := ot0.below bc3
        have ot1 := ot1.below bc3
        have ot2 := ot2.below bc3
        have hnh : nh ≤ 1048576 := by have := oh.len; have := hLL.out.1; omega
        have hPh := hLL.out.2
        go_wp2_with fail
        refine (eqm_any Ah Ar nh ch nr cr ((bothF xs0 ms1 ms2).getD []) ((bothF xs0 ms1 ms2).getD []) _ hnh hnr (fun m hm => by have := totPut_mem _ m hm; omega) (fun m hm => by have := totPut_mem _ m hm; omega) oh.ints or.ints).mono ?_
        rintro e W28 ⟨rfl, be6⟩
        rw [eqMs_self]
        have S28 : W27.heap.size ≤ W28.heap.size := be6.size
        have B28 : Below w.heap.size w W28 := Below.next B27 be6
        have os0 := os0.below be6
        have os1 := os1.below be6
        have os2 := os2.below be6
        have or := or.below be6
        have ox0 := ox0.below be6
        have ox1 := ox1.below be6
        have ox2 := ox2.below be6
        have og := og.below be6
        have oy0 := oy0.below be6
        have oy1 := oy1.below be6
        have oy2 := oy2.below be6
        have ot0 := ot0.below be6
        have ot1 := ot1.below be6
        have ot2 := ot2.below be6
        have oh := oh.below be6
        go_wp2_with fail
        refine (heldm_any Ag ng cg 1 ((bothF xs0 ms1 ms2).getD []) _ hng (by omega) (by omega) hlg og.ints).mono ?_
        rintro e W29 ⟨rfl, bh2⟩
        have S29 : W28.heap.size ≤ W29.heap.size := bh2.size
        have B29 : Below w.heap.size w W29 := Below.next B28 bh2
        have os0 := os0.below bh2
        have os1 := os1.below bh2
        have os2 := os2.below bh2
        have or := or.below bh2
        have ox0 := ox0.below bh2
        have ox1 := ox1.below bh2
        have ox2 := ox2.below bh2
        have og := og.below bh2
        have oy0 := oy0.below bh2
        have oy1 := oy1.below bh2
        have oy2 := oy2.below bh2
        have ot0 := ot0.below bh2
        have ot1 := ot1.below bh2
        have ot2 := ot2.below bh2
        have oh := oh.below bh2
        go_wp2_with fail
        go_ret
        exact ⟨rfl, B29⟩

set_option maxRecDepth 100000 in
theorem lifted (os : Os) (started : os.Started) (H : Type) (enc : TypeId × Value → H) :
    ReturnsInHanded {} Try.checked os 4 .any (Rows.fnExactMarksBothSpec.pre6 enc Try.prog Try.f4 Rows.fnExactMarksBothRow.domain false) (Rows.fnExactMarksBothSpec.post enc Try.prog Try.f4 false true false false) := by
  refine returnsInHanded_of_change (C := Try.checked) own started (by kernel_rfl) Try.func4
    (ChangeSpec.witness6 (enc := enc) (C := Try.checked) false ⟨#[], #[.slice none 0 0, .slice none 0 0, .slice none 0 0], []⟩ 8 (by kernel_rfl) (by kernel_rfl) (by kernel_rfl) (by kernel_rfl)) ?_
  intro W base args ds gs before hval0 hW hcnd _
  have hval : ∀ (j : Nat) t v, Try.f4.params[j]? = some t → args[j]? = some v → Value.okWide Try.prog W .any base t v := hval0
  have hW' := hW
  obtain ⟨p, q, hA0, hV, rfl, hfz, hnd⟩ := hW
  have hA : DataW.TrodAll enc Try.prog W 0 (fun _ => true) true Try.f4.params.toList args.toList ds p := hA0
  rw [Try.params4] at hA hval
  obtain ⟨v0, vs0, d0, ds0, p0, q0, hargs, rfl, rfl, h0, r0⟩ := trodAll_cons hA
  obtain ⟨v1, vs1, d1, ds1, p1, q1, rfl, rfl, rfl, h1, r1⟩ := trodAll_cons r0
  obtain ⟨v2, vs2, d2, ds2, p2, q2, rfl, rfl, rfl, h2, r2⟩ := trodAll_cons r1
  obtain ⟨rfl, rfl, rfl⟩ := trodAll_nil r2
  obtain rfl : args = #[v0, v1, v2] := by cases args; simp_all
  obtain ⟨rfl, rfl⟩ := trodVars_none hV
  obtain ⟨a0, len0, cap0, rfl⟩ := okWide_slice Try.underlying22 (hval 0 22 v0 rfl rfl)
  have k0 := h0
  have lt0 : ∀ x ∈ p0, x.block < W.heap.size := by obtain ⟨m, hm⟩ := k0; exact DataW.trod_lt m _ _ _ hm
  obtain ⟨⟨xs0, hi0⟩, hl0, hM0, hz0⟩ := strs_in (h0.choose_spec)
  obtain ⟨a1, len1, cap1, rfl⟩ := okWide_slice Try.underlying27 (hval 1 27 v1 rfl rfl)
  have k1 := h1
  have lt1 : ∀ x ∈ p1, x.block < W.heap.size := by obtain ⟨m, hm⟩ := k1; exact DataW.trod_lt m _ _ _ hm
  obtain ⟨⟨ms1, hi1⟩, hl1, hM1, hz1⟩ := mrks_in (h1.choose_spec)
  obtain ⟨a2, len2, cap2, rfl⟩ := okWide_slice Try.underlying27 (hval 2 27 v2 rfl rfl)
  have k2 := h2
  have lt2 : ∀ x ∈ p2, x.block < W.heap.size := by obtain ⟨m, hm⟩ := k2; exact DataW.trod_lt m _ _ _ hm
  obtain ⟨⟨ms2, hi2⟩, hl2, hM2, hz2⟩ := mrks_in (h2.choose_spec)
  clear hA0 hval0
  refine (walk a0 len0 cap0 xs0 a1 len1 cap1 ms1 a2 len2 cap2 ms2 W hi0 hl0 hM0 hz0 hi1 hl1 hM1 hz1 hi2 hl2 hM2 hz2).mono fun e W' ⟨he, bel⟩ => ?_
  subst he
  exact ⟨_, rfl, _, _, _, [], _, [], hW', trodAll_mk1 (shut_bool Try.underlying4 _), (trodAll_cons_mk (Below.trod laidOut (by kernel_rfl) (of_decide_eq_true (by kernel_rfl)) k0 bel lt0) (trodAll_cons_mk (Below.trod laidOut (by kernel_rfl) (of_decide_eq_true (by kernel_rfl)) k1 bel lt1) (trodAll_cons_mk (Below.trod laidOut (by kernel_rfl) (of_decide_eq_true (by kernel_rfl)) k2 bel lt2) trodAll_mk0))), rfl, bel.frame _, fun h => by cases h⟩

theorem closed : joinedFacts Try.prog 4 Try.f4 Rows.fnExactMarksBothSpec Rows.fnExactMarksBothRow = true := by
  unfold joinedFacts
  simp only [may_enter, lifts_final, make_cut]
  kernel_rfl

theorem over : Rows.fnExactMarksBothRow.holds Try.pinned (OpenSpec.ofChange Rows.fnExactMarksBothSpec) :=
  OpenClaim.holds_of_wide 4 Try.f4 rfl rfl rfl rfl rfl rfl rfl ⟨rfl, rfl, rfl, rfl, rfl⟩ rfl rfl rfl rfl rfl (by kernel_rfl) Try.func4 closed
    (of_decide_eq_true (by kernel_rfl)) (by unfold Func.isWrapper; first | (rw [if_pos (by decide +kernel)]; kernel_rfl) | (rw [if_neg (by decide +kernel)]; exact ⟨rfl, rfl⟩))
    (fun os started H enc _ => lifted os started H enc)

theorem proved : Rows.FnExactMarksBothSaid := over
#print axioms proved
end Go.Proofs.Ytjhlcgjhdiheaaa.fnExactMarksBoth
