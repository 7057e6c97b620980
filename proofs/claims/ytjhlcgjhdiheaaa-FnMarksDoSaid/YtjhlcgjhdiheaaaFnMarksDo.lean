/- Proved: the statement 'FnMarksDoSaid': the law FnMarksDo returns true for every input, and every argument reads afterwards as it read before. No further conditions. The frame follows the kit's proof-skeleton; the walk is ours. -/
import Derived.Test.YtjhlcgjhdiheaaaRows
import Derived.Test.YtjhlcgjhdiheaaaDraw5
import Derived.Test.YtjhlcgjhdiheaaaUse
import Derived.Test.YtjhlcgjhdiheaaaUse3
import Derived.Test.YtjhlcgjhdiheaaaArg
import Derived.Test.YtjhlcgjhdiheaaaEnter
import Derived.WalkKit
import Derived.ProofKit
import Derived.OpenShut
import Derived.ShutString
import Derived.ChangeOld
import Derived.Below
namespace Go.Proofs.Ytjhlcgjhdiheaaa.fnMarksDo
open Go.ChangeShapes Go.WideShapes Go.ChangeAt Go.RowKit
open Go.ChangeMaps (open_string shut_string)
set_option linter.unusedVariables false
set_option linter.unusedSimpArgs false

theorem own : ownKnob Try.prog.godebug = none := by kernel_rfl
theorem laidOut : laidOutB Try.prog = true := by kernel_rfl

set_option maxRecDepth 20000 in
set_option maxHeartbeats 8000000 in
theorem walk (a0 : Option Addr) (len0 cap0 : Nat) (z0 : List Int) (w : World) (w0 : IsRow .u8 w a0 len0 cap0 z0) :
    Calls Try.prog 19 #[.slice a0 len0 cap0] w fun e w' => e = .returned (.bool true) ∧ Below w.heap.size w w' := by
  have hy0 := w0.bytes
  have hl0 := w0.len_le
  have hc0 := w0.len_cap
  clear w0
  by_cases hm0 : len0 ≤ 1048576
  · go_enter Try.func19, Try.ntmps19
    go_wp2_with fail
    refine (drawDo a0 len0 cap0 _ hy0 hm0 hc0).mono ?_
    rintro e W1 ⟨A, n, c, ws, B, m, d, ms, rfl, hn, hm, o, k, bd⟩
    have S1 : w.heap.size ≤ W1.heap.size := bd.size
    have B1 : Below w.heap.size w W1 := bd
    have hlen_o := Lib.hid o.1.len
    have hcap_o := o.2.1
    have hmax_o := o.2.2.1
    have hlen_k := Lib.hid k.1.len
    have hcap_k := k.2.1
    have hmax_k := k.2.2.1
    cases hv : valid ws ms with
    | false =>
      go_wp2_with fail
      refine (ido_no A B n c m d ws ms _ o k.1 (by omega) hv).mono ?_
      rintro e W2 ⟨Ag, ng, cg, rfl, og, qg⟩
      have S2 : W1.heap.size ≤ W2.heap.size := qg.size
      have B2 : Below w.heap.size w W2 := Below.next B1 qg
      have o := o.below qg
      have k := k.below qg
      go_wp2_with fail
      refine (sdo_no A B n c m d ws ms _ o k.1 (by omega) hv).mono ?_
      rintro e W3 ⟨Ar, nr, cr, rfl, or, qr⟩
      have S3 : W2.heap.size ≤ W3.heap.size := qr.size
      have B3 : Below w.heap.size w W3 := Below.next B2 qr
      have o := o.below qr
      have k := k.below qr
      have og := og.below qr
      have hng : ng ≤ 1000 := by have := og.len; simp at this; omega
      have hnr : nr ≤ 1000 := by have := or.len; simp at this; omega
      clear hv
      go_wp2_with fail
      refine (eqt_self Ag Ar ng cg nr cr _ _ (by omega) (by omega) og.ints or.ints).mono ?_
      rintro e W4 ⟨rfl, b5⟩
      have S4 : W3.heap.size ≤ W4.heap.size := b5.size
      have B4 : Below w.heap.size w W4 := Below.next B3 b5
      have o := o.below b5
      have k := k.below b5
      have og := og.below b5
      have or := or.below b5
      go_wp2_with fail
      refine (eqt_self Ag Ar ng cg nr cr _ _ (by omega) (by omega) og.ints or.ints).mono ?_
      rintro e W5 ⟨rfl, b6⟩
      have S5 : W4.heap.size ≤ W5.heap.size := b6.size
      have B5 : Below w.heap.size w W5 := Below.next B4 b6
      have o := o.below b6
      have k := k.below b6
      have og := og.below b6
      have or := or.below b6
      go_wp2
      go_ret
      exact ⟨rfl, B5⟩
    | true =>
      have HV := Lib.hid hv
      have hm20 := (valid_bound hv).1
      rw [hlen_k.out] at hm20
      have hdl := Lib.hid (Mk.speech_parts wok (Mk.valid_after wok hv)).1
      have hvb := Lib.hid (Mk.valid_back wok hv)
      have hdd := Lib.hid (Mk.do_do wok hv)
      have sp1 := Lib.hid (Mk.valid_parts wok hv).1
      have sp2 := Lib.hid (Mk.valid_after wok hv)
      have hvm := Lib.hid (valid_madeM sp1.out sp2.out)
      have hdm := Lib.hid (do_madeM ws (Mk.doM ws 0 ms))
      have hgr := Lib.hid (grow_all hv)
      have hgs := Lib.hid (grow_small hv)
      have hn20 := speak_len sp1.out
      rw [hlen_o.out] at hn20
      clear hv
      go_wp2_with fail
      refine (ido_yes A B n c m d ws ms _ o k.1 (by omega) HV.out).mono ?_
      rintro e W2 ⟨Ag, ng, cg, rfl, og, qg⟩
      have S2 : W1.heap.size ≤ W2.heap.size := qg.size
      have B2 : Below w.heap.size w W2 := Below.next B1 qg
      have o := o.below qg
      have k := k.below qg
      go_wp2_with fail
      refine (sdo_yes A B n c m d ws ms _ o k.1 (by omega) HV.out).mono ?_
      rintro e W3 ⟨Ar, nr, cr, rfl, or, qr⟩
      have S3 : W2.heap.size ≤ W3.heap.size := qr.size
      have B3 : Below w.heap.size w W3 := Below.next B2 qr
      have o := o.below qr
      have k := k.below qr
      have og := og.below qr
      have hng : ng ≤ 20 := by rw [← og.len]; exact hdl.out
      have hnr : nr ≤ 20 := by rw [← or.len]; exact hdl.out
      go_wp2_with fail
      refine (eqt_self Ag Ar ng cg nr cr _ _ (by omega) (by omega) og.ints or.ints).mono ?_
      rintro e W4 ⟨rfl, b5⟩
      have S4 : W3.heap.size ≤ W4.heap.size := b5.size
      have B4 : Below w.heap.size w W4 := Below.next B3 b5
      have o := o.below b5
      have k := k.below b5
      have og := og.below b5
      have or := or.below b5
      go_wp2_with fail
      refine (iback_yes A B n c m d ws ms _ o k.1 (by omega) HV.out).mono ?_
      rintro e W5 ⟨Ay, ny, cy, rfl, oy, qy⟩
      have S5 : W4.heap.size ≤ W5.heap.size := qy.size
      have B5 : Below w.heap.size w W5 := Below.next B4 qy
      have o := o.below qy
      have k := k.below qy
      have og := og.below qy
      have or := or.below qy
      obtain rfl : m = ny := by rw [← oy.len, Mk.backM_len, hlen_k.out]
      go_wp2_with fail
      refine (ido_yes Ag Ay ng cg m cy _ _ _ og.putIn oy.ints (by omega) hvb.out).mono ?_
      rintro e W6 ⟨Ax, nx, cx, rfl, ox, qx⟩
      have S6 : W5.heap.size ≤ W6.heap.size := qx.size
      have B6 : Below w.heap.size w W6 := Below.next B5 qx
      have o := o.below qx
      have k := k.below qx
      have og := og.below qx
      have or := or.below qx
      have oy := oy.below qx
      rw [hdd.out] at ox
      have hnx : nx ≤ 20 := by rw [← ox.len, hlen_o.out]; exact hn20
      go_wp2_with fail
      refine (imake_yes A Ag n c ng cg ws _ _ o og.putIn sp1.out sp2.out).mono ?_
      rintro e W7 ⟨Az, nz, cz, rfl, oz, qz⟩
      have S7 : W6.heap.size ≤ W7.heap.size := qz.size
      have B7 : Below w.heap.size w W7 := Below.next B6 qz
      have o := o.below qz
      have k := k.below qz
      have og := og.below qz
      have or := or.below qz
      have oy := oy.below qz
      have ox := ox.below qz
      have hnz : nz ≤ 20 := by rw [← oz.len]; exact (valid_bound hvm.out).1
      go_wp2_with fail
      refine (ido_yes A Az n c nz cz ws _ _ o oz.ints (by omega) hvm.out).mono ?_
      rintro e W8 ⟨Av, nv, cv, rfl, ov, qv⟩
      have S8 : W7.heap.size ≤ W8.heap.size := qv.size
      have B8 : Below w.heap.size w W8 := Below.next B7 qv
      have o := o.below qv
      have k := k.below qv
      have og := og.below qv
      have or := or.below qv
      have oy := oy.below qv
      have ox := ox.below qv
      have oz := oz.below qv
      rw [hdm.out] at ov
      have hnv : nv ≤ 20 := by rw [← ov.len]; exact hdl.out
      have hlg := Lib.hid og.len
      go_wp2_with fail
      go_loopw [17, 18] (fun dv i wr => ∃ j q : Nat, j ≤ m ∧ i = .int .i64 j ∧ (∃ t : Int, dv = .int .i64 t ∧ Hid (t = Mk.grow (ms.take j)) ∧ -20 * (j : Int) ≤ t ∧ t ≤ 20 * (j : Int)) ∧ wr = W8.drewN q) (fun _ i _ => m - (intOf i).toNat)
      case atStart => exact ⟨0, 0, Nat.zero_le _, rfl, ⟨0, rfl, Lib.hid (by simp [Mk.grow]), by omega, by omega⟩, rfl⟩
      case round =>
        obtain ⟨j, p, hj, rfl, ⟨t, rfl, hT, t1, t2⟩, rfl⟩ := hrel
        by_cases hlt : j < m
        · obtain ⟨b0, of0, x, rfl, hx, _, _, k0, k1, A', n', c', k2, hp⟩ := k.1.at_ hlt
          obtain ⟨_, _, f3, f4, f5, _, f7, _⟩ := fit_of HV.out (mem_at hx)
          rw [hp.len] at f5
          have hT2 : Hid (t + (n' : Int) - x.cut = Mk.grow (ms.take (j + 1))) := Lib.hid (by rw [grow_go hx, ← hT.out, hp.len]; omega)
          have hs := hgs.out (j + 1) (by rw [hlen_k.out]; omega)
          rw [← hT2.out] at hs
          obtain ⟨s1, s2⟩ := hs
          have f6 : x.cut ≤ 20 := by obtain ⟨a1, a2, _⟩ := fit_of HV.out (mem_at hx); omega
          clear hx hp hT f4 f7
          have u1 : IntKind.i64.wrap (t + (n' : Int)) = t + (n' : Int) := IntWalk.i64_in _ (by omega)
          have u2 : IntKind.i64.wrap (t + (n' : Int) - x.cut) = t + (n' : Int) - x.cut := IntWalk.i64_in _ (by omega)
          have i1 : (0 : Int) ≤ (j : Int) := by omega
          have i2 : (j : Int) < (m : Int) := by omega
          go_wp2_with fail
          go_quiet (fail)
          go_wp2_with fail
          go_roundw
          case rel => exact ⟨j + 1, _, by omega, by go_num, ⟨_, rfl, hT2, by omega, by omega⟩, by first | rfl | exact (World.drewN_drewN _ _ _).symm | (simp only [World.drewN_drewN]; rfl)⟩
          case measure => simp [intOf]; omega
        · obtain rfl : j = m := by omega
          have hTf : Hid (((ng : Int) == (n : Int) + t) = true) := Lib.hid (by rw [beq_iff_eq, hT.out, List.take_of_length_le (by rw [hlen_k.out]; exact Nat.le_refl _), ← hlg.out, ← hlen_o.out]; exact hgr.out)
          have u3 : IntKind.i64.wrap ((n : Int) + t) = (n : Int) + t := IntWalk.i64_in _ (by omega)
          have hfin := hTf.out
          have bq : Below W8.heap.size W8 (W8.drewN p) := below_drewN (Below.refl _ _) p
          generalize W8.drewN p = W9 at *
          have S9 : W8.heap.size ≤ W9.heap.size := bq.size
          have B9 : Below w.heap.size w W9 := Below.next B8 bq
          have o := o.below bq
          have k := k.below bq
          have og := og.below bq
          have or := or.below bq
          have oy := oy.below bq
          have ox := ox.below bq
          have oz := oz.below bq
          have ov := ov.below bq
          go_wp2_with fail
          refine (eqt_self Ax A nx cx n c ws _ (by omega) (by omega) ox.ints o.1).mono ?_
          rintro e W10 ⟨rfl, b8⟩
          have S10 : W9.heap.size ≤ W10.heap.size := b8.size
          have B10 : Below w.heap.size w W10 := Below.next B9 b8
          have o := o.below b8
          have k := k.below b8
          have og := og.below b8
          have or := or.below b8
          have oy := oy.below b8
          have ox := ox.below b8
          have oz := oz.below b8
          have ov := ov.below b8
          go_wp2_with fail
          refine (eqt_self Av Ag nv cv ng cg _ _ (by omega) (by omega) ov.ints og.ints).mono ?_
          rintro e W11 ⟨rfl, b9⟩
          have S11 : W10.heap.size ≤ W11.heap.size := b9.size
          have B11 : Below w.heap.size w W11 := Below.next B10 b9
          have o := o.below b9
          have k := k.below b9
          have og := og.below b9
          have or := or.below b9
          have oy := oy.below b9
          have ox := ox.below b9
          have oz := oz.below b9
          have ov := ov.below b9
          go_wp2
          go_ret
          exact ⟨rfl, B11⟩
  · go_enter Try.func19, Try.ntmps19
    go_wp2
    go_ret
    exact ⟨rfl, Below.refl _ _⟩

set_option maxRecDepth 100000 in
theorem lifted (os : Os) (started : os.Started) (H : Type) (enc : TypeId × Value → H) :
    ReturnsInHanded {} Try.checked os 19 .any (Rows.fnMarksDoSpec.pre6 enc Try.prog Try.f19 Rows.fnMarksDoRow.domain false) (Rows.fnMarksDoSpec.post enc Try.prog Try.f19 false true false false) := by
  refine returnsInHanded_of_change (C := Try.checked) own started (by kernel_rfl) Try.func19
    (ChangeSpec.witness6 (enc := enc) (C := Try.checked) false ⟨#[], #[.slice none 0 0], []⟩ 8 (by kernel_rfl) (by kernel_rfl) (by kernel_rfl) (by kernel_rfl)) ?_
  intro W base args ds gs before hval0 hW hcnd _
  have hval : ∀ (j : Nat) t v, Try.f19.params[j]? = some t → args[j]? = some v → Value.okWide Try.prog W .any base t v := hval0
  have hW' := hW
  obtain ⟨p, q, hA0, hV, rfl, hfz, hnd⟩ := hW
  have hA : DataW.TrodAll enc Try.prog W 0 (fun _ => true) true Try.f19.params.toList args.toList ds p := hA0
  rw [Try.params19] at hA hval
  obtain ⟨v0, vs0, d0, ds0, p0, q0, hargs, rfl, rfl, h0, r0⟩ := trodAll_cons hA
  obtain ⟨rfl, rfl, rfl⟩ := trodAll_nil r0
  obtain rfl : args = #[v0] := by cases args; simp_all
  obtain ⟨rfl, rfl⟩ := trodVars_none hV
  obtain ⟨a0, len0, cap0, rfl⟩ := okWide_slice Try.underlying39 (hval 0 39 v0 rfl rfl)
  have k0 := h0
  have lt0 : ∀ x ∈ p0, x.block < W.heap.size := by obtain ⟨m, hm⟩ := k0; exact DataW.trod_lt m _ _ _ hm
  obtain ⟨z0, w0⟩ : ∃ zs, IsRow .u8 W a0 len0 cap0 zs := by
    obtain ⟨fuel, hf⟩ := h0
    rcases open_ints Try.underlying39 Try.underlying5 (by kernel_rfl) hf with ⟨hcs, _⟩ | ⟨x, l, c, zs, hcs, _, hl, hm, hz, _, hcell, hwz⟩
    · simp [Value.cells] at hcs
      obtain ⟨rfl, rfl, rfl⟩ := hcs
      exact ⟨[], .inl ⟨rfl, rfl, rfl, rfl⟩⟩
    · simp [Value.cells] at hcs
      obtain ⟨rfl, rfl, rfl⟩ := hcs
      exact ⟨zs, .inr ⟨_, rfl, hl, hm, by simpa using hz, hcell, hwz⟩⟩
  clear hA0 hval0
  refine (walk a0 len0 cap0 z0 W w0).mono fun e W' ⟨he, bel⟩ => ?_
  subst he
  exact ⟨_, rfl, _, _, _, [], _, [], hW', trodAll_mk1 (shut_bool Try.underlying4 _), (trodAll_cons_mk (Below.trod laidOut (by kernel_rfl) (of_decide_eq_true (by kernel_rfl)) k0 bel lt0) trodAll_mk0), rfl, bel.frame _, fun h => by cases h⟩

theorem closed : joinedFacts Try.prog 19 Try.f19 Rows.fnMarksDoSpec Rows.fnMarksDoRow = true := by
  unfold joinedFacts
  simp only [may_enter, lifts_final, make_cut]
  kernel_rfl

theorem over : Rows.fnMarksDoRow.holds Try.pinned (OpenSpec.ofChange Rows.fnMarksDoSpec) :=
  OpenClaim.holds_of_wide 19 Try.f19 rfl rfl rfl rfl rfl rfl rfl ⟨rfl, rfl, rfl, rfl, rfl⟩ rfl rfl rfl rfl rfl (by kernel_rfl) Try.func19 closed
    (of_decide_eq_true (by kernel_rfl)) (by unfold Func.isWrapper; first | (rw [if_pos (by decide +kernel)]; kernel_rfl) | (rw [if_neg (by decide +kernel)]; exact ⟨rfl, rfl⟩))
    (fun os started H enc _ => lifted os started H enc)

theorem proved : Rows.FnMarksDoSaid := over
#print axioms proved
end Go.Proofs.Ytjhlcgjhdiheaaa.fnMarksDo
