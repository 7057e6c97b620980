/- Proved: the statement 'FnMarksShiftSaid': the law FnMarksShift returns true for every input, and every argument reads afterwards as it read before. No further conditions. The frame follows the kit's proof-skeleton; the walk is ours. -/
import Derived.Test.YtjhlcgjhdiheaaaRows
import Derived.Test.YtjhlcgjhdiheaaaDraw5
import Derived.Test.YtjhlcgjhdiheaaaUse
import Derived.Test.YtjhlcgjhdiheaaaArg
import Derived.Test.YtjhlcgjhdiheaaaEnter
import Derived.WalkKit
import Derived.ProofKit
import Derived.OpenShut
import Derived.ShutString
import Derived.ChangeOld
import Derived.Below
namespace Go.Proofs.Ytjhlcgjhdiheaaa.fnMarksShift
open Go.ChangeShapes Go.WideShapes Go.ChangeAt Go.RowKit
open Go.ChangeMaps (open_string shut_string)
set_option linter.unusedVariables false
set_option linter.unusedSimpArgs false

theorem own : ownKnob Try.prog.godebug = none := by kernel_rfl
theorem laidOut : laidOutB Try.prog = true := by kernel_rfl

set_option maxRecDepth 20000 in
set_option maxHeartbeats 8000000 in
theorem walk (a0 : Option Addr) (len0 cap0 : Nat) (z0 : List Int) (w : World) (w0 : IsRow .u8 w a0 len0 cap0 z0) :
    Calls Try.prog 16 #[.slice a0 len0 cap0] w fun e w' => e = .returned (.bool true) ∧ Below w.heap.size w w' := by
  have hy0 := w0.bytes
  have hl0 := w0.len_le
  have hc0 := w0.len_cap
  clear w0
  by_cases hm0 : len0 ≤ 1048576
  · go_enter Try.func16, Try.ntmps16
    go_wp2_with fail
    refine (drawShift a0 len0 cap0 _ hy0 hm0 hc0).mono ?_
    rintro e W1 ⟨A, n, c, ws, B, m, d, ms, i, rfl, hn, hm, i0, i1, o, k, bd⟩
    have S1 : w.heap.size ≤ W1.heap.size := bd.size
    have B1 : Below w.heap.size w W1 := bd
    have hlen_o := Lib.hid o.1.len
    have hcap_o := o.2.1
    have hmax_o := o.2.2.1
    have hlen_k := Lib.hid k.1.len
    have hcap_k := k.2.1
    have hmax_k := k.2.2.1
    have hq : (shiftV ws ms i != shiftV ws ms i) = false := by simp
    have hq2 : (shiftV ws ms i == shiftV ws ms i) = true := by simp
    cases hk : shiftOk ws ms i with
    | false =>
      go_wp2_with fail
      refine (ishift_is A B n c m d ws ms _ o k.1 (by omega) i _ _ hk rfl).mono ?_
      rintro e W2 ⟨rfl, b2⟩
      have S2 : W1.heap.size ≤ W2.heap.size := b2.size
      have B2 : Below w.heap.size w W2 := Below.next B1 b2
      have o := o.below b2
      have k := k.below b2
      go_wp2_with fail
      refine (sshift_is A B n c m d ws ms _ o k.1 (by omega) i _ _ hk rfl).mono ?_
      rintro e W3 ⟨rfl, b3⟩
      have S3 : W2.heap.size ≤ W3.heap.size := b3.size
      have B3 : Below w.heap.size w W3 := Below.next B2 b3
      have o := o.below b3
      have k := k.below b3
      clear hk
      go_wp2
      go_ret
      exact ⟨rfl, B3⟩
    | true =>
      obtain ⟨hv, j0, j1, _⟩ := shift_parts hk
      rw [hlen_o.out] at j1
      obtain ⟨kk, rfl⟩ := Int.eq_ofNat_of_zero_le j0
      obtain ⟨v, f1, f2, f3, f4, f5, f6, f7⟩ := shift_facts hk
      have HK := Lib.hid hk
      have HV := Lib.hid hv
      have F1 := Lib.hid f1
      have F3 := Lib.hid f3
      have F5 := Lib.hid f5
      have F6 := Lib.hid f6
      have F7 := Lib.hid f7
      have hdl := Lib.hid (Mk.speech_parts wok (Mk.valid_after wok hv)).1
      have hm20 := (valid_bound hv).1
      rw [hlen_k.out] at hm20
      have hk2 : kk < n := by omega
      have F2 := Lib.hid f2
      have hqv : ((v : Int) != (v : Int)) = false := by simp
      clear hk hv f1 f2 f3 f4 f5 f6 f7 hq hq2 j0 j1
      go_wp2_with fail
      refine (ishift_is A B n c m d ws ms _ o k.1 (by omega) _ _ _ HK.out F1.out).mono ?_
      rintro e W2 ⟨rfl, b2⟩
      have S2 : W1.heap.size ≤ W2.heap.size := b2.size
      have B2 : Below w.heap.size w W2 := Below.next B1 b2
      have o := o.below b2
      have k := k.below b2
      go_wp2_with fail
      refine (sshift_is A B n c m d ws ms _ o k.1 (by omega) _ _ _ HK.out F1.out).mono ?_
      rintro e W3 ⟨rfl, b3⟩
      have S3 : W2.heap.size ≤ W3.heap.size := b3.size
      have B3 : Below w.heap.size w W3 := Below.next B2 b3
      have o := o.below b3
      have k := k.below b3
      go_wp2_with fail
      refine (ido_yes A B n c m d ws ms _ o k.1 (by omega) HV.out).mono ?_
      rintro e W4 ⟨Ax, nx, cx, rfl, ox, qx⟩
      have S4 : W3.heap.size ≤ W4.heap.size := qx.size
      have B4 : Below w.heap.size w W4 := Below.next B3 qx
      have o := o.below qx
      have k := k.below qx
      go_wp2_with fail
      refine (iback_yes A B n c m d ws ms _ o k.1 (by omega) HV.out).mono ?_
      rintro e W5 ⟨Ay, ny, cy, rfl, oy, qy⟩
      have S5 : W4.heap.size ≤ W5.heap.size := qy.size
      have B5 : Below w.heap.size w W5 := Below.next B4 qy
      have o := o.below qy
      have k := k.below qy
      have ox := ox.below qy
      have hnx : nx ≤ 20 := by rw [← ox.len]; exact hdl.out
      obtain rfl : m = ny := by rw [← oy.len, Mk.backM_len, hlen_k.out]
      have hvx : v < nx := by rw [← ox.len]; exact F2.out
      obtain ⟨b0, of0, x, rfl, hx, _, ccx⟩ := ox.ints.at_ hvx
      obtain ⟨b1, of1, y, rfl, hy, _, ccy⟩ := o.1.at_ hk2
      have exy : (x.toList == y.toList) = true := by
        have := F3.out
        rw [hx, hy] at this
        injection this with this
        rw [bytes_eq]; simp [this]
      clear hx hy
      have u1 : (0 : Int) ≤ (v : Int) := by omega
      have u2 : (v : Int) < (nx : Int) := by omega
      have u3 : (0 : Int) ≤ (kk : Int) := by omega
      have u4 : (kk : Int) < (n : Int) := by omega
      go_wp2_with fail
      go_quiet (fail)
      have bq : Below W5.heap.size W5 (W5.drewN nq) := below_drewN (Below.refl _ _) nq
      generalize W5.drewN nq = W6 at *
      have S6 : W5.heap.size ≤ W6.heap.size := bq.size
      have B6 : Below w.heap.size w W6 := Below.next B5 bq
      have o := o.below bq
      have k := k.below bq
      have ox := ox.below bq
      have oy := oy.below bq
      go_wp2_with fail
      refine (ishift_is _ Ay nx cx m cy _ _ _ ox.putIn oy.ints (by omega) _ _ _ F5.out F6.out).mono ?_
      rintro e W7 ⟨rfl, b8⟩
      have S7 : W6.heap.size ≤ W7.heap.size := b8.size
      have B7 : Below w.heap.size w W7 := Below.next B6 b8
      have o := o.below b8
      have k := k.below b8
      have ox := ox.below b8
      have oy := oy.below b8
      have hkk : ((kk : Int) == (kk : Int)) = true := by simp
      cases hn2 : shiftOk ws ms ((kk : Int) + 1) with
      | false =>
        go_wp2_with fail
        refine (ishift_is _ _ n c m d ws ms _ o k.1 (by omega) _ _ _ hn2 rfl).mono ?_
        rintro e W8 ⟨rfl, b9⟩
        have S8 : W7.heap.size ≤ W8.heap.size := b9.size
        have B8 : Below w.heap.size w W8 := Below.next B7 b9
        have o := o.below b9
        have k := k.below b9
        have ox := ox.below b9
        have oy := oy.below b9
        clear hn2
        go_wp2
        go_ret
        exact ⟨rfl, B8⟩
      | true =>
        have hlt := F7.out hn2
        have hlt2 : decide ((v : Int) < shiftV ws ms ((kk : Int) + 1)) = true := decide_eq_true hlt
        go_wp2_with fail
        refine (ishift_is _ _ n c m d ws ms _ o k.1 (by omega) _ _ _ hn2 rfl).mono ?_
        rintro e W8 ⟨rfl, b9⟩
        have S8 : W7.heap.size ≤ W8.heap.size := b9.size
        have B8 : Below w.heap.size w W8 := Below.next B7 b9
        have o := o.below b9
        have k := k.below b9
        have ox := ox.below b9
        have oy := oy.below b9
        clear hn2
        go_wp2
        go_ret
        exact ⟨rfl, B8⟩
  · go_enter Try.func16, Try.ntmps16
    go_wp2
    go_ret
    exact ⟨rfl, Below.refl _ _⟩

set_option maxRecDepth 100000 in
theorem lifted (os : Os) (started : os.Started) (H : Type) (enc : TypeId × Value → H) :
    ReturnsInHanded {} Try.checked os 16 .any (Rows.fnMarksShiftSpec.pre6 enc Try.prog Try.f16 Rows.fnMarksShiftRow.domain false) (Rows.fnMarksShiftSpec.post enc Try.prog Try.f16 false true false false) := by
  refine returnsInHanded_of_change (C := Try.checked) own started (by kernel_rfl) Try.func16
    (ChangeSpec.witness6 (enc := enc) (C := Try.checked) false ⟨#[], #[.slice none 0 0], []⟩ 8 (by kernel_rfl) (by kernel_rfl) (by kernel_rfl) (by kernel_rfl)) ?_
  intro W base args ds gs before hval0 hW hcnd _
  have hval : ∀ (j : Nat) t v, Try.f16.params[j]? = some t → args[j]? = some v → Value.okWide Try.prog W .any base t v := hval0
  have hW' := hW
  obtain ⟨p, q, hA0, hV, rfl, hfz, hnd⟩ := hW
  have hA : DataW.TrodAll enc Try.prog W 0 (fun _ => true) true Try.f16.params.toList args.toList ds p := hA0
  rw [Try.params16] at hA hval
  obtain ⟨v0, vs0, d0, ds0, p0, q0, hargs, rfl, rfl, h0, r0⟩ := trodAll_cons hA
  obtain ⟨rfl, rfl, rfl⟩ := trodAll_nil r0
  obtain rfl : args = #[v0] := by cases args; simp_all
  obtain ⟨rfl, rfl⟩ := trodVars_none hV
  obtain ⟨a0, len0, cap0, rfl⟩ := okWide_slice Try.underlying39 (hval 0 39 v0 rfl rfl)
  have k0 := h0
  have lt0 : ∀ x ∈ p0, x.block < W.heap.size := by obtain ⟨m, hm⟩ := k0; exact DataW.trod_lt m _ _ _ hm
  obtain ⟨z0, w0⟩ : ∃ zs, IsRow .u8 W a0 len0 cap0 zs := by
    obtain ⟨fuel, hf⟩ := h0
    rcases open_ints Try.underlying39 Try.underlying5 (by kernel_rfl) hf with ⟨hcs, _⟩ | ⟨x, l, c, zs, hcs, _, hl, hm, hz, _, hcell, hwz⟩
    · simp [Value.cells] at hcs
      obtain ⟨rfl, rfl, rfl⟩ := hcs
      exact ⟨[], .inl ⟨rfl, rfl, rfl, rfl⟩⟩
    · simp [Value.cells] at hcs
      obtain ⟨rfl, rfl, rfl⟩ := hcs
      exact ⟨zs, .inr ⟨_, rfl, hl, hm, by simpa using hz, hcell, hwz⟩⟩
  clear hA0 hval0
  refine (walk a0 len0 cap0 z0 W w0).mono fun e W' ⟨he, bel⟩ => ?_
  subst he
  exact ⟨_, rfl, _, _, _, [], _, [], hW', trodAll_mk1 (shut_bool Try.underlying4 _), (trodAll_cons_mk (Below.trod laidOut (by kernel_rfl) (of_decide_eq_true (by kernel_rfl)) k0 bel lt0) trodAll_mk0), rfl, bel.frame _, fun h => by cases h⟩

theorem closed : joinedFacts Try.prog 16 Try.f16 Rows.fnMarksShiftSpec Rows.fnMarksShiftRow = true := by
  unfold joinedFacts
  simp only [may_enter, lifts_final, make_cut]
  kernel_rfl

theorem over : Rows.fnMarksShiftRow.holds Try.pinned (OpenSpec.ofChange Rows.fnMarksShiftSpec) :=
  OpenClaim.holds_of_wide 16 Try.f16 rfl rfl rfl rfl rfl rfl rfl ⟨rfl, rfl, rfl, rfl, rfl⟩ rfl rfl rfl rfl rfl (by kernel_rfl) Try.func16 closed
    (of_decide_eq_true (by kernel_rfl)) (by unfold Func.isWrapper; first | (rw [if_pos (by decide +kernel)]; kernel_rfl) | (rw [if_neg (by decide +kernel)]; exact ⟨rfl, rfl⟩))
    (fun os started H enc _ => lifted os started H enc)

theorem proved : Rows.FnMarksShiftSaid := over
#print axioms proved
end Go.Proofs.Ytjhlcgjhdiheaaa.fnMarksShift
