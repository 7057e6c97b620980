/- Proved: the statement 'FnMarksSizeSaid': the law FnMarksSize returns true for every input, and every argument reads afterwards as it read before. No further conditions. The frame follows the kit's proof-skeleton; the walk is ours. -/
import Derived.Test.YtjhlcgjhdiheaaaRows
import Derived.Test.YtjhlcgjhdiheaaaDraw5
import Derived.Test.YtjhlcgjhdiheaaaSameM
import Derived.Test.YtjhlcgjhdiheaaaLawsR
import Derived.Test.YtjhlcgjhdiheaaaBack4
import Derived.Test.YtjhlcgjhdiheaaaArg
import Derived.Test.YtjhlcgjhdiheaaaEnter
import Derived.WalkKit
import Derived.ProofKit
import Derived.OpenShut
import Derived.ShutString
import Derived.ChangeOld
import Derived.Below
namespace Go.Proofs.Ytjhlcgjhdiheaaa.fnMarksSize
open Go.ChangeShapes Go.WideShapes Go.ChangeAt Go.RowKit
open Go.ChangeMaps (open_string shut_string)
set_option linter.unusedVariables false
set_option linter.unusedSimpArgs false

theorem own : ownKnob Try.prog.godebug = none := by kernel_rfl
theorem laidOut : laidOutB Try.prog = true := by kernel_rfl

set_option maxRecDepth 20000 in
set_option maxHeartbeats 8000000 in
theorem walk (a0 : Option Addr) (len0 cap0 : Nat) (z0 : List Int) (w : World) (w0 : IsRow .u8 w a0 len0 cap0 z0) :
    Calls Try.prog 17 #[.slice a0 len0 cap0] w fun e w' => e = .returned (.bool true) ∧ Below w.heap.size w w' := by
  have hy0 := w0.bytes
  have hl0 := w0.len_le
  have hc0 := w0.len_cap
  clear w0
  by_cases hm0 : len0 ≤ 1048576
  · go_enter Try.func17, Try.ntmps17
    go_wp2_with fail
    refine (drawSize a0 len0 cap0 _ hy0 hm0 hc0).mono ?_
    rintro e W1 ⟨A, n, c, ws, B, m, d, ms, rfl, hn, hm, o, k, bd⟩
    have S1 : w.heap.size ≤ W1.heap.size := bd.size
    have B1 : Below w.heap.size w W1 := bd
    have hlen_o := Lib.hid o.1.len
    have hcap_o := o.2.1
    have hmax_o := o.2.2.1
    have hlen_k := Lib.hid k.1.len
    have hcap_k := k.2.1
    have hmax_k := k.2.2.1
    go_wp2_with fail
    refine (isizem_any A B n c m d ws ms _ (by omega) (by omega) o.1 k.1).mono ?_
    rintro e W2 ⟨rfl, b2⟩
    have S2 : W1.heap.size ≤ W2.heap.size := b2.size
    have B2 : Below w.heap.size w W2 := Below.next B1 b2
    have o := o.below b2
    have k := k.below b2
    go_wp2_with fail
    refine (ssizem_any A B n c m d ws ms _ (by omega) (by omega) o.1 k.1).mono ?_
    rintro e W3 ⟨rfl, b3⟩
    have S3 : W2.heap.size ≤ W3.heap.size := b3.size
    have B3 : Below w.heap.size w W3 := Below.next B2 b3
    have o := o.below b3
    have k := k.below b3
    have hq : (sizeI ws ms != sizeI ws ms) = false := by simp
    have hq2 : (sizeI ws ms == sizeI ws ms) = true := by simp
    by_cases hneg : sizeI ws ms < 0
    · go_wp2
      go_ret
      exact ⟨rfl, B3⟩
    · have hv := (sizeI_parts (ws := ws) (ms := ms) (by omega)).1
      obtain ⟨z1, z2, z3⟩ := size_facts hv
      have Z1 := Lib.hid z1
      rw [hlen_k.out] at z2
      have hdo := Lib.hid (doF_yes hv)
      have hbk := Lib.hid (backF_yes hv)
      have hdl := Lib.hid (Mk.speech_parts wok (Mk.valid_after wok hv)).1
      have hm20 : m ≤ 20 := by rw [← hlen_k.out]; exact (Mk.valid_parts wok hv).2.1
      clear z1 hv
      go_wp2_with fail
      refine (ido_any A B n c m d ws ms _ (by omega) (by omega) o.2.1 o.2.2.2 o.1 k.1).mono ?_
      rw [hdo.out]
      rintro e W4 ⟨Ax, nx, cx, rfl, ox, bx⟩
      have S4 : W3.heap.size ≤ W4.heap.size := bx.size
      have B4 : Below w.heap.size w W4 := Below.next B3 bx
      have o := o.below bx
      have k := k.below bx
      replace ox : OwnS _ _ _ Ax nx cx (Mk.doM ws 0 ms) := ox
      have hnx : nx ≤ 20 := by rw [← ox.len]; exact hdl.out
      go_wp2_with fail
      refine (iback_any A B n c m d ws ms _ (by omega) (by omega) o.2.1 o.2.2.1 o.2.2.2 o.1 k.1).mono ?_
      rw [hbk.out]
      rintro e W5 ⟨Ay, ny, cy, rfl, oy, by_⟩
      have S5 : W4.heap.size ≤ W5.heap.size := by_.size
      have B5 : Below w.heap.size w W5 := Below.next B4 by_
      have o := o.below by_
      have k := k.below by_
      have ox := ox.below by_
      replace oy : OwnM _ _ _ Ay ny cy (Mk.backM ws 0 ms) := oy
      have hny : ny ≤ 20 := by rw [← oy.len, Mk.backM_len, hlen_k.out]; exact hm20
      go_wp2_with fail
      refine (isizem_any Ax Ay nx cx ny cy _ _ _ (by omega) (by omega) ox.ints oy.ints).mono ?_
      rw [Z1.out]
      rintro e W6 ⟨rfl, b6⟩
      have S6 : W5.heap.size ≤ W6.heap.size := b6.size
      have B6 : Below w.heap.size w W6 := Below.next B5 b6
      have o := o.below b6
      have k := k.below b6
      have ox := ox.below b6
      have oy := oy.below b6
      have z3' : decide (farI ws (Mk.doM ws 0 ms) ≤ sizeI ws ms) = true := decide_eq_true z3
      have t1 : ((sizeI ws ms == 0) == ((m : Int) == 0)) = true := by rw [beq_iff_eq, Bool.eq_iff_iff, beq_iff_eq, beq_iff_eq, z2]; omega
      go_wp2_with fail
      refine (ifar_any A Ax n c nx cx ws _ _ (by omega) (by omega) o.1 ox.ints).mono ?_
      rintro e W7 ⟨rfl, b7⟩
      have S7 : W6.heap.size ≤ W7.heap.size := b7.size
      have B7 : Below w.heap.size w W7 := Below.next B6 b7
      have o := o.below b7
      have k := k.below b7
      have ox := ox.below b7
      have oy := oy.below b7
      go_wp2
      go_ret
      exact ⟨rfl, B7⟩
  · go_enter Try.func17, Try.ntmps17
    go_wp2
    go_ret
    exact ⟨rfl, Below.refl _ _⟩

set_option maxRecDepth 100000 in
theorem lifted (os : Os) (started : os.Started) (H : Type) (enc : TypeId × Value → H) :
    ReturnsInHanded {} Try.checked os 17 .any (Rows.fnMarksSizeSpec.pre6 enc Try.prog Try.f17 Rows.fnMarksSizeRow.domain false) (Rows.fnMarksSizeSpec.post enc Try.prog Try.f17 false true false false) := by
  refine returnsInHanded_of_change (C := Try.checked) own started (by kernel_rfl) Try.func17
    (ChangeSpec.witness6 (enc := enc) (C := Try.checked) false ⟨#[], #[.slice none 0 0], []⟩ 8 (by kernel_rfl) (by kernel_rfl) (by kernel_rfl) (by kernel_rfl)) ?_
  intro W base args ds gs before hval0 hW hcnd _
  have hval : ∀ (j : Nat) t v, Try.f17.params[j]? = some t → args[j]? = some v → Value.okWide Try.prog W .any base t v := hval0
  have hW' := hW
  obtain ⟨p, q, hA0, hV, rfl, hfz, hnd⟩ := hW
  have hA : DataW.TrodAll enc Try.prog W 0 (fun _ => true) true Try.f17.params.toList args.toList ds p := hA0
  rw [Try.params17] at hA hval
  obtain ⟨v0, vs0, d0, ds0, p0, q0, hargs, rfl, rfl, h0, r0⟩ := trodAll_cons hA
  obtain ⟨rfl, rfl, rfl⟩ := trodAll_nil r0
  obtain rfl : args = #[v0] := by cases args; simp_all
  obtain ⟨rfl, rfl⟩ := trodVars_none hV
  obtain ⟨a0, len0, cap0, rfl⟩ := okWide_slice Try.underlying39 (hval 0 39 v0 rfl rfl)
  have k0 := h0
  have lt0 : ∀ x ∈ p0, x.block < W.heap.size := by obtain ⟨m, hm⟩ := k0; exact DataW.trod_lt m _ _ _ hm
  obtain ⟨z0, w0⟩ : ∃ zs, IsRow .u8 W a0 len0 cap0 zs := by
    obtain ⟨fuel, hf⟩ := h0
    rcases open_ints Try.underlying39 Try.underlying5 (by kernel_rfl) hf with ⟨hcs, _⟩ | ⟨x, l, c, zs, hcs, _, hl, hm, hz, _, hcell, hwz⟩
    · simp [Value.cells] at hcs
      obtain ⟨rfl, rfl, rfl⟩ := hcs
      exact ⟨[], .inl ⟨rfl, rfl, rfl, rfl⟩⟩
    · simp [Value.cells] at hcs
      obtain ⟨rfl, rfl, rfl⟩ := hcs
      exact ⟨zs, .inr ⟨_, rfl, hl, hm, by simpa using hz, hcell, hwz⟩⟩
  clear hA0 hval0
  refine (walk a0 len0 cap0 z0 W w0).mono fun e W' ⟨he, bel⟩ => ?_
  subst he
  exact ⟨_, rfl, _, _, _, [], _, [], hW', trodAll_mk1 (shut_bool Try.underlying4 _), (trodAll_cons_mk (Below.trod laidOut (by kernel_rfl) (of_decide_eq_true (by kernel_rfl)) k0 bel lt0) trodAll_mk0), rfl, bel.frame _, fun h => by cases h⟩

theorem closed : joinedFacts Try.prog 17 Try.f17 Rows.fnMarksSizeSpec Rows.fnMarksSizeRow = true := by
  unfold joinedFacts
  simp only [may_enter, lifts_final, make_cut]
  kernel_rfl

theorem over : Rows.fnMarksSizeRow.holds Try.pinned (OpenSpec.ofChange Rows.fnMarksSizeSpec) :=
  OpenClaim.holds_of_wide 17 Try.f17 rfl rfl rfl rfl rfl rfl rfl ⟨rfl, rfl, rfl, rfl, rfl⟩ rfl rfl rfl rfl rfl (by kernel_rfl) Try.func17 closed
    (of_decide_eq_true (by kernel_rfl)) (by unfold Func.isWrapper; first | (rw [if_pos (by decide +kernel)]; kernel_rfl) | (rw [if_neg (by decide +kernel)]; exact ⟨rfl, rfl⟩))
    (fun os started H enc _ => lifted os started H enc)

theorem proved : Rows.FnMarksSizeSaid := over
#print axioms proved
end Go.Proofs.Ytjhlcgjhdiheaaa.fnMarksSize
