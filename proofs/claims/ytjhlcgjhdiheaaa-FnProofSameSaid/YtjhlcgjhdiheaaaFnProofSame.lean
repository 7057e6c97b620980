/- Proved: the statement 'FnProofSameSaid': the law FnProofSame returns true for every input, and every argument reads afterwards as it read before. No further conditions. The frame follows the kit's proof-skeleton; the walk is ours. -/
import Derived.Test.YtjhlcgjhdiheaaaRows
import Derived.Test.YtjhlcgjhdiheaaaDraw5
import Derived.Test.YtjhlcgjhdiheaaaSameM
import Derived.Test.YtjhlcgjhdiheaaaLawsR
import Derived.Test.YtjhlcgjhdiheaaaBack4
import Derived.Test.YtjhlcgjhdiheaaaArg
import Derived.Test.YtjhlcgjhdiheaaaEnter
import Derived.WalkKit
import Derived.ProofKit
import Derived.OpenShut
import Derived.ShutString
import Derived.ChangeOld
import Derived.Below
namespace Go.Proofs.Ytjhlcgjhdiheaaa.fnProofSame
open Go.ChangeShapes Go.WideShapes Go.ChangeAt Go.RowKit
open Go.ChangeMaps (open_string shut_string)
set_option linter.unusedVariables false
set_option linter.unusedSimpArgs false

theorem own : ownKnob Try.prog.godebug = none := by kernel_rfl
theorem laidOut : laidOutB Try.prog = true := by kernel_rfl

set_option maxRecDepth 20000 in
set_option maxHeartbeats 8000000 in
theorem walk (a0 : Option Addr) (len0 cap0 : Nat) (z0 : List Int) (w : World) (w0 : IsRow .u8 w a0 len0 cap0 z0) :
    Calls Try.prog 11 #[.slice a0 len0 cap0] w fun e w' => e = .returned (.bool true) ∧ Below w.heap.size w w' := by
  have hy0 := w0.bytes
  have hl0 := w0.len_le
  have hc0 := w0.len_cap
  clear w0
  by_cases hm0 : len0 ≤ 1048576
  · go_enter Try.func11, Try.ntmps11
    go_wp2_with fail
    refine (drawSame a0 len0 cap0 _ hy0 hm0 hc0).mono ?_
    rintro e W1 ⟨A, n, c, xs, B, m, d, ys, rfl, hn, hm, o, o', bd⟩
    have S1 : w.heap.size ≤ W1.heap.size := bd.size
    have B1 : Below w.heap.size w W1 := bd
    have hlen_o := Lib.hid o.1.len
    have hcap_o := o.2.1
    have hmax_o := o.2.2.1
    have hlen_o' := Lib.hid o'.1.len
    have hcap_o' := o'.2.1
    have hmax_o' := o'.2.2.1
    go_wp2_with fail
    refine (isame_any A B n c m d xs ys _ (by omega) (by omega) o.1 o'.1).mono ?_
    rintro e W2 ⟨rfl, b2⟩
    have S2 : W1.heap.size ≤ W2.heap.size := b2.size
    have B2 : Below w.heap.size w W2 := Below.next B1 b2
    have o := o.below b2
    have o' := o'.below b2
    go_wp2_with fail
    refine (ssame_any A B n c m d xs ys _ (by omega) (by omega) o.1 o'.1).mono ?_
    rintro e W3 ⟨rfl, b3⟩
    have S3 : W2.heap.size ≤ W3.heap.size := b3.size
    have B3 : Below w.heap.size w W3 := Below.next B2 b3
    have o := o.below b3
    have o' := o'.below b3
    have hq : (sameI xs ys != sameI xs ys) = false := by simp
    have hq2 : (sameI xs ys == sameI xs ys) = true := by simp
    by_cases hneg : sameI xs ys < 0
    · go_wp2
      go_ret
      exact ⟨rfl, B3⟩
    · have hf := sameI_parts (a := xs) (b := ys) (by omega)
      obtain ⟨p1, p2, _⟩ := farI_parts hf
      have hsy := Lib.hid (sameI_symm xs ys)
      have hself := Lib.hid (sameI_self p1)
      have hbd := sameI_bound xs ys
      obtain ⟨mi1, mi2⟩ := sameI_min (a := xs) (b := ys) (by omega)
      rw [hlen_o.out] at mi1
      rw [hlen_o'.out] at mi2
      have hn20 : n ≤ 20 := by rw [← hlen_o.out]; exact speak_len p1
      have hm20 : m ≤ 20 := by rw [← hlen_o'.out]; exact speak_len p2
      clear p1 p2 hf
      have hfin : (sameI xs xs == (n : Int)) = true := by rw [hself.out, hlen_o.out]; simp
      have hmin : decide (sameI xs ys ≤ min (n : Int) (m : Int)) = true := by simp; omega
      by_cases h0 : n = 0
      · have hz : decide ((0 : Int) < (n : Int)) = false := by simp; omega
        have hz2 : decide (0 < n) = false := by simp; omega
        clear h0
        go_wp2_with fail
        refine (isame_any B A m d n c ys xs _ (by omega) (by omega) o'.1 o.1).mono ?_
        rw [hsy.out]
        rintro e W4 ⟨rfl, b8⟩
        have S4 : W3.heap.size ≤ W4.heap.size := b8.size
        have B4 : Below w.heap.size w W4 := Below.next B3 b8
        have o := o.below b8
        have o' := o'.below b8
        go_wp2_with fail
        refine (isame_any A A n c n c xs xs _ (by omega) (by omega) o.1 o.1).mono ?_
        rintro e W5 ⟨rfl, b9⟩
        have S5 : W4.heap.size ≤ W5.heap.size := b9.size
        have B5 : Below w.heap.size w W5 := Below.next B4 b9
        have o := o.below b9
        have o' := o'.below b9
        go_wp2
        go_ret
        exact ⟨rfl, B5⟩
      · have hz : decide ((0 : Int) < (n : Int)) = true := by simp; omega
        have hk : ((n : Int) - 1).toNat = n - 1 := by omega
        obtain ⟨le1, le2⟩ := sameI_less (a := xs) (b := ys) (k := n - 1) (by omega) (by rw [hlen_o.out]; omega)
        go_wp2_with fail
        refine (isame_any A B (n - 1) c m d (xs.take (n - 1)) ys _ (by omega) (by omega) (o.1.take (by omega)) o'.1).mono ?_
        rintro e W4 ⟨rfl, b7⟩
        have S4 : W3.heap.size ≤ W4.heap.size := b7.size
        have B4 : Below w.heap.size w W4 := Below.next B3 b7
        have o := o.below b7
        have o' := o'.below b7
        have q1 : ¬ sameI xs ys < sameI (xs.take (n - 1)) ys := by omega
        have q2 : ¬ sameI (xs.take (n - 1)) ys < sameI xs ys - 1 := by omega
        go_wp2_with fail
        refine (isame_any B A m d n c ys xs _ (by omega) (by omega) o'.1 o.1).mono ?_
        rw [hsy.out]
        rintro e W5 ⟨rfl, b8⟩
        have S5 : W4.heap.size ≤ W5.heap.size := b8.size
        have B5 : Below w.heap.size w W5 := Below.next B4 b8
        have o := o.below b8
        have o' := o'.below b8
        go_wp2_with fail
        refine (isame_any A A n c n c xs xs _ (by omega) (by omega) o.1 o.1).mono ?_
        rintro e W6 ⟨rfl, b9⟩
        have S6 : W5.heap.size ≤ W6.heap.size := b9.size
        have B6 : Below w.heap.size w W6 := Below.next B5 b9
        have o := o.below b9
        have o' := o'.below b9
        go_wp2
        go_ret
        exact ⟨rfl, B6⟩
  · go_enter Try.func11, Try.ntmps11
    go_wp2
    go_ret
    exact ⟨rfl, Below.refl _ _⟩

set_option maxRecDepth 100000 in
theorem lifted (os : Os) (started : os.Started) (H : Type) (enc : TypeId × Value → H) :
    ReturnsInHanded {} Try.checked os 11 .any (Rows.fnProofSameSpec.pre6 enc Try.prog Try.f11 Rows.fnProofSameRow.domain false) (Rows.fnProofSameSpec.post enc Try.prog Try.f11 false true false false) := by
  refine returnsInHanded_of_change (C := Try.checked) own started (by kernel_rfl) Try.func11
    (ChangeSpec.witness6 (enc := enc) (C := Try.checked) false ⟨#[], #[.slice none 0 0], []⟩ 8 (by kernel_rfl) (by kernel_rfl) (by kernel_rfl) (by kernel_rfl)) ?_
  intro W base args ds gs before hval0 hW hcnd _
  have hval : ∀ (j : Nat) t v, Try.f11.params[j]? = some t → args[j]? = some v → Value.okWide Try.prog W .any base t v := hval0
  have hW' := hW
  obtain ⟨p, q, hA0, hV, rfl, hfz, hnd⟩ := hW
  have hA : DataW.TrodAll enc Try.prog W 0 (fun _ => true) true Try.f11.params.toList args.toList ds p := hA0
  rw [Try.params11] at hA hval
  obtain ⟨v0, vs0, d0, ds0, p0, q0, hargs, rfl, rfl, h0, r0⟩ := trodAll_cons hA
  obtain ⟨rfl, rfl, rfl⟩ := trodAll_nil r0
  obtain rfl : args = #[v0] := by cases args; simp_all
  obtain ⟨rfl, rfl⟩ := trodVars_none hV
  obtain ⟨a0, len0, cap0, rfl⟩ := okWide_slice Try.underlying39 (hval 0 39 v0 rfl rfl)
  have k0 := h0
  have lt0 : ∀ x ∈ p0, x.block < W.heap.size := by obtain ⟨m, hm⟩ := k0; exact DataW.trod_lt m _ _ _ hm
  obtain ⟨z0, w0⟩ : ∃ zs, IsRow .u8 W a0 len0 cap0 zs := by
    obtain ⟨fuel, hf⟩ := h0
    rcases open_ints Try.underlying39 Try.underlying5 (by kernel_rfl) hf with ⟨hcs, _⟩ | ⟨x, l, c, zs, hcs, _, hl, hm, hz, _, hcell, hwz⟩
    · simp [Value.cells] at hcs
      obtain ⟨rfl, rfl, rfl⟩ := hcs
      exact ⟨[], .inl ⟨rfl, rfl, rfl, rfl⟩⟩
    · simp [Value.cells] at hcs
      obtain ⟨rfl, rfl, rfl⟩ := hcs
      exact ⟨zs, .inr ⟨_, rfl, hl, hm, by simpa using hz, hcell, hwz⟩⟩
  clear hA0 hval0
  refine (walk a0 len0 cap0 z0 W w0).mono fun e W' ⟨he, bel⟩ => ?_
  subst he
  exact ⟨_, rfl, _, _, _, [], _, [], hW', trodAll_mk1 (shut_bool Try.underlying4 _), (trodAll_cons_mk (Below.trod laidOut (by kernel_rfl) (of_decide_eq_true (by kernel_rfl)) k0 bel lt0) trodAll_mk0), rfl, bel.frame _, fun h => by cases h⟩

theorem closed : joinedFacts Try.prog 11 Try.f11 Rows.fnProofSameSpec Rows.fnProofSameRow = true := by
  unfold joinedFacts
  simp only [may_enter, lifts_final, make_cut]
  kernel_rfl

theorem over : Rows.fnProofSameRow.holds Try.pinned (OpenSpec.ofChange Rows.fnProofSameSpec) :=
  OpenClaim.holds_of_wide 11 Try.f11 rfl rfl rfl rfl rfl rfl rfl ⟨rfl, rfl, rfl, rfl, rfl⟩ rfl rfl rfl rfl rfl (by kernel_rfl) Try.func11 closed
    (of_decide_eq_true (by kernel_rfl)) (by unfold Func.isWrapper; first | (rw [if_pos (by decide +kernel)]; kernel_rfl) | (rw [if_neg (by decide +kernel)]; exact ⟨rfl, rfl⟩))
    (fun os started H enc _ => lifted os started H enc)

theorem proved : Rows.FnProofSameSaid := over
#print axioms proved
end Go.Proofs.Ytjhlcgjhdiheaaa.fnProofSame
