/- Proved: the statement 'FnMarksFarSaid': the law FnMarksFar returns true for every input, and every argument reads afterwards as it read before. No further conditions. The frame follows the kit's proof-skeleton; the walk is ours. -/
import Derived.Test.YtjhlcgjhdiheaaaRows
import Derived.Test.YtjhlcgjhdiheaaaDraw5
import Derived.Test.YtjhlcgjhdiheaaaSameM
import Derived.Test.YtjhlcgjhdiheaaaLawsR
import Derived.Test.YtjhlcgjhdiheaaaBack4
import Derived.Test.YtjhlcgjhdiheaaaArg
import Derived.Test.YtjhlcgjhdiheaaaEnter
import Derived.WalkKit
import Derived.ProofKit
import Derived.OpenShut
import Derived.ShutString
import Derived.ChangeOld
import Derived.Below
namespace Go.Proofs.Ytjhlcgjhdiheaaa.fnMarksFar
open Go.ChangeShapes Go.WideShapes Go.ChangeAt Go.RowKit
open Go.ChangeMaps (open_string shut_string)
set_option linter.unusedVariables false
set_option linter.unusedSimpArgs false

theorem own : ownKnob Try.prog.godebug = none := by kernel_rfl
theorem laidOut : laidOutB Try.prog = true := by kernel_rfl

set_option maxRecDepth 20000 in
set_option maxHeartbeats 8000000 in
theorem walk (a0 : Option Addr) (len0 cap0 : Nat) (z0 : List Int) (a1 : Option Addr) (len1 cap1 : Nat) (z1 : List Int) (w : World) (w0 : IsRow .u8 w a0 len0 cap0 z0) (w1 : IsRow .u8 w a1 len1 cap1 z1) :
    Calls Try.prog 12 #[.slice a0 len0 cap0, .slice a1 len1 cap1] w fun e w' => e = .returned (.bool true) ∧ Below w.heap.size w w' := by
  have hy0 := w0.bytes
  have hl0 := w0.len_le
  have hc0 := w0.len_cap
  clear w0
  have hy1 := w1.bytes
  have hl1 := w1.len_le
  have hc1 := w1.len_cap
  clear w1
  by_cases hm0 : len0 ≤ 1048576
  · by_cases hm1 : len1 ≤ 1048576
    · go_enter Try.func12, Try.ntmps12
      go_wp2_with fail
      refine (drawFar a0 len0 cap0 _ hy0 hm0 hc0).mono ?_
      rintro e W1 ⟨A, n, c, xs, B, m, d, ys, rfl, hn, hm, o, o', bd⟩
      have S1 : w.heap.size ≤ W1.heap.size := bd.size
      have B1 : Below w.heap.size w W1 := bd
      have hlen_o := Lib.hid o.1.len
      have hcap_o := o.2.1
      have hmax_o := o.2.2.1
      have hlen_o' := Lib.hid o'.1.len
      have hcap_o' := o'.2.1
      have hmax_o' := o'.2.2.1
      go_wp2_with fail
      refine (ifar_any A B n c m d xs ys _ (by omega) (by omega) o.1 o'.1).mono ?_
      rintro e W2 ⟨rfl, b2⟩
      have S2 : W1.heap.size ≤ W2.heap.size := b2.size
      have B2 : Below w.heap.size w W2 := Below.next B1 b2
      have o := o.below b2
      have o' := o'.below b2
      go_wp2_with fail
      refine (sfar_any A B n c m d xs ys _ (by omega) (by omega) o.1 o'.1).mono ?_
      rintro e W3 ⟨rfl, b3⟩
      have S3 : W2.heap.size ≤ W3.heap.size := b3.size
      have B3 : Below w.heap.size w W3 := Below.next B2 b3
      have o := o.below b3
      have o' := o'.below b3
      have hq : (farI xs ys != farI xs ys) = false := by simp
      have hq2 : (farI xs ys == farI xs ys) = true := by simp
      by_cases hneg : farI xs ys < 0
      · go_wp2
        go_ret
        exact ⟨rfl, B3⟩
      · have hk : len1 % (n + 1) ≤ n := by have := Nat.mod_lt len1 (show n + 1 > 0 by omega); omega
        have hke : (len1 : Int) % ((n : Int) + 1) = ((len1 % (n + 1) : Nat) : Int) := by rw [Int.natCast_emod]; rfl
        have h3 := Lib.hid (farI_three (a := xs) (b := ys) (by omega) (len1 % (n + 1)))
        have h2 := Lib.hid (farI_two (a := xs) (b := ys) (by omega))
        have hz := Lib.hid (farI_zero (a := xs) (b := ys) (by omega))
        have hsy := Lib.hid (farI_symm xs ys)
        generalize len1 % (n + 1) = k at *
        go_wp2_with fail
        refine (ifar_any B A m d n c ys xs _ (by omega) (by omega) o'.1 o.1).mono ?_
        rw [hsy.out]
        rintro e W4 ⟨rfl, b4⟩
        have S4 : W3.heap.size ≤ W4.heap.size := b4.size
        have B4 : Below w.heap.size w W4 := Below.next B3 b4
        have o := o.below b4
        have o' := o'.below b4
        have t1 : ((farI xs ys == 0) == decide (xs = ys)) = true := by rw [beq_iff_eq, Bool.eq_iff_iff, beq_iff_eq, decide_eq_true_iff]; exact hz.out
        obtain ⟨ee, T0⟩ : ∃ ee, Hid (decide (xs = ys) = ee) := ⟨_, rfl⟩
        rw [T0.out] at t1
        go_wp2_with fail
        refine (eqtb_any A B n c m d xs ys _ (by omega) (by omega) o.1 o'.1).mono ?_
        rw [T0.out]
        rintro e W5 ⟨rfl, b5⟩
        have S5 : W4.heap.size ≤ W5.heap.size := b5.size
        have B5 : Below w.heap.size w W5 := Below.next B4 b5
        have o := o.below b5
        have o' := o'.below b5
        go_wp2_with fail
        refine (ifar_any A A n c k c xs (xs.take k) _ (by omega) (by omega) o.1 (o.1.take hk)).mono ?_
        rintro e W6 ⟨rfl, b6⟩
        have S6 : W5.heap.size ≤ W6.heap.size := b6.size
        have B6 : Below w.heap.size w W6 := Below.next B5 b6
        have o := o.below b6
        have o' := o'.below b6
        go_wp2_with fail
        refine (ifar_any A B k c m d (xs.take k) ys _ (by omega) (by omega) (o.1.take hk) o'.1).mono ?_
        rintro e W7 ⟨rfl, b7⟩
        have S7 : W6.heap.size ≤ W7.heap.size := b7.size
        have B7 : Below w.heap.size w W7 := Below.next B6 b7
        have o := o.below b7
        have o' := o'.below b7
        have e1 := farI_bound xs (xs.take k)
        have e2 := farI_bound (xs.take k) ys
        have e3 := farI_bound xs ys
        have h3' : decide (farI xs ys ≤ farI xs (xs.take k) + farI (xs.take k) ys) = true := decide_eq_true h3.out
        have e4 := sameI_bound xs ys
        have h2' : (farI xs ys + 2 * sameI xs ys == (n : Int) + (m : Int)) = true := by rw [beq_iff_eq]; have := h2.out; rw [hlen_o.out, hlen_o'.out] at this; omega
        obtain ⟨e41, e42⟩ := e4
        obtain ⟨e31, e32⟩ := e3
        obtain ⟨e11, e12⟩ := e1
        obtain ⟨e21, e22⟩ := e2
        go_wp2_with fail
        refine (isame_any A B n c m d xs ys _ (by omega) (by omega) o.1 o'.1).mono ?_
        rintro e W8 ⟨rfl, b8⟩
        have S8 : W7.heap.size ≤ W8.heap.size := b8.size
        have B8 : Below w.heap.size w W8 := Below.next B7 b8
        have o := o.below b8
        have o' := o'.below b8
        go_wp2
        go_ret
        exact ⟨rfl, B8⟩
    · go_enter Try.func12, Try.ntmps12
      go_wp2
      go_ret
      exact ⟨rfl, Below.refl _ _⟩
  · go_enter Try.func12, Try.ntmps12
    go_wp2
    go_ret
    exact ⟨rfl, Below.refl _ _⟩

set_option maxRecDepth 100000 in
theorem lifted (os : Os) (started : os.Started) (H : Type) (enc : TypeId × Value → H) :
    ReturnsInHanded {} Try.checked os 12 .any (Rows.fnMarksFarSpec.pre6 enc Try.prog Try.f12 Rows.fnMarksFarRow.domain false) (Rows.fnMarksFarSpec.post enc Try.prog Try.f12 false true false false) := by
  refine returnsInHanded_of_change (C := Try.checked) own started (by kernel_rfl) Try.func12
    (ChangeSpec.witness6 (enc := enc) (C := Try.checked) false ⟨#[], #[.slice none 0 0, .slice none 0 0], []⟩ 8 (by kernel_rfl) (by kernel_rfl) (by kernel_rfl) (by kernel_rfl)) ?_
  intro W base args ds gs before hval0 hW hcnd _
  have hval : ∀ (j : Nat) t v, Try.f12.params[j]? = some t → args[j]? = some v → Value.okWide Try.prog W .any base t v := hval0
  have hW' := hW
  obtain ⟨p, q, hA0, hV, rfl, hfz, hnd⟩ := hW
  have hA : DataW.TrodAll enc Try.prog W 0 (fun _ => true) true Try.f12.params.toList args.toList ds p := hA0
  rw [Try.params12] at hA hval
  obtain ⟨v0, vs0, d0, ds0, p0, q0, hargs, rfl, rfl, h0, r0⟩ := trodAll_cons hA
  obtain ⟨v1, vs1, d1, ds1, p1, q1, rfl, rfl, rfl, h1, r1⟩ := trodAll_cons r0
  obtain ⟨rfl, rfl, rfl⟩ := trodAll_nil r1
  obtain rfl : args = #[v0, v1] := by cases args; simp_all
  obtain ⟨rfl, rfl⟩ := trodVars_none hV
  obtain ⟨a0, len0, cap0, rfl⟩ := okWide_slice Try.underlying39 (hval 0 39 v0 rfl rfl)
  have k0 := h0
  have lt0 : ∀ x ∈ p0, x.block < W.heap.size := by obtain ⟨m, hm⟩ := k0; exact DataW.trod_lt m _ _ _ hm
  obtain ⟨z0, w0⟩ : ∃ zs, IsRow .u8 W a0 len0 cap0 zs := by
    obtain ⟨fuel, hf⟩ := h0
    rcases open_ints Try.underlying39 Try.underlying5 (by kernel_rfl) hf with ⟨hcs, _⟩ | ⟨x, l, c, zs, hcs, _, hl, hm, hz, _, hcell, hwz⟩
    · simp [Value.cells] at hcs
      obtain ⟨rfl, rfl, rfl⟩ := hcs
      exact ⟨[], .inl ⟨rfl, rfl, rfl, rfl⟩⟩
    · simp [Value.cells] at hcs
      obtain ⟨rfl, rfl, rfl⟩ := hcs
      exact ⟨zs, .inr ⟨_, rfl, hl, hm, by simpa using hz, hcell, hwz⟩⟩
  obtain ⟨a1, len1, cap1, rfl⟩ := okWide_slice Try.underlying39 (hval 1 39 v1 rfl rfl)
  have k1 := h1
  have lt1 : ∀ x ∈ p1, x.block < W.heap.size := by obtain ⟨m, hm⟩ := k1; exact DataW.trod_lt m _ _ _ hm
  obtain ⟨z1, w1⟩ : ∃ zs, IsRow .u8 W a1 len1 cap1 zs := by
    obtain ⟨fuel, hf⟩ := h1
    rcases open_ints Try.underlying39 Try.underlying5 (by kernel_rfl) hf with ⟨hcs, _⟩ | ⟨x, l, c, zs, hcs, _, hl, hm, hz, _, hcell, hwz⟩
    · simp [Value.cells] at hcs
      obtain ⟨rfl, rfl, rfl⟩ := hcs
      exact ⟨[], .inl ⟨rfl, rfl, rfl, rfl⟩⟩
    · simp [Value.cells] at hcs
      obtain ⟨rfl, rfl, rfl⟩ := hcs
      exact ⟨zs, .inr ⟨_, rfl, hl, hm, by simpa using hz, hcell, hwz⟩⟩
  clear hA0 hval0
  refine (walk a0 len0 cap0 z0 a1 len1 cap1 z1 W w0 w1).mono fun e W' ⟨he, bel⟩ => ?_
  subst he
  exact ⟨_, rfl, _, _, _, [], _, [], hW', trodAll_mk1 (shut_bool Try.underlying4 _), (trodAll_cons_mk (Below.trod laidOut (by kernel_rfl) (of_decide_eq_true (by kernel_rfl)) k0 bel lt0) (trodAll_cons_mk (Below.trod laidOut (by kernel_rfl) (of_decide_eq_true (by kernel_rfl)) k1 bel lt1) trodAll_mk0)), rfl, bel.frame _, fun h => by cases h⟩

theorem closed : joinedFacts Try.prog 12 Try.f12 Rows.fnMarksFarSpec Rows.fnMarksFarRow = true := by
  unfold joinedFacts
  simp only [may_enter, lifts_final, make_cut]
  kernel_rfl

theorem over : Rows.fnMarksFarRow.holds Try.pinned (OpenSpec.ofChange Rows.fnMarksFarSpec) :=
  OpenClaim.holds_of_wide 12 Try.f12 rfl rfl rfl rfl rfl rfl rfl ⟨rfl, rfl, rfl, rfl, rfl⟩ rfl rfl rfl rfl rfl (by kernel_rfl) Try.func12 closed
    (of_decide_eq_true (by kernel_rfl)) (by unfold Func.isWrapper; first | (rw [if_pos (by decide +kernel)]; kernel_rfl) | (rw [if_neg (by decide +kernel)]; exact ⟨rfl, rfl⟩))
    (fun os started H enc _ => lifted os started H enc)

theorem proved : Rows.FnMarksFarSaid := over
#print axioms proved
end Go.Proofs.Ytjhlcgjhdiheaaa.fnMarksFar
