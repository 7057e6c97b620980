/- Proved: the statement 'FnSpeedSaid': the law FnSpeed returns true for every input, and every argument reads afterwards as it read before. No further conditions. The frame was written by the kit's proof-skeleton; the walk is ours. -/
import Derived.Test.YtcgiehdpdnipbaaRows
import Derived.Test.YtcgiehdpdnipbaaLaws
import Derived.Test.YtcgiehdpdnipbaaSimple
import Derived.Test.YtcgiehdpdnipbaaEnter
import Derived.WalkKit
import Derived.ProofKit
import Derived.OpenShut
import Derived.ShutString
import Derived.ChangeOld
import Derived.Below
namespace Go.Proofs.Ytcgiehdpdnipbaa.fnSpeed
open Go.ChangeShapes Go.WideShapes Go.ChangeAt Go.RowKit
open Go.ChangeMaps (open_string shut_string)
set_option linter.unusedVariables false

theorem own : ownKnob Try.prog.godebug = none := by kernel_rfl
theorem laidOut : laidOutB Try.prog = true := by kernel_rfl

theorem walk (a0 : Option Addr) (len0 cap0 : Nat) (z0 : List Int) (w : World) (w0 : IsRow .u8 w a0 len0 cap0 z0) :
    Calls Try.prog 8 #[.slice a0 len0 cap0] w fun e w' => e = .returned (.bool true) ∧ Below w.heap.size w w' := by
  have hy0 := w0.bytes
  have hl0 := w0.len_le
  have hc0 := w0.len_cap
  clear w0
  by_cases hm0 : len0 ≤ 1048576
  · go_enter Try.func8, Try.ntmps8
    go_wp2_with fail
    refine (drawSpeed a0 len0 cap0 _ hy0 hm0 hc0).mono ?_
    rintro e W1 ⟨A, n, c, xs, rfl, hn, o, bd⟩
    have S1 : w.heap.size ≤ W1.heap.size := bd.size
    have B1 : Below w.heap.size w W1 := bd
    have hlen_o := Lib.hid o.len
    go_wp2_with fail
    refine (ispeed_any A n c xs _ (by omega) o.ints).mono ?_
    rintro e w' ⟨rfl, rfl⟩
    go_wp2_with fail
    refine (sspeed_any A n c xs _ (by omega) o.ints).mono ?_
    rintro e w' ⟨rfl, rfl⟩
    have hq : (Talk.speed xs != Talk.speed xs) = false := by simp
    have hq2 : (Talk.speed xs == Talk.speed xs) = true := by simp
    rcases Talk.speed_cases xs with hsp | ⟨hv, hne⟩
    · have hneg : Talk.speed xs < 0 := by omega
      clear hsp
      go_wp2
      go_ret
      exact ⟨rfl, B1⟩
    · obtain ⟨f1, f2, f3, f4, f5, f6, f7⟩ := Talk.speed_facts hv hne
      rw [hlen_o.out] at f3 f4 f5
      have HV := Lib.hid hv
      clear hv hne
      go_wp2_with fail
      refine (iwords_any A n c xs _ (by omega) o.ints).mono ?_
      rintro e w' ⟨rfl, rfl⟩
      go_wp2_with fail
      refine (ijoin_any A A n n c c xs xs _ (by omega) (by omega) o.ints o.ints o.cap0 o.cap0).mono ?_
      rintro e W2 ⟨A2, n2, c2, rfl, o2, bj⟩
      have S2 : W1.heap.size ≤ W2.heap.size := bj.size
      have B2 : Below w.heap.size w W2 := Below.next B1 bj
      have o := o.below bj
      cases hj : Talk.joinOk xs xs with
      | false =>
        go_wp2
        go_ret
        exact ⟨rfl, B2⟩
      | true =>
        have hjl := joinL_yes hj
        rw [hjl] at o2
        have hst := Lib.hid (Talk.speed_twice (xs := xs) hj)
        have hn2 : n2 ≤ 62 := by have := o2.len; simp at this; rw [hlen_o.out] at this; omega
        clear hjl hj
        go_wp2_with fail
        refine (ispeed_any A2 n2 c2 (xs ++ xs) _ (by omega) o2.ints).mono ?_
        rw [hst.out]
        rintro e w' ⟨rfl, rfl⟩
        go_wp2
        go_ret
        exact ⟨rfl, B2⟩
  · go_enter Try.func8, Try.ntmps8
    go_wp2
    go_ret
    exact ⟨rfl, Below.refl _ _⟩

set_option maxRecDepth 100000 in
theorem lifted (os : Os) (started : os.Started) (H : Type) (enc : TypeId × Value → H) :
    ReturnsInHanded {} Try.checked os 8 .any (Rows.fnSpeedSpec.pre6 enc Try.prog Try.f8 Rows.fnSpeedRow.domain false) (Rows.fnSpeedSpec.post enc Try.prog Try.f8 false true false false) := by
  refine returnsInHanded_of_change (C := Try.checked) own started (by kernel_rfl) Try.func8
    (ChangeSpec.witness6 (enc := enc) (C := Try.checked) false ⟨#[], #[.slice none 0 0], []⟩ 8 (by kernel_rfl) (by kernel_rfl) (by kernel_rfl) (by kernel_rfl)) ?_
  intro W base args ds gs before hval0 hW hcnd _
  have hval : ∀ (j : Nat) t v, Try.f8.params[j]? = some t → args[j]? = some v → Value.okWide Try.prog W .any base t v := hval0
  have hW' := hW
  obtain ⟨p, q, hA0, hV, rfl, hfz, hnd⟩ := hW
  have hA : DataW.TrodAll enc Try.prog W 0 (fun _ => true) true Try.f8.params.toList args.toList ds p := hA0
  rw [Try.params8] at hA hval
  obtain ⟨v0, vs0, d0, ds0, p0, q0, hargs, rfl, rfl, h0, r0⟩ := trodAll_cons hA
  obtain ⟨rfl, rfl, rfl⟩ := trodAll_nil r0
  obtain rfl : args = #[v0] := by cases args; simp_all
  obtain ⟨rfl, rfl⟩ := trodVars_none hV
  obtain ⟨a0, len0, cap0, rfl⟩ := okWide_slice Try.underlying33 (hval 0 33 v0 rfl rfl)
  have k0 := h0
  have lt0 : ∀ x ∈ p0, x.block < W.heap.size := by obtain ⟨m, hm⟩ := k0; exact DataW.trod_lt m _ _ _ hm
  obtain ⟨z0, w0⟩ : ∃ zs, IsRow .u8 W a0 len0 cap0 zs := by
    obtain ⟨fuel, hf⟩ := h0
    rcases open_ints Try.underlying33 Try.underlying5 (by kernel_rfl) hf with ⟨hcs, _⟩ | ⟨x, l, c, zs, hcs, _, hl, hm, hz, _, hcell, hwz⟩
    · simp [Value.cells] at hcs
      obtain ⟨rfl, rfl, rfl⟩ := hcs
      exact ⟨[], .inl ⟨rfl, rfl, rfl, rfl⟩⟩
    · simp [Value.cells] at hcs
      obtain ⟨rfl, rfl, rfl⟩ := hcs
      exact ⟨zs, .inr ⟨_, rfl, hl, hm, by simpa using hz, hcell, hwz⟩⟩
  clear hA0 hval0
  refine (walk a0 len0 cap0 z0 W w0).mono fun e W' ⟨he, bel⟩ => ?_
  subst he
  exact ⟨_, rfl, _, _, _, [], _, [], hW', trodAll_mk1 (shut_bool Try.underlying4 _), (trodAll_cons_mk (Below.trod laidOut (by kernel_rfl) (of_decide_eq_true (by kernel_rfl)) k0 bel lt0) trodAll_mk0), rfl, bel.frame _, fun h => by cases h⟩

theorem closed : joinedFacts Try.prog 8 Try.f8 Rows.fnSpeedSpec Rows.fnSpeedRow = true := by
  unfold joinedFacts
  simp only [may_enter, lifts_final, make_cut]
  kernel_rfl

theorem over : Rows.fnSpeedRow.holds Try.pinned (OpenSpec.ofChange Rows.fnSpeedSpec) :=
  OpenClaim.holds_of_wide 8 Try.f8 rfl rfl rfl rfl rfl rfl rfl ⟨rfl, rfl, rfl, rfl, rfl⟩ rfl rfl rfl rfl rfl (by kernel_rfl) Try.func8 closed
    (of_decide_eq_true (by kernel_rfl)) (by unfold Func.isWrapper; first | (rw [if_pos (by decide +kernel)]; kernel_rfl) | (rw [if_neg (by decide +kernel)]; exact ⟨rfl, rfl⟩))
    (fun os started H enc _ => lifted os started H enc)

theorem proved : Rows.FnSpeedSaid := over
#print axioms proved
end Go.Proofs.Ytcgiehdpdnipbaa.fnSpeed
