/- Proved: the statement 'FnRelaySaid': the law FnRelay returns true for every input, and every argument reads afterwards as it read before. No further conditions. The frame was written by the kit's proof-skeleton; the walk is ours. -/
import Derived.Test.YtcgiehdpdnipbaaRows
import Derived.Test.YtcgiehdpdnipbaaCuts
import Derived.Test.YtcgiehdpdnipbaaSimple
import Derived.Test.YtcgiehdpdnipbaaEnter
import Derived.WalkKit
import Derived.ProofKit
import Derived.OpenShut
import Derived.ShutString
import Derived.ChangeOld
import Derived.Below
namespace Go.Proofs.Ytcgiehdpdnipbaa.fnRelay
open Go.ChangeShapes Go.WideShapes Go.ChangeAt Go.RowKit
open Go.ChangeMaps (open_string shut_string)
set_option linter.unusedVariables false

theorem own : ownKnob Try.prog.godebug = none := by kernel_rfl
theorem laidOut : laidOutB Try.prog = true := by kernel_rfl

theorem walk (a0 : Option Addr) (len0 cap0 : Nat) (z0 : List Int) (w : World) (w0 : IsRow .u8 w a0 len0 cap0 z0) :
    Calls Try.prog 26 #[.slice a0 len0 cap0] w fun e w' => e = .returned (.bool true) ∧ Below w.heap.size w w' := by
  have hy0 := w0.bytes
  have hl0 := w0.len_le
  have hc0 := w0.len_cap
  clear w0
  by_cases hm0 : len0 ≤ 1048576
  · go_enter Try.func26, Try.ntmps26
    go_wp2_with fail
    refine (drawRelay a0 len0 cap0 _ hy0 hm0 hc0).mono ?_
    rintro e W1 ⟨A, n, c, xs, r, h, t, rfl, hn, r0, r1, h0, h1, t0, t1, o, bd⟩
    have S1 : w.heap.size ≤ W1.heap.size := bd.size
    have B1 : Below w.heap.size w W1 := bd
    have hlen_o := Lib.hid o.len
    go_wp2_with fail
    refine (irelay_any A n c xs r h t _ (by omega) o.ints).mono ?_
    rintro e W2 ⟨rfl, b1⟩
    have S2 : W1.heap.size ≤ W2.heap.size := b1.size
    have B2 : Below w.heap.size w W2 := Below.next B1 b1
    have o := o.below b1
    go_wp2_with fail
    refine (srelay_any A n c xs r h t _ (by omega) o.ints).mono ?_
    rintro e W3 ⟨rfl, b2⟩
    have S3 : W2.heap.size ≤ W3.heap.size := b2.size
    have B3 : Below w.heap.size w W3 := Below.next B2 b2
    have o := o.below b2
    have hq : (Talk.relay xs r h t != Talk.relay xs r h t) = false := by simp
    have hq2 : (Talk.relay xs r h t == Talk.relay xs r h t) = true := by simp
    rcases Talk.relay_cases xs r h t with ⟨hok, hsp⟩ | ⟨hok, pz⟩
    · have hneg : Talk.relay xs r h t < 0 := by omega
      clear hsp hok
      go_wp2
      go_ret
      exact ⟨rfl, B3⟩
    · obtain ⟨f1, f2, f3⟩ := Talk.relay_law hok
      rw [hlen_o.out] at f3
      have F3 := Lib.hid f3
      have hok' := hok
      unfold Talk.relayOk at hok'
      simp only [Bool.and_eq_true] at hok'
      obtain ⟨ho1, ho2⟩ := hok'
      obtain ⟨hv, _, _⟩ := Talk.ok_parts ho1
      have e0 := heard_ok hv ho2 0 (.inl rfl)
      have e1 := heard_ok hv ho2 1 (.inr rfl)
      have l0 := Lib.hid (heard_list e0)
      have l1 := Lib.hid (heard_list e1)
      have ry := Lib.hid (Talk.relay_yes hok)
      have k0 := Lib.hid (heard_lost (t := t) ho1 0)
      have k1 := Lib.hid (heard_lost (t := t) ho1 1)
      obtain ⟨m0, m1⟩ := heard_bd (t := t) ho1 0
      obtain ⟨m2, m3⟩ := heard_bd (t := t) ho1 1
      rcases Talk.lost_cases xs r h with ⟨hbad, _⟩ | ⟨_, p0, p1⟩
      · rw [ho1] at hbad; cases hbad
      clear f3 hok hv ho2
      go_wp2_with fail
      refine (iheard_any A n c xs 0 t _ (by omega) o.ints).mono ?_
      rw [e0, l0.out]
      rintro e W4 ⟨Au, nu, cu, rfl, ou, bu⟩
      have S4 : W3.heap.size ≤ W4.heap.size := bu.size
      have B4 : Below w.heap.size w W4 := Below.next B3 bu
      have o := o.below bu
      have hnu : nu ≤ 1048576 := by have := ou.len; unfold Talk.heard at this; rw [Talk.hear_len, hlen_o.out] at this; omega
      go_wp2_with fail
      refine (iheard_any A n c xs 1 t _ (by omega) o.ints).mono ?_
      rw [e1, l1.out]
      rintro e W5 ⟨Av, nv, cv, rfl, ov, bv⟩
      have S5 : W4.heap.size ≤ W5.heap.size := bv.size
      have B5 : Below w.heap.size w W5 := Below.next B4 bv
      have o := o.below bv
      have ou := ou.below bv
      have hnv : nv ≤ 1048576 := by have := ov.len; unfold Talk.heard at this; rw [Talk.hear_len, hlen_o.out] at this; omega
      go_wp2_with fail
      refine (ilost_any A n c xs r h _ (by omega) o.ints).mono ?_
      rintro e W6 ⟨rfl, b5⟩
      have S6 : W5.heap.size ≤ W6.heap.size := b5.size
      have B6 : Below w.heap.size w W6 := Below.next B5 b5
      have o := o.below b5
      have ou := ou.below b5
      have ov := ov.below b5
      go_wp2_with fail
      refine (ilost_any Au nu cu (Talk.heard xs 0 t) r h _ hnu ou.ints).mono ?_
      rw [k0.out]
      rintro e W7 ⟨rfl, b6⟩
      have S7 : W6.heap.size ≤ W7.heap.size := b6.size
      have B7 : Below w.heap.size w W7 := Below.next B6 b6
      have o := o.below b6
      have ou := ou.below b6
      have ov := ov.below b6
      go_wp2_with fail
      refine (ilost_any Av nv cv (Talk.heard xs 1 t) r h _ hnv ov.ints).mono ?_
      rw [k1.out]
      rintro e W8 ⟨rfl, b7⟩
      have S8 : W7.heap.size ≤ W8.heap.size := b7.size
      have B8 : Below w.heap.size w W8 := Below.next B7 b7
      have o := o.below b7
      have ou := ou.below b7
      have ov := ov.below b7
      have hsum : (Talk.relay xs r h t == Talk.lostF r h 0 (Talk.heard xs 0 t) + Talk.lostF r h 0 (Talk.heard xs 1 t)) = true := by rw [ry.out]; simp
      by_cases hlt : t < (n : Int)
      · go_wp2
        go_ret
        exact ⟨rfl, B8⟩
      · have hlast : (Talk.relay xs r h t == Talk.lost xs r h) = true := by rw [F3.out (by omega)]; simp
        go_wp2
        go_ret
        exact ⟨rfl, B8⟩
  · go_enter Try.func26, Try.ntmps26
    go_wp2
    go_ret
    exact ⟨rfl, Below.refl _ _⟩

set_option maxRecDepth 100000 in
theorem lifted (os : Os) (started : os.Started) (H : Type) (enc : TypeId × Value → H) :
    ReturnsInHanded {} Try.checked os 26 .any (Rows.fnRelaySpec.pre6 enc Try.prog Try.f26 Rows.fnRelayRow.domain false) (Rows.fnRelaySpec.post enc Try.prog Try.f26 false true false false) := by
  refine returnsInHanded_of_change (C := Try.checked) own started (by kernel_rfl) Try.func26
    (ChangeSpec.witness6 (enc := enc) (C := Try.checked) false ⟨#[], #[.slice none 0 0], []⟩ 8 (by kernel_rfl) (by kernel_rfl) (by kernel_rfl) (by kernel_rfl)) ?_
  intro W base args ds gs before hval0 hW hcnd _
  have hval : ∀ (j : Nat) t v, Try.f26.params[j]? = some t → args[j]? = some v → Value.okWide Try.prog W .any base t v := hval0
  have hW' := hW
  obtain ⟨p, q, hA0, hV, rfl, hfz, hnd⟩ := hW
  have hA : DataW.TrodAll enc Try.prog W 0 (fun _ => true) true Try.f26.params.toList args.toList ds p := hA0
  rw [Try.params26] at hA hval
  obtain ⟨v0, vs0, d0, ds0, p0, q0, hargs, rfl, rfl, h0, r0⟩ := trodAll_cons hA
  obtain ⟨rfl, rfl, rfl⟩ := trodAll_nil r0
  obtain rfl : args = #[v0] := by cases args; simp_all
  obtain ⟨rfl, rfl⟩ := trodVars_none hV
  obtain ⟨a0, len0, cap0, rfl⟩ := okWide_slice Try.underlying33 (hval 0 33 v0 rfl rfl)
  have k0 := h0
  have lt0 : ∀ x ∈ p0, x.block < W.heap.size := by obtain ⟨m, hm⟩ := k0; exact DataW.trod_lt m _ _ _ hm
  obtain ⟨z0, w0⟩ : ∃ zs, IsRow .u8 W a0 len0 cap0 zs := by
    obtain ⟨fuel, hf⟩ := h0
    rcases open_ints Try.underlying33 Try.underlying5 (by kernel_rfl) hf with ⟨hcs, _⟩ | ⟨x, l, c, zs, hcs, _, hl, hm, hz, _, hcell, hwz⟩
    · simp [Value.cells] at hcs
      obtain ⟨rfl, rfl, rfl⟩ := hcs
      exact ⟨[], .inl ⟨rfl, rfl, rfl, rfl⟩⟩
    · simp [Value.cells] at hcs
      obtain ⟨rfl, rfl, rfl⟩ := hcs
      exact ⟨zs, .inr ⟨_, rfl, hl, hm, by simpa using hz, hcell, hwz⟩⟩
  clear hA0 hval0
  refine (walk a0 len0 cap0 z0 W w0).mono fun e W' ⟨he, bel⟩ => ?_
  subst he
  exact ⟨_, rfl, _, _, _, [], _, [], hW', trodAll_mk1 (shut_bool Try.underlying4 _), (trodAll_cons_mk (Below.trod laidOut (by kernel_rfl) (of_decide_eq_true (by kernel_rfl)) k0 bel lt0) trodAll_mk0), rfl, bel.frame _, fun h => by cases h⟩

theorem closed : joinedFacts Try.prog 26 Try.f26 Rows.fnRelaySpec Rows.fnRelayRow = true := by
  unfold joinedFacts
  simp only [may_enter, lifts_final, make_cut]
  kernel_rfl

theorem over : Rows.fnRelayRow.holds Try.pinned (OpenSpec.ofChange Rows.fnRelaySpec) :=
  OpenClaim.holds_of_wide 26 Try.f26 rfl rfl rfl rfl rfl rfl rfl ⟨rfl, rfl, rfl, rfl, rfl⟩ rfl rfl rfl rfl rfl (by kernel_rfl) Try.func26 closed
    (of_decide_eq_true (by kernel_rfl)) (by unfold Func.isWrapper; first | (rw [if_pos (by decide +kernel)]; kernel_rfl) | (rw [if_neg (by decide +kernel)]; exact ⟨rfl, rfl⟩))
    (fun os started H enc _ => lifted os started H enc)

theorem proved : Rows.FnRelaySaid := over
#print axioms proved
end Go.Proofs.Ytcgiehdpdnipbaa.fnRelay
