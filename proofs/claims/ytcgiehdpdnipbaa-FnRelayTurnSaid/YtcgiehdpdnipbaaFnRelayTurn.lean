/- Proved: the statement 'FnRelayTurnSaid': the law FnRelayTurn returns true for every input, and every argument reads afterwards as it read before. No further conditions. The frame was written by the kit's proof-skeleton; the walk is ours. -/
import Derived.Test.YtcgiehdpdnipbaaRows
import Derived.Test.YtcgiehdpdnipbaaCuts
import Derived.Test.YtcgiehdpdnipbaaSimple
import Derived.Test.YtcgiehdpdnipbaaEnter
import Derived.WalkKit
import Derived.ProofKit
import Derived.OpenShut
import Derived.ShutString
import Derived.ChangeOld
import Derived.Below
namespace Go.Proofs.Ytcgiehdpdnipbaa.fnRelayTurn
open Go.ChangeShapes Go.WideShapes Go.ChangeAt Go.RowKit
open Go.ChangeMaps (open_string shut_string)
set_option linter.unusedVariables false

theorem own : ownKnob Try.prog.godebug = none := by kernel_rfl
theorem laidOut : laidOutB Try.prog = true := by kernel_rfl

theorem walk (a0 : Option Addr) (len0 cap0 : Nat) (z0 : List Int) (w : World) (w0 : IsRow .u8 w a0 len0 cap0 z0) :
    Calls Try.prog 27 #[.slice a0 len0 cap0] w fun e w' => e = .returned (.bool true) ∧ Below w.heap.size w w' := by
  have hy0 := w0.bytes
  have hl0 := w0.len_le
  have hc0 := w0.len_cap
  clear w0
  by_cases hm0 : len0 ≤ 1048576
  · go_enter Try.func27, Try.ntmps27
    go_wp2_with fail
    refine (drawTurn a0 len0 cap0 _ hy0 hm0 hc0).mono ?_
    rintro e W1 ⟨A, n, c, xs, r, h, rfl, hn, r0, r1, h0, h1, o, bd⟩
    have S1 : w.heap.size ≤ W1.heap.size := bd.size
    have B1 : Below w.heap.size w W1 := bd
    have hlen_o := Lib.hid o.len
    go_wp2_with fail
    refine (iturn_any A n c xs r h _ (by omega) o.ints).mono ?_
    rintro e W2 ⟨rfl, b1⟩
    have S2 : W1.heap.size ≤ W2.heap.size := b1.size
    have B2 : Below w.heap.size w W2 := Below.next B1 b1
    have o := o.below b1
    go_wp2_with fail
    refine (sturn_any A n c xs r h _ (by omega) o.ints).mono ?_
    rintro e W3 ⟨rfl, b2⟩
    have S3 : W2.heap.size ≤ W3.heap.size := b2.size
    have B3 : Below w.heap.size w W3 := Below.next B2 b2
    have o := o.below b2
    have hq : (Talk.ok xs r h != Talk.ok xs r h) = false := by simp
    have hq1 : (turnV xs r h != turnV xs r h) = false := by simp
    have hq2 : (turnV xs r h == turnV xs r h) = true := by simp
    have hq3 : (Talk.ok xs r h == Talk.ok xs r h) = true := by simp
    cases hok : Talk.ok xs r h with
    | false =>
      go_wp2
      go_ret
      exact ⟨rfl, B3⟩
    | true =>
      obtain ⟨f1, f2, f3, f4⟩ := Talk.best_spec (Talk.relay xs r h) 30 (by omega)
      have hty := turnV_yes hok
      rw [← hty] at f1 f2 f3 f4
      have F3 := Lib.hid f3
      have F4 := Lib.hid f4
      have hpos : 0 ≤ Talk.relay xs r h (turnV xs r h) := by
        rcases Talk.relay_cases xs r h (turnV xs r h) with ⟨h5, _⟩ | ⟨_, h5⟩
        · unfold Talk.relayOk at h5; rw [hok, Talk.inB_mk ⟨f1, by omega⟩] at h5; cases h5
        · exact h5
      clear f3 f4 hty
      go_wp2_with fail
      refine (irelay_any A n c xs r h (turnV xs r h) _ (by omega) o.ints).mono ?_
      rintro e W4 ⟨rfl, b3⟩
      have S4 : W3.heap.size ≤ W4.heap.size := b3.size
      have B4 : Below w.heap.size w W4 := Below.next B3 b3
      have o := o.below b3
      go_wp2_with fail
      go_loopg [11, 12] 30 (fun g i _ wr => ∃ k : Nat, k ≤ 30 ∧ g = 30 - k ∧ i = .int .i64 ((k : Int) + 1) ∧ Below w.heap.size w wr ∧ Ints wr A n xs)
      case atStart => exact ⟨0, by omega, rfl, rfl, B4, o.ints⟩
      case round =>
        clear o
        obtain ⟨k, hk, rfl, rfl, hb, hi⟩ := hrel
        by_cases hlt : k < 30
        · go_wp2_with fail
          refine (irelay_any A n c xs r h _ _ (by omega) hi).mono ?_
          rintro e w1 ⟨rfl, b4⟩
          have g1 := F3.out ((k : Int) + 1) (by omega) (by omega)
          by_cases hlt2 : (k : Int) + 1 < turnV xs r h
          · have g2 := F4.out ((k : Int) + 1) (by omega) hlt2
            have g3 : (Talk.relay xs r h ((k : Int) + 1) == Talk.relay xs r h (turnV xs r h)) = false := by simp; omega
            go_wp2
            go_roundg (30 - (k + 1))
            case measure => omega
            case rel => exact ⟨k + 1, by omega, rfl, by go_num, Below.next hb b4, hi.below b4⟩
          · cases hz : (Talk.relay xs r h ((k : Int) + 1) == Talk.relay xs r h (turnV xs r h)) with
            | true =>
              go_wp2
              go_roundg (30 - (k + 1))
              case measure => omega
              case rel => exact ⟨k + 1, by omega, rfl, by go_num, Below.next hb b4, hi.below b4⟩
            | false =>
              go_wp2
              go_roundg (30 - (k + 1))
              case measure => omega
              case rel => exact ⟨k + 1, by omega, rfl, by go_num, Below.next hb b4, hi.below b4⟩
        · obtain rfl : k = 30 := by omega
          go_wp2
          go_ret
          exact ⟨rfl, hb⟩
  · go_enter Try.func27, Try.ntmps27
    go_wp2
    go_ret
    exact ⟨rfl, Below.refl _ _⟩

set_option maxRecDepth 100000 in
theorem lifted (os : Os) (started : os.Started) (H : Type) (enc : TypeId × Value → H) :
    ReturnsInHanded {} Try.checked os 27 .any (Rows.fnRelayTurnSpec.pre6 enc Try.prog Try.f27 Rows.fnRelayTurnRow.domain false) (Rows.fnRelayTurnSpec.post enc Try.prog Try.f27 false true false false) := by
  refine returnsInHanded_of_change (C := Try.checked) own started (by kernel_rfl) Try.func27
    (ChangeSpec.witness6 (enc := enc) (C := Try.checked) false ⟨#[], #[.slice none 0 0], []⟩ 8 (by kernel_rfl) (by kernel_rfl) (by kernel_rfl) (by kernel_rfl)) ?_
  intro W base args ds gs before hval0 hW hcnd _
  have hval : ∀ (j : Nat) t v, Try.f27.params[j]? = some t → args[j]? = some v → Value.okWide Try.prog W .any base t v := hval0
  have hW' := hW
  obtain ⟨p, q, hA0, hV, rfl, hfz, hnd⟩ := hW
  have hA : DataW.TrodAll enc Try.prog W 0 (fun _ => true) true Try.f27.params.toList args.toList ds p := hA0
  rw [Try.params27] at hA hval
  obtain ⟨v0, vs0, d0, ds0, p0, q0, hargs, rfl, rfl, h0, r0⟩ := trodAll_cons hA
  obtain ⟨rfl, rfl, rfl⟩ := trodAll_nil r0
  obtain rfl : args = #[v0] := by cases args; simp_all
  obtain ⟨rfl, rfl⟩ := trodVars_none hV
  obtain ⟨a0, len0, cap0, rfl⟩ := okWide_slice Try.underlying33 (hval 0 33 v0 rfl rfl)
  have k0 := h0
  have lt0 : ∀ x ∈ p0, x.block < W.heap.size := by obtain ⟨m, hm⟩ := k0; exact DataW.trod_lt m _ _ _ hm
  obtain ⟨z0, w0⟩ : ∃ zs, IsRow .u8 W a0 len0 cap0 zs := by
    obtain ⟨fuel, hf⟩ := h0
    rcases open_ints Try.underlying33 Try.underlying5 (by kernel_rfl) hf with ⟨hcs, _⟩ | ⟨x, l, c, zs, hcs, _, hl, hm, hz, _, hcell, hwz⟩
    · simp [Value.cells] at hcs
      obtain ⟨rfl, rfl, rfl⟩ := hcs
      exact ⟨[], .inl ⟨rfl, rfl, rfl, rfl⟩⟩
    · simp [Value.cells] at hcs
      obtain ⟨rfl, rfl, rfl⟩ := hcs
      exact ⟨zs, .inr ⟨_, rfl, hl, hm, by simpa using hz, hcell, hwz⟩⟩
  clear hA0 hval0
  refine (walk a0 len0 cap0 z0 W w0).mono fun e W' ⟨he, bel⟩ => ?_
  subst he
  exact ⟨_, rfl, _, _, _, [], _, [], hW', trodAll_mk1 (shut_bool Try.underlying4 _), (trodAll_cons_mk (Below.trod laidOut (by kernel_rfl) (of_decide_eq_true (by kernel_rfl)) k0 bel lt0) trodAll_mk0), rfl, bel.frame _, fun h => by cases h⟩

theorem closed : joinedFacts Try.prog 27 Try.f27 Rows.fnRelayTurnSpec Rows.fnRelayTurnRow = true := by
  unfold joinedFacts
  simp only [may_enter, lifts_final, make_cut]
  kernel_rfl

theorem over : Rows.fnRelayTurnRow.holds Try.pinned (OpenSpec.ofChange Rows.fnRelayTurnSpec) :=
  OpenClaim.holds_of_wide 27 Try.f27 rfl rfl rfl rfl rfl rfl rfl ⟨rfl, rfl, rfl, rfl, rfl⟩ rfl rfl rfl rfl rfl (by kernel_rfl) Try.func27 closed
    (of_decide_eq_true (by kernel_rfl)) (by unfold Func.isWrapper; first | (rw [if_pos (by decide +kernel)]; kernel_rfl) | (rw [if_neg (by decide +kernel)]; exact ⟨rfl, rfl⟩))
    (fun os started H enc _ => lifted os started H enc)

theorem proved : Rows.FnRelayTurnSaid := over
#print axioms proved
end Go.Proofs.Ytcgiehdpdnipbaa.fnRelayTurn
