/- Proved: the statement 'FnExactRelayTurnSaid': the law FnExactRelayTurn returns true for every input, and every argument reads afterwards as it read before. No further conditions. The frame was written by the kit's proof-skeleton; the walk is ours. -/
import Derived.Test.YtcgiehdpdnipbaaRows
import Derived.Test.YtcgiehdpdnipbaaRelay
import Derived.Test.YtcgiehdpdnipbaaEnter
import Derived.WalkKit
import Derived.ProofKit
import Derived.OpenShut
import Derived.ShutString
import Derived.ChangeOld
import Derived.Below
namespace Go.Proofs.Ytcgiehdpdnipbaa.fnExactRelayTurn
open Go.ChangeShapes Go.WideShapes Go.ChangeAt Go.RowKit
open Go.ChangeMaps (open_string shut_string)
set_option linter.unusedVariables false

theorem own : ownKnob Try.prog.godebug = none := by kernel_rfl
theorem laidOut : laidOutB Try.prog = true := by kernel_rfl

theorem walk (a0 : Option Addr) (len0 cap0 : Nat) (z0 : List Int) (a1 : Int) (a2 : Int) (w : World) (w0 : IsRow .i64 w a0 len0 cap0 z0) (w1 : (Lit.int .i64 a1).wf = true) (w2 : (Lit.int .i64 a2).wf = true) :
    Calls Try.prog 25 #[.slice a0 len0 cap0, .int .i64 a1, .int .i64 a2] w fun e w' => e = .returned (.bool true) ∧ Below w.heap.size w w' := by
  have hi0 := w0.ints
  have hl0 := w0.len_le
  generalize z0.take len0 = xs0 at hi0
  have hlen0 := Lib.hid hi0.len
  clear w0
  by_cases hm0 : len0 ≤ 1048576
  · go_enter Try.func25, Try.ntmps25
    go_wp2_with fail
    refine (to_any a0 len0 cap0 xs0 _ hm0 hi0).mono ?_
    rintro e W1 ⟨As0, cs0, rfl, os0, bs0⟩
    have S1 : w.heap.size ≤ W1.heap.size := bs0.size
    have B1 : Below w.heap.size w W1 := bs0
    go_wp2_with fail
    refine (sturn_any As0 len0 cs0 xs0 a1 a2 _ hm0 os0.ints).mono ?_
    rintro e W2 ⟨rfl, bc1⟩
    have S2 : W1.heap.size ≤ W2.heap.size := bc1.size
    have B2 : Below w.heap.size w W2 := Below.next B1 bc1
    have os0 := os0.below bc1
    go_wp2_with fail
    refine (to_any a0 len0 cap0 xs0 _ hm0 (hi0.below B2)).mono ?_
    rintro e W3 ⟨Ax0, cx0, rfl, ox0, bx0⟩
    have S3 : W2.heap.size ≤ W3.heap.size := bx0.size
    have B3 : Below w.heap.size w W3 := Below.next B2 bx0
    have os0 := os0.below bx0
    go_wp2_with fail
    refine (iturn_any Ax0 len0 cx0 xs0 a1 a2 _ hm0 ox0.ints).mono ?_
    rintro e W4 ⟨rfl, bc2⟩
    have S4 : W3.heap.size ≤ W4.heap.size := bc2.size
    have B4 : Below w.heap.size w W4 := Below.next B3 bc2
    have os0 := os0.below bc2
    have ox0 := ox0.below bc2
    have hq : (turnV xs0 a1 a2 != turnV xs0 a1 a2) = false := by simp
    have hq2 : (Talk.ok xs0 a1 a2 != Talk.ok xs0 a1 a2) = false := by simp
    go_wp2_with fail
    refine (to_any a0 len0 cap0 xs0 _ hm0 (hi0.below B4)).mono ?_
    rintro e W5 ⟨Ay0, cy0, rfl, oy0, by0⟩
    have S5 : W4.heap.size ≤ W5.heap.size := by0.size
    have B5 : Below w.heap.size w W5 := Below.next B4 by0
    have os0 := os0.below by0
    have ox0 := ox0.below by0
    go_wp2_with fail
    refine (eq_any Ax0 Ay0 len0 cx0 len0 cy0 xs0 xs0 _ hm0 hm0 ox0.ints oy0.ints).mono ?_
    rintro e W6 ⟨rfl, be1⟩
    have S6 : W5.heap.size ≤ W6.heap.size := be1.size
    have B6 : Below w.heap.size w W6 := Below.next B5 be1
    have os0 := os0.below be1
    have ox0 := ox0.below be1
    have oy0 := oy0.below be1
    go_wp2
    go_ret
    exact ⟨rfl, B6⟩
  · go_enter Try.func25, Try.ntmps25
    go_wp2
    go_ret
    exact ⟨rfl, Below.refl _ _⟩

set_option maxRecDepth 100000 in
theorem lifted (os : Os) (started : os.Started) (H : Type) (enc : TypeId × Value → H) :
    ReturnsInHanded {} Try.checked os 25 .any (Rows.fnExactRelayTurnSpec.pre6 enc Try.prog Try.f25 Rows.fnExactRelayTurnRow.domain false) (Rows.fnExactRelayTurnSpec.post enc Try.prog Try.f25 false true false false) := by
  refine returnsInHanded_of_change (C := Try.checked) own started (by kernel_rfl) Try.func25
    (ChangeSpec.witness6 (enc := enc) (C := Try.checked) false ⟨#[], #[.slice none 0 0, .int .i64 0, .int .i64 0], []⟩ 8 (by kernel_rfl) (by kernel_rfl) (by kernel_rfl) (by kernel_rfl)) ?_
  intro W base args ds gs before hval0 hW hcnd _
  have hval : ∀ (j : Nat) t v, Try.f25.params[j]? = some t → args[j]? = some v → Value.okWide Try.prog W .any base t v := hval0
  have hW' := hW
  obtain ⟨p, q, hA0, hV, rfl, hfz, hnd⟩ := hW
  have hA : DataW.TrodAll enc Try.prog W 0 (fun _ => true) true Try.f25.params.toList args.toList ds p := hA0
  rw [Try.params25] at hA hval
  obtain ⟨v0, vs0, d0, ds0, p0, q0, hargs, rfl, rfl, h0, r0⟩ := trodAll_cons hA
  obtain ⟨v1, vs1, d1, ds1, p1, q1, rfl, rfl, rfl, h1, r1⟩ := trodAll_cons r0
  obtain ⟨v2, vs2, d2, ds2, p2, q2, rfl, rfl, rfl, h2, r2⟩ := trodAll_cons r1
  obtain ⟨rfl, rfl, rfl⟩ := trodAll_nil r2
  obtain rfl : args = #[v0, v1, v2] := by cases args; simp_all
  obtain ⟨rfl, rfl⟩ := trodVars_none hV
  obtain ⟨a0, len0, cap0, rfl⟩ := okWide_slice Try.underlying22 (hval 0 22 v0 rfl rfl)
  have k0 := h0
  have lt0 : ∀ x ∈ p0, x.block < W.heap.size := by obtain ⟨m, hm⟩ := k0; exact DataW.trod_lt m _ _ _ hm
  obtain ⟨z0, w0⟩ : ∃ zs, IsRow .i64 W a0 len0 cap0 zs := by
    obtain ⟨fuel, hf⟩ := h0
    rcases open_ints Try.underlying22 Try.underlying3 (by kernel_rfl) hf with ⟨hcs, _⟩ | ⟨x, l, c, zs, hcs, _, hl, hm, hz, _, hcell, hwz⟩
    · simp [Value.cells] at hcs
      obtain ⟨rfl, rfl, rfl⟩ := hcs
      exact ⟨[], .inl ⟨rfl, rfl, rfl, rfl⟩⟩
    · simp [Value.cells] at hcs
      obtain ⟨rfl, rfl, rfl⟩ := hcs
      exact ⟨zs, .inr ⟨_, rfl, hl, hm, by simpa using hz, hcell, hwz⟩⟩
  obtain ⟨a1, rfl, rfl, rfl, w1⟩ := open_int Try.underlying3 (hval 1 3 v1 rfl rfl) h1
  obtain ⟨a2, rfl, rfl, rfl, w2⟩ := open_int Try.underlying3 (hval 2 3 v2 rfl rfl) h2
  clear hA0 hval0
  refine (walk a0 len0 cap0 z0 a1 a2 W w0 w1 w2).mono fun e W' ⟨he, bel⟩ => ?_
  subst he
  exact ⟨_, rfl, _, _, _, [], _, [], hW', trodAll_mk1 (shut_bool Try.underlying4 _), (trodAll_cons_mk (Below.trod laidOut (by kernel_rfl) (of_decide_eq_true (by kernel_rfl)) k0 bel lt0) (trodAll_cons_mk (shut_int Try.underlying3 w1) (trodAll_cons_mk (shut_int Try.underlying3 w2) trodAll_mk0))), rfl, bel.frame _, fun h => by cases h⟩

theorem closed : joinedFacts Try.prog 25 Try.f25 Rows.fnExactRelayTurnSpec Rows.fnExactRelayTurnRow = true := by
  unfold joinedFacts
  simp only [may_enter, lifts_final, make_cut]
  kernel_rfl

theorem over : Rows.fnExactRelayTurnRow.holds Try.pinned (OpenSpec.ofChange Rows.fnExactRelayTurnSpec) :=
  OpenClaim.holds_of_wide 25 Try.f25 rfl rfl rfl rfl rfl rfl rfl ⟨rfl, rfl, rfl, rfl, rfl⟩ rfl rfl rfl rfl rfl (by kernel_rfl) Try.func25 closed
    (of_decide_eq_true (by kernel_rfl)) (by unfold Func.isWrapper; first | (rw [if_pos (by decide +kernel)]; kernel_rfl) | (rw [if_neg (by decide +kernel)]; exact ⟨rfl, rfl⟩))
    (fun os started H enc _ => lifted os started H enc)

theorem proved : Rows.FnExactRelayTurnSaid := over
#print axioms proved
end Go.Proofs.Ytcgiehdpdnipbaa.fnExactRelayTurn
