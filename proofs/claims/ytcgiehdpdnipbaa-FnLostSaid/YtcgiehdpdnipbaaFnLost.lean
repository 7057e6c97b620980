/- Proved: the statement 'FnLostSaid': the law FnLost returns true for every input, and every argument reads afterwards as it read before. No further conditions. The frame was written by the kit's proof-skeleton; the walk is ours. -/
import Derived.Test.YtcgiehdpdnipbaaRows
import Derived.Test.YtcgiehdpdnipbaaCuts
import Derived.Test.YtcgiehdpdnipbaaSimple
import Derived.Test.YtcgiehdpdnipbaaEnter
import Derived.WalkKit
import Derived.ProofKit
import Derived.OpenShut
import Derived.ShutString
import Derived.ChangeOld
import Derived.Below
namespace Go.Proofs.Ytcgiehdpdnipbaa.fnLost
open Go.ChangeShapes Go.WideShapes Go.ChangeAt Go.RowKit
open Go.ChangeMaps (open_string shut_string)
set_option linter.unusedVariables false

theorem own : ownKnob Try.prog.godebug = none := by kernel_rfl
theorem laidOut : laidOutB Try.prog = true := by kernel_rfl

theorem walk (a0 : Option Addr) (len0 cap0 : Nat) (z0 : List Int) (w : World) (w0 : IsRow .u8 w a0 len0 cap0 z0) :
    Calls Try.prog 24 #[.slice a0 len0 cap0] w fun e w' => e = .returned (.bool true) ∧ Below w.heap.size w w' := by
  have hy0 := w0.bytes
  have hl0 := w0.len_le
  have hc0 := w0.len_cap
  clear w0
  by_cases hm0 : len0 ≤ 1048576
  · go_enter Try.func24, Try.ntmps24
    go_wp2_with fail
    refine (drawLost a0 len0 cap0 _ hy0 hm0 hc0).mono ?_
    rintro e W1 ⟨A, n, c, xs, r, h, rfl, hn, r0, r1, h0, h1, o, bd⟩
    have S1 : w.heap.size ≤ W1.heap.size := bd.size
    have B1 : Below w.heap.size w W1 := bd
    have hlen_o := Lib.hid o.len
    go_wp2_with fail
    refine (ilost_any A n c xs r h _ (by omega) o.ints).mono ?_
    rintro e W2 ⟨rfl, b1⟩
    have S2 : W1.heap.size ≤ W2.heap.size := b1.size
    have B2 : Below w.heap.size w W2 := Below.next B1 b1
    have o := o.below b1
    go_wp2_with fail
    refine (slost_any A n c xs r h _ (by omega) o.ints).mono ?_
    rintro e W3 ⟨rfl, b2⟩
    have S3 : W2.heap.size ≤ W3.heap.size := b2.size
    have B3 : Below w.heap.size w W3 := Below.next B2 b2
    have o := o.below b2
    have hq : (Talk.lost xs r h != Talk.lost xs r h) = false := by simp
    have hq2 : (Talk.lost xs r h == Talk.lost xs r h) = true := by simp
    rcases Talk.lost_cases xs r h with ⟨hok, hsp⟩ | ⟨hok, p0, p1⟩
    · have hneg : Talk.lost xs r h < 0 := by omega
      clear hsp hok
      go_wp2
      go_ret
      exact ⟨rfl, B3⟩
    · obtain ⟨f1, f2, f3, f4, f5⟩ := Talk.lost_law hok
      have F5 := Lib.hid f5
      clear hok f5
      go_wp2_with fail
      refine (ilost_any A n c xs (r + 1) h _ (by omega) o.ints).mono ?_
      rintro e W4 ⟨rfl, b3⟩
      have S4 : W3.heap.size ≤ W4.heap.size := b3.size
      have B4 : Below w.heap.size w W4 := Below.next B3 b3
      have o := o.below b3
      go_wp2_with fail
      refine (ilost_any A n c xs r (h + 1) _ (by omega) o.ints).mono ?_
      rintro e W5 ⟨rfl, b4⟩
      have S5 : W4.heap.size ≤ W5.heap.size := b4.size
      have B5 : Below w.heap.size w W5 := Below.next B4 b4
      have o := o.below b4
      go_wp2_with fail
      refine (ihold_any A n c xs r _ (by omega) o.ints).mono ?_
      rintro e W6 ⟨rfl, b5⟩
      have S6 : W5.heap.size ≤ W6.heap.size := b5.size
      have B6 : Below w.heap.size w W6 := Below.next B5 b5
      have o := o.below b5
      go_wp2_with fail
      refine (iwords_any A n c xs _ (by omega) o.ints).mono ?_
      rintro e w' ⟨rfl, rfl⟩
      cases hz : (Talk.lost xs r h == 0) with
      | true =>
        have h5 := F5.out
        rw [hz] at h5
        have h6 := h5.symm
        simp only [Bool.and_eq_true, decide_eq_true_eq] at h6
        obtain ⟨h7, h8⟩ := h6
        have h9 : decide (Talk.hold xs r ≤ h) = true := by simp; omega
        have h10 : decide (0 ≤ Talk.hold xs r) = true := by simp; omega
        clear h5
        go_wp2
        go_ret
        exact ⟨rfl, B6⟩
      | false =>
        have h5 := F5.out
        rw [hz] at h5
        have h6 := h5.symm
        clear h5
        by_cases h7 : 0 ≤ Talk.hold xs r
        · have h8 : h < Talk.hold xs r := by simp [h7] at h6; omega
          have h9 : decide (Talk.hold xs r ≤ h) = false := by simp; omega
          have h10 : decide (0 ≤ Talk.hold xs r) = true := by simp; omega
          clear h6
          go_wp2
          go_ret
          exact ⟨rfl, B6⟩
        · have h10 : decide (0 ≤ Talk.hold xs r) = false := by simp; omega
          clear h6
          go_wp2
          go_ret
          exact ⟨rfl, B6⟩
  · go_enter Try.func24, Try.ntmps24
    go_wp2
    go_ret
    exact ⟨rfl, Below.refl _ _⟩

set_option maxRecDepth 100000 in
theorem lifted (os : Os) (started : os.Started) (H : Type) (enc : TypeId × Value → H) :
    ReturnsInHanded {} Try.checked os 24 .any (Rows.fnLostSpec.pre6 enc Try.prog Try.f24 Rows.fnLostRow.domain false) (Rows.fnLostSpec.post enc Try.prog Try.f24 false true false false) := by
  refine returnsInHanded_of_change (C := Try.checked) own started (by kernel_rfl) Try.func24
    (ChangeSpec.witness6 (enc := enc) (C := Try.checked) false ⟨#[], #[.slice none 0 0], []⟩ 8 (by kernel_rfl) (by kernel_rfl) (by kernel_rfl) (by kernel_rfl)) ?_
  intro W base args ds gs before hval0 hW hcnd _
  have hval : ∀ (j : Nat) t v, Try.f24.params[j]? = some t → args[j]? = some v → Value.okWide Try.prog W .any base t v := hval0
  have hW' := hW
  obtain ⟨p, q, hA0, hV, rfl, hfz, hnd⟩ := hW
  have hA : DataW.TrodAll enc Try.prog W 0 (fun _ => true) true Try.f24.params.toList args.toList ds p := hA0
  rw [Try.params24] at hA hval
  obtain ⟨v0, vs0, d0, ds0, p0, q0, hargs, rfl, rfl, h0, r0⟩ := trodAll_cons hA
  obtain ⟨rfl, rfl, rfl⟩ := trodAll_nil r0
  obtain rfl : args = #[v0] := by cases args; simp_all
  obtain ⟨rfl, rfl⟩ := trodVars_none hV
  obtain ⟨a0, len0, cap0, rfl⟩ := okWide_slice Try.underlying33 (hval 0 33 v0 rfl rfl)
  have k0 := h0
  have lt0 : ∀ x ∈ p0, x.block < W.heap.size := by obtain ⟨m, hm⟩ := k0; exact DataW.trod_lt m _ _ _ hm
  obtain ⟨z0, w0⟩ : ∃ zs, IsRow .u8 W a0 len0 cap0 zs := by
    obtain ⟨fuel, hf⟩ := h0
    rcases open_ints Try.underlying33 Try.underlying5 (by kernel_rfl) hf with ⟨hcs, _⟩ | ⟨x, l, c, zs, hcs, _, hl, hm, hz, _, hcell, hwz⟩
    · simp [Value.cells] at hcs
      obtain ⟨rfl, rfl, rfl⟩ := hcs
      exact ⟨[], .inl ⟨rfl, rfl, rfl, rfl⟩⟩
    · simp [Value.cells] at hcs
      obtain ⟨rfl, rfl, rfl⟩ := hcs
      exact ⟨zs, .inr ⟨_, rfl, hl, hm, by simpa using hz, hcell, hwz⟩⟩
  clear hA0 hval0
  refine (walk a0 len0 cap0 z0 W w0).mono fun e W' ⟨he, bel⟩ => ?_
  subst he
  exact ⟨_, rfl, _, _, _, [], _, [], hW', trodAll_mk1 (shut_bool Try.underlying4 _), (trodAll_cons_mk (Below.trod laidOut (by kernel_rfl) (of_decide_eq_true (by kernel_rfl)) k0 bel lt0) trodAll_mk0), rfl, bel.frame _, fun h => by cases h⟩

theorem closed : joinedFacts Try.prog 24 Try.f24 Rows.fnLostSpec Rows.fnLostRow = true := by
  unfold joinedFacts
  simp only [may_enter, lifts_final, make_cut]
  kernel_rfl

theorem over : Rows.fnLostRow.holds Try.pinned (OpenSpec.ofChange Rows.fnLostSpec) :=
  OpenClaim.holds_of_wide 24 Try.f24 rfl rfl rfl rfl rfl rfl rfl ⟨rfl, rfl, rfl, rfl, rfl⟩ rfl rfl rfl rfl rfl (by kernel_rfl) Try.func24 closed
    (of_decide_eq_true (by kernel_rfl)) (by unfold Func.isWrapper; first | (rw [if_pos (by decide +kernel)]; kernel_rfl) | (rw [if_neg (by decide +kernel)]; exact ⟨rfl, rfl⟩))
    (fun os started H enc _ => lifted os started H enc)

theorem proved : Rows.FnLostSaid := over
#print axioms proved
end Go.Proofs.Ytcgiehdpdnipbaa.fnLost
