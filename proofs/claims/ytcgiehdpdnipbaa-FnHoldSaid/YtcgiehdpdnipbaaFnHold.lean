/- Proved: the statement 'FnHoldSaid': the law FnHold returns true for every input, and every argument reads afterwards as it read before. No further conditions. The frame was written by the kit's proof-skeleton; the walk is ours. -/
import Derived.Test.YtcgiehdpdnipbaaRows
import Derived.Test.YtcgiehdpdnipbaaCuts
import Derived.Test.YtcgiehdpdnipbaaSimple
import Derived.Test.YtcgiehdpdnipbaaEnter
import Derived.WalkKit
import Derived.ProofKit
import Derived.OpenShut
import Derived.ShutString
import Derived.ChangeOld
import Derived.Below
namespace Go.Proofs.Ytcgiehdpdnipbaa.fnHold
open Go.ChangeShapes Go.WideShapes Go.ChangeAt Go.RowKit
open Go.ChangeMaps (open_string shut_string)
set_option linter.unusedVariables false

theorem own : ownKnob Try.prog.godebug = none := by kernel_rfl
theorem laidOut : laidOutB Try.prog = true := by kernel_rfl

theorem walk (a0 : Option Addr) (len0 cap0 : Nat) (z0 : List Int) (w : World) (w0 : IsRow .u8 w a0 len0 cap0 z0) :
    Calls Try.prog 22 #[.slice a0 len0 cap0] w fun e w' => e = .returned (.bool true) ∧ Below w.heap.size w w' := by
  have hy0 := w0.bytes
  have hl0 := w0.len_le
  have hc0 := w0.len_cap
  clear w0
  by_cases hm0 : len0 ≤ 1048576
  · go_enter Try.func22, Try.ntmps22
    go_wp2_with fail
    refine (drawHold a0 len0 cap0 _ hy0 hm0 hc0).mono ?_
    rintro e W1 ⟨A, n, c, xs, q, rfl, hn, q0, q1, o, bd⟩
    have S1 : w.heap.size ≤ W1.heap.size := bd.size
    have B1 : Below w.heap.size w W1 := bd
    have hlen_o := Lib.hid o.len
    go_wp2_with fail
    refine (ihold_any A n c xs q _ (by omega) o.ints).mono ?_
    rintro e W2 ⟨rfl, b1⟩
    have S2 : W1.heap.size ≤ W2.heap.size := b1.size
    have B2 : Below w.heap.size w W2 := Below.next B1 b1
    have o := o.below b1
    go_wp2_with fail
    refine (shold_any A n c xs q _ (by omega) o.ints).mono ?_
    rintro e W3 ⟨rfl, b2⟩
    have S3 : W2.heap.size ≤ W3.heap.size := b2.size
    have B3 : Below w.heap.size w W3 := Below.next B2 b2
    have o := o.below b2
    have hq : (Talk.hold xs q != Talk.hold xs q) = false := by simp
    have hq2 : (Talk.hold xs q == Talk.hold xs q) = true := by simp
    rcases Talk.hold_cases xs q with hsp | ⟨g0, g1⟩
    · have hneg : Talk.hold xs q < 0 := by omega
      clear hsp
      go_wp2
      go_ret
      exact ⟨rfl, B3⟩
    · obtain ⟨f1, f2, f3, f4⟩ := Talk.hold_most g0
      have hmi := Lib.hid (Talk.mind_yes f1)
      have F2 := Lib.hid f2
      have f30 : (Talk.lost xs q (Talk.hold xs q) == 0) = true := by rw [f3]; rfl
      have F4 := Lib.hid f4
      have HF := Lib.hid f1
      clear f2 f3 f4 f1
      go_wp2_with fail
      refine (imind_any A n c xs q 50 _ (by omega) o.ints).mono ?_
      rw [HF.out, hmi.out]
      rintro e W4 ⟨A2, n2, c2, rfl, o2, b3⟩
      have S4 : W3.heap.size ≤ W4.heap.size := b3.size
      have B4 : Below w.heap.size w W4 := Below.next B3 b3
      have o := o.below b3
      have hi2 := o2.ints
      have hn2 : n2 ≤ 31 := by have := o2.len; rw [Talk.minds_len, hlen_o.out] at this; omega
      go_wp2_with fail
      go_loopg [9, 10] n2 (fun g m i wr => ∃ k : Nat, k ≤ n2 ∧ g = n2 - k ∧ i = .int .i64 k ∧ m = .int .i64 (Talk.mostF ((Talk.minds q 50 0 xs).take k)) ∧ W4 = wr)
      case atStart => exact ⟨0, Nat.zero_le _, rfl, rfl, rfl, rfl⟩
      case round =>
        obtain ⟨k, hk, rfl, rfl, rfl, rfl⟩ := hrel
        by_cases hlt : k < n2
        · obtain ⟨b, off, x, rfl, hx, hx1, hx2, hc⟩ := hi2.at_ hlt
          have hX := Lib.hid hx
          have hst := Lib.hid (show Talk.mostF ((Talk.minds q 50 0 xs).take (k + 1)) = max (Talk.mostF ((Talk.minds q 50 0 xs).take k)) x by rw [take_snoc hx]; simp [Talk.mostF])
          clear hx
          by_cases hmx : Talk.mostF ((Talk.minds q 50 0 xs).take k) < x
          · go_wp2
            go_roundg (n2 - (k + 1))
            case measure => omega
            case rel => exact ⟨k + 1, by omega, rfl, by go_num, by rw [hst.out]; congr 1; omega, rfl⟩
          · go_wp2
            go_roundg (n2 - (k + 1))
            case measure => omega
            case rel => exact ⟨k + 1, by omega, rfl, by go_num, by rw [hst.out]; congr 1; omega, rfl⟩
        · have he : (Talk.minds q 50 0 xs).take k = Talk.minds q 50 0 xs := List.take_of_length_le (by rw [o2.len]; omega)
          rw [he, F2.out]
          clear he
          go_wp2_with fail
          refine (ilost_any A n c xs q (Talk.hold xs q) _ (by omega) o.ints).mono ?_
          rintro e W5 ⟨rfl, b4⟩
          have S5 : W4.heap.size ≤ W5.heap.size := b4.size
          have B5 : Below w.heap.size w W5 := Below.next B4 b4
          have o := o.below b4
          have o2 := o2.below b4
          by_cases hz : Talk.hold xs q = 0
          · have hz' : (Talk.hold xs q == 0) = true := by rw [hz]; rfl
            clear hz
            go_wp2
            go_ret
            exact ⟨rfl, B5⟩
          · have hz' : (Talk.hold xs q == 0) = false := by simpa using hz
            have hpos : 0 < Talk.lost xs q (Talk.hold xs q - 1) := by rcases F4.out with h | h; exact absurd h hz; exact h
            go_wp2_with fail
            refine (ilost_any A n c xs q (Talk.hold xs q - 1) _ (by omega) o.ints).mono ?_
            rintro e W6 ⟨rfl, b5⟩
            have S6 : W5.heap.size ≤ W6.heap.size := b5.size
            have B6 : Below w.heap.size w W6 := Below.next B5 b5
            have o := o.below b5
            have o2 := o2.below b5
            go_wp2
            go_ret
            exact ⟨rfl, B6⟩
  · go_enter Try.func22, Try.ntmps22
    go_wp2
    go_ret
    exact ⟨rfl, Below.refl _ _⟩

set_option maxRecDepth 100000 in
theorem lifted (os : Os) (started : os.Started) (H : Type) (enc : TypeId × Value → H) :
    ReturnsInHanded {} Try.checked os 22 .any (Rows.fnHoldSpec.pre6 enc Try.prog Try.f22 Rows.fnHoldRow.domain false) (Rows.fnHoldSpec.post enc Try.prog Try.f22 false true false false) := by
  refine returnsInHanded_of_change (C := Try.checked) own started (by kernel_rfl) Try.func22
    (ChangeSpec.witness6 (enc := enc) (C := Try.checked) false ⟨#[], #[.slice none 0 0], []⟩ 8 (by kernel_rfl) (by kernel_rfl) (by kernel_rfl) (by kernel_rfl)) ?_
  intro W base args ds gs before hval0 hW hcnd _
  have hval : ∀ (j : Nat) t v, Try.f22.params[j]? = some t → args[j]? = some v → Value.okWide Try.prog W .any base t v := hval0
  have hW' := hW
  obtain ⟨p, q, hA0, hV, rfl, hfz, hnd⟩ := hW
  have hA : DataW.TrodAll enc Try.prog W 0 (fun _ => true) true Try.f22.params.toList args.toList ds p := hA0
  rw [Try.params22] at hA hval
  obtain ⟨v0, vs0, d0, ds0, p0, q0, hargs, rfl, rfl, h0, r0⟩ := trodAll_cons hA
  obtain ⟨rfl, rfl, rfl⟩ := trodAll_nil r0
  obtain rfl : args = #[v0] := by cases args; simp_all
  obtain ⟨rfl, rfl⟩ := trodVars_none hV
  obtain ⟨a0, len0, cap0, rfl⟩ := okWide_slice Try.underlying33 (hval 0 33 v0 rfl rfl)
  have k0 := h0
  have lt0 : ∀ x ∈ p0, x.block < W.heap.size := by obtain ⟨m, hm⟩ := k0; exact DataW.trod_lt m _ _ _ hm
  obtain ⟨z0, w0⟩ : ∃ zs, IsRow .u8 W a0 len0 cap0 zs := by
    obtain ⟨fuel, hf⟩ := h0
    rcases open_ints Try.underlying33 Try.underlying5 (by kernel_rfl) hf with ⟨hcs, _⟩ | ⟨x, l, c, zs, hcs, _, hl, hm, hz, _, hcell, hwz⟩
    · simp [Value.cells] at hcs
      obtain ⟨rfl, rfl, rfl⟩ := hcs
      exact ⟨[], .inl ⟨rfl, rfl, rfl, rfl⟩⟩
    · simp [Value.cells] at hcs
      obtain ⟨rfl, rfl, rfl⟩ := hcs
      exact ⟨zs, .inr ⟨_, rfl, hl, hm, by simpa using hz, hcell, hwz⟩⟩
  clear hA0 hval0
  refine (walk a0 len0 cap0 z0 W w0).mono fun e W' ⟨he, bel⟩ => ?_
  subst he
  exact ⟨_, rfl, _, _, _, [], _, [], hW', trodAll_mk1 (shut_bool Try.underlying4 _), (trodAll_cons_mk (Below.trod laidOut (by kernel_rfl) (of_decide_eq_true (by kernel_rfl)) k0 bel lt0) trodAll_mk0), rfl, bel.frame _, fun h => by cases h⟩

theorem closed : joinedFacts Try.prog 22 Try.f22 Rows.fnHoldSpec Rows.fnHoldRow = true := by
  unfold joinedFacts
  simp only [may_enter, lifts_final, make_cut]
  kernel_rfl

theorem over : Rows.fnHoldRow.holds Try.pinned (OpenSpec.ofChange Rows.fnHoldSpec) :=
  OpenClaim.holds_of_wide 22 Try.f22 rfl rfl rfl rfl rfl rfl rfl ⟨rfl, rfl, rfl, rfl, rfl⟩ rfl rfl rfl rfl rfl (by kernel_rfl) Try.func22 closed
    (of_decide_eq_true (by kernel_rfl)) (by unfold Func.isWrapper; first | (rw [if_pos (by decide +kernel)]; kernel_rfl) | (rw [if_neg (by decide +kernel)]; exact ⟨rfl, rfl⟩))
    (fun os started H enc _ => lifted os started H enc)

theorem proved : Rows.FnHoldSaid := over
#print axioms proved
end Go.Proofs.Ytcgiehdpdnipbaa.fnHold
