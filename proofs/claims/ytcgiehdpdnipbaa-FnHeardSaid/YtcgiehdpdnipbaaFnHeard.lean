/- Proved: the statement 'FnHeardSaid': the law FnHeard returns true for every input, and every argument reads afterwards as it read before. No further conditions. The frame was written by the kit's proof-skeleton; the walk is ours. -/
import Derived.Test.YtcgiehdpdnipbaaRows
import Derived.Test.YtcgiehdpdnipbaaLawsC
import Derived.Test.YtcgiehdpdnipbaaSimple
import Derived.Test.YtcgiehdpdnipbaaEnter
import Derived.WalkKit
import Derived.ProofKit
import Derived.OpenShut
import Derived.ShutString
import Derived.ChangeOld
import Derived.Below
namespace Go.Proofs.Ytcgiehdpdnipbaa.fnHeard
open Go.ChangeShapes Go.WideShapes Go.ChangeAt Go.RowKit
open Go.ChangeMaps (open_string shut_string)
set_option linter.unusedVariables false

theorem own : ownKnob Try.prog.godebug = none := by kernel_rfl
theorem laidOut : laidOutB Try.prog = true := by kernel_rfl

theorem walk (a0 : Option Addr) (len0 cap0 : Nat) (z0 : List Int) (w : World) (w0 : IsRow .u8 w a0 len0 cap0 z0) :
    Calls Try.prog 9 #[.slice a0 len0 cap0] w fun e w' => e = .returned (.bool true) ∧ Below w.heap.size w w' := by
  have hy0 := w0.bytes
  have hl0 := w0.len_le
  have hc0 := w0.len_cap
  clear w0
  by_cases hm0 : len0 ≤ 1048576
  · go_enter Try.func9, Try.ntmps9
    go_wp2_with fail
    refine (drawHeard a0 len0 cap0 _ hy0 hm0 hc0).mono ?_
    rintro e W1 ⟨A, n, c, xs, p, t, rfl, hn, p0, p1, t0, t1, o, bd⟩
    have S1 : w.heap.size ≤ W1.heap.size := bd.size
    have B1 : Below w.heap.size w W1 := bd
    have hlen_o := Lib.hid o.len
    go_wp2_with fail
    refine (iheard_any A n c xs p t _ (by omega) o.ints).mono ?_
    rintro e W2 ⟨Ag, ng, cg, rfl, og, bg⟩
    have S2 : W1.heap.size ≤ W2.heap.size := bg.size
    have B2 : Below w.heap.size w W2 := Below.next B1 bg
    have o := o.below bg
    go_wp2_with fail
    refine (sheard_any A n c xs p t _ (by omega) o.ints).mono ?_
    rintro e W3 ⟨Ar, nr, cr, rfl, or, br⟩
    have S3 : W2.heap.size ≤ W3.heap.size := br.size
    have B3 : Below w.heap.size w W3 := Below.next B2 br
    have o := o.below br
    have og := og.below br
    have hjl := heardL_len xs p t
    rw [hlen_o.out] at hjl
    have hng : ng ≤ 31 := by have := og.len; omega
    have hnr : nr ≤ 31 := by have := or.len; omega
    have hq : (Talk.heardOk xs p t != Talk.heardOk xs p t) = false := by simp
    have hq2 : (Talk.heardOk xs p t == Talk.heardOk xs p t) = true := by simp
    clear hjl
    go_wp2_with fail
    refine (same_any Ag Ar ng cg nr cr (heardL xs p t) (heardL xs p t) _ (by omega) (by omega) og.ints or.ints).mono ?_
    rintro e W4 ⟨rfl, be1⟩
    have S4 : W3.heap.size ≤ W4.heap.size := be1.size
    have B4 : Below w.heap.size w W4 := Below.next B3 be1
    have o := o.below be1
    have og := og.below be1
    have or := or.below be1
    cases hj : Talk.heardOk xs p t with
    | false =>
      go_wp2_with fail
      refine (same_any Ag Ar ng cg nr cr (heardL xs p t) (heardL xs p t) _ (by omega) (by omega) og.ints or.ints).mono ?_
      rintro e W5 ⟨rfl, be2⟩
      have S5 : W4.heap.size ≤ W5.heap.size := be2.size
      have B5 : Below w.heap.size w W5 := Below.next B4 be2
      have o := o.below be2
      have og := og.below be2
      have or := or.below be2
      go_wp2
      go_ret
      exact ⟨rfl, B5⟩
    | true =>
      have hj' := hj
      unfold Talk.heardOk at hj'
      simp only [Bool.and_eq_true] at hj'
      obtain ⟨⟨hv, hp⟩, ht⟩ := hj'
      have hp' := Talk.inB_true hp
      have hj2 := heard_ok hv ht (1 - p) (by omega)
      have l1 := heard_list hj
      have l2 := Lib.hid (heard_list hj2)
      rw [l1] at og
      have HB := Lib.hid (fun i x hx => Talk.hear_both t.toNat p (by omega) xs 0 i x hx)
      have hval := Lib.hid (Talk.valid_all hv)
      clear l1 hv hp ht
      go_wp2_with fail
      refine (iheard_any A n c xs (1 - p) t _ (by omega) o.ints).mono ?_
      rw [hj2, l2.out]
      rintro e W5 ⟨Ah, nh, ch, rfl, oh, bh⟩
      have S5 : W4.heap.size ≤ W5.heap.size := bh.size
      have B5 : Below w.heap.size w W5 := Below.next B4 bh
      have o := o.below bh
      have og := og.below bh
      have or := or.below bh
      obtain rfl : ng = n := by have := og.len; unfold Talk.heard at this; rw [Talk.hear_len, hlen_o.out] at this; omega
      obtain rfl : nh = ng := by have := oh.len; unfold Talk.heard at this; rw [Talk.hear_len, hlen_o.out] at this; omega
      have ig := og.ints
      have ih := oh.ints
      have io := o.ints
      have hne : ((nh : Int) != (nh : Int)) = false := by simp
      have heq : ((nh : Int) == (nh : Int)) = true := by simp
      go_wp2_with fail
      go_loopg [12] nh (fun g i wr => ∃ k : Nat, k ≤ nh ∧ g = nh - k ∧ i = .int .i64 k ∧ ∃ q, wr = W5.drewN q)
      case atStart => exact ⟨0, Nat.zero_le _, rfl, rfl, 0, rfl⟩
      case round =>
        obtain ⟨k, hk, rfl, rfl, q, rfl⟩ := hrel
        by_cases hlt : k < nh
        · obtain ⟨b1, f1, x, rfl, hx, hx1, hx2, hcx⟩ := io.at_ hlt
          obtain ⟨b2, f2, y, rfl, hy, hy1, hy2, hcy⟩ := ig.at_ hlt
          obtain ⟨b3, f3, z, rfl, hz, hz1, hz2, hcz⟩ := ih.at_ hlt
          have hxb := Talk.allIn_at hval.out hx
          obtain ⟨x0, x1⟩ := hxb
          obtain ⟨u, v, hu, hv2, huv, hor⟩ := HB.out k x hx
          unfold Talk.heard at hy hz
          rw [hu] at hy
          rw [hv2] at hz
          obtain rfl : u = y := by injection hy
          obtain rfl : v = z := by injection hz
          have j1 : (0 : Int) ≤ (k : Int) := by omega
          have j2 : (k : Int) < (nh : Int) := by omega
          have e1 : IntKind.i64.wrap (u + v) = u + v := IntWalk.i64_in _ (by omega)
          have e2 : (u + v != x) = false := by simp; omega
          clear hx hy hz hu hv2
          cases hu0 : (u != 0) with
          | false =>
            go_wp2
            go_quiet (fail)
            go_wp2
            go_roundg (nh - (k + 1))
            case measure => omega
            case rel => exact ⟨k + 1, by omega, rfl, by go_num, _, rfl⟩
          | true =>
            have hv0 : (v != 0) = false := by simp at hu0 ⊢; omega
            go_wp2
            go_quiet (fail)
            go_wp2
            go_roundg (nh - (k + 1))
            case measure => omega
            case rel => exact ⟨k + 1, by omega, rfl, by go_num, _, rfl⟩
        · go_wp2
          go_ret
          exact ⟨rfl, below_drewN B5 _⟩
  · go_enter Try.func9, Try.ntmps9
    go_wp2
    go_ret
    exact ⟨rfl, Below.refl _ _⟩

set_option maxRecDepth 100000 in
theorem lifted (os : Os) (started : os.Started) (H : Type) (enc : TypeId × Value → H) :
    ReturnsInHanded {} Try.checked os 9 .any (Rows.fnHeardSpec.pre6 enc Try.prog Try.f9 Rows.fnHeardRow.domain false) (Rows.fnHeardSpec.post enc Try.prog Try.f9 false true false false) := by
  refine returnsInHanded_of_change (C := Try.checked) own started (by kernel_rfl) Try.func9
    (ChangeSpec.witness6 (enc := enc) (C := Try.checked) false ⟨#[], #[.slice none 0 0], []⟩ 8 (by kernel_rfl) (by kernel_rfl) (by kernel_rfl) (by kernel_rfl)) ?_
  intro W base args ds gs before hval0 hW hcnd _
  have hval : ∀ (j : Nat) t v, Try.f9.params[j]? = some t → args[j]? = some v → Value.okWide Try.prog W .any base t v := hval0
  have hW' := hW
  obtain ⟨p, q, hA0, hV, rfl, hfz, hnd⟩ := hW
  have hA : DataW.TrodAll enc Try.prog W 0 (fun _ => true) true Try.f9.params.toList args.toList ds p := hA0
  rw [Try.params9] at hA hval
  obtain ⟨v0, vs0, d0, ds0, p0, q0, hargs, rfl, rfl, h0, r0⟩ := trodAll_cons hA
  obtain ⟨rfl, rfl, rfl⟩ := trodAll_nil r0
  obtain rfl : args = #[v0] := by cases args; simp_all
  obtain ⟨rfl, rfl⟩ := trodVars_none hV
  obtain ⟨a0, len0, cap0, rfl⟩ := okWide_slice Try.underlying33 (hval 0 33 v0 rfl rfl)
  have k0 := h0
  have lt0 : ∀ x ∈ p0, x.block < W.heap.size := by obtain ⟨m, hm⟩ := k0; exact DataW.trod_lt m _ _ _ hm
  obtain ⟨z0, w0⟩ : ∃ zs, IsRow .u8 W a0 len0 cap0 zs := by
    obtain ⟨fuel, hf⟩ := h0
    rcases open_ints Try.underlying33 Try.underlying5 (by kernel_rfl) hf with ⟨hcs, _⟩ | ⟨x, l, c, zs, hcs, _, hl, hm, hz, _, hcell, hwz⟩
    · simp [Value.cells] at hcs
      obtain ⟨rfl, rfl, rfl⟩ := hcs
      exact ⟨[], .inl ⟨rfl, rfl, rfl, rfl⟩⟩
    · simp [Value.cells] at hcs
      obtain ⟨rfl, rfl, rfl⟩ := hcs
      exact ⟨zs, .inr ⟨_, rfl, hl, hm, by simpa using hz, hcell, hwz⟩⟩
  clear hA0 hval0
  refine (walk a0 len0 cap0 z0 W w0).mono fun e W' ⟨he, bel⟩ => ?_
  subst he
  exact ⟨_, rfl, _, _, _, [], _, [], hW', trodAll_mk1 (shut_bool Try.underlying4 _), (trodAll_cons_mk (Below.trod laidOut (by kernel_rfl) (of_decide_eq_true (by kernel_rfl)) k0 bel lt0) trodAll_mk0), rfl, bel.frame _, fun h => by cases h⟩

theorem closed : joinedFacts Try.prog 9 Try.f9 Rows.fnHeardSpec Rows.fnHeardRow = true := by
  unfold joinedFacts
  simp only [may_enter, lifts_final, make_cut]
  kernel_rfl

theorem over : Rows.fnHeardRow.holds Try.pinned (OpenSpec.ofChange Rows.fnHeardSpec) :=
  OpenClaim.holds_of_wide 9 Try.f9 rfl rfl rfl rfl rfl rfl rfl ⟨rfl, rfl, rfl, rfl, rfl⟩ rfl rfl rfl rfl rfl (by kernel_rfl) Try.func9 closed
    (of_decide_eq_true (by kernel_rfl)) (by unfold Func.isWrapper; first | (rw [if_pos (by decide +kernel)]; kernel_rfl) | (rw [if_neg (by decide +kernel)]; exact ⟨rfl, rfl⟩))
    (fun os started H enc _ => lifted os started H enc)

theorem proved : Rows.FnHeardSaid := over
#print axioms proved
end Go.Proofs.Ytcgiehdpdnipbaa.fnHeard
