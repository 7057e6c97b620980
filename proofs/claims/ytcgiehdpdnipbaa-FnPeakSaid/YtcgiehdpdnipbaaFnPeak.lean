/- Proved: the statement 'FnPeakSaid': the law FnPeak returns true for every input, and every argument reads afterwards as it read before. No further conditions. The frame was written by the kit's proof-skeleton; the walk is ours. -/
import Derived.Test.YtcgiehdpdnipbaaRows
import Derived.Test.YtcgiehdpdnipbaaCuts
import Derived.Test.YtcgiehdpdnipbaaSimple
import Derived.Test.YtcgiehdpdnipbaaEnter
import Derived.WalkKit
import Derived.ProofKit
import Derived.OpenShut
import Derived.ShutString
import Derived.ChangeOld
import Derived.Below
namespace Go.Proofs.Ytcgiehdpdnipbaa.fnPeak
open Go.ChangeShapes Go.WideShapes Go.ChangeAt Go.RowKit
open Go.ChangeMaps (open_string shut_string)
set_option linter.unusedVariables false

theorem own : ownKnob Try.prog.godebug = none := by kernel_rfl
theorem laidOut : laidOutB Try.prog = true := by kernel_rfl

theorem walk (a0 : Option Addr) (len0 cap0 : Nat) (z0 : List Int) (w : World) (w0 : IsRow .u8 w a0 len0 cap0 z0) :
    Calls Try.prog 19 #[.slice a0 len0 cap0] w fun e w' => e = .returned (.bool true) ∧ Below w.heap.size w w' := by
  have hy0 := w0.bytes
  have hl0 := w0.len_le
  have hc0 := w0.len_cap
  clear w0
  by_cases hm0 : len0 ≤ 1048576
  · go_enter Try.func19, Try.ntmps19
    go_wp2_with fail
    refine (drawPeak a0 len0 cap0 _ hy0 hm0 hc0).mono ?_
    rintro e W1 ⟨A, n, c, xs, q, rfl, hn, q0, q1, o, bd⟩
    have S1 : w.heap.size ≤ W1.heap.size := bd.size
    have B1 : Below w.heap.size w W1 := bd
    have hlen_o := Lib.hid o.len
    go_wp2_with fail
    refine (ipeak_any A n c xs q _ (by omega) o.ints o.cap_le o.cap_max).mono ?_
    rintro e w' ⟨rfl, rfl⟩
    go_wp2_with fail
    refine (speak_any A n c xs q _ (by omega) o.ints o.cap_le o.cap_max).mono ?_
    rintro e w' ⟨rfl, rfl⟩
    have hq : (Talk.peak xs q != Talk.peak xs q) = false := by simp
    have hq2 : (Talk.peak xs q == Talk.peak xs q) = true := by simp
    rcases Talk.peak_cases xs q with hsp | ⟨k, rfl, hv, k1, k2⟩
    · have hneg : Talk.peak xs q < 0 := by omega
      clear hsp
      go_wp2
      go_ret
      exact ⟨rfl, B1⟩
    · obtain ⟨f1, f2, f3⟩ := Talk.peak_law hv k1 k2
      obtain ⟨g1, g2, g3, _⟩ := Talk.peak_one hv (by omega)
      have hok : Talk.ok xs (max 1 (Talk.peak xs 1)) 0 = true := Talk.ok_mk hv ⟨by omega, by omega⟩ ⟨by omega, by omega⟩
      have hmz := Talk.minds_zero (r := max 1 (Talk.peak xs 1)) (fun x hx => by have := g1 x hx; omega)
      have hmi := Lib.hid (Talk.mind_yes hok)
      have HM := Lib.hid hmz
      have hfar : xs.length = n := hlen_o.out
      rw [hfar] at f3 k2
      have F3 := Lib.hid f3
      clear g1 hmz f3 hfar hv
      go_wp2_with fail
      refine (ipeak_any A n c xs ((k : Int) + 1) _ (by omega) o.ints o.cap_le o.cap_max).mono ?_
      rintro e w' ⟨rfl, rfl⟩
      go_wp2_with fail
      refine (ipeak_any A n c xs 1 _ (by omega) o.ints o.cap_le o.cap_max).mono ?_
      rintro e w' ⟨rfl, rfl⟩
      by_cases hone : 1 < Talk.peak xs 1
      · rw [show max 1 (Talk.peak xs 1) = Talk.peak xs 1 by omega] at hok hmi HM
        go_wp2_with fail
        refine (imind_any A n c xs (Talk.peak xs 1) 0 _ (by omega) o.ints).mono ?_
        rw [hok, hmi.out]
        rintro e W2 ⟨A2, n2, c2, rfl, o2, b2⟩
        have S2 : W1.heap.size ≤ W2.heap.size := b2.size
        have B2 : Below w.heap.size w W2 := Below.next B1 b2
        have o := o.below b2
        have hn2 : n2 ≤ 31 := by have := o2.len; rw [Talk.minds_len, hlen_o.out] at this; omega
        have hbz : ∀ y ∈ Talk.minds (Talk.peak xs 1) 0 0 xs, 0 ≤ y ∧ y ≤ 1000 := fun y hy => by have := HM.out.2 y hy; omega
        have HB := Lib.hid hbz
        clear hbz
        rcases F3.out with ⟨e1, e2⟩ | ⟨e1, e2⟩
        · have z1 : (Talk.peak xs ((k : Int) + 1) == -1) = true := by rw [e2]; rfl
          have z2 : ((k : Int) == (n : Int)) = true := by rw [e1]; simp
          have z3 : (k == n) = true := by simp; omega
          clear e1 e2
          go_wp2_with fail
          refine (lsum_any A2 n2 c2 (Talk.minds (Talk.peak xs 1) 0 0 xs) _ (by omega) o2.ints HB.out).mono ?_
          rw [HM.out.1]
          rintro e w' ⟨rfl, rfl⟩
          go_wp2
          go_ret
          exact ⟨rfl, B2⟩
        · have z1 : (Talk.peak xs ((k : Int) + 1) == -1) = false := by simp; omega
          go_wp2_with fail
          refine (lsum_any A2 n2 c2 (Talk.minds (Talk.peak xs 1) 0 0 xs) _ (by omega) o2.ints HB.out).mono ?_
          rw [HM.out.1]
          rintro e w' ⟨rfl, rfl⟩
          go_wp2
          go_ret
          exact ⟨rfl, B2⟩
      · rw [show max 1 (Talk.peak xs 1) = 1 by omega] at hok hmi HM
        go_wp2_with fail
        refine (imind_any A n c xs 1 0 _ (by omega) o.ints).mono ?_
        rw [hok, hmi.out]
        rintro e W2 ⟨A2, n2, c2, rfl, o2, b2⟩
        have S2 : W1.heap.size ≤ W2.heap.size := b2.size
        have B2 : Below w.heap.size w W2 := Below.next B1 b2
        have o := o.below b2
        have hn2 : n2 ≤ 31 := by have := o2.len; rw [Talk.minds_len, hlen_o.out] at this; omega
        have hbz : ∀ y ∈ Talk.minds 1 0 0 xs, 0 ≤ y ∧ y ≤ 1000 := fun y hy => by have := HM.out.2 y hy; omega
        have HB := Lib.hid hbz
        clear hbz
        rcases F3.out with ⟨e1, e2⟩ | ⟨e1, e2⟩
        · have z1 : (Talk.peak xs ((k : Int) + 1) == -1) = true := by rw [e2]; rfl
          have z2 : ((k : Int) == (n : Int)) = true := by rw [e1]; simp
          have z3 : (k == n) = true := by simp; omega
          clear e1 e2
          go_wp2_with fail
          refine (lsum_any A2 n2 c2 (Talk.minds 1 0 0 xs) _ (by omega) o2.ints HB.out).mono ?_
          rw [HM.out.1]
          rintro e w' ⟨rfl, rfl⟩
          go_wp2
          go_ret
          exact ⟨rfl, B2⟩
        · have z1 : (Talk.peak xs ((k : Int) + 1) == -1) = false := by simp; omega
          go_wp2_with fail
          refine (lsum_any A2 n2 c2 (Talk.minds 1 0 0 xs) _ (by omega) o2.ints HB.out).mono ?_
          rw [HM.out.1]
          rintro e w' ⟨rfl, rfl⟩
          go_wp2
          go_ret
          exact ⟨rfl, B2⟩
  · go_enter Try.func19, Try.ntmps19
    go_wp2
    go_ret
    exact ⟨rfl, Below.refl _ _⟩

set_option maxRecDepth 100000 in
theorem lifted (os : Os) (started : os.Started) (H : Type) (enc : TypeId × Value → H) :
    ReturnsInHanded {} Try.checked os 19 .any (Rows.fnPeakSpec.pre6 enc Try.prog Try.f19 Rows.fnPeakRow.domain false) (Rows.fnPeakSpec.post enc Try.prog Try.f19 false true false false) := by
  refine returnsInHanded_of_change (C := Try.checked) own started (by kernel_rfl) Try.func19
    (ChangeSpec.witness6 (enc := enc) (C := Try.checked) false ⟨#[], #[.slice none 0 0], []⟩ 8 (by kernel_rfl) (by kernel_rfl) (by kernel_rfl) (by kernel_rfl)) ?_
  intro W base args ds gs before hval0 hW hcnd _
  have hval : ∀ (j : Nat) t v, Try.f19.params[j]? = some t → args[j]? = some v → Value.okWide Try.prog W .any base t v := hval0
  have hW' := hW
  obtain ⟨p, q, hA0, hV, rfl, hfz, hnd⟩ := hW
  have hA : DataW.TrodAll enc Try.prog W 0 (fun _ => true) true Try.f19.params.toList args.toList ds p := hA0
  rw [Try.params19] at hA hval
  obtain ⟨v0, vs0, d0, ds0, p0, q0, hargs, rfl, rfl, h0, r0⟩ := trodAll_cons hA
  obtain ⟨rfl, rfl, rfl⟩ := trodAll_nil r0
  obtain rfl : args = #[v0] := by cases args; simp_all
  obtain ⟨rfl, rfl⟩ := trodVars_none hV
  obtain ⟨a0, len0, cap0, rfl⟩ := okWide_slice Try.underlying33 (hval 0 33 v0 rfl rfl)
  have k0 := h0
  have lt0 : ∀ x ∈ p0, x.block < W.heap.size := by obtain ⟨m, hm⟩ := k0; exact DataW.trod_lt m _ _ _ hm
  obtain ⟨z0, w0⟩ : ∃ zs, IsRow .u8 W a0 len0 cap0 zs := by
    obtain ⟨fuel, hf⟩ := h0
    rcases open_ints Try.underlying33 Try.underlying5 (by kernel_rfl) hf with ⟨hcs, _⟩ | ⟨x, l, c, zs, hcs, _, hl, hm, hz, _, hcell, hwz⟩
    · simp [Value.cells] at hcs
      obtain ⟨rfl, rfl, rfl⟩ := hcs
      exact ⟨[], .inl ⟨rfl, rfl, rfl, rfl⟩⟩
    · simp [Value.cells] at hcs
      obtain ⟨rfl, rfl, rfl⟩ := hcs
      exact ⟨zs, .inr ⟨_, rfl, hl, hm, by simpa using hz, hcell, hwz⟩⟩
  clear hA0 hval0
  refine (walk a0 len0 cap0 z0 W w0).mono fun e W' ⟨he, bel⟩ => ?_
  subst he
  exact ⟨_, rfl, _, _, _, [], _, [], hW', trodAll_mk1 (shut_bool Try.underlying4 _), (trodAll_cons_mk (Below.trod laidOut (by kernel_rfl) (of_decide_eq_true (by kernel_rfl)) k0 bel lt0) trodAll_mk0), rfl, bel.frame _, fun h => by cases h⟩

theorem closed : joinedFacts Try.prog 19 Try.f19 Rows.fnPeakSpec Rows.fnPeakRow = true := by
  unfold joinedFacts
  simp only [may_enter, lifts_final, make_cut]
  kernel_rfl

theorem over : Rows.fnPeakRow.holds Try.pinned (OpenSpec.ofChange Rows.fnPeakSpec) :=
  OpenClaim.holds_of_wide 19 Try.f19 rfl rfl rfl rfl rfl rfl rfl ⟨rfl, rfl, rfl, rfl, rfl⟩ rfl rfl rfl rfl rfl (by kernel_rfl) Try.func19 closed
    (of_decide_eq_true (by kernel_rfl)) (by unfold Func.isWrapper; first | (rw [if_pos (by decide +kernel)]; kernel_rfl) | (rw [if_neg (by decide +kernel)]; exact ⟨rfl, rfl⟩))
    (fun os started H enc _ => lifted os started H enc)

theorem proved : Rows.FnPeakSaid := over
#print axioms proved
end Go.Proofs.Ytcgiehdpdnipbaa.fnPeak
