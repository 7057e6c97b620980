/- Proved: the statement 'FnMarksSaid': the law FnMarks returns true for every input, and every argument reads afterwards as it read before. No further conditions. The frame follows the kit's proof-skeleton; the walk is ours. -/
import Derived.Test.YtjhlcgjhdiheaaaRows
import Derived.Test.YtjhlcgjhdiheaaaDraw5
import Derived.Test.YtjhlcgjhdiheaaaSum
import Derived.Test.YtjhlcgjhdiheaaaArg
import Derived.Test.YtjhlcgjhdiheaaaEnter
import Derived.WalkKit
import Derived.ProofKit
import Derived.OpenShut
import Derived.ShutString
import Derived.ChangeOld
import Derived.Below
namespace Go.Proofs.Ytjhlcgjhdiheaaa.fnMarks
open Go.ChangeShapes Go.WideShapes Go.ChangeAt Go.RowKit
open Go.ChangeMaps (open_string shut_string)
set_option linter.unusedVariables false
set_option linter.unusedSimpArgs false

theorem own : ownKnob Try.prog.godebug = none := by kernel_rfl
theorem laidOut : laidOutB Try.prog = true := by kernel_rfl

set_option maxRecDepth 20000 in
set_option maxHeartbeats 8000000 in
theorem walk (a0 : Option Addr) (len0 cap0 : Nat) (z0 : List Int) (a1 : Option Addr) (len1 cap1 : Nat) (z1 : List Int) (w : World) (w0 : IsRow .u8 w a0 len0 cap0 z0) (w1 : IsRow .u8 w a1 len1 cap1 z1) :
    Calls Try.prog 22 #[.slice a0 len0 cap0, .slice a1 len1 cap1] w fun e w' => e = .returned (.bool true) ∧ Below w.heap.size w w' := by
  have hy0 := w0.bytes
  have hl0 := w0.len_le
  have hc0 := w0.len_cap
  clear w0
  have hy1 := w1.bytes
  have hl1 := w1.len_le
  have hc1 := w1.len_cap
  clear w1
  by_cases hm0 : len0 ≤ 1048576
  · by_cases hm1 : len1 ≤ 1048576
    · go_enter Try.func22, Try.ntmps22
      go_wp2_with fail
      refine (drawValid a0 len0 cap0 _ hy0 hm0 hc0).mono ?_
      rintro e W1 ⟨A, n, c, ws, B, m, d, ms, rfl, hn, hm, o, k, bd⟩
      have S1 : w.heap.size ≤ W1.heap.size := bd.size
      have B1 : Below w.heap.size w W1 := bd
      have hlen_o := Lib.hid o.1.len
      have hcap_o := o.2.1
      have hmax_o := o.2.2.1
      have hlen_k := Lib.hid k.1.len
      have hcap_k := k.2.1
      have hmax_k := k.2.2.1
      cases hv : valid ws ms with
      | false =>
        go_wp2_with fail
        refine (ivalid_is A B n c m d ws ms _ o k.1 (by omega) hv).mono ?_
        rintro e W2 ⟨rfl, b2⟩
        have S2 : W1.heap.size ≤ W2.heap.size := b2.size
        have B2 : Below w.heap.size w W2 := Below.next B1 b2
        have o := o.below b2
        have k := k.below b2
        go_wp2_with fail
        refine (svalid_is A B n c m d ws ms _ o k.1 (by omega) hv).mono ?_
        rintro e W3 ⟨rfl, b3⟩
        have S3 : W2.heap.size ≤ W3.heap.size := b3.size
        have B3 : Below w.heap.size w W3 := Below.next B2 b3
        have o := o.below b3
        have k := k.below b3
        go_wp2
        go_ret
        exact ⟨rfl, B3⟩
      | true =>
        have HV := Lib.hid hv
        have hm20 := (valid_bound hv).1
        rw [hlen_k.out] at hm20
        have hbs := Lib.hid (both_self hv)
        have hcs := Lib.hid (clash_self hv)
        have hgs := Lib.hid (grow_bnd hv)
        have hn20 := speak_len (Mk.valid_parts wok hv).1
        rw [hlen_o.out] at hn20
        clear hv
        go_wp2_with fail
        refine (ivalid_is A B n c m d ws ms _ o k.1 (by omega) HV.out).mono ?_
        rintro e W2 ⟨rfl, b2⟩
        have S2 : W1.heap.size ≤ W2.heap.size := b2.size
        have B2 : Below w.heap.size w W2 := Below.next B1 b2
        have o := o.below b2
        have k := k.below b2
        go_wp2_with fail
        refine (svalid_is A B n c m d ws ms _ o k.1 (by omega) HV.out).mono ?_
        rintro e W3 ⟨rfl, b3⟩
        have S3 : W2.heap.size ≤ W3.heap.size := b3.size
        have B3 : Below w.heap.size w W3 := Below.next B2 b3
        have o := o.below b3
        have k := k.below b3
        go_wp2_with fail
        refine (iboth_yes A B B n c m d m d ws ms ms _ o k k ms hbs.out).mono ?_
        rintro e W4 ⟨Ag, ng, cg, rfl, og, qg⟩
        have S4 : W3.heap.size ≤ W4.heap.size := qg.size
        have B4 : Below w.heap.size w W4 := Below.next B3 qg
        have o := o.below qg
        have k := k.below qg
        obtain rfl : m = ng := by rw [← og.len, hlen_k.out]
        have hk : len1 % (m + 1) ≤ m := by have := Nat.mod_lt len1 (show m + 1 > 0 by omega); omega
        have hke : (len1 : Int) % ((m : Int) + 1) = ((len1 % (m + 1) : Nat) : Int) := by rw [Int.natCast_emod]; rfl
        have hvt := Lib.hid (valid_take HV.out (len1 % (m + 1)))
        generalize len1 % (m + 1) = z at *
        obtain ⟨vv, hvv⟩ : ∃ vv, Hid (valid ws (ms.take z) = vv) := ⟨_, rfl⟩
        have kt := Lib.hid (k.take hk)
        go_wp2_with fail
        refine (ido_is A B n c z d ws (ms.take z) _ o (k.1.take hk) (by omega) vv hvv.out).mono ?_
        rintro e W5 ⟨Ax, nx, cx, rfl, qx⟩
        have S5 : W4.heap.size ≤ W5.heap.size := qx.size
        have B5 : Below w.heap.size w W5 := Below.next B4 qx
        have o := o.below qx
        have k := k.below qx
        have og := og.below qx
        go_wp2_with fail
        go_loopw [14, 15] (fun dv i wr => ∃ j q : Nat, j ≤ z ∧ i = .int .i64 j ∧ (∃ t : Int, dv = .int .i64 t ∧ Hid (t = n + Mk.grow (ms.take j)) ∧ -20 * (j : Int) ≤ t ∧ t ≤ 20 + 20 * (j : Int)) ∧ wr = W5.drewN q) (fun _ i _ => z - (intOf i).toNat)
        case atStart => exact ⟨0, 0, Nat.zero_le _, rfl, ⟨_, rfl, Lib.hid (by simp [Mk.grow]), by omega, by omega⟩, rfl⟩
        case round =>
          obtain ⟨j, p, hj, rfl, ⟨t, rfl, hT, t1, t2⟩, rfl⟩ := hrel
          by_cases hlt : j < z
          · obtain ⟨b0, of0, x, rfl, hx, _, _, k0, k1, A', n', c', k2, hp⟩ := k.1.at_ (k := j) (by omega)
            obtain ⟨_, _, f3, f4, f5, _, f7, _⟩ := fit_of HV.out (mem_at hx)
            rw [hp.len] at f5
            have hT2 : Hid (t - x.cut + (n' : Int) = n + Mk.grow (ms.take (j + 1))) := Lib.hid (by have := grow_go hx; have := hT.out; have := hp.len; omega)
            have hs := hgs.out (j + 1) (by rw [hlen_k.out]; omega)
            have hT3 := hT2.out
            have f6 : x.cut ≤ 20 := by obtain ⟨a1, a2, _⟩ := fit_of HV.out (mem_at hx); omega
            have b1 : -20 * ((j + 1 : Nat) : Int) ≤ t - x.cut + (n' : Int) := by omega
            have b2 : t - x.cut + (n' : Int) ≤ 20 + 20 * ((j + 1 : Nat) : Int) := by omega
            clear hx hp hT f4 f7 hs hT3
            have u1 : IntKind.i64.wrap (t - x.cut) = t - x.cut := IntWalk.i64_in _ (by omega)
            have u2 : IntKind.i64.wrap (t - x.cut + (n' : Int)) = t - x.cut + (n' : Int) := IntWalk.i64_in _ (by omega)
            have i1 : (0 : Int) ≤ (j : Int) := by omega
            have i2 : (j : Int) < (z : Int) := by omega
            have i3 : (j : Int) < (m : Int) := by omega
            go_wp2_with fail
            go_quiet (fail)
            go_wp2_with fail
            go_roundw
            case rel => exact ⟨j + 1, _, by omega, by go_num, ⟨_, rfl, hT2, b1, b2⟩, by first | rfl | exact (World.drewN_drewN _ _ _).symm | (simp only [World.drewN_drewN]; rfl)⟩
            case measure => simp [intOf]; omega
          · obtain rfl : j = z := by omega
            have hTf : Hid ((vv == decide (t ≤ 20)) = true) := Lib.hid (by have h1 := hvv.out; rw [hvt.out, hlen_o.out, ← hT.out] at h1; rw [h1]; simp)
            have hfin := hTf.out
            have bq : Below W5.heap.size W5 (W5.drewN p) := below_drewN (Below.refl _ _) p
            generalize W5.drewN p = W6 at *
            have S6 : W5.heap.size ≤ W6.heap.size := bq.size
            have B6 : Below w.heap.size w W6 := Below.next B5 bq
            have o := o.below bq
            have k := k.below bq
            have og := og.below bq
            go_wp2_with fail
            refine (samem_self Ag B m cg m d _ _ (by omega) (by omega) og.ints k.1).mono ?_
            rintro e W7 ⟨rfl, b8⟩
            have S7 : W6.heap.size ≤ W7.heap.size := b8.size
            have B7 : Below w.heap.size w W7 := Below.next B6 b8
            have o := o.below b8
            have k := k.below b8
            have og := og.below b8
            go_wp2_with fail
            refine (iclash_any A B B n c m d m d ws ms ms _ (by omega) (by omega) (by omega) o.1 k.1 k.1).mono ?_
            rw [hcs.out]
            rintro e W8 ⟨rfl, b9⟩
            have S8 : W7.heap.size ≤ W8.heap.size := b9.size
            have B8 : Below w.heap.size w W8 := Below.next B7 b9
            have o := o.below b9
            have k := k.below b9
            have og := og.below b9
            go_wp2
            go_ret
            exact ⟨rfl, B8⟩
    · go_enter Try.func22, Try.ntmps22
      go_wp2
      go_ret
      exact ⟨rfl, Below.refl _ _⟩
  · go_enter Try.func22, Try.ntmps22
    go_wp2
    go_ret
    exact ⟨rfl, Below.refl _ _⟩

set_option maxRecDepth 100000 in
theorem lifted (os : Os) (started : os.Started) (H : Type) (enc : TypeId × Value → H) :
    ReturnsInHanded {} Try.checked os 22 .any (Rows.fnMarksSpec.pre6 enc Try.prog Try.f22 Rows.fnMarksRow.domain false) (Rows.fnMarksSpec.post enc Try.prog Try.f22 false true false false) := by
  refine returnsInHanded_of_change (C := Try.checked) own started (by kernel_rfl) Try.func22
    (ChangeSpec.witness6 (enc := enc) (C := Try.checked) false ⟨#[], #[.slice none 0 0, .slice none 0 0], []⟩ 8 (by kernel_rfl) (by kernel_rfl) (by kernel_rfl) (by kernel_rfl)) ?_
  intro W base args ds gs before hval0 hW hcnd _
  have hval : ∀ (j : Nat) t v, Try.f22.params[j]? = some t → args[j]? = some v → Value.okWide Try.prog W .any base t v := hval0
  have hW' := hW
  obtain ⟨p, q, hA0, hV, rfl, hfz, hnd⟩ := hW
  have hA : DataW.TrodAll enc Try.prog W 0 (fun _ => true) true Try.f22.params.toList args.toList ds p := hA0
  rw [Try.params22] at hA hval
  obtain ⟨v0, vs0, d0, ds0, p0, q0, hargs, rfl, rfl, h0, r0⟩ := trodAll_cons hA
  obtain ⟨v1, vs1, d1, ds1, p1, q1, rfl, rfl, rfl, h1, r1⟩ := trodAll_cons r0
  obtain ⟨rfl, rfl, rfl⟩ := trodAll_nil r1
  obtain rfl : args = #[v0, v1] := by cases args; simp_all
  obtain ⟨rfl, rfl⟩ := trodVars_none hV
  obtain ⟨a0, len0, cap0, rfl⟩ := okWide_slice Try.underlying39 (hval 0 39 v0 rfl rfl)
  have k0 := h0
  have lt0 : ∀ x ∈ p0, x.block < W.heap.size := by obtain ⟨m, hm⟩ := k0; exact DataW.trod_lt m _ _ _ hm
  obtain ⟨z0, w0⟩ : ∃ zs, IsRow .u8 W a0 len0 cap0 zs := by
    obtain ⟨fuel, hf⟩ := h0
    rcases open_ints Try.underlying39 Try.underlying5 (by kernel_rfl) hf with ⟨hcs, _⟩ | ⟨x, l, c, zs, hcs, _, hl, hm, hz, _, hcell, hwz⟩
    · simp [Value.cells] at hcs
      obtain ⟨rfl, rfl, rfl⟩ := hcs
      exact ⟨[], .inl ⟨rfl, rfl, rfl, rfl⟩⟩
    · simp [Value.cells] at hcs
      obtain ⟨rfl, rfl, rfl⟩ := hcs
      exact ⟨zs, .inr ⟨_, rfl, hl, hm, by simpa using hz, hcell, hwz⟩⟩
  obtain ⟨a1, len1, cap1, rfl⟩ := okWide_slice Try.underlying39 (hval 1 39 v1 rfl rfl)
  have k1 := h1
  have lt1 : ∀ x ∈ p1, x.block < W.heap.size := by obtain ⟨m, hm⟩ := k1; exact DataW.trod_lt m _ _ _ hm
  obtain ⟨z1, w1⟩ : ∃ zs, IsRow .u8 W a1 len1 cap1 zs := by
    obtain ⟨fuel, hf⟩ := h1
    rcases open_ints Try.underlying39 Try.underlying5 (by kernel_rfl) hf with ⟨hcs, _⟩ | ⟨x, l, c, zs, hcs, _, hl, hm, hz, _, hcell, hwz⟩
    · simp [Value.cells] at hcs
      obtain ⟨rfl, rfl, rfl⟩ := hcs
      exact ⟨[], .inl ⟨rfl, rfl, rfl, rfl⟩⟩
    · simp [Value.cells] at hcs
      obtain ⟨rfl, rfl, rfl⟩ := hcs
      exact ⟨zs, .inr ⟨_, rfl, hl, hm, by simpa using hz, hcell, hwz⟩⟩
  clear hA0 hval0
  refine (walk a0 len0 cap0 z0 a1 len1 cap1 z1 W w0 w1).mono fun e W' ⟨he, bel⟩ => ?_
  subst he
  exact ⟨_, rfl, _, _, _, [], _, [], hW', trodAll_mk1 (shut_bool Try.underlying4 _), (trodAll_cons_mk (Below.trod laidOut (by kernel_rfl) (of_decide_eq_true (by kernel_rfl)) k0 bel lt0) (trodAll_cons_mk (Below.trod laidOut (by kernel_rfl) (of_decide_eq_true (by kernel_rfl)) k1 bel lt1) trodAll_mk0)), rfl, bel.frame _, fun h => by cases h⟩

theorem closed : joinedFacts Try.prog 22 Try.f22 Rows.fnMarksSpec Rows.fnMarksRow = true := by
  unfold joinedFacts
  simp only [may_enter, lifts_final, make_cut]
  kernel_rfl

theorem over : Rows.fnMarksRow.holds Try.pinned (OpenSpec.ofChange Rows.fnMarksSpec) :=
  OpenClaim.holds_of_wide 22 Try.f22 rfl rfl rfl rfl rfl rfl rfl ⟨rfl, rfl, rfl, rfl, rfl⟩ rfl rfl rfl rfl rfl (by kernel_rfl) Try.func22 closed
    (of_decide_eq_true (by kernel_rfl)) (by unfold Func.isWrapper; first | (rw [if_pos (by decide +kernel)]; kernel_rfl) | (rw [if_neg (by decide +kernel)]; exact ⟨rfl, rfl⟩))
    (fun os started H enc _ => lifted os started H enc)

theorem proved : Rows.FnMarksSaid := over
#print axioms proved
end Go.Proofs.Ytjhlcgjhdiheaaa.fnMarks
