/- Proved: the statement 'FnMarksMakeSaid': the law FnMarksMake returns true for every input, and every argument reads afterwards as it read before. No further conditions. The frame follows the kit's proof-skeleton; the walk is ours. -/
import Derived.Test.YtjhlcgjhdiheaaaRows
import Derived.Test.YtjhlcgjhdiheaaaDraw5
import Derived.Test.YtjhlcgjhdiheaaaUse
import Derived.Test.YtjhlcgjhdiheaaaUse3
import Derived.Test.YtjhlcgjhdiheaaaArg
import Derived.Test.YtjhlcgjhdiheaaaEnter
import Derived.WalkKit
import Derived.ProofKit
import Derived.OpenShut
import Derived.ShutString
import Derived.ChangeOld
import Derived.Below
namespace Go.Proofs.Ytjhlcgjhdiheaaa.fnMarksMake
open Go.ChangeShapes Go.WideShapes Go.ChangeAt Go.RowKit
open Go.ChangeMaps (open_string shut_string)
set_option linter.unusedVariables false
set_option linter.unusedSimpArgs false

theorem own : ownKnob Try.prog.godebug = none := by kernel_rfl
theorem laidOut : laidOutB Try.prog = true := by kernel_rfl

set_option maxRecDepth 20000 in
set_option maxHeartbeats 8000000 in
theorem walk (a0 : Option Addr) (len0 cap0 : Nat) (z0 : List Int) (w : World) (w0 : IsRow .u8 w a0 len0 cap0 z0) :
    Calls Try.prog 21 #[.slice a0 len0 cap0] w fun e w' => e = .returned (.bool true) ∧ Below w.heap.size w w' := by
  have hy0 := w0.bytes
  have hl0 := w0.len_le
  have hc0 := w0.len_cap
  clear w0
  by_cases hm0 : len0 ≤ 1048576
  · go_enter Try.func21, Try.ntmps21
    go_wp2_with fail
    refine (drawMake a0 len0 cap0 _ hy0 hm0 hc0).mono ?_
    rintro e W1 ⟨A, n, c, xs, B, m, d, ys, rfl, hn, hm, o, o', bd⟩
    have S1 : w.heap.size ≤ W1.heap.size := bd.size
    have B1 : Below w.heap.size w W1 := bd
    have hlen_o := Lib.hid o.1.len
    have hcap_o := o.2.1
    have hmax_o := o.2.2.1
    have hlen_o' := Lib.hid o'.1.len
    have hcap_o' := o'.2.1
    have hmax_o' := o'.2.2.1
    cases hs : (speak xs && speak ys) with
    | false =>
      go_wp2_with fail
      refine (imake_no A B n c m d xs ys _ o o' hs).mono ?_
      rintro e W2 ⟨Ag, ng, cg, rfl, og, qg⟩
      have S2 : W1.heap.size ≤ W2.heap.size := qg.size
      have B2 : Below w.heap.size w W2 := Below.next B1 qg
      have o := o.below qg
      have o' := o'.below qg
      go_wp2_with fail
      refine (smake_no A B n c m d xs ys _ o o' hs).mono ?_
      rintro e W3 ⟨Ar, nr, cr, rfl, or, qr⟩
      have S3 : W2.heap.size ≤ W3.heap.size := qr.size
      have B3 : Below w.heap.size w W3 := Below.next B2 qr
      have o := o.below qr
      have o' := o'.below qr
      have og := og.below qr
      have hng : ng ≤ 1000 := by have := og.len; simp at this; omega
      have hnr : nr ≤ 1000 := by have := or.len; simp at this; omega
      clear hs
      go_wp2_with fail
      refine (samem_self Ag Ar ng cg nr cr _ _ (by omega) (by omega) og.ints or.ints).mono ?_
      rintro e W4 ⟨rfl, b5⟩
      have S4 : W3.heap.size ≤ W4.heap.size := b5.size
      have B4 : Below w.heap.size w W4 := Below.next B3 b5
      have o := o.below b5
      have o' := o'.below b5
      have og := og.below b5
      have or := or.below b5
      go_wp2_with fail
      refine (samem_self Ag Ar ng cg nr cr _ _ (by omega) (by omega) og.ints or.ints).mono ?_
      rintro e W5 ⟨rfl, b6⟩
      have S5 : W4.heap.size ≤ W5.heap.size := b6.size
      have B5 : Below w.heap.size w W5 := Below.next B4 b6
      have o := o.below b6
      have o' := o'.below b6
      have og := og.below b6
      have or := or.below b6
      go_wp2
      go_ret
      exact ⟨rfl, B5⟩
    | true =>
      obtain ⟨p1, p2⟩ : speak xs = true ∧ speak ys = true := by rw [Bool.and_eq_true] at hs; exact hs
      have sp1 := Lib.hid p1
      have sp2 := Lib.hid p2
      have hvm := Lib.hid (valid_madeM p1 p2)
      have hdm := Lib.hid (do_madeM xs ys)
      have hsz := Lib.hid (size_madeM p1 p2)
      have hno := Lib.hid (Mk.made_none xs ys)
      have hn20 := speak_len p1
      rw [hlen_o.out] at hn20
      have hm20 := speak_len p2
      rw [hlen_o'.out] at hm20
      clear hs p1 p2
      go_wp2_with fail
      refine (imake_yes A B n c m d xs ys _ o o' sp1.out sp2.out).mono ?_
      rintro e W2 ⟨Ag, ng, cg, rfl, og, qg⟩
      have S2 : W1.heap.size ≤ W2.heap.size := qg.size
      have B2 : Below w.heap.size w W2 := Below.next B1 qg
      have o := o.below qg
      have o' := o'.below qg
      go_wp2_with fail
      refine (smake_yes A B n c m d xs ys _ o o' sp1.out sp2.out).mono ?_
      rintro e W3 ⟨Ar, nr, cr, rfl, or, qr⟩
      have S3 : W2.heap.size ≤ W3.heap.size := qr.size
      have B3 : Below w.heap.size w W3 := Below.next B2 qr
      have o := o.below qr
      have o' := o'.below qr
      have og := og.below qr
      have hng : ng ≤ 20 := by rw [← og.len]; exact (valid_bound hvm.out).1
      have hnr : nr ≤ 20 := by rw [← or.len]; exact (valid_bound hvm.out).1
      go_wp2_with fail
      refine (samem_self Ag Ar ng cg nr cr _ _ (by omega) (by omega) og.ints or.ints).mono ?_
      rintro e W4 ⟨rfl, b5⟩
      have S4 : W3.heap.size ≤ W4.heap.size := b5.size
      have B4 : Below w.heap.size w W4 := Below.next B3 b5
      have o := o.below b5
      have o' := o'.below b5
      have og := og.below b5
      have or := or.below b5
      go_wp2_with fail
      refine (ido_yes A Ag n c ng cg xs _ _ o og.ints (by omega) hvm.out).mono ?_
      rintro e W5 ⟨Ax, nx, cx, rfl, ox, qx⟩
      have S5 : W4.heap.size ≤ W5.heap.size := qx.size
      have B5 : Below w.heap.size w W5 := Below.next B4 qx
      have o := o.below qx
      have o' := o'.below qx
      have og := og.below qx
      have or := or.below qx
      rw [hdm.out] at ox
      have hnx : nx ≤ 20 := by rw [← ox.len, hlen_o'.out]; exact hm20
      obtain ⟨fr, hfr⟩ : ∃ fr, Hid (farI xs ys = fr) := ⟨_, rfl⟩
      have hff : (fr != fr) = false := by simp
      obtain ⟨ee, hee⟩ : ∃ ee, Hid (decide (xs = ys) = ee) := ⟨_, rfl⟩
      have hlg := Lib.hid og.len
      have t1 : ((ng : Int) == 0) = ee := by have h1 := hno.out; rw [hlg.out] at h1; rw [← hee.out, Bool.eq_iff_iff, beq_iff_eq, decide_eq_true_iff, ← h1]; omega
      have t2 : (ee != ee) = false := by simp
      go_wp2_with fail
      refine (eqt_self Ax B nx cx m d ys _ (by omega) (by omega) ox.ints o'.1).mono ?_
      rintro e W6 ⟨rfl, b6⟩
      have S6 : W5.heap.size ≤ W6.heap.size := b6.size
      have B6 : Below w.heap.size w W6 := Below.next B5 b6
      have o := o.below b6
      have o' := o'.below b6
      have og := og.below b6
      have or := or.below b6
      have ox := ox.below b6
      go_wp2_with fail
      refine (isizem_any A Ag n c ng cg xs _ _ (by omega) (by omega) o.1 og.ints).mono ?_
      rw [hsz.out, hfr.out]
      rintro e W7 ⟨rfl, b7⟩
      have S7 : W6.heap.size ≤ W7.heap.size := b7.size
      have B7 : Below w.heap.size w W7 := Below.next B6 b7
      have o := o.below b7
      have o' := o'.below b7
      have og := og.below b7
      have or := or.below b7
      have ox := ox.below b7
      go_wp2_with fail
      refine (ifar_any A B n c m d xs ys _ (by omega) (by omega) o.1 o'.1).mono ?_
      rw [hfr.out]
      rintro e W8 ⟨rfl, b8⟩
      have S8 : W7.heap.size ≤ W8.heap.size := b8.size
      have B8 : Below w.heap.size w W8 := Below.next B7 b8
      have o := o.below b8
      have o' := o'.below b8
      have og := og.below b8
      have or := or.below b8
      have ox := ox.below b8
      go_wp2_with fail
      refine (eqtb_any A B n c m d xs ys _ (by omega) (by omega) o.1 o'.1).mono ?_
      rw [hee.out]
      rintro e W9 ⟨rfl, b9⟩
      have S9 : W8.heap.size ≤ W9.heap.size := b9.size
      have B9 : Below w.heap.size w W9 := Below.next B8 b9
      have o := o.below b9
      have o' := o'.below b9
      have og := og.below b9
      have or := or.below b9
      have ox := ox.below b9
      by_cases hf1 : n = 20
      · have e1 : ((n : Int) == 20) = true := by rw [beq_iff_eq]; omega
        clear hf1
        go_wp2
        go_ret
        exact ⟨rfl, B9⟩
      · have e1 : ((n : Int) == 20) = false := by rw [beq_eq_false_iff_ne]; omega
        by_cases hf2 : m = 20
        · have e2 : ((m : Int) == 20) = true := by rw [beq_iff_eq]; omega
          clear hf1 hf2
          go_wp2
          go_ret
          exact ⟨rfl, B9⟩
        · have e2 : ((m : Int) == 20) = false := by rw [beq_eq_false_iff_ne]; omega
          have q1 := Lib.hid (speak_so sp1.out (by rw [hlen_o.out]; omega))
          have q2 := Lib.hid (speak_so sp2.out (by rw [hlen_o'.out]; omega))
          clear hf1 hf2
          have E1 := own_one W9 W9.heap.size (Nat.le_refl _) soW (by show (2 : Nat) ≤ _; omega)
          have BA : Below W9.heap.size W9 (W9.alloc (.cells #[.string soW] 9)) := (Below.refl _ _).alloc (Nat.le_refl _) _
          have oA := o.below BA
          go_wp2_with (first
            | (at_builtin; refine wpList_catS _ rfl (.tmp 96) (.tmp 97) rfl W9.heap.size (W9.heap.size + 1) (some ⟨W9.heap.size, 0, none⟩) 1 1 [soW] rfl E1 A n c xs rfl oA.1 oA.2.2.2 (by omega) BA.size ?_; intro A5 c5 w5 o5 g5; have b5 := below_cat BA g5 (fun a ha => by injection ha with ha; subst ha; exact Nat.le_refl _); have E2 := own_one w5 w5.heap.size (Nat.le_refl _) soW (by show (2 : Nat) ≤ _; omega); have BC : Below w5.heap.size w5 (w5.alloc (.cells #[.string soW] 9)) := (Below.refl _ _).alloc (Nat.le_refl _) _; have oC := (o'.below b5).below BC; have o5a := o5.alloc (.cells #[.string soW] 9))
            | (at_builtin; refine wpList_catS _ rfl (.tmp 99) (.tmp 100) rfl w5.heap.size (w5.heap.size + 1) (some ⟨w5.heap.size, 0, none⟩) 1 1 [soW] rfl E2 B m d ys rfl oC.1 oC.2.2.2 (by omega) BC.size ?_; intro A6 c6 w6 o6 g6; have b6x := below_cat BC g6 (fun a ha => by injection ha with ha; subst ha; exact Nat.le_refl _); have o5b := o5a.far g6 (fun g e => .inr (by simp at e; omega)); have bq0 := Below.next b5 b6x))
          have bq : Below W9.heap.size W9 w6 := bq0
          clear E1 BA oA g5 b5 E2 BC oC o5 o5a g6 b6x bq0
          generalize w6 = W10 at *
          have S10 : W9.heap.size ≤ W10.heap.size := bq.size
          have B10 : Below w.heap.size w W10 := Below.next B9 bq
          have o := o.below bq
          have o' := o'.below bq
          have og := og.below bq
          have or := or.below bq
          have ox := ox.below bq
          refine (imake_yes A5 A6 (1 + n) c5 (1 + m) c6 (soW :: xs) (soW :: ys) _ o5b.putIn o6.putIn q1.out q2.out).mono ?_
          rintro e W11 ⟨Ay, ny, cy, rfl, oy, qy⟩
          have S11 : W10.heap.size ≤ W11.heap.size := qy.size
          have B11 : Below w.heap.size w W11 := Below.next B10 qy
          have o := o.below qy
          have o' := o'.below qy
          have og := og.below qy
          have or := or.below qy
          have ox := ox.below qy
          obtain rfl : ny = ng := by rw [← oy.len, made_so_len]; exact hlg.out
          clear o5b o6
          go_wp2_with fail
          go_loopw [13] (fun i wr => ∃ j : Nat, j ≤ ny ∧ i = .int .i64 j ∧ Below W11.heap.size W11 wr) (fun i _ => ny - (intOf i).toNat)
          case atStart => exact ⟨0, Nat.zero_le _, rfl, Below.refl _ _⟩
          case round =>
            obtain ⟨j, hj, rfl, hbel⟩ := hrel
            by_cases hlt : j < ny
            · obtain ⟨b0, of0, x, rfl, hx, _, _, k0, k1, A', n', c', k2, hp⟩ := (og.ints.below hbel).at_ hlt
              obtain ⟨b1, of1, y, rfl, hy, _, _, d0, d1, A2, n2, c2, d2, hq⟩ := (oy.ints.below hbel).at_ hlt
              have hyx := made_so_at hx
              rw [hy] at hyx
              injection hyx with hyx
              subst hyx
              dsimp only at d0 d1 d2 hq
              obtain ⟨f1, f2, f3, f4, f5, f6, f7, f8⟩ := fit_of hvm.out (mem_at hx)
              have hx20 : x.at_ ≤ 20 := by omega
              have hpm := hp.max
              have hqm := hq.max
              clear f2 f3 f4 f5 f6 f7 f8 hx hy
              have z0 : ∀ q os, (Go.Sort.grow (wr.drewN q) os).cell? ⟨b0, of0 + j * 3, none⟩ = some (.int .i64 x.at_) := cell_grown (lt_of_cell k0) k0
              have z1 : ∀ q os, (Go.Sort.grow (wr.drewN q) os).cell? ⟨b0, of0 + j * 3 + 1, none⟩ = some (.int .i64 x.cut) := cell_grown (lt_of_cell k1) k1
              have z2 : ∀ q os, (Go.Sort.grow (wr.drewN q) os).cell? ⟨b0, of0 + j * 3 + 2, none⟩ = some (.slice A' n' c') := cell_grown (lt_of_cell k2) k2
              have y0 : ∀ q os, (Go.Sort.grow (wr.drewN q) os).cell? ⟨b1, of1 + j * 3, none⟩ = some (.int .i64 (x.at_ + 1)) := cell_grown (lt_of_cell d0) d0
              have y1 : ∀ q os, (Go.Sort.grow (wr.drewN q) os).cell? ⟨b1, of1 + j * 3 + 1, none⟩ = some (.int .i64 x.cut) := cell_grown (lt_of_cell d1) d1
              have y2 : ∀ q os, (Go.Sort.grow (wr.drewN q) os).cell? ⟨b1, of1 + j * 3 + 2, none⟩ = some (.slice A2 n2 c2) := cell_grown (lt_of_cell d2) d2
              have ZS := Lib.hid (fun q os => hp.1.below (below_grow (Below.refl _ _) (Nat.le_refl _) q os))
              have YS := Lib.hid (fun q os => hq.1.below (below_grow (Below.refl _ _) (Nat.le_refl _) q os))
              have HB := Lib.hid (fun q os => below_grow hbel hbel.size q os)
              have hmix := mixed
              have u1 : IntKind.i64.wrap (x.at_ + 1) = x.at_ + 1 := IntWalk.i64_in _ (by omega)
              have v1 : ((ny : Int) != (ny : Int)) = false := by simp
              have v2 : ((x.at_ + 1) != (x.at_ + 1)) = false := by simp
              have v3 : (x.cut != x.cut) = false := by simp
              have i1 : (0 : Int) ≤ (j : Int) := by omega
              have i2 : (j : Int) < (ny : Int) := by omega
              clear hp hq k0 k1 k2 d0 d1 d2 hbel
              go_wp2_with fail
              refine wp_region_quiet_grown (by assumption) (by kernel_rfl) ?_
              repeat (go_big_quiet_step (first | (go_at_call 42; refine Calls.grown_of ((eqt_any A2 A' n2 c2 n' c' x.put x.put _ hqm hpm (YS.out _ _) (ZS.out _ _)).mono fun e w' h => ⟨h.1.trans (ret_bool (decide_eq_true rfl)), by obtain ⟨q, hq⟩ := h.2; exact ⟨q, #[], by rw [hq]; exact drew_grow _ _⟩⟩))))
              refine wpQuiet_nil ?_
              intro _ hw'
              obtain ⟨⟨nq, osq⟩, hw''⟩ := hw'
              subst hw''
              go_wp2_with fail
              go_roundw
              case rel => exact ⟨j + 1, by omega, by go_num, HB.out _ _⟩
              case measure => simp [intOf]; omega
            · have hfin := B11.trans (hbel.mono B11.size)
              go_wp2_with fail
              go_ret
              exact ⟨rfl, hfin⟩
  · go_enter Try.func21, Try.ntmps21
    go_wp2
    go_ret
    exact ⟨rfl, Below.refl _ _⟩

set_option maxRecDepth 100000 in
theorem lifted (os : Os) (started : os.Started) (H : Type) (enc : TypeId × Value → H) :
    ReturnsInHanded {} Try.checked os 21 .any (Rows.fnMarksMakeSpec.pre6 enc Try.prog Try.f21 Rows.fnMarksMakeRow.domain false) (Rows.fnMarksMakeSpec.post enc Try.prog Try.f21 false true false false) := by
  refine returnsInHanded_of_change (C := Try.checked) own started (by kernel_rfl) Try.func21
    (ChangeSpec.witness6 (enc := enc) (C := Try.checked) false ⟨#[], #[.slice none 0 0], []⟩ 8 (by kernel_rfl) (by kernel_rfl) (by kernel_rfl) (by kernel_rfl)) ?_
  intro W base args ds gs before hval0 hW hcnd _
  have hval : ∀ (j : Nat) t v, Try.f21.params[j]? = some t → args[j]? = some v → Value.okWide Try.prog W .any base t v := hval0
  have hW' := hW
  obtain ⟨p, q, hA0, hV, rfl, hfz, hnd⟩ := hW
  have hA : DataW.TrodAll enc Try.prog W 0 (fun _ => true) true Try.f21.params.toList args.toList ds p := hA0
  rw [Try.params21] at hA hval
  obtain ⟨v0, vs0, d0, ds0, p0, q0, hargs, rfl, rfl, h0, r0⟩ := trodAll_cons hA
  obtain ⟨rfl, rfl, rfl⟩ := trodAll_nil r0
  obtain rfl : args = #[v0] := by cases args; simp_all
  obtain ⟨rfl, rfl⟩ := trodVars_none hV
  obtain ⟨a0, len0, cap0, rfl⟩ := okWide_slice Try.underlying39 (hval 0 39 v0 rfl rfl)
  have k0 := h0
  have lt0 : ∀ x ∈ p0, x.block < W.heap.size := by obtain ⟨m, hm⟩ := k0; exact DataW.trod_lt m _ _ _ hm
  obtain ⟨z0, w0⟩ : ∃ zs, IsRow .u8 W a0 len0 cap0 zs := by
    obtain ⟨fuel, hf⟩ := h0
    rcases open_ints Try.underlying39 Try.underlying5 (by kernel_rfl) hf with ⟨hcs, _⟩ | ⟨x, l, c, zs, hcs, _, hl, hm, hz, _, hcell, hwz⟩
    · simp [Value.cells] at hcs
      obtain ⟨rfl, rfl, rfl⟩ := hcs
      exact ⟨[], .inl ⟨rfl, rfl, rfl, rfl⟩⟩
    · simp [Value.cells] at hcs
      obtain ⟨rfl, rfl, rfl⟩ := hcs
      exact ⟨zs, .inr ⟨_, rfl, hl, hm, by simpa using hz, hcell, hwz⟩⟩
  clear hA0 hval0
  refine (walk a0 len0 cap0 z0 W w0).mono fun e W' ⟨he, bel⟩ => ?_
  subst he
  exact ⟨_, rfl, _, _, _, [], _, [], hW', trodAll_mk1 (shut_bool Try.underlying4 _), (trodAll_cons_mk (Below.trod laidOut (by kernel_rfl) (of_decide_eq_true (by kernel_rfl)) k0 bel lt0) trodAll_mk0), rfl, bel.frame _, fun h => by cases h⟩

theorem closed : joinedFacts Try.prog 21 Try.f21 Rows.fnMarksMakeSpec Rows.fnMarksMakeRow = true := by
  unfold joinedFacts
  simp only [may_enter, lifts_final, make_cut]
  kernel_rfl

theorem over : Rows.fnMarksMakeRow.holds Try.pinned (OpenSpec.ofChange Rows.fnMarksMakeSpec) :=
  OpenClaim.holds_of_wide 21 Try.f21 rfl rfl rfl rfl rfl rfl rfl ⟨rfl, rfl, rfl, rfl, rfl⟩ rfl rfl rfl rfl rfl (by kernel_rfl) Try.func21 closed
    (of_decide_eq_true (by kernel_rfl)) (by unfold Func.isWrapper; first | (rw [if_pos (by decide +kernel)]; kernel_rfl) | (rw [if_neg (by decide +kernel)]; exact ⟨rfl, rfl⟩))
    (fun os started H enc _ => lifted os started H enc)

theorem proved : Rows.FnMarksMakeSaid := over
#print axioms proved
end Go.Proofs.Ytjhlcgjhdiheaaa.fnMarksMake
