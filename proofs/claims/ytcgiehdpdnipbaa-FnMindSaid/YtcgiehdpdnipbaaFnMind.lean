/- Proved: the statement 'FnMindSaid': the law FnMind returns true for every input, and every argument reads afterwards as it read before. No further conditions. The frame was written by the kit's proof-skeleton; the walk is ours. -/
import Derived.Test.YtcgiehdpdnipbaaRows
import Derived.Test.YtcgiehdpdnipbaaLawsD
import Derived.Test.YtcgiehdpdnipbaaSimple
import Derived.Test.YtcgiehdpdnipbaaEnter
import Derived.WalkKit
import Derived.ProofKit
import Derived.OpenShut
import Derived.ShutString
import Derived.ChangeOld
import Derived.Below
namespace Go.Proofs.Ytcgiehdpdnipbaa.fnMind
open Go.ChangeShapes Go.WideShapes Go.ChangeAt Go.RowKit
open Go.ChangeMaps (open_string shut_string)
set_option linter.unusedVariables false

theorem own : ownKnob Try.prog.godebug = none := by kernel_rfl
theorem laidOut : laidOutB Try.prog = true := by kernel_rfl

theorem walk (a0 : Option Addr) (len0 cap0 : Nat) (z0 : List Int) (a1 : Option Addr) (len1 cap1 : Nat) (z1 : List Int) (w : World) (w0 : IsRow .u8 w a0 len0 cap0 z0) (w1 : IsRow .u8 w a1 len1 cap1 z1) :
    Calls Try.prog 20 #[.slice a0 len0 cap0, .slice a1 len1 cap1] w fun e w' => e = .returned (.bool true) ∧ Below w.heap.size w w' := by
  have hy0 := w0.bytes
  have hl0 := w0.len_le
  have hc0 := w0.len_cap
  clear w0
  have hy1 := w1.bytes
  have hl1 := w1.len_le
  have hc1 := w1.len_cap
  clear w1
  by_cases hm0 : len0 ≤ 1048576
  · by_cases hm1 : len1 ≤ 1048576
    · go_enter Try.func20, Try.ntmps20
      go_wp2_with fail
      refine (drawMind a0 len0 cap0 _ hy0 hm0 hc0).mono ?_
      rintro e W1 ⟨A, n, c, xs, r, h, rfl, hn, r0, r1, h0, h1, o, bd⟩
      have S1 : w.heap.size ≤ W1.heap.size := bd.size
      have B1 : Below w.heap.size w W1 := bd
      have hlen_o := Lib.hid o.len
      go_wp2_with fail
      refine (imind_any A n c xs r h _ (by omega) o.ints).mono ?_
      rintro e W2 ⟨Ag, ng, cg, rfl, og, bg⟩
      have S2 : W1.heap.size ≤ W2.heap.size := bg.size
      have B2 : Below w.heap.size w W2 := Below.next B1 bg
      have o := o.below bg
      go_wp2_with fail
      refine (smind_any A n c xs r h _ (by omega) o.ints).mono ?_
      rintro e W3 ⟨Ar, nr, cr, rfl, or, br⟩
      have S3 : W2.heap.size ≤ W3.heap.size := br.size
      have B3 : Below w.heap.size w W3 := Below.next B2 br
      have o := o.below br
      have og := og.below br
      have hjl := Talk.mind_len xs r h
      rw [hlen_o.out] at hjl
      have hng : ng ≤ 31 := by have := og.len; omega
      have hnr : nr ≤ 31 := by have := or.len; omega
      have hq : (Talk.ok xs r h != Talk.ok xs r h) = false := by simp
      have hq2 : (Talk.ok xs r h == Talk.ok xs r h) = true := by simp
      clear hjl
      go_wp2_with fail
      refine (same_any Ag Ar ng cg nr cr (Talk.mind xs r h) (Talk.mind xs r h) _ (by omega) (by omega) og.ints or.ints).mono ?_
      rintro e W4 ⟨rfl, be1⟩
      have S4 : W3.heap.size ≤ W4.heap.size := be1.size
      have B4 : Below w.heap.size w W4 := Below.next B3 be1
      have o := o.below be1
      have og := og.below be1
      have or := or.below be1
      cases hj : Talk.ok xs r h with
      | false =>
        go_wp2_with fail
        refine (same_any Ag Ar ng cg nr cr (Talk.mind xs r h) (Talk.mind xs r h) _ (by omega) (by omega) og.ints or.ints).mono ?_
        rintro e W5 ⟨rfl, be2⟩
        have S5 : W4.heap.size ≤ W5.heap.size := be2.size
        have B5 : Below w.heap.size w W5 := Below.next B4 be2
        have o := o.below be2
        have og := og.below be2
        have or := or.below be2
        go_wp2
        go_ret
        exact ⟨rfl, B5⟩
      | true =>
        rw [Talk.mind_yes hj] at og
        obtain ⟨hv, hr, hh⟩ := Talk.ok_parts hj
        obtain ⟨r2, r3⟩ := hr
        obtain ⟨h2, h3⟩ := hh
        have hval := Lib.hid (Talk.valid_all hv)
        have HV := Lib.hid hv
        clear hv
        obtain rfl : ng = n := by have := og.len; rw [Talk.minds_len, hlen_o.out] at this; omega
        have ig := og.ints
        have io := o.ints
        have HJ := Lib.hid hj
        clear hj
        go_wp2_with fail
        go_loopg [12, 13] ng (fun g b i wr => ∃ k : Nat, k ≤ ng ∧ g = ng - k ∧ i = .int .i64 k ∧ b = .int .i64 (Talk.endM r h 0 (xs.take k)) ∧ ∃ q, wr = W4.drewN q)
        case atStart => exact ⟨0, Nat.zero_le _, rfl, rfl, rfl, 0, rfl⟩
        case round =>
          obtain ⟨k, hk, rfl, rfl, rfl, q, rfl⟩ := hrel
          by_cases hlt : k < ng
          · obtain ⟨b1, f1, x, rfl, hx, hx1, hx2, hcx⟩ := io.at_ hlt
            obtain ⟨b2, f2, y, rfl, hy, hy1, hy2, hcy⟩ := ig.at_ hlt
            have hxb := Talk.allIn_at hval.out hx
            obtain ⟨x0, x1⟩ := hxb
            have hE := Talk.endM_bd (r := r) h2 (xs.take k) 0 (Int.le_refl 0) h2
            obtain ⟨m0, m1⟩ := hE
            have hyn := Talk.minds_at r h xs k x hx
            rw [hy] at hyn
            have hye : y = Talk.nxt r h (Talk.endM r h 0 (xs.take k)) x := by injection hyn
            have hen := Lib.hid (show Talk.endM r h 0 (xs.take (k + 1)) = y by rw [take_snoc hx, Talk.endM_append, hye]; rfl)
            have j1 : (0 : Int) ≤ (k : Int) := by omega
            have j2 : (k : Int) < (ng : Int) := by omega
            generalize hM : Talk.endM r h 0 (xs.take k) = m at *
            have HM := Lib.hid hM
            unfold Talk.nxt at hye
            clear hx hy hyn hM
            have e1 : IntKind.i64.wrap (m + x) = m + x := IntWalk.i64_in _ (by omega)
            have e2 : IntKind.i64.wrap (m + x - r) = m + x - r := IntWalk.i64_in _ (by omega)
            by_cases c1 : m + x - r ≤ 0
            · by_cases c2 : 0 < h
              · obtain rfl : y = 0 := by omega
                clear hye
                go_wp2
                go_quiet (fail)
                clear e1 e2
                go_wp2
                go_roundg (ng - (k + 1))
                case measure => omega
                case rel => exact ⟨k + 1, by omega, rfl, by go_num, by rw [hen.out], _, rfl⟩
              · obtain rfl : h = 0 := by omega
                obtain rfl : y = 0 := by omega
                clear hye
                go_wp2
                go_quiet (fail)
                clear e1 e2
                go_wp2
                go_roundg (ng - (k + 1))
                case measure => omega
                case rel => exact ⟨k + 1, by omega, rfl, by go_num, by rw [hen.out], _, rfl⟩
            · by_cases c2 : m + x - r < h
              · obtain rfl : y = m + x - r := by omega
                clear hye
                go_wp2
                go_quiet (fail)
                clear e1 e2
                go_wp2
                go_roundg (ng - (k + 1))
                case measure => omega
                case rel => exact ⟨k + 1, by omega, rfl, by go_num, by rw [hen.out], _, rfl⟩
              · obtain rfl : y = h := by omega
                clear hye
                go_wp2
                go_quiet (fail)
                clear e1 e2
                go_wp2
                go_roundg (ng - (k + 1))
                case measure => omega
                case rel => exact ⟨k + 1, by omega, rfl, by go_num, by rw [hen.out], _, rfl⟩
          · have hge : ng ≤ k := by omega
            obtain ⟨k2, hk2⟩ : ∃ k, len1 % (ng + 1) = k := ⟨_, rfl⟩
            have hkn : k2 ≤ ng := by rw [← hk2]; exact Nat.le_of_lt_succ (Nat.mod_lt _ (Nat.succ_pos ng))
            have hke : (len1 : Int) % ((ng : Int) + 1) = (k2 : Int) := by rw [← hk2]; rfl
            have hok2 : Talk.ok (xs.take k2) r h = true := Talk.ok_mk (Talk.valid_take HV.out k2) ⟨r2, r3⟩ ⟨h2, h3⟩
            have hm2 := Lib.hid (Talk.mind_yes hok2)
            have hcap := o.cap_le
            have hcm := o.cap_max
            have hcap2 := og.cap_le
            have hcm2 := og.cap_max
            have i1 := o.ints.take hkn
            have heq : ((ng : Int) == (ng : Int)) = true := by simp
            clear hk2
            go_wp2_with fail
            refine (imind_any A k2 c (xs.take k2) r h _ (by omega) (i1.drewN q)).mono ?_
            rw [hok2, hm2.out, Talk.minds_take]
            rintro e w5 ⟨A5, n5, c5, rfl, o5, b5⟩
            have i2 := ((og.ints.take hkn).drewN q).below b5
            have hn5 : n5 ≤ 31 := by have := o5.len; rw [List.length_take, Talk.minds_len, hlen_o.out] at this; omega
            go_wp2_with fail
            refine (same_any A5 Ag n5 c5 k2 cg ((Talk.minds r h 0 xs).take k2) ((Talk.minds r h 0 xs).take k2) _ (by omega) (by omega) o5.ints i2).mono ?_
            rintro e w6 ⟨rfl, b6⟩
            go_wp2
            go_ret
            exact ⟨rfl, Below.next (Below.next (below_drewN B4 _) b5) b6⟩
    · go_enter Try.func20, Try.ntmps20
      go_wp2
      go_ret
      exact ⟨rfl, Below.refl _ _⟩
  · go_enter Try.func20, Try.ntmps20
    go_wp2
    go_ret
    exact ⟨rfl, Below.refl _ _⟩

set_option maxRecDepth 100000 in
theorem lifted (os : Os) (started : os.Started) (H : Type) (enc : TypeId × Value → H) :
    ReturnsInHanded {} Try.checked os 20 .any (Rows.fnMindSpec.pre6 enc Try.prog Try.f20 Rows.fnMindRow.domain false) (Rows.fnMindSpec.post enc Try.prog Try.f20 false true false false) := by
  refine returnsInHanded_of_change (C := Try.checked) own started (by kernel_rfl) Try.func20
    (ChangeSpec.witness6 (enc := enc) (C := Try.checked) false ⟨#[], #[.slice none 0 0, .slice none 0 0], []⟩ 8 (by kernel_rfl) (by kernel_rfl) (by kernel_rfl) (by kernel_rfl)) ?_
  intro W base args ds gs before hval0 hW hcnd _
  have hval : ∀ (j : Nat) t v, Try.f20.params[j]? = some t → args[j]? = some v → Value.okWide Try.prog W .any base t v := hval0
  have hW' := hW
  obtain ⟨p, q, hA0, hV, rfl, hfz, hnd⟩ := hW
  have hA : DataW.TrodAll enc Try.prog W 0 (fun _ => true) true Try.f20.params.toList args.toList ds p := hA0
  rw [Try.params20] at hA hval
  obtain ⟨v0, vs0, d0, ds0, p0, q0, hargs, rfl, rfl, h0, r0⟩ := trodAll_cons hA
  obtain ⟨v1, vs1, d1, ds1, p1, q1, rfl, rfl, rfl, h1, r1⟩ := trodAll_cons r0
  obtain ⟨rfl, rfl, rfl⟩ := trodAll_nil r1
  obtain rfl : args = #[v0, v1] := by cases args; simp_all
  obtain ⟨rfl, rfl⟩ := trodVars_none hV
  obtain ⟨a0, len0, cap0, rfl⟩ := okWide_slice Try.underlying33 (hval 0 33 v0 rfl rfl)
  have k0 := h0
  have lt0 : ∀ x ∈ p0, x.block < W.heap.size := by obtain ⟨m, hm⟩ := k0; exact DataW.trod_lt m _ _ _ hm
  obtain ⟨z0, w0⟩ : ∃ zs, IsRow .u8 W a0 len0 cap0 zs := by
    obtain ⟨fuel, hf⟩ := h0
    rcases open_ints Try.underlying33 Try.underlying5 (by kernel_rfl) hf with ⟨hcs, _⟩ | ⟨x, l, c, zs, hcs, _, hl, hm, hz, _, hcell, hwz⟩
    · simp [Value.cells] at hcs
      obtain ⟨rfl, rfl, rfl⟩ := hcs
      exact ⟨[], .inl ⟨rfl, rfl, rfl, rfl⟩⟩
    · simp [Value.cells] at hcs
      obtain ⟨rfl, rfl, rfl⟩ := hcs
      exact ⟨zs, .inr ⟨_, rfl, hl, hm, by simpa using hz, hcell, hwz⟩⟩
  obtain ⟨a1, len1, cap1, rfl⟩ := okWide_slice Try.underlying33 (hval 1 33 v1 rfl rfl)
  have k1 := h1
  have lt1 : ∀ x ∈ p1, x.block < W.heap.size := by obtain ⟨m, hm⟩ := k1; exact DataW.trod_lt m _ _ _ hm
  obtain ⟨z1, w1⟩ : ∃ zs, IsRow .u8 W a1 len1 cap1 zs := by
    obtain ⟨fuel, hf⟩ := h1
    rcases open_ints Try.underlying33 Try.underlying5 (by kernel_rfl) hf with ⟨hcs, _⟩ | ⟨x, l, c, zs, hcs, _, hl, hm, hz, _, hcell, hwz⟩
    · simp [Value.cells] at hcs
      obtain ⟨rfl, rfl, rfl⟩ := hcs
      exact ⟨[], .inl ⟨rfl, rfl, rfl, rfl⟩⟩
    · simp [Value.cells] at hcs
      obtain ⟨rfl, rfl, rfl⟩ := hcs
      exact ⟨zs, .inr ⟨_, rfl, hl, hm, by simpa using hz, hcell, hwz⟩⟩
  clear hA0 hval0
  refine (walk a0 len0 cap0 z0 a1 len1 cap1 z1 W w0 w1).mono fun e W' ⟨he, bel⟩ => ?_
  subst he
  exact ⟨_, rfl, _, _, _, [], _, [], hW', trodAll_mk1 (shut_bool Try.underlying4 _), (trodAll_cons_mk (Below.trod laidOut (by kernel_rfl) (of_decide_eq_true (by kernel_rfl)) k0 bel lt0) (trodAll_cons_mk (Below.trod laidOut (by kernel_rfl) (of_decide_eq_true (by kernel_rfl)) k1 bel lt1) trodAll_mk0)), rfl, bel.frame _, fun h => by cases h⟩

theorem closed : joinedFacts Try.prog 20 Try.f20 Rows.fnMindSpec Rows.fnMindRow = true := by
  unfold joinedFacts
  simp only [may_enter, lifts_final, make_cut]
  kernel_rfl

theorem over : Rows.fnMindRow.holds Try.pinned (OpenSpec.ofChange Rows.fnMindSpec) :=
  OpenClaim.holds_of_wide 20 Try.f20 rfl rfl rfl rfl rfl rfl rfl ⟨rfl, rfl, rfl, rfl, rfl⟩ rfl rfl rfl rfl rfl (by kernel_rfl) Try.func20 closed
    (of_decide_eq_true (by kernel_rfl)) (by unfold Func.isWrapper; first | (rw [if_pos (by decide +kernel)]; kernel_rfl) | (rw [if_neg (by decide +kernel)]; exact ⟨rfl, rfl⟩))
    (fun os started H enc _ => lifted os started H enc)

theorem proved : Rows.FnMindSaid := over
#print axioms proved
end Go.Proofs.Ytcgiehdpdnipbaa.fnMind
