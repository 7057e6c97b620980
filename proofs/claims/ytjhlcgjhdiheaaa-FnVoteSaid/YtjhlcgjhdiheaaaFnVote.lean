/- Proved: the statement 'FnVoteSaid': the law FnVote returns true for every input, and every argument reads afterwards as it read before. No further conditions. The frame follows the kit's proof-skeleton; the walk is ours. -/
import Derived.Test.YtjhlcgjhdiheaaaRows
import Derived.Test.YtjhlcgjhdiheaaaDraw6
import Derived.Test.YtjhlcgjhdiheaaaSameM
import Derived.Test.YtjhlcgjhdiheaaaLawsR
import Derived.Test.YtjhlcgjhdiheaaaBack4
import Derived.Test.YtjhlcgjhdiheaaaArg
import Derived.Test.YtjhlcgjhdiheaaaEnter
import Derived.WalkKit
import Derived.ProofKit
import Derived.OpenShut
import Derived.ShutString
import Derived.ChangeOld
import Derived.Below
namespace Go.Proofs.Ytjhlcgjhdiheaaa.fnVote
open Go.ChangeShapes Go.WideShapes Go.ChangeAt Go.RowKit
open Go.ChangeMaps (open_string shut_string)
set_option linter.unusedVariables false
set_option linter.unusedSimpArgs false

theorem own : ownKnob Try.prog.godebug = none := by kernel_rfl
theorem laidOut : laidOutB Try.prog = true := by kernel_rfl

set_option maxRecDepth 20000 in
set_option maxHeartbeats 8000000 in
theorem walk (a0 : Option Addr) (len0 cap0 : Nat) (z0 : List Int) (w : World) (w0 : IsRow .u8 w a0 len0 cap0 z0) :
    Calls Try.prog 6 #[.slice a0 len0 cap0] w fun e w' => e = .returned (.bool true) ∧ Below w.heap.size w w' := by
  have hy0 := w0.bytes
  have hl0 := w0.len_le
  have hc0 := w0.len_cap
  clear w0
  by_cases hm0 : len0 ≤ 1048576
  · go_enter Try.func6, Try.ntmps6
    go_wp2_with fail
    refine (drawVote a0 len0 cap0 _ hy0 hm0 hc0).mono ?_
    rintro e W1 ⟨A, n, c, xs, B, m, d, ys, C, l, q, zs, rfl, hn, hm, hl, o1, o2, o3, bd⟩
    have S1 : w.heap.size ≤ W1.heap.size := bd.size
    have B1 : Below w.heap.size w W1 := bd
    have hlen_o1 := Lib.hid o1.1.len
    have hcap_o1 := o1.2.1
    have hmax_o1 := o1.2.2.1
    have hlen_o2 := Lib.hid o2.1.len
    have hcap_o2 := o2.2.1
    have hmax_o2 := o2.2.2.1
    have hlen_o3 := Lib.hid o3.1.len
    have hcap_o3 := o3.2.1
    have hmax_o3 := o3.2.2.1
    have hvl := voteF_len xs ys zs
    obtain ⟨r, hr⟩ : ∃ r, voteF xs ys zs = r := ⟨_, rfl⟩
    rw [hr] at hvl
    have HR := Lib.hid hr
    clear hr
    go_wp2_with fail
    refine (ivote_any A B C n c m d l q xs ys zs _ (by omega) (by omega) (by omega) o1.1 o2.1 o3.1).mono ?_
    rw [HR.out]
    rintro e W2 ⟨Ag, ng, cg, rfl, og, bg⟩
    have S2 : W1.heap.size ≤ W2.heap.size := bg.size
    have B2 : Below w.heap.size w W2 := Below.next B1 bg
    have o1 := o1.below bg
    have o2 := o2.below bg
    have o3 := o3.below bg
    go_wp2_with fail
    refine (svote_any A B C n c m d l q xs ys zs _ (by omega) (by omega) (by omega) o1.1 o2.1 o3.1).mono ?_
    rw [HR.out]
    rintro e W3 ⟨Ar, nr, cr, rfl, or, br⟩
    have S3 : W2.heap.size ≤ W3.heap.size := br.size
    have B3 : Below w.heap.size w W3 := Below.next B2 br
    have o1 := o1.below br
    have o2 := o2.below br
    have o3 := o3.below br
    have og := og.below br
    have hng : ng ≤ 20 := by have := og.len; omega
    have hnr : nr ≤ 20 := by have := or.len; omega
    have hq : (r.isSome != r.isSome) = false := by simp
    have hq2 : (r.isSome == r.isSome) = true := by simp
    go_wp2_with fail
    refine (eqt_self Ag Ar ng cg nr cr _ _ (by omega) (by omega) og.ints or.ints).mono ?_
    rintro e W4 ⟨rfl, be1⟩
    have S4 : W3.heap.size ≤ W4.heap.size := be1.size
    have B4 : Below w.heap.size w W4 := Below.next B3 be1
    have o1 := o1.below be1
    have o2 := o2.below be1
    have o3 := o3.below be1
    have og := og.below be1
    have or := or.below be1
    clear hvl
    cases r with
    | none =>
      have his : (none : Option (List ByteArray)).isSome = false := rfl
      rw [his]
      clear hq hq2
      have hq2 : (false == false) = true := rfl
      go_wp2_with fail
      refine (eqt_self Ag Ar ng cg nr cr _ _ (by omega) (by omega) og.ints or.ints).mono ?_
      rintro e W5 ⟨rfl, be2⟩
      have S5 : W4.heap.size ≤ W5.heap.size := be2.size
      have B5 : Below w.heap.size w W5 := Below.next B4 be2
      have o1 := o1.below be2
      have o2 := o2.below be2
      have o3 := o3.below be2
      have og := og.below be2
      have or := or.below be2
      go_wp2
      go_ret
      exact ⟨rfl, B5⟩
    | some out =>
      have his : (some out : Option (List ByteArray)).isSome = true := rfl
      rw [his]
      have hv := HR.out
      clear HR
      replace og : OwnS _ _ _ Ag ng cg out := og
      obtain ⟨f1, f2, f3, f4, f5, f6, f7⟩ := voteF_facts hv
      have F1 := Lib.hid f1
      have F2 := Lib.hid f2
      have F6 := Lib.hid f6
      have F7 := Lib.hid f7
      have lg := og.len
      rw [hlen_o1.out] at f3 f4 f5
      rw [hlen_o2.out] at f4
      rw [hlen_o3.out] at f5
      have hng2 : ng ≤ n := by omega
      have hnm : ng ≤ m := by omega
      have hnl : ng ≤ l := by omega
      have HLG := Lib.hid lg
      clear f1 f2 f6 f7 hv hq hq2 f3 f4 f5 lg
      go_wp2_with fail
      refine (ivote_any B C A m d l q n c ys zs xs _ (by omega) (by omega) (by omega) o2.1 o3.1 o1.1).mono ?_
      rw [F1.out]
      rintro e W5 ⟨Ax, nx, cx, rfl, ox, bx⟩
      have S5 : W4.heap.size ≤ W5.heap.size := bx.size
      have B5 : Below w.heap.size w W5 := Below.next B4 bx
      have o1 := o1.below bx
      have o2 := o2.below bx
      have o3 := o3.below bx
      have og := og.below bx
      have or := or.below bx
      replace ox : OwnS _ _ _ Ax nx cx out := ox
      go_wp2_with fail
      refine (ivote_any B A C m d n c l q ys xs zs _ (by omega) (by omega) (by omega) o2.1 o1.1 o3.1).mono ?_
      rw [F2.out]
      rintro e W6 ⟨Ay, ny, cy, rfl, oy, by_⟩
      have S6 : W5.heap.size ≤ W6.heap.size := by_.size
      have B6 : Below w.heap.size w W6 := Below.next B5 by_
      have o1 := o1.below by_
      have o2 := o2.below by_
      have o3 := o3.below by_
      have og := og.below by_
      have or := or.below by_
      have ox := ox.below by_
      replace oy : OwnS _ _ _ Ay ny cy out := oy
      go_wp2_with fail
      have hnx : nx ≤ 20 := by have := ox.len; have := HLG.out; omega
      have hny : ny ≤ 20 := by have := oy.len; have := HLG.out; omega
      go_loopw [14] (fun i wr => ∃ j q : Nat, j ≤ ng ∧ i = .int .i64 j ∧ wr = W6.drewN q) (fun i _ => ng - (intOf i).toNat)
      case atStart => exact ⟨0, 0, Nat.zero_le _, rfl, rfl⟩
      case round =>
        obtain ⟨j, p, hj, rfl, rfl⟩ := hrel
        by_cases hlt : j < ng
        · obtain ⟨b0, of0, v, rfl, hv, _, cv⟩ := og.ints.at_ hlt
          obtain ⟨b1, of1, x, rfl, hx, _, cx1⟩ := o1.1.at_ (k := j) (by omega)
          obtain ⟨b2, of2, y, rfl, hy, _, cy1⟩ := o2.1.at_ (k := j) (by omega)
          obtain ⟨b3, of3, z, rfl, hz, _, cz1⟩ := o3.1.at_ (k := j) (by omega)
          have h2of3 : (x = v ∧ y = v) ∨ (x = v ∧ z = v) ∨ (y = v ∧ z = v) := by
            obtain ⟨x', y', z', gx, gy, gz, h⟩ := F7.out j v hv
            rw [hx] at gx; rw [hy] at gy; rw [hz] at gz
            injection gx with gx; injection gy with gy; injection gz with gz
            subst gx gy gz; exact h
          clear hx hy hz hv
          have ex := bytes_eq x v
          have ey := bytes_eq y v
          have ez := bytes_eq z v
          have i1 : (0 : Int) ≤ (j : Int) := by omega
          have i2 : (j : Int) < (ng : Int) := by omega
          have i3 : (j : Int) < (n : Int) := by omega
          have i4 : (j : Int) < (m : Int) := by omega
          have i5 : (j : Int) < (l : Int) := by omega
          by_cases hx : x = v
          · by_cases hy : y = v
            · by_cases hz : z = v
              · have ex' : (x.toList == v.toList) = true := by rw [ex]; simp [hx]
                have ey' : (y.toList == v.toList) = true := by rw [ey]; simp [hy]
                have ez' : (z.toList == v.toList) = true := by rw [ez]; simp [hz]
                clear ex ey ez hx hy hz h2of3
                go_wp2_with fail
                go_quiet (fail)
                go_wp2_with fail
                go_quiet (fail)
                go_wp2_with fail
                go_quiet (fail)
                go_wp2_with fail
                go_roundw
                case rel => exact ⟨j + 1, _, by omega, by go_num, by first | rfl | exact (World.drewN_drewN _ _ _).symm | (simp only [World.drewN_drewN]; rfl)⟩
                case measure => simp [intOf]; omega
              · have ex' : (x.toList == v.toList) = true := by rw [ex]; simp [hx]
                have ey' : (y.toList == v.toList) = true := by rw [ey]; simp [hy]
                have ez' : (z.toList == v.toList) = false := by rw [ez]; simp [hz]
                clear ex ey ez hx hy hz h2of3
                go_wp2_with fail
                go_quiet (fail)
                go_wp2_with fail
                go_quiet (fail)
                go_wp2_with fail
                go_quiet (fail)
                go_wp2_with fail
                go_roundw
                case rel => exact ⟨j + 1, _, by omega, by go_num, by first | rfl | exact (World.drewN_drewN _ _ _).symm | (simp only [World.drewN_drewN]; rfl)⟩
                case measure => simp [intOf]; omega
            · by_cases hz : z = v
              · have ex' : (x.toList == v.toList) = true := by rw [ex]; simp [hx]
                have ey' : (y.toList == v.toList) = false := by rw [ey]; simp [hy]
                have ez' : (z.toList == v.toList) = true := by rw [ez]; simp [hz]
                clear ex ey ez hx hy hz h2of3
                go_wp2_with fail
                go_quiet (fail)
                go_wp2_with fail
                go_quiet (fail)
                go_wp2_with fail
                go_quiet (fail)
                go_wp2_with fail
                go_roundw
                case rel => exact ⟨j + 1, _, by omega, by go_num, by first | rfl | exact (World.drewN_drewN _ _ _).symm | (simp only [World.drewN_drewN]; rfl)⟩
                case measure => simp [intOf]; omega
              · exfalso; simp_all
          · by_cases hy : y = v
            · by_cases hz : z = v
              · have ex' : (x.toList == v.toList) = false := by rw [ex]; simp [hx]
                have ey' : (y.toList == v.toList) = true := by rw [ey]; simp [hy]
                have ez' : (z.toList == v.toList) = true := by rw [ez]; simp [hz]
                clear ex ey ez hx hy hz h2of3
                go_wp2_with fail
                go_quiet (fail)
                go_wp2_with fail
                go_quiet (fail)
                go_wp2_with fail
                go_quiet (fail)
                go_wp2_with fail
                go_roundw
                case rel => exact ⟨j + 1, _, by omega, by go_num, by first | rfl | exact (World.drewN_drewN _ _ _).symm | (simp only [World.drewN_drewN]; rfl)⟩
                case measure => simp [intOf]; omega
              · exfalso; simp_all
            · by_cases hz : z = v
              · exfalso; simp_all
              · exfalso; simp_all
        · have bq : Below W6.heap.size W6 (W6.drewN p) := below_drewN (Below.refl _ _) p
          generalize W6.drewN p = W7 at *
          have S7 : W6.heap.size ≤ W7.heap.size := bq.size
          have B7 : Below w.heap.size w W7 := Below.next B6 bq
          have o1 := o1.below bq
          have o2 := o2.below bq
          have o3 := o3.below bq
          have og := og.below bq
          have or := or.below bq
          have ox := ox.below bq
          have oy := oy.below bq
          go_wp2_with fail
          refine (eqt_self Ax Ag nx cx ng cg out _ (by omega) (by omega) ox.ints og.ints).mono ?_
          rintro e W8 ⟨rfl, bs1⟩
          have S8 : W7.heap.size ≤ W8.heap.size := bs1.size
          have B8 : Below w.heap.size w W8 := Below.next B7 bs1
          have o1 := o1.below bs1
          have o2 := o2.below bs1
          have o3 := o3.below bs1
          have og := og.below bs1
          have or := or.below bs1
          have ox := ox.below bs1
          have oy := oy.below bs1
          go_wp2_with fail
          refine (eqt_self Ay Ag ny cy ng cg out _ (by omega) (by omega) oy.ints og.ints).mono ?_
          rintro e W9 ⟨rfl, bs2⟩
          have S9 : W8.heap.size ≤ W9.heap.size := bs2.size
          have B9 : Below w.heap.size w W9 := Below.next B8 bs2
          have o1 := o1.below bs2
          have o2 := o2.below bs2
          have o3 := o3.below bs2
          have og := og.below bs2
          have or := or.below bs2
          have ox := ox.below bs2
          have oy := oy.below bs2
          by_cases hab : xs = ys
          · have hoa := F6.out hab
            have T0 := Lib.hid (show decide (xs = ys) = true by simp [hab])
            clear hab
            go_wp2_with fail
            refine (eqtb_any A B n c m d xs ys _ (by omega) (by omega) o1.1 o2.1).mono ?_
            rw [T0.out]
            rintro e W10 ⟨rfl, bs3⟩
            have S10 : W9.heap.size ≤ W10.heap.size := bs3.size
            have B10 : Below w.heap.size w W10 := Below.next B9 bs3
            have o1 := o1.below bs3
            have o2 := o2.below bs3
            have o3 := o3.below bs3
            have og := og.below bs3
            have or := or.below bs3
            have ox := ox.below bs3
            have oy := oy.below bs3
            rw [hoa] at og
            go_wp2_with fail
            refine (eqt_self Ag A ng cg n c xs _ (by omega) (by omega) og.ints o1.1).mono ?_
            rintro e W11 ⟨rfl, bs4⟩
            have S11 : W10.heap.size ≤ W11.heap.size := bs4.size
            have B11 : Below w.heap.size w W11 := Below.next B10 bs4
            have o1 := o1.below bs4
            have o2 := o2.below bs4
            have o3 := o3.below bs4
            have og := og.below bs4
            have or := or.below bs4
            have ox := ox.below bs4
            have oy := oy.below bs4
            go_wp2
            go_ret
            exact ⟨rfl, B11⟩
          · have T0 := Lib.hid (show decide (xs = ys) = false by simp [hab])
            clear hab
            go_wp2_with fail
            refine (eqtb_any A B n c m d xs ys _ (by omega) (by omega) o1.1 o2.1).mono ?_
            rw [T0.out]
            rintro e W10 ⟨rfl, bs3⟩
            have S10 : W9.heap.size ≤ W10.heap.size := bs3.size
            have B10 : Below w.heap.size w W10 := Below.next B9 bs3
            have o1 := o1.below bs3
            have o2 := o2.below bs3
            have o3 := o3.below bs3
            have og := og.below bs3
            have or := or.below bs3
            have ox := ox.below bs3
            have oy := oy.below bs3
            go_wp2
            go_ret
            exact ⟨rfl, B10⟩
  · go_enter Try.func6, Try.ntmps6
    go_wp2
    go_ret
    exact ⟨rfl, Below.refl _ _⟩

set_option maxRecDepth 100000 in
theorem lifted (os : Os) (started : os.Started) (H : Type) (enc : TypeId × Value → H) :
    ReturnsInHanded {} Try.checked os 6 .any (Rows.fnVoteSpec.pre6 enc Try.prog Try.f6 Rows.fnVoteRow.domain false) (Rows.fnVoteSpec.post enc Try.prog Try.f6 false true false false) := by
  refine returnsInHanded_of_change (C := Try.checked) own started (by kernel_rfl) Try.func6
    (ChangeSpec.witness6 (enc := enc) (C := Try.checked) false ⟨#[], #[.slice none 0 0], []⟩ 8 (by kernel_rfl) (by kernel_rfl) (by kernel_rfl) (by kernel_rfl)) ?_
  intro W base args ds gs before hval0 hW hcnd _
  have hval : ∀ (j : Nat) t v, Try.f6.params[j]? = some t → args[j]? = some v → Value.okWide Try.prog W .any base t v := hval0
  have hW' := hW
  obtain ⟨p, q, hA0, hV, rfl, hfz, hnd⟩ := hW
  have hA : DataW.TrodAll enc Try.prog W 0 (fun _ => true) true Try.f6.params.toList args.toList ds p := hA0
  rw [Try.params6] at hA hval
  obtain ⟨v0, vs0, d0, ds0, p0, q0, hargs, rfl, rfl, h0, r0⟩ := trodAll_cons hA
  obtain ⟨rfl, rfl, rfl⟩ := trodAll_nil r0
  obtain rfl : args = #[v0] := by cases args; simp_all
  obtain ⟨rfl, rfl⟩ := trodVars_none hV
  obtain ⟨a0, len0, cap0, rfl⟩ := okWide_slice Try.underlying39 (hval 0 39 v0 rfl rfl)
  have k0 := h0
  have lt0 : ∀ x ∈ p0, x.block < W.heap.size := by obtain ⟨m, hm⟩ := k0; exact DataW.trod_lt m _ _ _ hm
  obtain ⟨z0, w0⟩ : ∃ zs, IsRow .u8 W a0 len0 cap0 zs := by
    obtain ⟨fuel, hf⟩ := h0
    rcases open_ints Try.underlying39 Try.underlying5 (by kernel_rfl) hf with ⟨hcs, _⟩ | ⟨x, l, c, zs, hcs, _, hl, hm, hz, _, hcell, hwz⟩
    · simp [Value.cells] at hcs
      obtain ⟨rfl, rfl, rfl⟩ := hcs
      exact ⟨[], .inl ⟨rfl, rfl, rfl, rfl⟩⟩
    · simp [Value.cells] at hcs
      obtain ⟨rfl, rfl, rfl⟩ := hcs
      exact ⟨zs, .inr ⟨_, rfl, hl, hm, by simpa using hz, hcell, hwz⟩⟩
  clear hA0 hval0
  refine (walk a0 len0 cap0 z0 W w0).mono fun e W' ⟨he, bel⟩ => ?_
  subst he
  exact ⟨_, rfl, _, _, _, [], _, [], hW', trodAll_mk1 (shut_bool Try.underlying4 _), (trodAll_cons_mk (Below.trod laidOut (by kernel_rfl) (of_decide_eq_true (by kernel_rfl)) k0 bel lt0) trodAll_mk0), rfl, bel.frame _, fun h => by cases h⟩

theorem closed : joinedFacts Try.prog 6 Try.f6 Rows.fnVoteSpec Rows.fnVoteRow = true := by
  unfold joinedFacts
  simp only [may_enter, lifts_final, make_cut]
  kernel_rfl

theorem over : Rows.fnVoteRow.holds Try.pinned (OpenSpec.ofChange Rows.fnVoteSpec) :=
  OpenClaim.holds_of_wide 6 Try.f6 rfl rfl rfl rfl rfl rfl rfl ⟨rfl, rfl, rfl, rfl, rfl⟩ rfl rfl rfl rfl rfl (by kernel_rfl) Try.func6 closed
    (of_decide_eq_true (by kernel_rfl)) (by unfold Func.isWrapper; first | (rw [if_pos (by decide +kernel)]; kernel_rfl) | (rw [if_neg (by decide +kernel)]; exact ⟨rfl, rfl⟩))
    (fun os started H enc _ => lifted os started H enc)

theorem proved : Rows.FnVoteSaid := over
#print axioms proved
end Go.Proofs.Ytjhlcgjhdiheaaa.fnVote
