/- Proved: the statement 'FnMarksClashSaid': the law FnMarksClash returns true for every input, and every argument reads afterwards as it read before. No further conditions. The frame follows the kit's proof-skeleton; the walk is ours. -/
import Derived.Test.YtjhlcgjhdiheaaaRows
import Derived.Test.YtjhlcgjhdiheaaaUse2
import Derived.Test.YtjhlcgjhdiheaaaArg
import Derived.Test.YtjhlcgjhdiheaaaEnter
import Derived.WalkKit
import Derived.ProofKit
import Derived.OpenShut
import Derived.ShutString
import Derived.ChangeOld
import Derived.Below
namespace Go.Proofs.Ytjhlcgjhdiheaaa.fnMarksClash
open Go.ChangeShapes Go.WideShapes Go.ChangeAt Go.RowKit
open Go.ChangeMaps (open_string shut_string)
set_option linter.unusedVariables false
set_option linter.unusedSimpArgs false

theorem own : ownKnob Try.prog.godebug = none := by kernel_rfl
theorem laidOut : laidOutB Try.prog = true := by kernel_rfl

set_option maxRecDepth 20000 in
set_option maxHeartbeats 8000000 in
theorem walk (a0 : Option Addr) (len0 cap0 : Nat) (z0 : List Int) (w : World) (w0 : IsRow .u8 w a0 len0 cap0 z0) :
    Calls Try.prog 23 #[.slice a0 len0 cap0] w fun e w' => e = .returned (.bool true) ∧ Below w.heap.size w w' := by
  have hy0 := w0.bytes
  have hl0 := w0.len_le
  have hc0 := w0.len_cap
  clear w0
  by_cases hm0 : len0 ≤ 1048576
  · go_enter Try.func23, Try.ntmps23
    go_wp2_with fail
    refine (drawClash a0 len0 cap0 _ hy0 hm0 hc0).mono ?_
    rintro e W1 ⟨A, n, c, ws, B, m, d, xs, C, l, q, ys, rfl, hn, hm, hl, o, k, kk, bd⟩
    have S1 : w.heap.size ≤ W1.heap.size := bd.size
    have B1 : Below w.heap.size w W1 := bd
    have hlen_o := Lib.hid o.1.len
    have hcap_o := o.2.1
    have hmax_o := o.2.2.1
    have hlen_k := Lib.hid k.1.len
    have hcap_k := k.2.1
    have hmax_k := k.2.2.1
    have hlen_kk := Lib.hid kk.1.len
    have hcap_kk := kk.2.1
    have hmax_kk := kk.2.2.1
    cases hc : clashI ws xs ys with
    | false =>
      have HC := Lib.hid hc
      clear hc
      go_wp2_with fail
      refine (iclash_any A B C n c m d l q ws xs ys _ (by omega) (by omega) (by omega) o.1 k.1 kk.1).mono ?_
      rw [HC.out]
      rintro e W2 ⟨rfl, b2⟩
      have S2 : W1.heap.size ≤ W2.heap.size := b2.size
      have B2 : Below w.heap.size w W2 := Below.next B1 b2
      have o := o.below b2
      have k := k.below b2
      have kk := kk.below b2
      go_wp2_with fail
      refine (sclash_any A B C n c m d l q ws xs ys _ (by omega) (by omega) (by omega) o.1 k.1 kk.1).mono ?_
      rw [HC.out]
      rintro e W3 ⟨rfl, b3⟩
      have S3 : W2.heap.size ≤ W3.heap.size := b3.size
      have B3 : Below w.heap.size w W3 := Below.next B2 b3
      have o := o.below b3
      have k := k.below b3
      have kk := kk.below b3
      go_wp2
      go_ret
      exact ⟨rfl, B3⟩
    | true =>
      obtain ⟨hv1, hv2, hcl, hcs⟩ := clashI_parts hc
      have HC := Lib.hid hc
      have HS := Lib.hid hcs
      have HL := Lib.hid hcl
      have hXS := Lib.hid (small_of hv1)
      have hYS := Lib.hid (small_of hv2)
      clear hc hv1 hv2 hcl hcs
      go_wp2_with fail
      refine (iclash_any A B C n c m d l q ws xs ys _ (by omega) (by omega) (by omega) o.1 k.1 kk.1).mono ?_
      rw [HC.out]
      rintro e W2 ⟨rfl, b2⟩
      have S2 : W1.heap.size ≤ W2.heap.size := b2.size
      have B2 : Below w.heap.size w W2 := Below.next B1 b2
      have o := o.below b2
      have k := k.below b2
      have kk := kk.below b2
      go_wp2_with fail
      refine (sclash_any A B C n c m d l q ws xs ys _ (by omega) (by omega) (by omega) o.1 k.1 kk.1).mono ?_
      rw [HC.out]
      rintro e W3 ⟨rfl, b3⟩
      have S3 : W2.heap.size ≤ W3.heap.size := b3.size
      have B3 : Below w.heap.size w W3 := Below.next B2 b3
      have o := o.below b3
      have k := k.below b3
      have kk := kk.below b3
      go_wp2_with fail
      refine (iboth_clash A B C n c m d l q ws xs ys _ o (by omega) (by omega) k.1 kk.1 HC.out).mono ?_
      rintro e W4 ⟨rfl, b4⟩
      have S4 : W3.heap.size ≤ W4.heap.size := b4.size
      have B4 : Below w.heap.size w W4 := Below.next B3 b4
      have o := o.below b4
      have k := k.below b4
      have kk := kk.below b4
      go_wp2_with fail
      go_loopw [10, 11] (fun f i wr => ∃ p : Nat, p ≤ m ∧ i = .int .i64 p ∧ (∃ fb : Bool, f = .bool fb ∧ Hid (fb = (xs.take p).any (fun x => ys.any fun y => Mk.clash1 x y))) ∧ Below W4.heap.size W4 wr) (fun _ i _ => m - (intOf i).toNat)
      case atStart => exact ⟨0, Nat.zero_le _, rfl, ⟨false, rfl, Lib.hid (by simp)⟩, Below.refl _ _⟩
      case round =>
        obtain ⟨p, hp, rfl, ⟨fb, rfl, hF⟩, hbel⟩ := hrel
        by_cases hlt : p < m
        · obtain ⟨b0, off, x, rfl, hx, x1, x2, c0, c1, A', n', c', c2, hq⟩ := k.1.at_ hlt
          have hX := Lib.hid hx
          obtain ⟨s1, s2, s3, s4, s5⟩ := hXS.out x (mem_at hx)
          clear hx
          obtain ⟨O, hO⟩ : ∃ O, fb = O := ⟨_, rfl⟩
          go_wp2_with fail
          go_loopw [10, 12] (fun f i wr => ∃ r : Nat, r ≤ l ∧ i = .int .i64 r ∧ (∃ gb : Bool, f = .bool gb ∧ Hid (gb = (O || (ys.take r).any (fun y => Mk.clash1 x y)))) ∧ Below W4.heap.size W4 wr) (fun _ i _ => l - (intOf i).toNat)
          case atStart => exact ⟨0, Nat.zero_le _, rfl, ⟨fb, rfl, Lib.hid (by simp [hO])⟩, hbel⟩
          case round =>
            clear hbel
            obtain ⟨r, hr, rfl, ⟨gb, rfl, hG⟩, hbel⟩ := hrel
            by_cases hlt2 : r < l
            · obtain ⟨b2, off2, y, rfl, hy, y1, y2, d0, d1, B', m', d', d2, hs⟩ := kk.1.at_ hlt2
              have hY := Lib.hid hy
              obtain ⟨t1, t2, t3, t4, t5⟩ := hYS.out y (mem_at hy)
              clear hy
              have i1 : (0 : Int) ≤ (p : Int) := by omega
              have i2 : (p : Int) < (m : Int) := by omega
              have i3 : (0 : Int) ≤ (r : Int) := by omega
              have i4 : (r : Int) < (l : Int) := by omega
              have w1 : IntKind.i64.wrap (y.at_ + y.cut) = y.at_ + y.cut := IntWalk.i64_in _ (by omega)
              have w2 : IntKind.i64.wrap (x.at_ + x.cut) = x.at_ + x.cut := IntWalk.i64_in _ (by omega)
              have w3 : IntKind.i64.wrap ((p : Int) + 1) = (p : Int) + 1 := IntWalk.i64_in _ (by omega)
              have w4 : IntKind.i64.wrap ((r : Int) + 1) = (r : Int) + 1 := IntWalk.i64_in _ (by omega)
              have e0 := (hbel.cell (lt_of_cell c0)).trans c0
              have e1 := (hbel.cell (lt_of_cell c1)).trans c1
              have g0 := (hbel.cell (lt_of_cell d0)).trans d0
              have g1 := (hbel.cell (lt_of_cell d1)).trans d1
              have kx := k.1.below hbel
              have ky := kk.1.below hbel
              have hcm := k.2.1
              have hcl := kk.2.1
              have hcm2 := k.2.2.1
              have hcl2 := kk.2.2.1
              cases gb with
              | true =>
                by_cases p1 : x.at_ ≤ y.at_ + y.cut
                · by_cases p2 : y.at_ ≤ x.at_ + x.cut
                  · have hcl9 := Lib.hid (clash_touch p1 p2)
                    have q1 : decide (x.at_ ≤ y.at_ + y.cut) = true := decide_eq_true p1
                    have q2 : decide (y.at_ ≤ x.at_ + x.cut) = true := decide_eq_true p2
                    have hN : Hid (true = (O || (ys.take (r + 1)).any (fun y => Mk.clash1 x y))) := Lib.hid (by rw [any_more hY.out, ← Bool.or_assoc, ← hG.out]; simp)
                    clear hG
                    go_wp2_with fail
                    go_quiet (fail)
                    go_wp2_with fail
                    go_quiet (fail)
                    go_wp2_with fail
                    go_roundw
                    case rel => exact ⟨r + 1, by omega, by go_num, ⟨true, rfl, hN⟩, below_drewN hbel _⟩
                    case measure => simp [intOf]; omega
                  · have hN : Hid (true = (O || (ys.take (r + 1)).any (fun y => Mk.clash1 x y))) := Lib.hid (by rw [any_more hY.out, no_touch2 p2, ← Bool.or_assoc, ← hG.out]; simp)
                    clear hG
                    have q1 : decide (x.at_ ≤ y.at_ + y.cut) = true := decide_eq_true p1; have q2 : decide (y.at_ ≤ x.at_ + x.cut) = false := decide_eq_false p2
                    go_wp2_with fail
                    go_quiet (fail)
                    go_wp2_with fail
                    go_quiet (fail)
                    go_wp2_with fail
                    go_roundw
                    case rel => exact ⟨r + 1, by omega, by go_num, ⟨true, rfl, hN⟩, below_drewN hbel _⟩
                    case measure => simp [intOf]; omega
                · have hN : Hid (true = (O || (ys.take (r + 1)).any (fun y => Mk.clash1 x y))) := Lib.hid (by rw [any_more hY.out, no_touch1 p1, ← Bool.or_assoc, ← hG.out]; simp)
                  clear hG
                  have q1 : decide (x.at_ ≤ y.at_ + y.cut) = false := decide_eq_false p1
                  go_wp2_with fail
                  go_quiet (fail)
                  go_wp2_with fail
                  go_quiet (fail)
                  go_wp2_with fail
                  go_roundw
                  case rel => exact ⟨r + 1, by omega, by go_num, ⟨true, rfl, hN⟩, below_drewN hbel _⟩
                  case measure => simp [intOf]; omega
              | false =>
                by_cases p1 : x.at_ ≤ y.at_ + y.cut
                · by_cases p2 : y.at_ ≤ x.at_ + x.cut
                  · have hcl9 := Lib.hid (clash_touch p1 p2)
                    have q1 : decide (x.at_ ≤ y.at_ + y.cut) = true := decide_eq_true p1
                    have q2 : decide (y.at_ ≤ x.at_ + x.cut) = true := decide_eq_true p2
                    have hN : Hid ((!Mk.sameM x y) = (O || (ys.take (r + 1)).any (fun y => Mk.clash1 x y))) := Lib.hid (by rw [any_more hY.out, hcl9.out, ← Bool.or_assoc, ← hG.out]; simp)
                    clear hG
                    have dp : ¬ d = p := by omega
                    have qr : ¬ q = r := by omega
                    have hx9 := kx.cut (i := p) (k := 1) (by omega)
                    rw [one_of hX.out] at hx9
                    have hy9 := ky.cut (i := r) (k := 1) (by omega)
                    rw [one_of hY.out] at hy9
                    have HX := Lib.hid hx9
                    have HY := Lib.hid hy9
                    clear hx9 hy9
                    go_wp2_with fail
                    go_quiet (fail)
                    have hbq := below_drewN hbel nq
                    have SX := Lib.hid (fun r os => (show Mrks (wr.drewN nq) _ 1 [x] from HX.out).below (below_grow (Below.refl _ _) (Nat.le_refl _) r os))
                    have SY := Lib.hid (fun r os => (show Mrks (wr.drewN nq) _ 1 [y] from HY.out).below (below_grow (Below.refl _ _) (Nat.le_refl _) r os))
                    have HB := Lib.hid (fun r os => below_grow hbq hbq.size r os)
                    have hmix := mixed
                    clear hbq hbel HX HY kx ky e0 e1 g0 g1
                    go_wp2_with fail
                    generalize wr.drewN nq = Wx at *
                    refine wp_region_quiet_grown (by assumption) (by kernel_rfl) ?_
                    repeat (go_big_quiet_step (first | (go_at_call 60; refine Calls.grown_of ((samemg_any (some ⟨b0, off + p * 3, none⟩) (some ⟨b2, off2 + r * 3, none⟩) 1 (d - p) 1 (q - r) [x] [y] _ (by omega) (by omega) (SX.out _ _) (SY.out _ _)).mono fun e w' h => ⟨h.1.trans (ret_bool (eqMs_one x y)), h.2⟩))))
                    refine wpQuiet_nil ?_
                    intro _ hw'
                    obtain ⟨⟨nq, osq⟩, hw''⟩ := hw'
                    subst hw''
                    go_wp2_with fail
                    go_roundw
                    case rel => exact ⟨r + 1, by omega, by go_num, ⟨_, rfl, hN⟩, HB.out _ _⟩
                    case measure => simp [intOf]; omega
                  · have hN : Hid (false = (O || (ys.take (r + 1)).any (fun y => Mk.clash1 x y))) := Lib.hid (by rw [any_more hY.out, no_touch2 p2, ← Bool.or_assoc, ← hG.out]; simp)
                    clear hG
                    have q1 : decide (x.at_ ≤ y.at_ + y.cut) = true := decide_eq_true p1; have q2 : decide (y.at_ ≤ x.at_ + x.cut) = false := decide_eq_false p2
                    go_wp2_with fail
                    go_quiet (fail)
                    go_wp2_with fail
                    go_quiet (fail)
                    go_wp2_with fail
                    go_roundw
                    case rel => exact ⟨r + 1, by omega, by go_num, ⟨false, rfl, hN⟩, below_drewN hbel _⟩
                    case measure => simp [intOf]; omega
                · have hN : Hid (false = (O || (ys.take (r + 1)).any (fun y => Mk.clash1 x y))) := Lib.hid (by rw [any_more hY.out, no_touch1 p1, ← Bool.or_assoc, ← hG.out]; simp)
                  clear hG
                  have q1 : decide (x.at_ ≤ y.at_ + y.cut) = false := decide_eq_false p1
                  go_wp2_with fail
                  go_quiet (fail)
                  go_wp2_with fail
                  go_quiet (fail)
                  go_wp2_with fail
                  go_roundw
                  case rel => exact ⟨r + 1, by omega, by go_num, ⟨false, rfl, hN⟩, below_drewN hbel _⟩
                  case measure => simp [intOf]; omega
            · obtain rfl : r = l := by omega
              have hE : Hid (gb = (xs.take (p + 1)).any (fun x => ys.any fun y => Mk.clash1 x y)) := Lib.hid (by rw [hG.out, any_more hX.out, ← hF.out, hO, List.take_of_length_le (by rw [hlen_kk.out]; exact Nat.le_refl _)])
              clear hG
              go_wp2_with fail
              go_roundw
              case rel => exact ⟨p + 1, by omega, by go_num, ⟨gb, rfl, hE⟩, hbel⟩
              case measure => simp [intOf]; omega
        · obtain rfl : p = m := by omega
          have hE : fb = true := by rw [hF.out, List.take_of_length_le (by rw [hlen_k.out]; exact Nat.le_refl _)]; exact HL.out
          subst hE
          have o := o.below hbel
          have k := k.below hbel
          have kk := kk.below hbel
          go_wp2_with fail
          refine (iclash_any A C B n c l q p d ws ys xs _ (by omega) (by omega) (by omega) o.1 kk.1 k.1).mono ?_
          rw [HS.out]
          rintro e w9 ⟨rfl, b9⟩
          have hfin := (B4.trans (hbel.mono B4.size)).trans (b9.mono (by have := B4.size; have := hbel.size; omega))
          go_wp2
          go_ret
          exact ⟨rfl, hfin⟩
  · go_enter Try.func23, Try.ntmps23
    go_wp2
    go_ret
    exact ⟨rfl, Below.refl _ _⟩

set_option maxRecDepth 100000 in
theorem lifted (os : Os) (started : os.Started) (H : Type) (enc : TypeId × Value → H) :
    ReturnsInHanded {} Try.checked os 23 .any (Rows.fnMarksClashSpec.pre6 enc Try.prog Try.f23 Rows.fnMarksClashRow.domain false) (Rows.fnMarksClashSpec.post enc Try.prog Try.f23 false true false false) := by
  refine returnsInHanded_of_change (C := Try.checked) own started (by kernel_rfl) Try.func23
    (ChangeSpec.witness6 (enc := enc) (C := Try.checked) false ⟨#[], #[.slice none 0 0], []⟩ 8 (by kernel_rfl) (by kernel_rfl) (by kernel_rfl) (by kernel_rfl)) ?_
  intro W base args ds gs before hval0 hW hcnd _
  have hval : ∀ (j : Nat) t v, Try.f23.params[j]? = some t → args[j]? = some v → Value.okWide Try.prog W .any base t v := hval0
  have hW' := hW
  obtain ⟨p, q, hA0, hV, rfl, hfz, hnd⟩ := hW
  have hA : DataW.TrodAll enc Try.prog W 0 (fun _ => true) true Try.f23.params.toList args.toList ds p := hA0
  rw [Try.params23] at hA hval
  obtain ⟨v0, vs0, d0, ds0, p0, q0, hargs, rfl, rfl, h0, r0⟩ := trodAll_cons hA
  obtain ⟨rfl, rfl, rfl⟩ := trodAll_nil r0
  obtain rfl : args = #[v0] := by cases args; simp_all
  obtain ⟨rfl, rfl⟩ := trodVars_none hV
  obtain ⟨a0, len0, cap0, rfl⟩ := okWide_slice Try.underlying39 (hval 0 39 v0 rfl rfl)
  have k0 := h0
  have lt0 : ∀ x ∈ p0, x.block < W.heap.size := by obtain ⟨m, hm⟩ := k0; exact DataW.trod_lt m _ _ _ hm
  obtain ⟨z0, w0⟩ : ∃ zs, IsRow .u8 W a0 len0 cap0 zs := by
    obtain ⟨fuel, hf⟩ := h0
    rcases open_ints Try.underlying39 Try.underlying5 (by kernel_rfl) hf with ⟨hcs, _⟩ | ⟨x, l, c, zs, hcs, _, hl, hm, hz, _, hcell, hwz⟩
    · simp [Value.cells] at hcs
      obtain ⟨rfl, rfl, rfl⟩ := hcs
      exact ⟨[], .inl ⟨rfl, rfl, rfl, rfl⟩⟩
    · simp [Value.cells] at hcs
      obtain ⟨rfl, rfl, rfl⟩ := hcs
      exact ⟨zs, .inr ⟨_, rfl, hl, hm, by simpa using hz, hcell, hwz⟩⟩
  clear hA0 hval0
  refine (walk a0 len0 cap0 z0 W w0).mono fun e W' ⟨he, bel⟩ => ?_
  subst he
  exact ⟨_, rfl, _, _, _, [], _, [], hW', trodAll_mk1 (shut_bool Try.underlying4 _), (trodAll_cons_mk (Below.trod laidOut (by kernel_rfl) (of_decide_eq_true (by kernel_rfl)) k0 bel lt0) trodAll_mk0), rfl, bel.frame _, fun h => by cases h⟩

theorem closed : joinedFacts Try.prog 23 Try.f23 Rows.fnMarksClashSpec Rows.fnMarksClashRow = true := by
  unfold joinedFacts
  simp only [may_enter, lifts_final, make_cut]
  kernel_rfl

theorem over : Rows.fnMarksClashRow.holds Try.pinned (OpenSpec.ofChange Rows.fnMarksClashSpec) :=
  OpenClaim.holds_of_wide 23 Try.f23 rfl rfl rfl rfl rfl rfl rfl ⟨rfl, rfl, rfl, rfl, rfl⟩ rfl rfl rfl rfl rfl (by kernel_rfl) Try.func23 closed
    (of_decide_eq_true (by kernel_rfl)) (by unfold Func.isWrapper; first | (rw [if_pos (by decide +kernel)]; kernel_rfl) | (rw [if_neg (by decide +kernel)]; exact ⟨rfl, rfl⟩))
    (fun os started H enc _ => lifted os started H enc)

theorem proved : Rows.FnMarksClashSaid := over
#print axioms proved
end Go.Proofs.Ytjhlcgjhdiheaaa.fnMarksClash
