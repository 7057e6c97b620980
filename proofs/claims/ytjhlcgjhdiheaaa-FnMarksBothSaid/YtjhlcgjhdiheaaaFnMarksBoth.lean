/- Proved: the statement 'FnMarksBothSaid': the law FnMarksBoth returns true for every input, and every argument reads afterwards as it read before. No further conditions. The frame follows the kit's proof-skeleton; the walk is ours. -/
import Derived.Test.YtjhlcgjhdiheaaaRows
import Derived.Test.YtjhlcgjhdiheaaaDraw5
import Derived.Test.YtjhlcgjhdiheaaaSum
import Derived.Test.YtjhlcgjhdiheaaaSBo
import Derived.Test.YtjhlcgjhdiheaaaArg
import Derived.Test.YtjhlcgjhdiheaaaEnter
import Derived.WalkKit
import Derived.ProofKit
import Derived.OpenShut
import Derived.ShutString
import Derived.ChangeOld
import Derived.Below
namespace Go.Proofs.Ytjhlcgjhdiheaaa.fnMarksBoth
open Go.ChangeShapes Go.WideShapes Go.ChangeAt Go.RowKit
open Go.ChangeMaps (open_string shut_string)
set_option linter.unusedVariables false
set_option linter.unusedSimpArgs false

theorem own : ownKnob Try.prog.godebug = none := by kernel_rfl
theorem laidOut : laidOutB Try.prog = true := by kernel_rfl

set_option maxRecDepth 20000 in
set_option maxHeartbeats 8000000 in
theorem walk (a0 : Option Addr) (len0 cap0 : Nat) (z0 : List Int) (w : World) (w0 : IsRow .u8 w a0 len0 cap0 z0) :
    Calls Try.prog 24 #[.slice a0 len0 cap0] w fun e w' => e = .returned (.bool true) ∧ Below w.heap.size w w' := by
  have hy0 := w0.bytes
  have hl0 := w0.len_le
  have hc0 := w0.len_cap
  clear w0
  by_cases hm0 : len0 ≤ 1048576
  · go_enter Try.func24, Try.ntmps24
    go_wp2_with fail
    refine (drawBoth a0 len0 cap0 _ hy0 hm0 hc0).mono ?_
    rintro e W1 ⟨A, n, c, ws, B, m, d, xs, C, l, q, ys, rfl, hn, hm, hl, o, k, kk, bd⟩
    have S1 : w.heap.size ≤ W1.heap.size := bd.size
    have B1 : Below w.heap.size w W1 := bd
    have hlen_o := Lib.hid o.1.len
    have hcap_o := o.2.1
    have hmax_o := o.2.2.1
    have hlen_k := Lib.hid k.1.len
    have hcap_k := k.2.1
    have hmax_k := k.2.2.1
    have hlen_kk := Lib.hid kk.1.len
    have hcap_kk := kk.2.1
    have hmax_kk := kk.2.2.1
    cases hb : bothF ws xs ys with
    | none =>
      have HB := Lib.hid hb
      clear hb
      go_wp2_with fail
      refine (iboth_no A B C n c m d l q ws xs ys _ o k kk HB.out).mono ?_
      rintro e W2 ⟨Ag, ng, cg, rfl, og, qg⟩
      have S2 : W1.heap.size ≤ W2.heap.size := qg.size
      have B2 : Below w.heap.size w W2 := Below.next B1 qg
      have o := o.below qg
      have k := k.below qg
      have kk := kk.below qg
      go_wp2_with fail
      refine (sboth_no A B C n c m d l q ws xs ys _ o k kk HB.out).mono ?_
      rintro e W3 ⟨Ar, nr, cr, rfl, or, qr⟩
      have S3 : W2.heap.size ≤ W3.heap.size := qr.size
      have B3 : Below w.heap.size w W3 := Below.next B2 qr
      have o := o.below qr
      have k := k.below qr
      have kk := kk.below qr
      have og := og.below qr
      have hng : ng ≤ 1000 := by have := og.len; simp at this; omega
      have hnr : nr ≤ 1000 := by have := or.len; simp at this; omega
      go_wp2_with fail
      refine (samem_self Ag Ar ng cg nr cr _ _ (by omega) (by omega) og.ints or.ints).mono ?_
      rintro e W4 ⟨rfl, b5⟩
      have S4 : W3.heap.size ≤ W4.heap.size := b5.size
      have B4 : Below w.heap.size w W4 := Below.next B3 b5
      have o := o.below b5
      have k := k.below b5
      have kk := kk.below b5
      have og := og.below b5
      have or := or.below b5
      go_wp2_with fail
      refine (samem_self Ag Ar ng cg nr cr _ _ (by omega) (by omega) og.ints or.ints).mono ?_
      rintro e W5 ⟨rfl, b6⟩
      have S5 : W4.heap.size ≤ W5.heap.size := b6.size
      have B5 : Below w.heap.size w W5 := Below.next B4 b6
      have o := o.below b6
      have k := k.below b6
      have kk := kk.below b6
      have og := og.below b6
      have or := or.below b6
      go_wp2
      go_ret
      exact ⟨rfl, B5⟩
    | some zs =>
      obtain ⟨hz, hv1, hv2, hv3, hb2, hsz⟩ := both_some hb
      have HB := Lib.hid hb
      have HB2 := Lib.hid hb2
      have HV1 := Lib.hid hv1
      have HV2 := Lib.hid hv2
      have HSZ := Lib.hid hsz
      have hXS := Lib.hid (small_of hv1)
      have hYS := Lib.hid (small_of hv2)
      have hm20 := (valid_bound hv1).1
      rw [hlen_k.out] at hm20
      have hl20 := (valid_bound hv2).1
      rw [hlen_kk.out] at hl20
      have hz20 := (valid_bound hv3).1
      have sa := Lib.hid (sizeI_small hv1)
      have sb := Lib.hid (sizeI_small hv2)
      have sc := Lib.hid (sizeI_small hv3)
      have hcs := Lib.hid (fun j hj => commL_small hv1 hv2 j hj)
      have hc1 := Lib.hid (fun x hx r => comm1_small (x := x) hv1 hv2 hx r)
      have hmem := Lib.hid (fun y hy => mem_both (xs := xs) (ys := ys) (y := y) hy)
      rw [← hz] at hmem
      have HZ := Lib.hid hz
      clear hb hb2 hv1 hv2 hv3 hz hsz
      go_wp2_with fail
      refine (iboth_yes A B C n c m d l q ws xs ys _ o k kk zs HB.out).mono ?_
      rintro e W2 ⟨Ag, ng, cg, rfl, og, qg⟩
      have S2 : W1.heap.size ≤ W2.heap.size := qg.size
      have B2 : Below w.heap.size w W2 := Below.next B1 qg
      have o := o.below qg
      have k := k.below qg
      have kk := kk.below qg
      go_wp2_with fail
      refine (sboth_yes A B C n c m d l q ws xs ys _ o k kk zs HB.out).mono ?_
      rintro e W3 ⟨Ar, nr, cr, rfl, or, qr⟩
      have S3 : W2.heap.size ≤ W3.heap.size := qr.size
      have B3 : Below w.heap.size w W3 := Below.next B2 qr
      have o := o.below qr
      have k := k.below qr
      have kk := kk.below qr
      have og := og.below qr
      have hng : ng ≤ 20 := by rw [← og.len]; exact hz20
      have hnr : nr ≤ 20 := by rw [← or.len]; exact hz20
      go_wp2_with fail
      refine (samem_self Ag Ar ng cg nr cr _ _ (by omega) (by omega) og.ints or.ints).mono ?_
      rintro e W4 ⟨rfl, b5⟩
      have S4 : W3.heap.size ≤ W4.heap.size := b5.size
      have B4 : Below w.heap.size w W4 := Below.next B3 b5
      have o := o.below b5
      have k := k.below b5
      have kk := kk.below b5
      have og := og.below b5
      have or := or.below b5
      go_wp2_with fail
      refine (iboth_yes A C B n c l q m d ws ys xs _ o kk k zs HB2.out).mono ?_
      rintro e W5 ⟨Ax, nx, cx, rfl, ox, qx⟩
      have S5 : W4.heap.size ≤ W5.heap.size := qx.size
      have B5 : Below w.heap.size w W5 := Below.next B4 qx
      have o := o.below qx
      have k := k.below qx
      have kk := kk.below qx
      have og := og.below qx
      have or := or.below qx
      have hnx : nx ≤ 20 := by rw [← ox.len]; exact hz20
      have hlg := Lib.hid og.len
      go_wp2_with fail
      go_loopw [12, 13] (fun f i wr => ∃ p : Nat, p ≤ m ∧ i = .int .i64 p ∧ (∃ t : Int, f = .int .i64 t ∧ Hid (t = commL (xs.take p) ys) ∧ 0 ≤ t ∧ t ≤ 800 * (p : Int)) ∧ Below W5.heap.size W5 wr) (fun _ i _ => m - (intOf i).toNat)
      case atStart => exact ⟨0, Nat.zero_le _, rfl, ⟨0, rfl, Lib.hid (by simp [commL]), by omega, by omega⟩, Below.refl _ _⟩
      case round =>
        obtain ⟨p, hp, rfl, ⟨t, rfl, hT, t1, t2⟩, hbel⟩ := hrel
        by_cases hlt : p < m
        · obtain ⟨b0, off, x, rfl, hx, x1, x2, c0, c1, A', n', c', c2, hq⟩ := k.1.at_ hlt
          have hX := Lib.hid hx
          obtain ⟨s1, s2, s3, s4, s5⟩ := hXS.out x (mem_at hx)
          have hC1 := Lib.hid (hc1.out x (mem_at hx))
          have hnl := hq.len
          have s6 : n' ≤ 20 := by omega
          have HNL := Lib.hid hnl
          clear hx hq hnl
          go_wp2_with fail
          go_loopw [12, 14] (fun f i wr => ∃ r : Nat, r ≤ l ∧ i = .int .i64 r ∧ (∃ u : Int, f = .int .i64 u ∧ Hid (u = t + comm1 x (ys.take r)) ∧ 0 ≤ u ∧ u ≤ t + 800) ∧ Below W5.heap.size W5 wr) (fun _ i _ => l - (intOf i).toNat)
          case atStart => exact ⟨0, Nat.zero_le _, rfl, ⟨t, rfl, Lib.hid (by simp [comm1]), by omega, by omega⟩, hbel⟩
          case round =>
            clear hbel
            obtain ⟨r, hr, rfl, ⟨u, rfl, hU, u1, u2⟩, hbel⟩ := hrel
            by_cases hlt2 : r < l
            · obtain ⟨b2, off2, y, rfl, hy, y1, y2, d0, d1, B', m', d', d2, hs⟩ := kk.1.at_ hlt2
              have hY := Lib.hid hy
              clear hy hs d0 d1 d2
              have i1 : (0 : Int) ≤ (p : Int) := by omega
              have i2 : (p : Int) < (m : Int) := by omega
              have i3 : (0 : Int) ≤ (r : Int) := by omega
              have i4 : (r : Int) < (l : Int) := by omega
              have w3 : IntKind.i64.wrap ((p : Int) + 1) = (p : Int) + 1 := IntWalk.i64_in _ (by omega)
              have w4 : IntKind.i64.wrap ((r : Int) + 1) = (r : Int) + 1 := IntWalk.i64_in _ (by omega)
              have e1 := (hbel.cell (lt_of_cell c1)).trans c1
              have e2 := (hbel.cell (lt_of_cell c2)).trans c2
              have kx := k.1.below hbel
              have ky := kk.1.below hbel
              have hcm := k.2.1
              have hcl := kk.2.1
              have hcm2 := k.2.2.1
              have hcl2 := kk.2.2.1
              have dp : ¬ d = p := by omega
              have qr : ¬ q = r := by omega
              have hx9 := kx.cut (i := p) (k := 1) (by omega)
              rw [one_of hX.out] at hx9
              have hy9 := ky.cut (i := r) (k := 1) (by omega)
              rw [one_of hY.out] at hy9
              have hgo := comm1_go (x := x) hY.out
              have hbd := hC1.out (r + 1)
              have Z1 : ∀ q os, (Go.Sort.grow (wr.drewN q) os).cell? ⟨b0, off + p * 3 + 1, none⟩ = some (.int .i64 x.cut) := cell_grown (lt_of_cell e1) e1
              have Z2 : ∀ q os, (Go.Sort.grow (wr.drewN q) os).cell? ⟨b0, off + p * 3 + 2, none⟩ = some (.slice A' n' c') := cell_grown (lt_of_cell e2) e2
              have SX := Lib.hid (fun q os => hx9.below (below_grow (Below.refl _ _) (Nat.le_refl _) q os))
              have SY := Lib.hid (fun q os => hy9.below (below_grow (Below.refl _ _) (Nat.le_refl _) q os))
              have HB := Lib.hid (fun q os => below_grow hbel hbel.size q os)
              have hmix := mixed
              clear hx9 hy9 kx ky e1 e2 hbel
              cases hsm : Mk.sameM x y with
              | true =>
                have hN : Hid (u + x.cut + (n' : Int) = t + comm1 x (ys.take (r + 1))) := Lib.hid (by have h1 := hgo; rw [hsm, if_pos rfl] at h1; have h2 := hU.out; have h3 := HNL.out; unfold szM at h1; omega)
                have hN2 := hN.out
                have v1 : 0 ≤ u + x.cut + (n' : Int) := by omega
                have v2 : u + x.cut + (n' : Int) ≤ t + 800 := by omega
                have w5 : IntKind.i64.wrap (u + x.cut) = u + x.cut := IntWalk.i64_in _ (by omega)
                have w6 : IntKind.i64.wrap (u + x.cut + (n' : Int)) = u + x.cut + (n' : Int) := IntWalk.i64_in _ (by omega)
                have HS := Lib.hid hsm
                clear hgo hbd hN2 hsm hU
                go_wp2_with fail
                refine wp_region_quiet_grown (by assumption) (by kernel_rfl) ?_
                repeat (go_big_quiet_step (first | (go_at_call 60; refine Calls.grown_of ((samemg_any (some ⟨b0, off + p * 3, none⟩) (some ⟨b2, off2 + r * 3, none⟩) 1 (d - p) 1 (q - r) [x] [y] _ (by omega) (by omega) (SX.out _ _) (SY.out _ _)).mono fun e w' h => ⟨h.1.trans (ret_bool ((eqMs_one x y).trans HS.out)), h.2⟩))))
                refine wpQuiet_nil ?_
                intro _ hw'
                obtain ⟨⟨nq, osq⟩, hw9⟩ := hw'
                subst hw9
                go_wp2_with fail
                go_quiet (fail)
                go_wp2_with fail
                go_roundw
                case rel => exact ⟨r + 1, by omega, by go_num, ⟨_, rfl, hN, v1, v2⟩, below_drewN (HB.out _ _) _⟩
                case measure => simp [intOf]; omega
              | false =>
                have hN : Hid (u = t + comm1 x (ys.take (r + 1))) := Lib.hid (by have h1 := hgo; rw [hsm, if_neg (by simp)] at h1; have h2 := hU.out; omega)
                have HS := Lib.hid hsm
                clear hgo hbd hsm hU
                go_wp2_with fail
                refine wp_region_quiet_grown (by assumption) (by kernel_rfl) ?_
                repeat (go_big_quiet_step (first | (go_at_call 60; refine Calls.grown_of ((samemg_any (some ⟨b0, off + p * 3, none⟩) (some ⟨b2, off2 + r * 3, none⟩) 1 (d - p) 1 (q - r) [x] [y] _ (by omega) (by omega) (SX.out _ _) (SY.out _ _)).mono fun e w' h => ⟨h.1.trans (ret_bool ((eqMs_one x y).trans HS.out)), h.2⟩))))
                refine wpQuiet_nil ?_
                intro _ hw'
                obtain ⟨⟨nq, osq⟩, hw9⟩ := hw'
                subst hw9
                go_wp2_with fail
                go_roundw
                case rel => exact ⟨r + 1, by omega, by go_num, ⟨_, rfl, hN, u1, u2⟩, HB.out _ _⟩
                case measure => simp [intOf]; omega
            · obtain rfl : r = l := by omega
              have hE : Hid (u = commL (xs.take (p + 1)) ys) := Lib.hid (by rw [commL_go hX.out, ← hT.out, hU.out, List.take_of_length_le (by rw [hlen_kk.out]; exact Nat.le_refl _)])
              go_wp2_with fail
              go_roundw
              case rel => exact ⟨p + 1, by omega, by go_num, ⟨u, rfl, hE, by omega, by omega⟩, hbel⟩
              case measure => simp [intOf]; omega
        · obtain rfl : m = p := by omega
          have hE : Hid (t = commL xs ys) := Lib.hid (by rw [hT.out, List.take_of_length_le (by rw [hlen_k.out]; exact Nat.le_refl _)])
          clear hT
          have o := o.below hbel
          have k := k.below hbel
          have kk := kk.below hbel
          have og := og.below hbel
          have ox := ox.below hbel
          have BW := B5.trans (hbel.mono B5.size)
          clear hbel
          generalize wr = WW at *
          go_wp2_with fail
          go_loopw [15] (fun i wr => ∃ j : Nat, j ≤ m + l ∧ i = .int .i64 j ∧ Below WW.heap.size WW wr) (fun i _ => m + l - (intOf i).toNat)
          case atStart => exact ⟨0, Nat.zero_le _, rfl, Below.refl _ _⟩
          case round =>
            obtain ⟨j, hj, rfl, hbel⟩ := hrel
            have w0 : IntKind.i64.wrap ((m : Int) + (l : Int)) = (m : Int) + (l : Int) := IntWalk.i64_in _ (by omega)
            have w1 : IntKind.i64.wrap ((m : Int) - 1) = (m : Int) - 1 := IntWalk.i64_in _ (by omega)
            by_cases hjm : j < m
            · obtain ⟨b0, off, x, rfl, hx, x1, x2, c0, c1, A', n', c', c2, hq⟩ := k.1.at_ hjm
              have hF := Lib.hid (hmem.out x (.inl (mem_at hx)))
              have hx9 := k.1.cut (i := j) (k := 1) (by omega)
              rw [one_of hx] at hx9
              have HX := Lib.hid hx9
              have mm : min (j : Int) (max 0 ((m : Int) - 1)) = (j : Int) := by omega
              have dj : ¬ d = j := by omega
              have i1 : (j : Int) < (m : Int) + (l : Int) := by omega
              have i2 : ¬ (m : Int) ≤ (j : Int) := by omega
              clear hx x1 x2 c0 c1 c2 hq hx9
              go_wp2_with fail
              go_loopw [17, 18] (fun f i wx => ∃ r : Nat, r ≤ ng ∧ i = .int .i64 r ∧ (∃ fb : Bool, f = .bool fb ∧ Hid (fb = (zs.take r).any (fun z => Mk.sameM z x))) ∧ Below WW.heap.size WW wx) (fun _ i _ => ng - (intOf i).toNat)
              case atStart => exact ⟨0, Nat.zero_le _, rfl, ⟨false, rfl, Lib.hid (by simp)⟩, hbel⟩
              case round =>
                clear hbel
                obtain ⟨r, hr, rfl, ⟨fb, rfl, hG⟩, hbel⟩ := hrel
                by_cases hlt2 : r < ng
                · obtain ⟨b2, off2, z, rfl, hy, y1, y2, d0, d1, B', m', d', d2, hs⟩ := og.ints.at_ hlt2
                  have hy9 := (og.ints.below hbel).cut (i := r) (k := 1) (by omega)
                  rw [one_of hy] at hy9
                  have hstep := Lib.hid (any_more (g := fun z => Mk.sameM z x) hy)
                  have j1 : (0 : Int) ≤ (r : Int) := by omega
                  have j2 : (r : Int) < (ng : Int) := by omega
                  have w4 : IntKind.i64.wrap ((r : Int) + 1) = (r : Int) + 1 := IntWalk.i64_in _ (by omega)
                  have cr : ¬ cg = r := by have := og.cap_le; omega
                  have cr2 := og.cap_le
                  have cr3 := og.cap_max
                  have SX := Lib.hid (fun q os => (HX.out.below hbel).below (below_grow (Below.refl _ _) (Nat.le_refl _) q os))
                  have SY := Lib.hid (fun q os => hy9.below (below_grow (Below.refl _ _) (Nat.le_refl _) q os))
                  have HB2 := Lib.hid (fun q os => below_grow hbel hbel.size q os)
                  have hmix := mixed
                  clear hy y1 y2 d0 d1 d2 hs hy9
                  cases fb with
                  | true =>
                    have hN : Hid (true = (zs.take (r + 1)).any (fun z => Mk.sameM z x)) := Lib.hid (by rw [hstep.out, ← hG.out]; rfl)
                    clear hG
                    go_wp2_with fail
                    go_quiet (fail)
                    go_wp2_with fail
                    go_roundw
                    case rel => exact ⟨r + 1, by omega, by go_num, ⟨true, rfl, hN⟩, below_drewN hbel _⟩
                    case measure => simp [intOf]; omega
                  | false =>
                    have hN : Hid (Mk.sameM z x = (zs.take (r + 1)).any (fun z => Mk.sameM z x)) := Lib.hid (by rw [hstep.out, ← hG.out]; simp)
                    clear hG hbel
                    go_wp2_with fail
                    refine wp_region_quiet_grown (by assumption) (by kernel_rfl) ?_
                    repeat (go_big_quiet_step (first | (go_at_call 60; refine Calls.grown_of ((samemg_any (some ⟨b2, off2 + r * 3, none⟩) (some ⟨b0, off + j * 3, none⟩) 1 (cg - r) 1 (d - j) [z] [x] _ (by omega) (by omega) (SY.out _ _) (SX.out _ _)).mono fun e w' h => ⟨h.1.trans (ret_bool (eqMs_one z x)), h.2⟩))))
                    refine wpQuiet_nil ?_
                    intro _ hw'
                    obtain ⟨⟨nq, osq⟩, hw9⟩ := hw'
                    subst hw9
                    go_wp2_with fail
                    go_roundw
                    case rel => exact ⟨r + 1, by omega, by go_num, ⟨_, rfl, hN⟩, HB2.out _ _⟩
                    case measure => simp [intOf]; omega
                · obtain rfl : r = ng := by omega
                  have hfb : fb = true := by rw [hG.out, List.take_of_length_le (by rw [hlg.out]; exact Nat.le_refl _)]; exact hF.out
                  subst hfb
                  go_wp2_with fail
                  go_roundw
                  case rel => exact ⟨j + 1, by omega, by go_num, hbel⟩
                  case measure => simp [intOf]; omega
            · by_cases hjl : j < m + l
              · obtain ⟨b0, off, x, rfl, hx, x1, x2, c0, c1, A', n', c', c2, hq⟩ := kk.1.at_ (k := j - m) (by omega)
                have hF := Lib.hid (hmem.out x (.inr (mem_at hx)))
                have hx9 := kk.1.cut (i := j - m) (k := 1) (by omega)
                rw [one_of hx] at hx9
                have HX := Lib.hid hx9
                obtain ⟨p9, hp9, mm⟩ : ∃ p9 : Nat, p9 ≤ m ∧ min (j : Int) (max 0 ((m : Int) - 1)) = (p9 : Int) := ⟨m - 1, by omega, by omega⟩
                have w2 : IntKind.i64.wrap ((j : Int) - (m : Int)) = ((j - m : Nat) : Int) := by rw [IntWalk.i64_in _ (by omega)]; omega
                have dj : ¬ q = j - m := by omega
                have i1 : (j : Int) < (m : Int) + (l : Int) := by omega
                have i2 : (m : Int) ≤ (j : Int) := by omega
                clear hx x1 x2 c0 c1 c2 hq hx9
                rcases (Decidable.em (d = p9)) with rfl | hd9
                all_goals
                  go_wp2_with fail
                  go_loopw [17, 18] (fun f i wx => ∃ r : Nat, r ≤ ng ∧ i = .int .i64 r ∧ (∃ fb : Bool, f = .bool fb ∧ Hid (fb = (zs.take r).any (fun z => Mk.sameM z x))) ∧ Below WW.heap.size WW wx) (fun _ i _ => ng - (intOf i).toNat)
                  case atStart => exact ⟨0, Nat.zero_le _, rfl, ⟨false, rfl, Lib.hid (by simp)⟩, hbel⟩
                  case round =>
                    clear hbel
                    obtain ⟨r, hr, rfl, ⟨fb, rfl, hG⟩, hbel⟩ := hrel
                    by_cases hlt2 : r < ng
                    · obtain ⟨b2, off2, z, rfl, hy, y1, y2, d0, d1, B', m', d', d2, hs⟩ := og.ints.at_ hlt2
                      have hy9 := (og.ints.below hbel).cut (i := r) (k := 1) (by omega)
                      rw [one_of hy] at hy9
                      have hstep := Lib.hid (any_more (g := fun z => Mk.sameM z x) hy)
                      have j1 : (0 : Int) ≤ (r : Int) := by omega
                      have j2 : (r : Int) < (ng : Int) := by omega
                      have w4 : IntKind.i64.wrap ((r : Int) + 1) = (r : Int) + 1 := IntWalk.i64_in _ (by omega)
                      have cr : ¬ cg = r := by have := og.cap_le; omega
                      have cr2 := og.cap_le
                      have cr3 := og.cap_max
                      have SX := Lib.hid (fun q os => (HX.out.below hbel).below (below_grow (Below.refl _ _) (Nat.le_refl _) q os))
                      have SY := Lib.hid (fun q os => hy9.below (below_grow (Below.refl _ _) (Nat.le_refl _) q os))
                      have HB2 := Lib.hid (fun q os => below_grow hbel hbel.size q os)
                      have hmix := mixed
                      clear hy y1 y2 d0 d1 d2 hs hy9
                      cases fb with
                      | true =>
                        have hN : Hid (true = (zs.take (r + 1)).any (fun z => Mk.sameM z x)) := Lib.hid (by rw [hstep.out, ← hG.out]; rfl)
                        clear hG
                        go_wp2_with fail
                        go_quiet (fail)
                        go_wp2_with fail
                        go_roundw
                        case rel => exact ⟨r + 1, by omega, by go_num, ⟨true, rfl, hN⟩, below_drewN hbel _⟩
                        case measure => simp [intOf]; omega
                      | false =>
                        have hN : Hid (Mk.sameM z x = (zs.take (r + 1)).any (fun z => Mk.sameM z x)) := Lib.hid (by rw [hstep.out, ← hG.out]; simp)
                        clear hG hbel
                        go_wp2_with fail
                        refine wp_region_quiet_grown (by assumption) (by kernel_rfl) ?_
                        repeat (go_big_quiet_step (first | (go_at_call 60; refine Calls.grown_of ((samemg_any (some ⟨b2, off2 + r * 3, none⟩) (some ⟨b0, off + (j - m) * 3, none⟩) 1 (cg - r) 1 (q - (j - m)) [z] [x] _ (by omega) (by omega) (SY.out _ _) (SX.out _ _)).mono fun e w' h => ⟨h.1.trans (ret_bool (eqMs_one z x)), h.2⟩))))
                        refine wpQuiet_nil ?_
                        intro _ hw'
                        obtain ⟨⟨nq, osq⟩, hw9⟩ := hw'
                        subst hw9
                        go_wp2_with fail
                        go_roundw
                        case rel => exact ⟨r + 1, by omega, by go_num, ⟨_, rfl, hN⟩, HB2.out _ _⟩
                        case measure => simp [intOf]; omega
                    · obtain rfl : r = ng := by omega
                      have hfb : fb = true := by rw [hG.out, List.take_of_length_le (by rw [hlg.out]; exact Nat.le_refl _)]; exact hF.out
                      subst hfb
                      go_wp2_with fail
                      go_roundw
                      case rel => exact ⟨j + 1, by omega, by go_num, hbel⟩
                      case measure => simp [intOf]; omega
              · obtain rfl : j = m + l := by omega
                have o := o.below hbel
                have k := k.below hbel
                have kk := kk.below hbel
                have og := og.below hbel
                have ox := ox.below hbel
                have BW := BW.trans (hbel.mono BW.size)
                clear hbel
                obtain ⟨v1, h1⟩ : ∃ v, Hid (sizeI ws xs = v) := ⟨_, Lib.hid rfl⟩
                obtain ⟨v2, h2⟩ : ∃ v, Hid (sizeI ws ys = v) := ⟨_, Lib.hid rfl⟩
                obtain ⟨v3, h3⟩ : ∃ v, Hid (sizeI ws zs = v) := ⟨_, Lib.hid rfl⟩
                have k1 : 0 ≤ v1 ∧ v1 ≤ 800 := by rw [← h1.out]; exact sa.out
                have k2 : 0 ≤ v2 ∧ v2 ≤ 800 := by rw [← h2.out]; exact sb.out
                have hfin : (v3 == v1 + v2 - t) = true := by rw [beq_iff_eq, ← h3.out, ← h1.out, ← h2.out, hE.out]; exact HSZ.out
                obtain ⟨k1a, k1b⟩ := k1
                obtain ⟨k2a, k2b⟩ := k2
                have w5 : IntKind.i64.wrap (v1 + v2) = v1 + v2 := IntWalk.i64_in _ (by omega)
                have w6 : IntKind.i64.wrap (v1 + v2 - t) = v1 + v2 - t := IntWalk.i64_in _ (by omega)
                go_wp2_with fail
                refine (samem_self Ax Ag nx cx ng cg _ _ (by omega) (by omega) ox.ints og.ints).mono ?_
                rintro e V1 ⟨rfl, d1⟩
                have o := o.below d1
                have k := k.below d1
                have kk := kk.below d1
                have og := og.below d1
                have BW := BW.trans (d1.mono BW.size)
                go_wp2_with fail
                refine (isizem_any A Ag n c ng cg ws _ _ (by omega) (by omega) o.1 og.ints).mono ?_
                rw [h3.out]
                rintro e V2 ⟨rfl, d2⟩
                have o := o.below d2
                have k := k.below d2
                have kk := kk.below d2
                have BW := BW.trans (d2.mono BW.size)
                go_wp2_with fail
                refine (isizem_any A B n c m d ws _ _ (by omega) (by omega) o.1 k.1).mono ?_
                rw [h1.out]
                rintro e V3 ⟨rfl, d3⟩
                have o := o.below d3
                have kk := kk.below d3
                have BW := BW.trans (d3.mono BW.size)
                go_wp2_with fail
                refine (isizem_any A C n c l q ws _ _ (by omega) (by omega) o.1 kk.1).mono ?_
                rw [h2.out]
                rintro e V4 ⟨rfl, d4⟩
                have BW := BW.trans (d4.mono BW.size)
                go_wp2_with fail
                go_ret
                exact ⟨rfl, BW⟩
  · go_enter Try.func24, Try.ntmps24
    go_wp2
    go_ret
    exact ⟨rfl, Below.refl _ _⟩

set_option maxRecDepth 100000 in
theorem lifted (os : Os) (started : os.Started) (H : Type) (enc : TypeId × Value → H) :
    ReturnsInHanded {} Try.checked os 24 .any (Rows.fnMarksBothSpec.pre6 enc Try.prog Try.f24 Rows.fnMarksBothRow.domain false) (Rows.fnMarksBothSpec.post enc Try.prog Try.f24 false true false false) := by
  refine returnsInHanded_of_change (C := Try.checked) own started (by kernel_rfl) Try.func24
    (ChangeSpec.witness6 (enc := enc) (C := Try.checked) false ⟨#[], #[.slice none 0 0], []⟩ 8 (by kernel_rfl) (by kernel_rfl) (by kernel_rfl) (by kernel_rfl)) ?_
  intro W base args ds gs before hval0 hW hcnd _
  have hval : ∀ (j : Nat) t v, Try.f24.params[j]? = some t → args[j]? = some v → Value.okWide Try.prog W .any base t v := hval0
  have hW' := hW
  obtain ⟨p, q, hA0, hV, rfl, hfz, hnd⟩ := hW
  have hA : DataW.TrodAll enc Try.prog W 0 (fun _ => true) true Try.f24.params.toList args.toList ds p := hA0
  rw [Try.params24] at hA hval
  obtain ⟨v0, vs0, d0, ds0, p0, q0, hargs, rfl, rfl, h0, r0⟩ := trodAll_cons hA
  obtain ⟨rfl, rfl, rfl⟩ := trodAll_nil r0
  obtain rfl : args = #[v0] := by cases args; simp_all
  obtain ⟨rfl, rfl⟩ := trodVars_none hV
  obtain ⟨a0, len0, cap0, rfl⟩ := okWide_slice Try.underlying39 (hval 0 39 v0 rfl rfl)
  have k0 := h0
  have lt0 : ∀ x ∈ p0, x.block < W.heap.size := by obtain ⟨m, hm⟩ := k0; exact DataW.trod_lt m _ _ _ hm
  obtain ⟨z0, w0⟩ : ∃ zs, IsRow .u8 W a0 len0 cap0 zs := by
    obtain ⟨fuel, hf⟩ := h0
    rcases open_ints Try.underlying39 Try.underlying5 (by kernel_rfl) hf with ⟨hcs, _⟩ | ⟨x, l, c, zs, hcs, _, hl, hm, hz, _, hcell, hwz⟩
    · simp [Value.cells] at hcs
      obtain ⟨rfl, rfl, rfl⟩ := hcs
      exact ⟨[], .inl ⟨rfl, rfl, rfl, rfl⟩⟩
    · simp [Value.cells] at hcs
      obtain ⟨rfl, rfl, rfl⟩ := hcs
      exact ⟨zs, .inr ⟨_, rfl, hl, hm, by simpa using hz, hcell, hwz⟩⟩
  clear hA0 hval0
  refine (walk a0 len0 cap0 z0 W w0).mono fun e W' ⟨he, bel⟩ => ?_
  subst he
  exact ⟨_, rfl, _, _, _, [], _, [], hW', trodAll_mk1 (shut_bool Try.underlying4 _), (trodAll_cons_mk (Below.trod laidOut (by kernel_rfl) (of_decide_eq_true (by kernel_rfl)) k0 bel lt0) trodAll_mk0), rfl, bel.frame _, fun h => by cases h⟩

theorem closed : joinedFacts Try.prog 24 Try.f24 Rows.fnMarksBothSpec Rows.fnMarksBothRow = true := by
  unfold joinedFacts
  simp only [may_enter, lifts_final, make_cut]
  kernel_rfl

theorem over : Rows.fnMarksBothRow.holds Try.pinned (OpenSpec.ofChange Rows.fnMarksBothSpec) :=
  OpenClaim.holds_of_wide 24 Try.f24 rfl rfl rfl rfl rfl rfl rfl ⟨rfl, rfl, rfl, rfl, rfl⟩ rfl rfl rfl rfl rfl (by kernel_rfl) Try.func24 closed
    (of_decide_eq_true (by kernel_rfl)) (by unfold Func.isWrapper; first | (rw [if_pos (by decide +kernel)]; kernel_rfl) | (rw [if_neg (by decide +kernel)]; exact ⟨rfl, rfl⟩))
    (fun os started H enc _ => lifted os started H enc)

theorem proved : Rows.FnMarksBothSaid := over
#print axioms proved
end Go.Proofs.Ytjhlcgjhdiheaaa.fnMarksBoth
