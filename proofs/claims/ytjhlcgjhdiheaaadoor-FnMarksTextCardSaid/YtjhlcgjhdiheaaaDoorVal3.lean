/- MarksValid of the reference. -/
import Derived.Test.YtjhlcgjhdiheaaaDoorVal2
namespace Go.Proofs.YtjhlcgjhdiheaaaDoor
open Go.RowKit
set_option linter.unusedVariables false
set_option linter.unusedSimpArgs false

set_option maxHeartbeats 1000000 in
theorem svalidm_any (A B : Option Addr) (n c m d : Nat) (ws : List ByteArray) (ms : List M) (w : World) (hn : n ≤ 9223372036854775807) (hm : m ≤ 9223372036854775807) (h : Strs w A n ws) (k : Mrks w B m ms) :
    Calls Tryd.prog 21 #[.slice A n c, .slice B m d] w fun e w' => e = .returned (.bool (valid ws ms)) ∧ Below w.heap.size w w' := by
  have hlen := Lib.hid h.len
  have hlen2 := Lib.hid k.len
  cases hs : speak ws with
  | false =>
    have hr := Lib.hid (Mk.valid_no_words wok ms hs)
    go_enter Tryd.func21, Tryd.ntmps21
    go_wp2_with fail
    refine (sspeech_any A n c ws _ hn h).mono ?_
    rintro e w' ⟨rfl, rfl⟩
    rw [hs]
    go_wp2_with fail
    go_ret
    exact ⟨ret_bool hr.out.symm, Below.refl _ _⟩
  | true =>
    have hS := Lib.hid hs
    have hn20 : n ≤ 20 := by have := (Mk.speech_parts wok hs).1; rw [hlen.out] at this; exact this
    by_cases hm20 : m ≤ 20
    rotate_left
    · have hr := Lib.hid (Mk.valid_no_len wok (ws := ws) (ms := ms) (by rw [hlen2.out]; exact hm20))
      go_enter Tryd.func21, Tryd.ntmps21
      go_wp2_with fail
      refine (sspeech_any A n c ws _ hn h).mono ?_
      rintro e w' ⟨rfl, rfl⟩
      rw [hs]
      go_wp2_with fail
      go_ret
      exact ⟨ret_bool hr.out.symm, Below.refl _ _⟩
    go_enter Tryd.func21, Tryd.ntmps21
    go_wp2_with fail
    refine (sspeech_any A n c ws _ hn h).mono ?_
    rintro e w' ⟨rfl, rfl⟩
    rw [hs]
    clear hs
    go_wp2_with fail
    go_loopw [5, 6] (fun s i wr => ∃ (j : Nat) (t : Int), j ≤ m ∧ i = .int .i64 j ∧ s = .int .i64 t ∧ t ≤ 20 + 20 * j ∧ -(20 * (j : Int)) ≤ t ∧ Hid (t = n + Mk.grow (ms.take j)) ∧ Hid (Mk.chk wok n (-1) (ms.take j) = true) ∧ Below w.heap.size w wr) (fun _ i _ => m - (intOf i).toNat)
    case atStart => exact ⟨0, n, Nat.zero_le _, rfl, rfl, by omega, by omega, Lib.hid (by simp [Mk.grow]), Lib.hid (by simp [Mk.chk]), Below.refl _ _⟩
    case round =>
      obtain ⟨j, t, hj, rfl, rfl, t1, t2, hT, hC, hbel⟩ := hrel
      by_cases hlt : j < m
      · obtain ⟨b, off, x, rfl, hx, x1, x2, c0, c1, A', n', c', c2, hp⟩ := (k.below hbel).at_ hlt
        have hX := Lib.hid hx
        have hpm := hp.max
        have hpl := Lib.hid hp.len
        have HB := Lib.hid (fun q os => below_grow hbel hbel.size q os)
        have hmix := mixed
        have z0 : ∀ q os, (Go.Sort.grow (wr.drewN q) os).cell? ⟨b, off + j * 3, none⟩ = some (.int .i64 x.at_) := cell_grown (lt_of_cell c0) c0
        have z1 : ∀ q os, (Go.Sort.grow (wr.drewN q) os).cell? ⟨b, off + j * 3 + 1, none⟩ = some (.int .i64 x.cut) := cell_grown (lt_of_cell c1) c1
        have z2 : ∀ q os, (Go.Sort.grow (wr.drewN q) os).cell? ⟨b, off + j * 3 + 2, none⟩ = some (.slice A' n' c') := cell_grown (lt_of_cell c2) c2
        have z3 : ∀ q os, Sem.run Tryd.prog (loadCellsFrom ⟨b, off + j * 3, none⟩ 0 3 #[]) (Go.Sort.grow (wr.drewN q) os) = .ok #[.int .i64 x.at_, .int .i64 x.cut, .slice A' n' c'] (Go.Sort.grow (wr.drewN q) os) := fun q os => load3 (z0 q os) (z1 q os) (z2 q os)
        have zs : ∀ q os, Strs (Go.Sort.grow (wr.drewN q) os) A' n' x.put := fun q os => hp.1.below (below_grow (Below.refl _ _) (Nat.le_refl _) q os)
        have ZS := Lib.hid zs
        have i1 : (0 : Int) ≤ (j : Int) := by omega
        have i2 : (j : Int) < (m : Int) := by omega
        clear hx zs
        cases hf : fit n x with
        | false =>
          have hr : Hid (valid ws ms = false) := Lib.hid (Mk.valid_no_chk wok (by rw [hlen.out]; exact Mk.chk_stop wok hX.out (.inl hf)))
          clear hp c0 c1 c2 hbel
          go_wp2_with fail
          refine wp_region_quiet_grown (by assumption) (by kernel_rfl) ?_
          repeat (go_big_quiet_step (first | (go_at_call 37; refine Calls.grown_of ((l7mark_any n x A' n' c' _ hn20 x2 hpm (ZS.out _ _)).mono fun e w' h => ⟨h.1.trans (ret_bool hf), grown_alloc h.2⟩))))
          refine wpQuiet_nil ?_
          intro _ hw'
          obtain ⟨⟨nq, osq⟩, hw''⟩ := hw'
          subst hw''
          go_wp2_with fail
          go_ret
          exact ⟨ret_bool hr.out.symm, HB.out _ _⟩
        | true =>
          have hF := Lib.hid hf
          have hfp := Mk.fit_parts wok hf
          obtain ⟨a1, a2, a3, a4, a5, a6⟩ := hfp
          have hn20' : n' ≤ 20 := by rw [← hpl.out]; exact (Mk.speech_parts wok a5).1
          have hT2 : Hid (t - x.cut + (n' : Int) = n + Mk.grow (ms.take (j + 1))) := Lib.hid (by rw [take_snoc hX.out, Mk.grow_snoc, hT.out, hpl.out]; omega)
          have w1 : IntKind.i64.wrap (t - x.cut) = t - x.cut := IntWalk.i64_in _ (by omega)
          have w2 : IntKind.i64.wrap (t - x.cut + (n' : Int)) = t - x.cut + (n' : Int) := IntWalk.i64_in _ (by omega)
          rcases Nat.eq_zero_or_pos j with hj0 | hj0
          · have hC2 : Hid (Mk.chk wok n (-1) (ms.take (j + 1)) = true) := Lib.hid (Mk.chk_step wok hX.out hC.out hF.out (by rw [hj0]; simp only [List.take_zero, Mk.lastEnd]; omega))
            have hg : decide (0 < j) = false := by simp; omega
            have hg2 : decide ((0 : Int) < (j : Int)) = false := by simp; omega
            clear hj0 hp c0 c1 c2 hbel a5
            go_wp2_with fail
            refine wp_region_quiet_grown (by assumption) (by kernel_rfl) ?_
            repeat (go_big_quiet_step (first | (go_at_call 37; refine Calls.grown_of ((l7mark_any n x A' n' c' _ hn20 x2 hpm (ZS.out _ _)).mono fun e w' h => ⟨h.1.trans (ret_bool hf), grown_alloc h.2⟩))))
            refine wpQuiet_nil ?_
            intro _ hw'
            obtain ⟨⟨nq, osq⟩, hw''⟩ := hw'
            subst hw''
            go_wp2_with fail
            have HB2 := HB.out nq osq
            have y1 := z1 nq osq
            have y2 := z2 nq osq
            clear z0 z1 z2 z3 ZS HB
            generalize Go.Sort.grow (wr.drewN nq) osq = Wg at *
            go_quiet (fail)
            go_wp2_with fail
            go_roundw
            case rel => exact ⟨j + 1, _, by omega, by go_num, rfl, by omega, by omega, hT2, hC2, below_drewN HB2 _⟩
            case measure => simp [intOf]; omega
          · obtain ⟨i, hi⟩ : ∃ i, j = i + 1 := ⟨j - 1, by omega⟩
            obtain ⟨b', off', y, hAe, hy, y1, y2, d0, d1, B', m', d', d2, hq⟩ := (k.below hbel).at_ (k := i) (by omega)
            obtain ⟨rfl, rfl⟩ : b = b' ∧ off = off' := by injection hAe with e; injection e with e1 e2; exact ⟨e1, e2⟩
            have hpe : Mk.lastEnd (-1) (ms.take j) = y.at_ + y.cut := by rw [hi]; exact prev_end hy
            have hpf : 0 ≤ y.at_ ∧ y.at_ ≤ (n : Int) ∧ 0 ≤ y.cut ∧ y.cut ≤ (n : Int) := prev_fit hy (by rw [← hi]; exact hC.out)
            obtain ⟨p1, p2, p3, p4⟩ := hpf
            have hg : decide (0 < j) = true := by simp; omega
            have hg2 : decide ((0 : Int) < (j : Int)) = true := by simp; omega
            have e1 : (j : Int) - 1 = (i : Int) := by omega
            have e4 : IntKind.i64.wrap (i : Int) = (i : Int) := IntWalk.i64_in _ (by omega)
            have e5 : IntKind.i64.wrap (y.at_ + y.cut) = y.at_ + y.cut := IntWalk.i64_in _ (by omega)
            have e2 : (0 : Int) ≤ (i : Int) := by omega
            have e3 : (i : Int) < (m : Int) := by omega
            have HPE := Lib.hid hpe
            have q0 : ∀ q os, (Go.Sort.grow (wr.drewN q) os).cell? ⟨b, off + i * 3, none⟩ = some (.int .i64 y.at_) := cell_grown (lt_of_cell d0) d0
            have q1 : ∀ q os, (Go.Sort.grow (wr.drewN q) os).cell? ⟨b, off + i * 3 + 1, none⟩ = some (.int .i64 y.cut) := cell_grown (lt_of_cell d1) d1
            clear hi hy hpe hAe hp c0 c1 c2 hbel hq d0 d1 d2 a5
            by_cases hle : x.at_ ≤ y.at_ + y.cut
            · have hr : Hid (valid ws ms = false) := Lib.hid (Mk.valid_no_chk wok (by rw [hlen.out]; exact Mk.chk_stop wok hX.out (.inr (by rw [HPE.out]; omega))))
              go_wp2_with fail
              refine wp_region_quiet_grown (by assumption) (by kernel_rfl) ?_
              repeat (go_big_quiet_step (first | (go_at_call 37; refine Calls.grown_of ((l7mark_any n x A' n' c' _ hn20 x2 hpm (ZS.out _ _)).mono fun e w' h => ⟨h.1.trans (ret_bool hf), grown_alloc h.2⟩))))
              refine wpQuiet_nil ?_
              intro _ hw'
              obtain ⟨⟨nq, osq⟩, hw''⟩ := hw'
              subst hw''
              go_wp2_with fail
              go_ret
              exact ⟨ret_bool hr.out.symm, HB.out _ _⟩
            · have hC2 : Hid (Mk.chk wok n (-1) (ms.take (j + 1)) = true) := Lib.hid (Mk.chk_step wok hX.out hC.out hF.out (by rw [HPE.out]; omega))
              go_wp2_with fail
              refine wp_region_quiet_grown (by assumption) (by kernel_rfl) ?_
              repeat (go_big_quiet_step (first | (go_at_call 37; refine Calls.grown_of ((l7mark_any n x A' n' c' _ hn20 x2 hpm (ZS.out _ _)).mono fun e w' h => ⟨h.1.trans (ret_bool hf), grown_alloc h.2⟩))))
              refine wpQuiet_nil ?_
              intro _ hw'
              obtain ⟨⟨nq, osq⟩, hw''⟩ := hw'
              subst hw''
              go_wp2_with fail
              have HB2 := HB.out nq osq
              have y1 := z1 nq osq
              have y2 := z2 nq osq
              clear z0 z1 z2 z3 ZS HB q0 q1
              generalize Go.Sort.grow (wr.drewN nq) osq = Wg at *
              go_quiet (fail)
              go_wp2_with fail
              go_roundw
              case rel => exact ⟨j + 1, _, by omega, by go_num, rfl, by omega, by omega, hT2, hC2, below_drewN HB2 _⟩
              case measure => simp [intOf]; omega
      · have h1 := hT.out
        have h2 := hC.out
        rw [List.take_of_length_le (by rw [hlen2.out]; omega)] at h1 h2
        have hr : Hid (valid ws ms = decide (t ≤ 20)) := Lib.hid (by
          unfold valid
          rw [Mk.valid_end wok hS.out (by rw [hlen2.out]; exact hm20) (by rw [hlen.out]; exact h2), h1, hlen.out])
        clear h1 h2 hT hC
        go_wp2_with fail
        go_ret
        exact ⟨ret_bool hr.out.symm, hbel⟩
end Go.Proofs.YtjhlcgjhdiheaaaDoor

