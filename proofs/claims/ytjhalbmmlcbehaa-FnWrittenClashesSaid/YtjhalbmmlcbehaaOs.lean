/- Outlines by the reference. -/
import Derived.Test.YtjhalbmmlcbehaaOu
namespace Go.Proofs.Ytjhalbmmlcbehaa
open Go.RowKit Wr
set_option linter.unusedVariables false
set_option linter.unusedSimpArgs false

theorem sstroke_g (s : Stk) (w : World) : Calls Try.prog 73 #[kv s] w fun e w' => e = .returned (.bool (stkOk s)) ∧ ∃ q os', w' = Go.Sort.grow (w.drewN q) os' := by
  obtain ⟨d, z⟩ := s
  have HW := Lib.hid (grown_alloc (w := w) (o := .cells #[.int .i64 d, .int .i64 z] 75) rfl)
  go_enter Try.func73, Try.ntmps73
  go_wp2
  all_goals
    go_ret
    refine ⟨ret_bool ?_, HW.out⟩
    simp [stkOk]
    omega
set_option maxHeartbeats 2000000 in
theorem soutline_any (A : Option Addr) (n c : Nat) (l : List Stk) (w : World) (h : Stks w A n l) (hn : n ≤ 9223372036854775807) :
    Calls Try.prog 58 #[.slice A n c] w fun e w' => e = .returned (.bool (outOk l)) ∧ Below w.heap.size w w' := by
  have hlen := Lib.hid h.len
  go_enter Try.func58, Try.ntmps58
  go_wp2_with fail
  go_loopw [3] (fun iv wr => ∃ j : Nat, j ≤ n ∧ iv = .int .i64 j ∧ Hid (chainOk (l.take j) = true) ∧ Below w.heap.size w wr) (fun iv _ => n - (intOf iv).toNat)
  case atStart => exact ⟨0, Nat.zero_le _, rfl, Lib.hid rfl, Below.refl _ _⟩
  case round =>
    obtain ⟨j, hj, rfl, hC, hbel⟩ := hrel
    by_cases hlt : j < n
    · obtain ⟨b, off, s, rfl, hs, c0, c1⟩ := Stks.at2 (j := j) (h.below hbel) hlt
      have hgo := Lib.hid (chain_go hs)
      have HB := Lib.hid (fun q os => below_grow hbel hbel.size q os)
      have E0 : ∀ q os, (Go.Sort.grow (wr.drewN q) os).cell? ⟨b, off + j * 2, none⟩ = some (.int .i64 s.dir) := cell_grown (lt_of_cell c0) c0
      have E1 : ∀ q os, (Go.Sort.grow (wr.drewN q) os).cell? ⟨b, off + j * 2 + 1, none⟩ = some (.int .i64 s.size) := cell_grown (lt_of_cell c1) c1
      have L0 : ∀ q os, Sem.run Try.prog (loadCellsFrom ⟨b, off + j * 2, none⟩ 0 2 #[]) (Go.Sort.grow (wr.drewN q) os) = .ok #[.int .i64 s.dir, .int .i64 s.size] (Go.Sort.grow (wr.drewN q) os) := fun q os => load2 (E0 q os) (E1 q os)
      have hmix := mixed
      have j1 : (0 : Int) ≤ (j : Int) := by omega
      have j2 : (j : Int) < (n : Int) := by omega
      cases hok : stkOk s with
      | false =>
        have HF := Lib.hid (show outOk l = false by unfold outOk; rw [chain_stop (k := j + 1) (by rw [hgo.out, hok]; simp)]; simp)
        have HOK := Lib.hid hok
        clear hs c0 c1 hok hbel
        go_wp2_with fail
        refine wp_region_quiet_grown (by assumption) (by kernel_rfl) ?_
        repeat (go_big_quiet_step (first | (go_at_call 73; refine Calls.grown_of ((sstroke_g s _).mono fun e w' h => ⟨h.1.trans (ret_bool HOK.out), h.2⟩))))
        refine wpQuiet_nil ?_
        intro _ hw'
        obtain ⟨⟨nq, osq⟩, hw9⟩ := hw'
        subst hw9
        go_wp2_with fail
        go_ret
        exact ⟨ret_bool HF.out.symm, HB.out _ _⟩
      | true =>
        have HOK := Lib.hid hok
        obtain ⟨o1, o2, o3, o4⟩ := (stkOk_iff s).1 hok
        rcases Nat.eq_zero_or_pos j with h0 | h0
        · have hN : Hid (chainOk (l.take (j + 1)) = true) := Lib.hid (by rw [hgo.out, hC.out, hok, h0, List.take_zero]; rfl)
          have g1 : decide ((0 : Int) < (j : Int)) = false := by simp; omega
          have g2 : decide (0 < j) = false := by simp; omega
          have H0 := Lib.hid h0
          clear hs c0 c1 hok hbel h0
          go_wp2_with fail
          refine wp_region_quiet_grown (by assumption) (by kernel_rfl) ?_
          repeat (go_big_quiet_step (first | (go_at_call 73; refine Calls.grown_of ((sstroke_g s _).mono fun e w' h => ⟨h.1.trans (ret_bool HOK.out), h.2⟩))))
          refine wpQuiet_nil ?_
          intro _ hw'
          obtain ⟨⟨nq, osq⟩, hw9⟩ := hw'
          subst hw9
          go_wp2_with fail
          go_roundw
          case rel => exact ⟨j + 1, by omega, by go_num, hN, HB.out _ _⟩
          case measure => simp [intOf]; omega
        · obtain ⟨i, rfl⟩ : ∃ i, j = i + 1 := ⟨j - 1, by omega⟩
          obtain ⟨b', off', p, he, hp, d0, d1⟩ := Stks.at2 (j := i) (h.below hbel) (by omega)
          obtain ⟨rfl, rfl⟩ : b = b' ∧ off = off' := by injection he with he; injection he with e1 e2; exact ⟨e1, e2⟩
          have hpk : stkOk p = true := by have := hC.out; rw [chain_go hp] at this; simp only [Bool.and_eq_true] at this; exact this.2
          obtain ⟨p1, p2, p3, p4⟩ := (stkOk_iff p).1 hpk
          have D0 : ∀ q os, (Go.Sort.grow (wr.drewN q) os).cell? ⟨b, off + i * 2, none⟩ = some (.int .i64 p.dir) := cell_grown (lt_of_cell d0) d0
          have hgo2 := Lib.hid (show chainOk (l.take (i + 1 + 1)) = lead p s by rw [hgo.out, hC.out, hok, last_take hp]; simp)
          have g1 : decide ((0 : Int) < ((i + 1 : Nat) : Int)) = true := decide_eq_true (by omega)
          have g2 : decide (0 < i + 1) = true := by simp
          have u1 : IntKind.i64.wrap (((i + 1 : Nat) : Int) - 1) = (i : Int) := by rw [show ((i + 1 : Nat) : Int) - 1 = (i : Int) by omega]; exact IntWalk.i64_in _ (by omega)
          have u2 : IntKind.i64.wrap (s.dir - p.dir) = s.dir - p.dir := IntWalk.i64_in _ (by omega)
          have i1 : (0 : Int) ≤ (i : Int) := by omega
          have i2 : (i : Int) < (n : Int) := by omega
          clear he hp d0 d1 hs c0 c1 hok hbel h0
          cases hl : lead p s with
          | false =>
            have hld : ((s.dir - p.dir).tmod 4 == 0) = true := by
              unfold lead at hl
              simp only [Bool.not_eq_false', decide_eq_true_eq] at hl
              rw [beq_iff_eq]
              exact Int.tmod_eq_zero_of_dvd (Int.dvd_of_emod_eq_zero hl)
            have HF := Lib.hid (show outOk l = false by unfold outOk; rw [chain_stop (k := i + 1 + 1) (by rw [hgo2.out, hl])]; simp)
            clear hl
            go_wp2_with fail
            refine wp_region_quiet_grown (by assumption) (by kernel_rfl) ?_
            repeat (go_big_quiet_step (first | (go_at_call 73; refine Calls.grown_of ((sstroke_g s _).mono fun e w' h => ⟨h.1.trans (ret_bool HOK.out), h.2⟩))))
            refine wpQuiet_nil ?_
            intro _ hw'
            obtain ⟨⟨nq, osq⟩, hw9⟩ := hw'
            subst hw9
            go_wp2_with fail
            go_ret
            exact ⟨ret_bool HF.out.symm, HB.out _ _⟩
          | true =>
            have hld : ((s.dir - p.dir).tmod 4 == 0) = false := by
              unfold lead at hl
              simp only [Bool.not_eq_true', decide_eq_false_iff_not] at hl
              rw [beq_eq_false_iff_ne]
              exact fun e => hl (Int.emod_eq_zero_of_dvd (Int.dvd_of_tmod_eq_zero e))
            have hN : Hid (chainOk (l.take (i + 1 + 1)) = true) := Lib.hid (hgo2.out.trans hl)
            clear hl
            go_wp2_with fail
            refine wp_region_quiet_grown (by assumption) (by kernel_rfl) ?_
            repeat (go_big_quiet_step (first | (go_at_call 73; refine Calls.grown_of ((sstroke_g s _).mono fun e w' h => ⟨h.1.trans (ret_bool HOK.out), h.2⟩))))
            refine wpQuiet_nil ?_
            intro _ hw'
            obtain ⟨⟨nq, osq⟩, hw9⟩ := hw'
            subst hw9
            go_wp2_with fail
            go_roundw
            case rel => exact ⟨i + 1 + 1, by omega, by go_num, hN, HB.out _ _⟩
            case measure => simp [intOf]; omega
    · have hr := Lib.hid (show outOk l = decide ((n : Int) ≤ 8) by unfold outOk; have := hC.out; rw [List.take_of_length_le (by rw [hlen.out]; omega)] at this; rw [this, hlen.out, Bool.and_true]; exact decide_eq_decide.2 (by omega))
      go_wp2_with fail
      go_ret
      exact ⟨ret_bool (by rw [hr.out]), hbel⟩
end Go.Proofs.Ytjhalbmmlcbehaa
