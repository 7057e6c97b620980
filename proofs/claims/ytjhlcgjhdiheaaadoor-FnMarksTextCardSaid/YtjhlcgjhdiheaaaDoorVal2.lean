/- MarksValid of the program. -/
import Derived.Test.YtjhlcgjhdiheaaaDoorVal1
import Derived.Deep.RegionWith
import Derived.Shelf.SlSortCmp.QuietGrown
import Derived.Shelf.SlicesQ.Load
namespace Go.Proofs.YtjhlcgjhdiheaaaDoor
open Go.RowKit
set_option linter.unusedVariables false
set_option linter.unusedSimpArgs false

/-- a world with more blocks and draws behind -/
theorem below_grow {w W : World} {B : Nat} (h : Below B w W) (hB : B ≤ W.heap.size) (q : Nat) (os : Array Obj) : Below B w (Go.Sort.grow (W.drewN q) os) := by
  refine ⟨h.os, h.tape, h.output, ?_, fun i hi => ?_⟩
  · have := h.size; rw [Go.Sort.size_grow]; exact Nat.le_trans this (Nat.le_add_right _ _)
  · have e : (Go.Sort.grow (W.drewN q) os).heap[i]? = W.heap[i]? := by
      show (W.heap ++ os)[i]? = _
      rw [Array.getElem?_append, if_pos (by omega)]
    exact e.trans (h.block i hi)
theorem grown_alloc {w w' : World} {o : Obj} (h : w.alloc o = w') : ∃ q os', w' = Go.Sort.grow (w.drewN q) os' := ⟨0, #[o], by rw [← h]; show ({ w with heap := w.heap.push o } : World) = { w with heap := w.heap ++ #[o] }; rw [Array.push_eq_append]⟩
theorem load3 {W : World} {b o : Nat} {v0 v1 v2 : Value} (h0 : W.cell? ⟨b, o, none⟩ = some v0) (h1 : W.cell? ⟨b, o + 1, none⟩ = some v1) (h2 : W.cell? ⟨b, o + 2, none⟩ = some v2) :
    Sem.run Tryd.prog (loadCellsFrom ⟨b, o, none⟩ 0 3 #[]) W = .ok #[v0, v1, v2] W := by
  refine run_loadCellsFrom_list Tryd.prog _ _ [v0, v1, v2] 3 rfl (fun i v hi => ?_)
  rw [Addr.add_lit]
  match i, hi with
  | 0, hi => simp at hi; subst hi; exact h0
  | 1, hi => simp at hi; subst hi; exact h1
  | 2, hi => simp at hi; subst hi; exact h2
  | i + 3, hi => simp at hi
theorem mixed : Tryd.prog.follows .mixedOrders = true := by kernel_rfl

abbrev valid (ws : List ByteArray) (ms : List M) : Bool := Mk.validM wok ws ms
theorem prev_end {ms : List M} {i : Nat} {p : M} (hp : ms[i]? = some p) : Mk.lastEnd (-1) (ms.take (i + 1)) = p.at_ + p.cut := by rw [take_snoc hp, Mk.lastEnd_snoc]
theorem prev_fit {n : Nat} {ms : List M} {i : Nat} {p : M} (hp : ms[i]? = some p) (h : Mk.chk wok n (-1) (ms.take (i + 1)) = true) : 0 ≤ p.at_ ∧ p.at_ ≤ n ∧ 0 ≤ p.cut ∧ p.cut ≤ n := by
  have := Mk.fit_parts wok (Mk.chk_mem wok h p (by rw [take_snoc hp]; simp))
  omega

set_option maxHeartbeats 1000000 in
theorem ivalidm_any (A B : Option Addr) (n c m d : Nat) (ws : List ByteArray) (ms : List M) (w : World) (hn : n ≤ 9223372036854775807) (hm : m ≤ 9223372036854775807) (h : Strs w A n ws) (k : Mrks w B m ms) :
    Calls Tryd.prog 18 #[.slice A n c, .slice B m d] w fun e w' => e = .returned (.bool (valid ws ms)) ∧ Below w.heap.size w w' := by
  have hlen := Lib.hid h.len
  have hlen2 := Lib.hid k.len
  cases hs : speak ws with
  | false =>
    have hr := Lib.hid (Mk.valid_no_words wok ms hs)
    go_enter Tryd.func18, Tryd.ntmps18
    go_wp2_with fail
    refine (ispeech_any A n c ws _ hn h).mono ?_
    rintro e w' ⟨rfl, rfl⟩
    rw [hs]
    go_wp2_with fail
    go_ret
    exact ⟨ret_bool hr.out.symm, Below.refl _ _⟩
  | true =>
    have hS := Lib.hid hs
    have hn20 : n ≤ 20 := by have := (Mk.speech_parts wok hs).1; rw [hlen.out] at this; exact this
    by_cases hm20 : m ≤ 20
    rotate_left
    · have hr := Lib.hid (Mk.valid_no_len wok (ws := ws) (ms := ms) (by rw [hlen2.out]; exact hm20))
      go_enter Tryd.func18, Tryd.ntmps18
      go_wp2_with fail
      refine (ispeech_any A n c ws _ hn h).mono ?_
      rintro e w' ⟨rfl, rfl⟩
      rw [hs]
      go_wp2_with fail
      go_ret
      exact ⟨ret_bool hr.out.symm, Below.refl _ _⟩
    go_enter Tryd.func18, Tryd.ntmps18
    go_wp2_with fail
    refine (ispeech_any A n c ws _ hn h).mono ?_
    rintro e w' ⟨rfl, rfl⟩
    rw [hs]
    clear hs
    go_wp2_with fail
    go_loopw [5, 20] (fun s i wr => ∃ (j : Nat) (t : Int), j ≤ m ∧ i = .int .i64 j ∧ s = .int .i64 t ∧ t ≤ 20 + 20 * j ∧ -(20 * (j : Int)) ≤ t ∧ Hid (t = n + Mk.grow (ms.take j)) ∧ Hid (Mk.chk wok n (-1) (ms.take j) = true) ∧ Below w.heap.size w wr) (fun _ i _ => m - (intOf i).toNat)
    case atStart => exact ⟨0, n, Nat.zero_le _, rfl, rfl, by omega, by omega, Lib.hid (by simp [Mk.grow]), Lib.hid (by simp [Mk.chk]), Below.refl _ _⟩
    case round =>
      obtain ⟨j, t, hj, rfl, rfl, t1, t2, hT, hC, hbel⟩ := hrel
      by_cases hlt : j < m
      · obtain ⟨b, off, x, rfl, hx, x1, x2, c0, c1, A', n', c', c2, hp⟩ := (k.below hbel).at_ hlt
        have hX := Lib.hid hx
        have hpm := hp.max
        have hpl := Lib.hid hp.len
        clear hx
        have bad : (x.at_ < 0 ∨ (n : Int) < x.at_ ∨ x.cut < 0 ∨ (n : Int) - x.at_ < x.cut) → Hid (valid ws ms = false) := fun hb => Lib.hid (Mk.valid_no_chk wok (by rw [hlen.out]; exact Mk.chk_stop wok hX.out (.inl (Mk.fit_no_at wok hb))))
        by_cases a1 : 0 ≤ x.at_
        rotate_left
        · have hr := bad (by omega)
          clear bad
          go_wp2_with fail
          go_ret
          exact ⟨ret_bool hr.out.symm, hbel.alloc hbel.size _⟩
        by_cases a2 : x.at_ ≤ (n : Int)
        rotate_left
        · have hr := bad (by omega)
          clear bad
          go_wp2_with fail
          go_ret
          exact ⟨ret_bool hr.out.symm, hbel.alloc hbel.size _⟩
        by_cases a3 : 0 ≤ x.cut
        rotate_left
        · have hr := bad (by omega)
          clear bad
          go_wp2_with fail
          go_ret
          exact ⟨ret_bool hr.out.symm, hbel.alloc hbel.size _⟩
        by_cases a4 : x.cut ≤ (n : Int) - x.at_
        rotate_left
        · have hr := bad (by omega)
          clear bad
          go_wp2_with fail
          go_ret
          exact ⟨ret_bool hr.out.symm, hbel.alloc hbel.size _⟩
        clear bad
        have hb1 : Below wr.heap.size wr (wr.alloc (.cells #[.int .i64 x.at_, .int .i64 x.cut, .slice A' n' c'] 46)) := (Below.refl _ _).alloc (Nat.le_refl _) _
        have hbel1 := hbel.trans (hb1.mono hbel.size)
        have hp1 := hp.below hb1
        have hk1 := Blk.new wr 46 #[.int .i64 x.at_, .int .i64 x.cut, .slice A' n' c']
        have hz0 := hk1.cell 0
        have hz1 := hk1.cell 1
        have hz2 := hk1.cell 2
        have hzl := hk1.lt
        by_cases a5 : x.cut = 0 ∧ n' = 0
        · obtain ⟨e1, e2⟩ := a5
          have hr : Hid (valid ws ms = false) := Lib.hid (Mk.valid_no_chk wok (by rw [hlen.out]; exact Mk.chk_stop wok hX.out (.inl (Mk.fit_no_some wok ⟨e1, by rw [hpl.out]; exact e2⟩))))
          have b1 : (x.cut == 0) = true := by simp [e1]
          have b2 : ((n' : Int) == 0) = true := by simp [e2]
          clear e1 e2 hk1 hp1 hz0 hz1 hz2 hzl
          go_wp2_with fail
          go_ret
          exact ⟨ret_bool hr.out.symm, hbel1⟩
        have hor : ((x.cut == 0) = true ∧ ((n' : Int) == 0) = false) ∨ (x.cut == 0) = false := by
          by_cases e : x.cut = 0
          · exact .inl ⟨by simp [e], by simp; exact fun e2 => a5 ⟨e, e2⟩⟩
          · exact .inr (by simp [e])
        have hA5 := Lib.hid a5
        have HZ := Lib.hid hzl
        have Z0 := Lib.hid hz0
        have Z1 := Lib.hid hz1
        have Z2 := Lib.hid hz2
        clear a5 hk1 hz0 hz1 hz2 hzl
        rcases hor with ⟨b1, b2⟩ | b1
        all_goals
          go_wp2_with fail
          refine (ispeech_any A' n' c' x.put _ hpm hp1.1).mono ?_
          rintro e w' ⟨rfl, rfl⟩
          generalize wr.alloc (.cells #[.int .i64 x.at_, .int .i64 x.cut, .slice A' n' c'] 46) = Wx at *
          generalize wr.heap.size = X at *
          clear c0 c1 c2
          have hz0 := Z0.out
          have hz1 := Z1.out
          have hz2 := Z2.out
          simp at hz0 hz1 hz2
          cases hsp : speak x.put with
          | false =>
            have hr : Hid (valid ws ms = false) := Lib.hid (Mk.valid_no_chk wok (by rw [hlen.out]; exact Mk.chk_stop wok hX.out (.inl (Mk.fit_no_put wok hsp))))
            go_wp2_with fail
            go_ret
            exact ⟨ret_bool hr.out.symm, hbel1⟩
          | true =>
            have hn20' : n' ≤ 20 := by rw [← hpl.out]; exact (Mk.speech_parts wok hsp).1
            have hF := Lib.hid (Mk.fit_yes wok (n := n) (m := x) a1 a2 a3 a4 hsp (by rw [hpl.out]; exact hA5.out))
            have hT2 : Hid (t + ((n' : Int) - x.cut) = n + Mk.grow (ms.take (j + 1))) := Lib.hid (by rw [take_snoc hX.out, Mk.grow_snoc, hT.out, hpl.out]; omega)
            rcases Nat.eq_zero_or_pos j with hj0 | hj0
            · have hC2 : Hid (Mk.chk wok n (-1) (ms.take (j + 1)) = true) := Lib.hid (Mk.chk_step wok hX.out hC.out hF.out (by rw [hj0]; simp only [List.take_zero, Mk.lastEnd]; omega))
              have hg : decide (0 < j) = false := by simp; omega
              have hg2 : decide ((0 : Int) < (j : Int)) = false := by simp; omega
              clear hj0
              go_wp2_with fail
              go_quiet (fail)
              go_wp2_with fail
              go_roundw
              case rel => exact ⟨j + 1, _, by omega, by go_num, rfl, by omega, by omega, hT2, hC2, below_drewN hbel1 _⟩
              case measure => simp [intOf]; omega
            · obtain ⟨i, hi⟩ : ∃ i, j = i + 1 := ⟨j - 1, by omega⟩
              obtain ⟨b', off', y, hAe, hy, y1, y2, d0, d1, B', m', d', d2, hq⟩ := (k.below hbel1).at_ (k := i) (by omega)
              obtain ⟨rfl, rfl⟩ : b = b' ∧ off = off' := by injection hAe with e; injection e with e1 e2; exact ⟨e1, e2⟩
              have hpe : Mk.lastEnd (-1) (ms.take j) = y.at_ + y.cut := by rw [hi]; exact prev_end hy
              have hpf : 0 ≤ y.at_ ∧ y.at_ ≤ (n : Int) ∧ 0 ≤ y.cut ∧ y.cut ≤ (n : Int) := prev_fit hy (by rw [← hi]; exact hC.out)
              obtain ⟨p1, p2, p3, p4⟩ := hpf
              have hg : decide (0 < j) = true := by simp; omega
              have hg2 : decide ((0 : Int) < (j : Int)) = true := by simp; omega
              have e1 : (j : Int) - 1 = (i : Int) := by omega
              have e0 : IntKind.i64.wrap ((j : Int) - 1) = (i : Int) := by rw [e1]; exact IntWalk.i64_in _ (by omega)
              have e2 : (0 : Int) ≤ (i : Int) := by omega
              have e3 : (i : Int) < (m : Int) := by omega
              have e4 : IntKind.i64.wrap (i : Int) = (i : Int) := IntWalk.i64_in _ (by omega)
              have hY := Lib.hid hy
              have HI := Lib.hid hi
              have HPE := Lib.hid hpe
              have q0 : ∀ q os, (Go.Sort.grow (Wx.drewN q) os).cell? ⟨b, off + i * 3, none⟩ = some (.int .i64 y.at_) := cell_grown (lt_of_cell d0) d0
              have q1 : ∀ q os, (Go.Sort.grow (Wx.drewN q) os).cell? ⟨b, off + i * 3 + 1, none⟩ = some (.int .i64 y.cut) := cell_grown (lt_of_cell d1) d1
              have q2 : ∀ q os, (Go.Sort.grow (Wx.drewN q) os).cell? ⟨b, off + i * 3 + 2, none⟩ = some (.slice B' m' d') := cell_grown (lt_of_cell d2) d2
              have q3 : ∀ q os, Sem.run Tryd.prog (loadCellsFrom ⟨b, off + i * 3, none⟩ 0 3 #[]) (Go.Sort.grow (Wx.drewN q) os) = .ok #[.int .i64 y.at_, .int .i64 y.cut, .slice B' m' d'] (Go.Sort.grow (Wx.drewN q) os) := fun q os => load3 (q0 q os) (q1 q os) (q2 q os)
              have z0 : ∀ q os, (Go.Sort.grow (Wx.drewN q) os).cell? ⟨X, 0, none⟩ = some (.int .i64 x.at_) := cell_grown HZ.out hz0
              have z1 : ∀ q os, (Go.Sort.grow (Wx.drewN q) os).cell? ⟨X, 1, none⟩ = some (.int .i64 x.cut) := cell_grown HZ.out hz1
              have z2 : ∀ q os, (Go.Sort.grow (Wx.drewN q) os).cell? ⟨X, 2, none⟩ = some (.slice A' n' c') := cell_grown HZ.out hz2
              have HB := Lib.hid (fun q os => below_grow hbel1 hbel1.size q os)
              have hmix := mixed
              clear hi hy hpe hAe hbel1 hb1 hp1 hq d0 d1 d2
              by_cases hle : x.at_ ≤ y.at_ + y.cut
              · have hr : Hid (valid ws ms = false) := Lib.hid (Mk.valid_no_chk wok (by rw [hlen.out]; exact Mk.chk_stop wok hX.out (.inr (by rw [HPE.out]; omega))))
                go_wp2_with fail
                refine wp_region_quiet_grown (by assumption) (by kernel_rfl) ?_
                repeat (go_big_quiet_step (first | (go_at_call 23; refine Calls.grown_of ((end_any y B' m' d' _ p1 (by omega) p3 (by omega)).mono fun e w' h => ⟨h.1, grown_alloc h.2⟩))))
                refine wpQuiet_nil ?_
                intro _ hw'
                obtain ⟨⟨nq, osq⟩, hw''⟩ := hw'
                subst hw''
                go_wp2_with fail
                go_ret
                exact ⟨ret_bool hr.out.symm, HB.out _ _⟩
              · have hC2 : Hid (Mk.chk wok n (-1) (ms.take (j + 1)) = true) := Lib.hid (Mk.chk_step wok hX.out hC.out hF.out (by rw [HPE.out]; omega))
                go_wp2_with fail
                refine wp_region_quiet_grown (by assumption) (by kernel_rfl) ?_
                repeat (go_big_quiet_step (first | (go_at_call 23; refine Calls.grown_of ((end_any y B' m' d' _ p1 (by omega) p3 (by omega)).mono fun e w' h => ⟨h.1, grown_alloc h.2⟩))))
                refine wpQuiet_nil ?_
                intro _ hw'
                obtain ⟨⟨nq, osq⟩, hw''⟩ := hw'
                subst hw''
                go_wp2_with fail
                go_roundw
                case rel => exact ⟨j + 1, _, by omega, by go_num, rfl, by omega, by omega, hT2, hC2, HB.out _ _⟩
                case measure => simp [intOf]; omega
      · have h1 := hT.out
        have h2 := hC.out
        rw [List.take_of_length_le (by rw [hlen2.out]; omega)] at h1 h2
        have hr : Hid (valid ws ms = decide (t ≤ 20)) := Lib.hid (by
          unfold valid
          rw [Mk.valid_end wok hS.out (by rw [hlen2.out]; exact hm20) (by rw [hlen.out]; exact h2), h1, hlen.out])
        clear h1 h2 hT hC
        go_wp2_with fail
        go_ret
        exact ⟨ret_bool hr.out.symm, hbel⟩
end Go.Proofs.YtjhlcgjhdiheaaaDoor

