/- Marks of a transcript are drawn. -/
import Derived.Test.YtjhlcgjhdiheaaaDoorDraw3
import Derived.Test.YtjhlcgjhdiheaaaDoorClash2
namespace Go.Proofs.YtjhlcgjhdiheaaaDoor
open Go.RowKit
set_option linter.unusedVariables false
set_option linter.unusedSimpArgs false

theorem some_lits (n : Nat) (hn : n ≤ 31) : ∀ i, i < (#[Value.int .i64 (-1), Value.int .i64 ((n : Int) + 1)] : Array Value).size → ∃ y : Int, (#[Value.int .i64 (-1), Value.int .i64 ((n : Int) + 1)] : Array Value)[i]? = some (.int .i64 y) ∧ -1 ≤ y ∧ y ≤ 32 := by
  intro i hi
  match i, hi with
  | 0, _ => exact ⟨-1, rfl, by omega, by omega⟩
  | 1, _ => exact ⟨(n : Int) + 1, rfl, by omega, by omega⟩

set_option maxRecDepth 10000 in
set_option maxHeartbeats 4000000 in
theorem someD_any (R n c : Nat) (K : Int) (B : Option Addr) (w : World) (h : RdB w R K) (hK0 : 0 ≤ K) (hK : K ≤ 10000) (hn : n ≤ 20) :
    Calls Tryd.prog 30 #[.pointer (some ⟨R, 0, none⟩), .slice B n c] w (SomePost w R (K + 1100) (n + 2)) := by
  have hR := h.lt
  have H0 := drawnM_start h
  go_enter Tryd.func30, Tryd.ntmps30
  go_wp2_with fail
  refine (pickB R K 3 _ H0.rd (by omega) (by omega) (by omega)).mono ?_
  rintro e w1 ⟨x, rfl, hx, hr1, hg1⟩
  have H1 := H0.pick hR hr1 hg1
  clear H0 hr1 hg1 h
  go_wp2_with fail
  go_loopg [5, 6] (n + 4 - x) (fun g o i wr => ∃ k t : Nat, k ≤ t ∧ k ≤ n + 1 ∧ t ≤ n + 3 ∧ g = n + 4 - t ∧ i = .int .i64 t ∧ ∃ A c hi, o = .slice A k c ∧ DrawnM w R (K + 1 + 45 * k) k A c hi wr)
  case atStart => exact ⟨0, x, Nat.zero_le _, Nat.zero_le _, by omega, rfl, rfl, _, _, _, rfl, by simpa using H1⟩
  case round =>
    clear H1
    obtain ⟨k, t, hkt, hkn, htn, rfl, rfl, A, c, hi, rfl, hd⟩ := hrel
    by_cases hlt : t ≤ n
    · go_wp2_with fail
      refine (pickB R (K + 1 + 45 * k) 4 _ hd.rd (by omega) (by omega) (by omega)).mono ?_
      rintro e w2 ⟨y, rfl, hy, hr2, hg2⟩
      have hd2 := hd.pick hR hr2 hg2
      clear hd hr2 hg2
      by_cases hy0 : (0 : Int) < (y : Int)
      · go_wp2_with fail
        refine (pickB R (K + 1 + 45 * k + 1) 3 _ hd2.rd (by omega) (by omega) (by omega)).mono ?_
        rintro e w3 ⟨z, rfl, hz, hr3, hg3⟩
        have hd3 := hd2.pick hR hr3 hg3
        clear hd2 hr3 hg3
        have htop := hd3.top
        go_wp2_with fail
        refine (speechD_any R 2 (K + 1 + 45 * k + 1 + 1) _ hd3.rd (by omega) (by omega) (by omega)).mono ?_
        rintro e w4 ⟨A2, n2, c2, rfl, hn2, xs, ho2, hr4, hg4⟩
        have hd4 := hd3.pick hR hr4 hg4
        have hs4 := hg4.size
        clear hd3 hr4 hg4
        have hlo4 := hd4.size
        have hq0 : 0 ≤ min (z : Int) ((n : Int) - (t : Int)) := by omega
        have hq1 : min (z : Int) ((n : Int) - (t : Int)) ≤ 2 := by omega
        have hq2 : min (z : Int) ((n : Int) - (t : Int)) ≤ (n : Int) - (t : Int) := by omega
        obtain ⟨q, hq⟩ := Int.eq_ofNat_of_zero_le hq0
        rw [hq] at hq1 hq2
        rw [hq]
        clear hq hq0
        have IT : Hid (I64 (t : Int)) := Lib.hid (by unfold I64; omega)
        have IQ : Hid (I64 (q : Int)) := Lib.hid (by unfold I64; omega)
        have u1 : IntKind.i64.wrap ((q : Int) + (n2 : Int)) = (q : Int) + (n2 : Int) := IntWalk.i64_in _ (by omega)
        by_cases hzz : q = 0 ∧ n2 = 0
        · have u2 : ((q : Int) + (n2 : Int) == 0) = true := by simp; omega
          have O5 := own_one (w4.alloc (.cells #[.int .i64 (t : Int), .int .i64 (q : Int), .slice (some ⟨w4.heap.size + 1, 0, none⟩) 1 1] 46)) (w4.heap.size + 1) (by simp) ⟨#[115, 111]⟩ (lit_sz [115, 111] (by decide))
          have hs5 : (w4.alloc (.cells #[.int .i64 (t : Int), .int .i64 (q : Int), .slice (some ⟨w4.heap.size + 1, 0, none⟩) 1 1] 46)).heap.size = w4.heap.size + 1 := by simp
          rw [hs5] at O5
          have H5 := Lib.hid ((hd4.alloc (.cells #[.int .i64 (t : Int), .int .i64 (q : Int), .slice (some ⟨w4.heap.size + 1, 0, none⟩) 1 1] 46)).alloc (.cells #[.string ⟨#[115, 111]⟩] 9))
          have Y5 := Lib.hid ((Blk.new w4 46 #[.int .i64 (t : Int), .int .i64 (q : Int), .slice (some ⟨w4.heap.size + 1, 0, none⟩) 1 1]).alloc (.cells #[.string ⟨#[115, 111]⟩] 9))
          have P5 := Lib.hid (O5.wide (lo' := hi) (by omega) (Nat.le_refl _) (by simp))
          have hsB : ((w4.alloc (.cells #[.int .i64 (t : Int), .int .i64 (q : Int), .slice (some ⟨w4.heap.size + 1, 0, none⟩) 1 1] 46)).alloc (.cells #[.string ⟨#[115, 111]⟩] 9)).heap.size = w4.heap.size + 1 + 1 := by simp
          clear hzz O5 hs5 hd4 ho2
          go_wp2_with (at_builtin; go_must (refine drawnM_push w _ rfl (.tmp 40) (.tmp 42) rfl R k c hi _ A rfl (H5.out.alloc _) hR ⟨(t : Int), (q : Int), [⟨#[115, 111]⟩]⟩ ⟨some ⟨w4.heap.size + 1, 0, none⟩, 1, 1⟩ (w4.heap.size + 1 + 1) (w4.heap.size + 1 + 1) rfl IT.out IQ.out (P5.out.alloc _) (new_cell ((w4.alloc (.cells #[.int .i64 (t : Int), .int .i64 (q : Int), .slice (some ⟨w4.heap.size + 1, 0, none⟩) 1 1] 46)).alloc (.cells #[.string ⟨#[115, 111]⟩] 9)) 46 #[.int .i64 (t : Int), .int .i64 (q : Int), .slice (some ⟨w4.heap.size + 1, 0, none⟩) 1 1] hsB 0) (new_cell ((w4.alloc (.cells #[.int .i64 (t : Int), .int .i64 (q : Int), .slice (some ⟨w4.heap.size + 1, 0, none⟩) 1 1] 46)).alloc (.cells #[.string ⟨#[115, 111]⟩] 9)) 46 #[.int .i64 (t : Int), .int .i64 (q : Int), .slice (some ⟨w4.heap.size + 1, 0, none⟩) 1 1] hsB 1) (new_cell ((w4.alloc (.cells #[.int .i64 (t : Int), .int .i64 (q : Int), .slice (some ⟨w4.heap.size + 1, 0, none⟩) 1 1] 46)).alloc (.cells #[.string ⟨#[115, 111]⟩] 9)) 46 #[.int .i64 (t : Int), .int .i64 (q : Int), .slice (some ⟨w4.heap.size + 1, 0, none⟩) 1 1] hsB 2) (by omega) ?_); intro A' c' w6 h6 g6 hlo6; have y6 := (Y5.out.alloc (.cells #[.int .i64 (t : Int), .int .i64 (q : Int), .slice (some ⟨w4.heap.size + 1, 0, none⟩) 1 1] 46)).grown g6 (fun e => by have := hlo6 _ e.symm; omega); have H6 := Lib.hid h6; have Y6 := Lib.hid y6; have e6 := y6.cell 1; simp at e6; clear h6 y6 g6 hlo6)
          go_region_with (go_at_call 38; refine (pickB R (K + 1 + 45 * k + 1 + 1 + 30) 3 _ H6.out.drew.rd (by omega) (by omega) (by omega)).mono ?_; rintro e w7 ⟨p, rfl, hp, hr7, hg7⟩; have y7 := (show Blk w6.drew _ _ _ from Y6.out).grown hg7 (fun e => by injection e with e; omega); have e7 := y7.cell 1; simp at e7; have hd7 := H6.out.drew.pick hR hr7 hg7; have H7 := Lib.hid hd7; clear hd7 y7 hr7 hg7)
          all_goals
            go_wp2_with fail
            have w1 : IntKind.i64.wrap ((t : Int) + (q : Int)) = (t : Int) + (q : Int) := IntWalk.i64_in _ (by omega)
            have w2 : IntKind.i64.wrap ((t : Int) + (q : Int) + 1) = (t : Int) + (q : Int) + 1 := IntWalk.i64_in _ (by omega)
            have w3 : IntKind.i64.wrap ((t : Int) + (q : Int) + 1 + (p : Int)) = (t : Int) + (q : Int) + 1 + (p : Int) := IntWalk.i64_in _ (by omega)
            go_roundg (n + 4 - (t + q + 1 + p))
            case measure => omega
            case rel => exact ⟨k + 1, t + q + 1 + p, by omega, by omega, by omega, rfl, (by first | go_num | (show Value.int .i64 _ = _; rw [w1, w2, w3]; congr 1) | (congr 1; omega)), _, _, _, rfl, H7.out.mono (by omega)⟩
        · have u2 : ((q : Int) + (n2 : Int) == 0) = false := by simp; omega
          have H5 := Lib.hid (hd4.alloc (.cells #[.int .i64 (t : Int), .int .i64 (q : Int), .slice A2 n2 c2] 46))
          have Y5 := Lib.hid (Blk.new w4 46 #[.int .i64 (t : Int), .int .i64 (q : Int), .slice A2 n2 c2])
          have P5 := Lib.hid ((ho2.alloc (.cells #[.int .i64 (t : Int), .int .i64 (q : Int), .slice A2 n2 c2] 46)).wide htop (Nat.le_refl _) (by simp))
          have lw5 : w4.heap.size < (w4.alloc (.cells #[.int .i64 (t : Int), .int .i64 (q : Int), .slice A2 n2 c2] 46)).heap.size := by simp
          have hsA : (w4.alloc (.cells #[.int .i64 (t : Int), .int .i64 (q : Int), .slice A2 n2 c2] 46)).heap.size = w4.heap.size + 1 := by simp
          clear hzz hd4 ho2
          go_wp2_with (at_builtin; go_must (refine drawnM_push w _ rfl (.tmp 40) (.tmp 42) rfl R k c hi _ A rfl (H5.out.alloc _) hR ⟨(t : Int), (q : Int), xs⟩ ⟨A2, n2, c2⟩ w4.heap.size (w4.heap.size + 1) rfl IT.out IQ.out (P5.out.alloc _) (new_cell (w4.alloc (.cells #[.int .i64 (t : Int), .int .i64 (q : Int), .slice A2 n2 c2] 46)) 46 #[.int .i64 (t : Int), .int .i64 (q : Int), .slice A2 n2 c2] hsA 0) (new_cell (w4.alloc (.cells #[.int .i64 (t : Int), .int .i64 (q : Int), .slice A2 n2 c2] 46)) 46 #[.int .i64 (t : Int), .int .i64 (q : Int), .slice A2 n2 c2] hsA 1) (new_cell (w4.alloc (.cells #[.int .i64 (t : Int), .int .i64 (q : Int), .slice A2 n2 c2] 46)) 46 #[.int .i64 (t : Int), .int .i64 (q : Int), .slice A2 n2 c2] hsA 2) (by omega) ?_); intro A' c' w6 h6 g6 hlo6; have y6 := (Y5.out.alloc (.cells #[.int .i64 (t : Int), .int .i64 (q : Int), .slice A2 n2 c2] 46)).grown g6 (fun e => by have := hlo6 _ e.symm; omega); have H6 := Lib.hid h6; have Y6 := Lib.hid y6; have e6 := y6.cell 1; simp at e6; clear h6 y6 g6 hlo6)
          go_region_with (go_at_call 38; refine (pickB R (K + 1 + 45 * k + 1 + 1 + 30) 3 _ H6.out.drew.rd (by omega) (by omega) (by omega)).mono ?_; rintro e w7 ⟨p, rfl, hp, hr7, hg7⟩; have y7 := (show Blk w6.drew _ _ _ from Y6.out).grown hg7 (fun e => by injection e with e; omega); have e7 := y7.cell 1; simp at e7; have hd7 := H6.out.drew.pick hR hr7 hg7; have H7 := Lib.hid hd7; clear hd7 y7 hr7 hg7)
          all_goals
            go_wp2_with fail
            have w1 : IntKind.i64.wrap ((t : Int) + (q : Int)) = (t : Int) + (q : Int) := IntWalk.i64_in _ (by omega)
            have w2 : IntKind.i64.wrap ((t : Int) + (q : Int) + 1) = (t : Int) + (q : Int) + 1 := IntWalk.i64_in _ (by omega)
            have w3 : IntKind.i64.wrap ((t : Int) + (q : Int) + 1 + (p : Int)) = (t : Int) + (q : Int) + 1 + (p : Int) := IntWalk.i64_in _ (by omega)
            go_roundg (n + 4 - (t + q + 1 + p))
            case measure => omega
            case rel => exact ⟨k + 1, t + q + 1 + p, by omega, by omega, by omega, rfl, (by first | go_num | (show Value.int .i64 _ = _; rw [w1, w2, w3]; congr 1) | (congr 1; omega)), _, _, _, rfl, H7.out.mono (by omega)⟩
      · have hd := hd2
        clear hd2
        by_cases hk0 : k = 0
        · subst hk0
          go_wp2_with fail
          go_ret
          exact hd.post (by omega) (by omega)
        · go_wp2_with fail
          refine (pickB R (K + 1 + 45 * k + 1) 40 _ hd.rd (by omega) (by omega) (by omega)).mono ?_
          rintro e w5 ⟨v, rfl, hv, hr5, hg5⟩
          have hd5 := hd.pick hR hr5 hg5
          clear hd hr5 hg5
          by_cases v0 : ((v : Int) == 0) = true
          · go_wp2_with fail
            refine (pickB R (K + 1 + 45 * k + 1 + 1) 2 _ (hd5.rd.alloc _) (by omega) (by omega) (by omega)).mono ?_
            rintro e w6 ⟨u, rfl, hu, hr6, hg6⟩
            obtain ⟨z, hc, hz1, hz2⟩ := lit_cell hd5.rd.lt hg6 (some_lits n (by omega)) (k := u) (by simp; omega)
            have hd6 := (hd5.alloc _).pick hR hr6 hg6
            clear hd5 hr6 hg6
            obtain ⟨ms, ⟨ps, ho⟩, hr, hg, hh⟩ := hd6
            obtain ⟨g, m, p, rfl, g1, g2, hm, hp, _, _, _, _, c0, c1, c2, f0, f1, f2⟩ := ho.get (k := 0) (by omega)
            have hs := Lib.hid (ho.setAt (k := 0) (x := z) hm (by unfold I64; omega))
            rw [Nat.zero_mul] at c0 c1 c2 f0 f1 f2
            clear hm hp
            go_wp2_with fail
            go_ret
            have := hs.out
            rw [Nat.zero_mul] at this
            exact ⟨_, k, c, _, rfl, by omega, this.own.mrkIn, (hr.grown (grown_setCell _ _ _ _) (fun g' e => by injection e with e; omega)).mono (by omega), only_then hg (grown_setCell _ _ _ _) (fun g' e => by injection e with e; exact .inr (by omega))⟩
          · by_cases v1 : ((v : Int) == 1) = true
            · obtain ⟨ms, ⟨ps, ho⟩, hr, hg, hh⟩ := hd5
              obtain ⟨g, m, p, rfl, g1, g2, hm, hp, _, _, _, _, c0, c1, c2, f0, f1, f2⟩ := ho.get (k := 0) (by omega)
              have hs := Lib.hid (ho.setCut (k := 0) (x := (n : Int) + 1) hm (by unfold I64; omega))
              rw [Nat.zero_mul] at c0 c1 c2 f0 f1 f2
              clear hm hp
              go_wp2_with fail
              go_ret
              have := hs.out
              rw [Nat.zero_mul] at this
              exact ⟨_, k, c, _, rfl, by omega, this.own.mrkIn, (hr.grown (grown_setCell _ _ _ _) (fun g' e => by injection e with e; omega)).mono (by omega), only_then hg (grown_setCell _ _ _ _) (fun g' e => by injection e with e; exact .inr (by omega))⟩
            · by_cases v2 : ((v : Int) == 2) = true
              · obtain ⟨ms, ⟨ps, ho⟩, hr, hg, hh⟩ := hd5
                obtain ⟨g, m, p, rfl, g1, g2, hm, hp, i1, i2, i3, _, c0, c1, c2, f0, f1, f2⟩ := ho.get (k := 0) (by omega)
                rw [Nat.zero_mul] at c0 c1 c2 f0 f1 f2
                have hm0 := Lib.hid hm
                have hp0 := Lib.hid hp
                have O1 := Lib.hid (show OwnMp (w5.alloc (.cells #[.int .i64 m.at_, .int .i64 m.cut, .slice p.a p.n p.c] 46)) w.heap.size hi (some ⟨g, 0, none⟩) k c ms ps from OwnMp.alloc ho _)
                have R1 := Lib.hid (hr.alloc (.cells #[.int .i64 m.at_, .int .i64 m.cut, .slice p.a p.n p.c] 46))
                have G1 := Lib.hid (only_alloc hg (.cells #[.int .i64 m.at_, .int .i64 m.cut, .slice p.a p.n p.c] 46))
                clear hm hp
                go_wp2_with (at_builtin; go_must (refine drawnM_dup w _ rfl (.tmp 80) (.tmp 84) rfl R k c hi _ (some ⟨g, 0, none⟩) rfl ms ps O1.out R1.out G1.out hR hh m p hm0.out hp0.out w5.heap.size rfl ((Blk.new w5 46 #[.int .i64 m.at_, .int .i64 m.cut, .slice p.a p.n p.c]).cell 0) ((Blk.new w5 46 #[.int .i64 m.at_, .int .i64 m.cut, .slice p.a p.n p.c]).cell 1) ((Blk.new w5 46 #[.int .i64 m.at_, .int .i64 m.cut, .slice p.a p.n p.c]).cell 2) (by omega) ?_); intro A' c' w6 h6)
                have h6' := Lib.hid h6
                clear h6
                go_wp2_with fail
                go_ret
                obtain ⟨A7, n7, c7, ms7, e7, hn7, q7, r7, g7⟩ := h6'.out
                injection e7 with e7
                injection e7 with e7 e8 e9
                subst e7 e8 e9
                exact ⟨_, _, _, ms7, rfl, by omega, q7, r7.mono (by omega), g7⟩
              · go_wp2_with fail
                go_ret
                exact hd5.post (by omega) (by omega)
    · have hb : decide ((t : Int) ≤ (n : Int)) = false := by simp; omega
      by_cases hk0 : k = 0
      · subst hk0
        go_wp2_with fail
        go_ret
        exact hd.post (by omega) (by omega)
      · go_wp2_with fail
        refine (pickB R (K + 1 + 45 * k) 40 _ hd.rd (by omega) (by omega) (by omega)).mono ?_
        rintro e w5 ⟨v, rfl, hv, hr5, hg5⟩
        have hd5 := hd.pick hR hr5 hg5
        clear hd hr5 hg5
        by_cases v0 : ((v : Int) == 0) = true
        · go_wp2_with fail
          refine (pickB R (K + 1 + 45 * k + 1) 2 _ (hd5.rd.alloc _) (by omega) (by omega) (by omega)).mono ?_
          rintro e w6 ⟨u, rfl, hu, hr6, hg6⟩
          obtain ⟨z, hc, hz1, hz2⟩ := lit_cell hd5.rd.lt hg6 (some_lits n (by omega)) (k := u) (by simp; omega)
          have hd6 := (hd5.alloc _).pick hR hr6 hg6
          clear hd5 hr6 hg6
          obtain ⟨ms, ⟨ps, ho⟩, hr, hg, hh⟩ := hd6
          obtain ⟨g, m, p, rfl, g1, g2, hm, hp, _, _, _, _, c0, c1, c2, f0, f1, f2⟩ := ho.get (k := 0) (by omega)
          have hs := Lib.hid (ho.setAt (k := 0) (x := z) hm (by unfold I64; omega))
          rw [Nat.zero_mul] at c0 c1 c2 f0 f1 f2
          clear hm hp
          go_wp2_with fail
          go_ret
          have := hs.out
          rw [Nat.zero_mul] at this
          exact ⟨_, k, c, _, rfl, by omega, this.own.mrkIn, (hr.grown (grown_setCell _ _ _ _) (fun g' e => by injection e with e; omega)).mono (by omega), only_then hg (grown_setCell _ _ _ _) (fun g' e => by injection e with e; exact .inr (by omega))⟩
        · by_cases v1 : ((v : Int) == 1) = true
          · obtain ⟨ms, ⟨ps, ho⟩, hr, hg, hh⟩ := hd5
            obtain ⟨g, m, p, rfl, g1, g2, hm, hp, _, _, _, _, c0, c1, c2, f0, f1, f2⟩ := ho.get (k := 0) (by omega)
            have hs := Lib.hid (ho.setCut (k := 0) (x := (n : Int) + 1) hm (by unfold I64; omega))
            rw [Nat.zero_mul] at c0 c1 c2 f0 f1 f2
            clear hm hp
            go_wp2_with fail
            go_ret
            have := hs.out
            rw [Nat.zero_mul] at this
            exact ⟨_, k, c, _, rfl, by omega, this.own.mrkIn, (hr.grown (grown_setCell _ _ _ _) (fun g' e => by injection e with e; omega)).mono (by omega), only_then hg (grown_setCell _ _ _ _) (fun g' e => by injection e with e; exact .inr (by omega))⟩
          · by_cases v2 : ((v : Int) == 2) = true
            · obtain ⟨ms, ⟨ps, ho⟩, hr, hg, hh⟩ := hd5
              obtain ⟨g, m, p, rfl, g1, g2, hm, hp, i1, i2, i3, _, c0, c1, c2, f0, f1, f2⟩ := ho.get (k := 0) (by omega)
              rw [Nat.zero_mul] at c0 c1 c2 f0 f1 f2
              have hm0 := Lib.hid hm
              have hp0 := Lib.hid hp
              have O1 := Lib.hid (show OwnMp (w5.alloc (.cells #[.int .i64 m.at_, .int .i64 m.cut, .slice p.a p.n p.c] 46)) w.heap.size hi (some ⟨g, 0, none⟩) k c ms ps from OwnMp.alloc ho _)
              have R1 := Lib.hid (hr.alloc (.cells #[.int .i64 m.at_, .int .i64 m.cut, .slice p.a p.n p.c] 46))
              have G1 := Lib.hid (only_alloc hg (.cells #[.int .i64 m.at_, .int .i64 m.cut, .slice p.a p.n p.c] 46))
              clear hm hp
              go_wp2_with (at_builtin; go_must (refine drawnM_dup w _ rfl (.tmp 80) (.tmp 84) rfl R k c hi _ (some ⟨g, 0, none⟩) rfl ms ps O1.out R1.out G1.out hR hh m p hm0.out hp0.out w5.heap.size rfl ((Blk.new w5 46 #[.int .i64 m.at_, .int .i64 m.cut, .slice p.a p.n p.c]).cell 0) ((Blk.new w5 46 #[.int .i64 m.at_, .int .i64 m.cut, .slice p.a p.n p.c]).cell 1) ((Blk.new w5 46 #[.int .i64 m.at_, .int .i64 m.cut, .slice p.a p.n p.c]).cell 2) (by omega) ?_); intro A' c' w6 h6)
              have h6' := Lib.hid h6
              clear h6
              go_wp2_with fail
              go_ret
              obtain ⟨A7, n7, c7, ms7, e7, hn7, q7, r7, g7⟩ := h6'.out
              injection e7 with e7
              injection e7 with e7 e8 e9
              subst e7 e8 e9
              exact ⟨_, _, _, ms7, rfl, by omega, q7, r7.mono (by omega), g7⟩
            · go_wp2_with fail
              go_ret
              exact hd5.post (by omega) (by omega)
end Go.Proofs.YtjhlcgjhdiheaaaDoor

