/- MarksBoth of the reference. -/
import Derived.Test.YtjhlcgjhdiheaaaSCp
namespace Go.Proofs.Ytjhlcgjhdiheaaa
open Go.RowKit
set_option linter.unusedVariables false
set_option linter.unusedSimpArgs false

set_option maxRecDepth 10000 in
set_option maxHeartbeats 8000000 in
theorem sboth_any (A B C : Option Addr) (n c m d l e0 : Nat) (ws : List ByteArray) (xs ys : List M) (w : World) (h : PutIn w A n c ws) (k : MrkIn w B m d xs) (kq : MrkIn w C l e0 ys) :
    Calls Try.prog 31 #[.slice A n c, .slice B m d, .slice C l e0] w (MrkPost w (bothF ws xs ys)) := by
  have hm := Nat.le_trans k.2.1 k.2.2.1
  have hl := Nat.le_trans kq.2.1 kq.2.2.1
  have lx := Lib.hid k.1.len
  have ly := Lib.hid kq.1.len
  have b0 : Below w.heap.size w (w.alloc (.cells #[] 58)) := (Below.refl _ _).alloc (Nat.le_refl _) _
  have hE0 := own_emptyM w w.heap.size (Nat.le_refl _)
  cases hv1 : valid ws xs with
  | false =>
    have hr := Lib.hid (bothF_no (ws := ws) (xs := xs) (ys := ys) (by rw [hv1]; rfl))
    go_enter Try.func31, Try.ntmps31
    go_wp2_with fail
    refine (svalid_is A B n c m d ws xs _ (h.below b0) (k.1.below b0) hm hv1).mono ?_
    rintro e W ⟨rfl, hb0⟩
    have hE := hE0.below hb0
    have hb := b0.trans (hb0.mono b0.size)
    clear hE0 b0 hb0 hv1
    go_wp2_with fail
    go_ret2
    exact MrkPost.empty hr.out hE (Nat.le_refl _) hb
  | true =>
    cases hv2 : valid ws ys with
    | false =>
      have hr := Lib.hid (bothF_no (ws := ws) (xs := xs) (ys := ys) (by rw [hv1, hv2]; rfl))
      have V1 := Lib.hid hv1
      have V2 := Lib.hid hv2
      clear hv1 hv2
      go_enter Try.func31, Try.ntmps31
      go_wp2_with fail
      refine (svalid_is A B n c m d ws xs _ (h.below b0) (k.1.below b0) hm V1.out).mono ?_
      rintro e W ⟨rfl, hb0⟩
      have hE := hE0.below hb0
      have hb := b0.trans (hb0.mono b0.size)
      clear hE0 b0 hb0
      go_wp2_with fail
      refine (svalid_is A C n c l e0 ws ys _ (h.below hb) (kq.1.below hb) hl V2.out).mono ?_
      rintro e W2 ⟨rfl, hb2⟩
      have hE := hE.below hb2
      have hb := hb.trans (hb2.mono hb.size)
      go_wp2_with fail
      go_ret2
      exact MrkPost.empty hr.out hE (Nat.le_refl _) hb
    | true =>
      have V1 := Lib.hid hv1
      have V2 := Lib.hid hv2
      have hm20 := (valid_bound hv1).1
      have hl20 := (valid_bound hv2).1
      rw [lx.out] at hm20
      rw [ly.out] at hl20
      have hXS := Lib.hid (small_of hv1)
      have hYS := Lib.hid (small_of hv2)
      obtain ⟨C9, hC9⟩ : ∃ b, clash xs ys = b := ⟨_, rfl⟩
      have HC := Lib.hid hC9
      clear hv1 hv2 hC9
      go_enter Try.func31, Try.ntmps31
      go_wp2_with fail
      refine (svalid_is A B n c m d ws xs _ (h.below b0) (k.1.below b0) hm V1.out).mono ?_
      rintro e W ⟨rfl, hb0⟩
      have hE := hE0.below hb0
      have hb := b0.trans (hb0.mono b0.size)
      clear hE0 b0 hb0
      go_wp2_with fail
      refine (svalid_is A C n c l e0 ws ys _ (h.below hb) (kq.1.below hb) hl V2.out).mono ?_
      rintro e W2 ⟨rfl, hb2⟩
      have hE := hE.below hb2
      have hb := hb.trans (hb2.mono hb.size)
      clear hb2
      go_wp2_with fail
      refine (l7clash_any B C m d l e0 xs ys _ hm20 hl20 hXS.out hYS.out (k.1.below hb) (kq.1.below hb)).mono ?_
      rw [HC.out]
      rintro e W3 ⟨rfl, hb3⟩
      have hE := hE.below hb3
      have hbW := hb.trans (hb3.mono hb.size)
      clear hb hb3
      cases C9 with
      | true =>
        have hr := Lib.hid (bothF_no (ws := ws) (xs := xs) (ys := ys) (by rw [V1.out, V2.out, HC.out]; rfl))
        go_wp2_with fail
        go_ret2
        exact MrkPost.empty hr.out hE (Nat.le_refl _) hbW
      | false =>
        have HE := Lib.hid hE
        clear hE
        go_wp2_with fail
        go_loopw [8, 9, 10] (fun out iv kv wr => ∃ (p q K hi : Nat) (A' : Option Addr) (c' : Nat) (acc : List M), p ≤ m ∧ q ≤ l ∧ K ≤ p + q ∧ iv = .int .i64 p ∧ kv = .int .i64 q ∧ out = .slice A' K c' ∧ OwnM wr w.heap.size hi A' K c' acc ∧ Hid (Mk.merge xs ys = acc ++ Mk.merge (xs.drop p) (ys.drop q)) ∧ w.heap.size ≤ hi ∧ Below w.heap.size w wr) (fun _ iv kv _ => m + l - (intOf iv).toNat - (intOf kv).toNat)
        case atStart => exact ⟨0, 0, 0, _, _, _, [], Nat.zero_le _, Nat.zero_le _, Nat.le_refl _, rfl, rfl, rfl, HE.out, Lib.hid rfl, by omega, hbW⟩
        case round =>
          clear hbW HE
          obtain ⟨p, q, K, hi, A', c', acc, hp, hq, hK, rfl, rfl, rfl, hO, hM, hhi, hbel⟩ := hrel
          have HOW := Lib.hid hO
          clear hO
          by_cases hpm : p < m
          · by_cases hql : q < l
            · skip
              obtain ⟨bbx, offx, x, rfl, hx, ix1, ix2, kx0, kx1, Ax, nx, cx, kx2, hpx⟩ := k.1.at_ hpm
              have hSx := hXS.out x (mem_at hx)
              obtain ⟨sx1, sx2, sx3, sx4, sx5⟩ := hSx
              have nx20 : nx ≤ 20 := by have := hpx.len; omega
              have Ix := Lib.hid (show I64 x.at_ ∧ I64 x.cut from ⟨ix1, ix2⟩)
              have Hx := Lib.hid hx
              have ex0 := (hbel.cell (lt_of_cell kx0)).trans kx0
              have ex1 := (hbel.cell (lt_of_cell kx1)).trans kx1
              have ex2 := (hbel.cell (lt_of_cell kx2)).trans kx2
              have PxW := Lib.hid (hpx.below hbel)
              clear hx ix1 ix2 kx0 kx1 kx2 hpx
              obtain ⟨bby, offy, y, rfl, hy, iy1, iy2, ky0, ky1, Ay, ny, cy, ky2, hpy⟩ := kq.1.at_ hql
              have hSy := hYS.out y (mem_at hy)
              obtain ⟨sy1, sy2, sy3, sy4, sy5⟩ := hSy
              have ny20 : ny ≤ 20 := by have := hpy.len; omega
              have Iy := Lib.hid (show I64 y.at_ ∧ I64 y.cut from ⟨iy1, iy2⟩)
              have Hy := Lib.hid hy
              have ey0 := (hbel.cell (lt_of_cell ky0)).trans ky0
              have ey1 := (hbel.cell (lt_of_cell ky1)).trans ky1
              have ey2 := (hbel.cell (lt_of_cell ky2)).trans ky2
              have PyW := Lib.hid (hpy.below hbel)
              clear hy iy1 iy2 ky0 ky1 ky2 hpy
              have g1 : decide ((p : Int) < (m : Int)) = true := by simp; omega
              have g1' : decide (p < m) = true := by simp; omega
              have g2 : decide ((q : Int) < (l : Int)) = true := by simp; omega
              have g2' : decide (q < l) = true := by simp; omega
              have q1 : ((q : Int) == (l : Int)) = false := by rw [beq_eq_false_iff_ne]; omega
              have j1 : (0 : Int) ≤ (p : Int) := by omega
              have j2 : (p : Int) < (m : Int) := by omega
              have j3 : (0 : Int) ≤ (q : Int) := by omega
              have j4 : (q : Int) < (l : Int) := by omega
              have Lx : ∀ r os, Sem.run Try.prog (loadCellsFrom ⟨bbx, offx + p * 3, none⟩ 0 3 #[]) (Go.Sort.grow (wr.drewN r) os) = .ok #[.int .i64 x.at_, .int .i64 x.cut, .slice Ax nx cx] (Go.Sort.grow (wr.drewN r) os) := fun r os => load3 (cell_grown (lt_of_cell ex0) ex0 r os) (cell_grown (lt_of_cell ex1) ex1 r os) (cell_grown (lt_of_cell ex2) ex2 r os)
              have Ex0 := fun r os => cell_grown (lt_of_cell ex0) ex0 r os
              have Ex1 := fun r os => cell_grown (lt_of_cell ex1) ex1 r os
              have Ex2 := fun r os => cell_grown (lt_of_cell ex2) ex2 r os
              have PxQ := Lib.hid (fun r os => PxW.out.below (below_grow (Below.refl _ _) (Nat.le_refl _) r os))
              have Ly : ∀ r os, Sem.run Try.prog (loadCellsFrom ⟨bby, offy + q * 3, none⟩ 0 3 #[]) (Go.Sort.grow (wr.drewN r) os) = .ok #[.int .i64 y.at_, .int .i64 y.cut, .slice Ay ny cy] (Go.Sort.grow (wr.drewN r) os) := fun r os => load3 (cell_grown (lt_of_cell ey0) ey0 r os) (cell_grown (lt_of_cell ey1) ey1 r os) (cell_grown (lt_of_cell ey2) ey2 r os)
              have Ey0 := fun r os => cell_grown (lt_of_cell ey0) ey0 r os
              have Ey1 := fun r os => cell_grown (lt_of_cell ey1) ey1 r os
              have Ey2 := fun r os => cell_grown (lt_of_cell ey2) ey2 r os
              have PyQ := Lib.hid (fun r os => PyW.out.below (below_grow (Below.refl _ _) (Nat.le_refl _) r os))
              have HBQ := Lib.hid (fun r os => below_grow hbel hbel.size r os)
              have HOQ := Lib.hid (fun r os => HOW.out.below (below_grow (Below.refl _ _) (Nat.le_refl _) r os))
              have hmix := mixed
              clear ex0 ex1 ex2 ey0 ey1 ey2
              cases hsm : Mk.sameM x y with
              | true =>
                have HS := Lib.hid hsm
                have hxy := (Mk.sameM_iff x y).1 hsm
                have Hxy := Lib.hid hxy
                clear hxy hsm
                go_wp2_with fail
                refine wp_region_quiet_grown (by assumption) (by kernel_rfl) ?_
                repeat (go_big_quiet_step (first | (go_at_call 76; refine Calls.grown_of ((l7same_any x y Ax Ay nx cx ny cy _ (by omega) (by omega) (PxQ.out _ _).1 (PyQ.out _ _).1).mono fun e w' h => ⟨h.1.trans (ret_bool HS.out), h.2⟩))))
                refine wpQuiet_nil ?_
                intro _ hw'
                obtain ⟨⟨nq, osq⟩, hw9⟩ := hw'
                subst hw9
                have hbz := HBQ.out nq osq
                have HO := Lib.hid (HOQ.out nq osq)
                have Px := PxQ.out nq osq
                have Py := PyQ.out nq osq
                have ex0 := Ex0 nq osq
                have ex1 := Ex1 nq osq
                have ex2 := Ex2 nq osq
                have ey0 := Ey0 nq osq
                have ey1 := Ey1 nq osq
                have ey2 := Ey2 nq osq
                clear Ex0 Ex1 Ex2 Ey0 Ey1 Ey2 HBQ HOQ PxQ PyQ Lx Ly PxW PyW HOW hbel
                generalize Go.Sort.grow (wr.drewN nq) osq = Wz at *
                have HG := Lib.hid (Mk.merge_same Hx.out (by rw [Hxy.out]; exact Hy.out) hM.out)
                clear hM
                go_wp2_with fail
                refine (l7copy_any x Ax nx cx _ (by omega) Px).mono ?_
                rintro e W4 ⟨A4, c4, rfl, o4, b4⟩
                have O4 := Lib.hid o4
                have B4 := Lib.hid b4
                have s4 := b4.size
                have s5 := hbz.size
                have htop := HO.out.top
                have BZ := Lib.hid hbz
                clear o4 b4 hbz
                go_wp2_with (at_builtin; go_must (refine wpList_pushM _ rfl (.tmp 70) (.tmp 76) rfl w.heap.size hi A' K c' _ rfl ((HO.out.below B4.out).alloc _) ⟨x.at_, x.cut, x.put⟩ ⟨A4, nx, c4⟩ (W4.heap.size + 1) W4.heap.size rfl Ix.out.1 Ix.out.2 ((O4.out.alloc _).wide (by omega) (by simp) (by simp)) ((Blk.new W4 58 #[.int .i64 x.at_, .int .i64 x.cut, .slice A4 nx c4]).cell 0) ((Blk.new W4 58 #[.int .i64 x.at_, .int .i64 x.cut, .slice A4 nx c4]).cell 1) ((Blk.new W4 58 #[.int .i64 x.at_, .int .i64 x.cut, .slice A4 nx c4]).cell 2) (by omega) hhi ?_); intro A5 c5 w5 o5 g5; have b5 := below_cat ((BZ.out.trans (B4.out.mono s5)).alloc (by omega) (.cells #[.int .i64 x.at_, .int .i64 x.cut, .slice A4 nx c4] 58)) g5 (fun a ha => (HO.out.lo_le a ha).1); have B5 := Lib.hid b5; have O5 := Lib.hid o5; clear g5 o5 b5)
                go_roundw
                case rel => exact ⟨p + 1, q + 1, K + 1, w5.heap.size, A5, c5, _, by omega, by omega, by omega, by go_num, by go_num, rfl, O5.out, HG, by have := B5.out.size; omega, B5.out⟩
                case measure => simp [intOf]; omega
              | false =>
                have HS := Lib.hid hsm
                have hne : x ≠ y := fun e => by rw [e, Mk.sameM_self] at hsm; cases hsm
                have HNE := Lib.hid hne
                clear hne hsm
                go_wp2_with fail
                refine wp_region_quiet_grown (by assumption) (by kernel_rfl) ?_
                repeat (go_big_quiet_step (first | (go_at_call 76; refine Calls.grown_of ((l7same_any x y Ax Ay nx cx ny cy _ (by omega) (by omega) (PxQ.out _ _).1 (PyQ.out _ _).1).mono fun e w' h => ⟨h.1.trans (ret_bool HS.out), h.2⟩))))
                refine wpQuiet_nil ?_
                intro _ hw'
                obtain ⟨⟨nq, osq⟩, hw9⟩ := hw'
                subst hw9
                have hbz := HBQ.out nq osq
                have HO := Lib.hid (HOQ.out nq osq)
                have Px := PxQ.out nq osq
                have Py := PyQ.out nq osq
                have ex0 := Ex0 nq osq
                have ex1 := Ex1 nq osq
                have ex2 := Ex2 nq osq
                have ey0 := Ey0 nq osq
                have ey1 := Ey1 nq osq
                have ey2 := Ey2 nq osq
                clear Ex0 Ex1 Ex2 Ey0 Ey1 Ey2 HBQ HOQ PxQ PyQ Lx Ly PxW PyW HOW hbel
                generalize Go.Sort.grow (wr.drewN nq) osq = Wz at *
                by_cases hlt : x.at_ < y.at_
                · have HLT := Lib.hid hlt
                  have g3 : decide (x.at_ < y.at_) = true := decide_eq_true hlt
                  go_wp2_with fail
                  go_quiet (fail)
                  have hbz := below_drewN hbz nq
                  have HO := Lib.hid (HO.out.drewN nq)
                  have Px := Px.below (below_drewN (Below.refl _ _) nq)
                  have Py := Py.below (below_drewN (Below.refl _ _) nq)
                  go_wp2_with fail
                  have HG := Lib.hid (Mk.merge_left Hx.out (fun b hb => by rw [Hy.out] at hb; injection hb with hb; subst hb; exact ⟨HNE.out, by have := HLT.out; omega⟩) hM.out)
                  clear hM
                  go_wp2_with fail
                  refine (l7copy_any x Ax nx cx _ (by omega) Px).mono ?_
                  rintro e W4 ⟨A4, c4, rfl, o4, b4⟩
                  have O4 := Lib.hid o4
                  have B4 := Lib.hid b4
                  have s4 := b4.size
                  have s5 := hbz.size
                  have htop := HO.out.top
                  have BZ := Lib.hid hbz
                  clear o4 b4 hbz
                  go_wp2_with (at_builtin; go_must (refine wpList_pushM _ rfl (.tmp 106) (.tmp 112) rfl w.heap.size hi A' K c' _ rfl ((HO.out.below B4.out).alloc _) ⟨x.at_, x.cut, x.put⟩ ⟨A4, nx, c4⟩ (W4.heap.size + 1) W4.heap.size rfl Ix.out.1 Ix.out.2 ((O4.out.alloc _).wide (by omega) (by simp) (by simp)) ((Blk.new W4 58 #[.int .i64 x.at_, .int .i64 x.cut, .slice A4 nx c4]).cell 0) ((Blk.new W4 58 #[.int .i64 x.at_, .int .i64 x.cut, .slice A4 nx c4]).cell 1) ((Blk.new W4 58 #[.int .i64 x.at_, .int .i64 x.cut, .slice A4 nx c4]).cell 2) (by omega) hhi ?_); intro A5 c5 w5 o5 g5; have b5 := below_cat ((BZ.out.trans (B4.out.mono s5)).alloc (by omega) (.cells #[.int .i64 x.at_, .int .i64 x.cut, .slice A4 nx c4] 58)) g5 (fun a ha => (HO.out.lo_le a ha).1); have B5 := Lib.hid b5; have O5 := Lib.hid o5; clear g5 o5 b5)
                  go_roundw
                  case rel => exact ⟨p + 1, q, K + 1, w5.heap.size, A5, c5, _, by omega, by omega, by omega, by go_num, by go_num, rfl, O5.out, HG, by have := B5.out.size; omega, B5.out⟩
                  case measure => simp [intOf]; omega
                · have HLT := Lib.hid hlt
                  have g3 : decide (x.at_ < y.at_) = false := decide_eq_false hlt
                  go_wp2_with fail
                  go_quiet (fail)
                  have hbz := below_drewN hbz nq
                  have HO := Lib.hid (HO.out.drewN nq)
                  have Px := Px.below (below_drewN (Below.refl _ _) nq)
                  have Py := Py.below (below_drewN (Below.refl _ _) nq)
                  go_wp2_with fail
                  have HG := Lib.hid (Mk.merge_right Hy.out (fun a ha => by rw [Hx.out] at ha; injection ha with ha; subst ha; exact ⟨HNE.out, by have := HLT.out; omega⟩) hM.out)
                  clear hM
                  go_wp2_with fail
                  refine (l7copy_any y Ay ny cy _ (by omega) Py).mono ?_
                  rintro e W4 ⟨A4, c4, rfl, o4, b4⟩
                  have O4 := Lib.hid o4
                  have B4 := Lib.hid b4
                  have s4 := b4.size
                  have s5 := hbz.size
                  have htop := HO.out.top
                  have BZ := Lib.hid hbz
                  clear o4 b4 hbz
                  go_wp2_with (at_builtin; go_must (refine wpList_pushM _ rfl (.tmp 38) (.tmp 44) rfl w.heap.size hi A' K c' _ rfl ((HO.out.below B4.out).alloc _) ⟨y.at_, y.cut, y.put⟩ ⟨A4, ny, c4⟩ (W4.heap.size + 1) W4.heap.size rfl Iy.out.1 Iy.out.2 ((O4.out.alloc _).wide (by omega) (by simp) (by simp)) ((Blk.new W4 58 #[.int .i64 y.at_, .int .i64 y.cut, .slice A4 ny c4]).cell 0) ((Blk.new W4 58 #[.int .i64 y.at_, .int .i64 y.cut, .slice A4 ny c4]).cell 1) ((Blk.new W4 58 #[.int .i64 y.at_, .int .i64 y.cut, .slice A4 ny c4]).cell 2) (by omega) hhi ?_); intro A5 c5 w5 o5 g5; have b5 := below_cat ((BZ.out.trans (B4.out.mono s5)).alloc (by omega) (.cells #[.int .i64 y.at_, .int .i64 y.cut, .slice A4 ny c4] 58)) g5 (fun a ha => (HO.out.lo_le a ha).1); have B5 := Lib.hid b5; have O5 := Lib.hid o5; clear g5 o5 b5)
                  go_roundw
                  case rel => exact ⟨p, q + 1, K + 1, w5.heap.size, A5, c5, _, by omega, by omega, by omega, by go_num, by go_num, rfl, O5.out, HG, by have := B5.out.size; omega, B5.out⟩
                  case measure => simp [intOf]; omega
            · skip
              obtain ⟨bbx, offx, x, rfl, hx, ix1, ix2, kx0, kx1, Ax, nx, cx, kx2, hpx⟩ := k.1.at_ hpm
              have hSx := hXS.out x (mem_at hx)
              obtain ⟨sx1, sx2, sx3, sx4, sx5⟩ := hSx
              have nx20 : nx ≤ 20 := by have := hpx.len; omega
              have Ix := Lib.hid (show I64 x.at_ ∧ I64 x.cut from ⟨ix1, ix2⟩)
              have Hx := Lib.hid hx
              have ex0 := (hbel.cell (lt_of_cell kx0)).trans kx0
              have ex1 := (hbel.cell (lt_of_cell kx1)).trans kx1
              have ex2 := (hbel.cell (lt_of_cell kx2)).trans kx2
              have PxW := Lib.hid (hpx.below hbel)
              clear hx ix1 ix2 kx0 kx1 kx2 hpx
              have g1 : decide ((p : Int) < (m : Int)) = true := by simp; omega
              have g1' : decide (p < m) = true := by simp; omega
              have g2 : decide ((q : Int) < (l : Int)) = false := by simp; omega
              have g2' : decide (q < l) = false := by simp; omega
              have q1 : ((q : Int) == (l : Int)) = true := by rw [beq_iff_eq]; omega
              have j1 : (0 : Int) ≤ (p : Int) := by omega
              have j2 : (p : Int) < (m : Int) := by omega
              go_wp2_with fail
              go_quiet (fail)
              go_wp2_with fail
              have HO := Lib.hid (HOW.out.drewN nq)
              have hbz := below_drewN hbel nq
              have Px := PxW.out.below (below_drewN (Below.refl _ _) nq)
              have q0 : (wr.drewN nq).cell? ⟨bbx, offx + p * 3, none⟩ = some (.int .i64 x.at_) := ex0
              have q1' : (wr.drewN nq).cell? ⟨bbx, offx + p * 3 + 1, none⟩ = some (.int .i64 x.cut) := ex1
              have q2 : (wr.drewN nq).cell? ⟨bbx, offx + p * 3 + 2, none⟩ = some (.slice Ax nx cx) := ex2
              clear HOW hbel PxW ex0 ex1 ex2
              generalize wr.drewN nq = Wz at *
              go_quiet (fail)
              have HO := Lib.hid (HO.out.drewN nq)
              have hbz := below_drewN hbz nq
              have Px := Px.below (below_drewN (Below.refl _ _) nq)
              have HG := Lib.hid (Mk.merge_left Hx.out (fun b hb => by rw [List.getElem?_eq_none (by rw [ly.out]; omega)] at hb; cases hb) hM.out)
              clear hM
              go_wp2_with fail
              refine (l7copy_any x Ax nx cx _ (by omega) Px).mono ?_
              rintro e W4 ⟨A4, c4, rfl, o4, b4⟩
              have O4 := Lib.hid o4
              have B4 := Lib.hid b4
              have s4 := b4.size
              have s5 := hbz.size
              have htop := HO.out.top
              have BZ := Lib.hid hbz
              clear o4 b4 hbz
              go_wp2_with (at_builtin; go_must (refine wpList_pushM _ rfl (.tmp 106) (.tmp 112) rfl w.heap.size hi A' K c' _ rfl ((HO.out.below B4.out).alloc _) ⟨x.at_, x.cut, x.put⟩ ⟨A4, nx, c4⟩ (W4.heap.size + 1) W4.heap.size rfl Ix.out.1 Ix.out.2 ((O4.out.alloc _).wide (by omega) (by simp) (by simp)) ((Blk.new W4 58 #[.int .i64 x.at_, .int .i64 x.cut, .slice A4 nx c4]).cell 0) ((Blk.new W4 58 #[.int .i64 x.at_, .int .i64 x.cut, .slice A4 nx c4]).cell 1) ((Blk.new W4 58 #[.int .i64 x.at_, .int .i64 x.cut, .slice A4 nx c4]).cell 2) (by omega) hhi ?_); intro A5 c5 w5 o5 g5; have b5 := below_cat ((BZ.out.trans (B4.out.mono s5)).alloc (by omega) (.cells #[.int .i64 x.at_, .int .i64 x.cut, .slice A4 nx c4] 58)) g5 (fun a ha => (HO.out.lo_le a ha).1); have B5 := Lib.hid b5; have O5 := Lib.hid o5; clear g5 o5 b5)
              go_roundw
              case rel => exact ⟨p + 1, q, K + 1, w5.heap.size, A5, c5, _, by omega, by omega, by omega, by go_num, by go_num, rfl, O5.out, HG, by have := B5.out.size; omega, B5.out⟩
              case measure => simp [intOf]; omega
          · by_cases hql : q < l
            · skip
              obtain ⟨bby, offy, y, rfl, hy, iy1, iy2, ky0, ky1, Ay, ny, cy, ky2, hpy⟩ := kq.1.at_ hql
              have hSy := hYS.out y (mem_at hy)
              obtain ⟨sy1, sy2, sy3, sy4, sy5⟩ := hSy
              have ny20 : ny ≤ 20 := by have := hpy.len; omega
              have Iy := Lib.hid (show I64 y.at_ ∧ I64 y.cut from ⟨iy1, iy2⟩)
              have Hy := Lib.hid hy
              have ey0 := (hbel.cell (lt_of_cell ky0)).trans ky0
              have ey1 := (hbel.cell (lt_of_cell ky1)).trans ky1
              have ey2 := (hbel.cell (lt_of_cell ky2)).trans ky2
              have PyW := Lib.hid (hpy.below hbel)
              clear hy iy1 iy2 ky0 ky1 ky2 hpy
              have g1 : decide ((p : Int) < (m : Int)) = false := by simp; omega
              have g1' : decide (p < m) = false := by simp; omega
              have g2 : decide ((q : Int) < (l : Int)) = true := by simp; omega
              have g2' : decide (q < l) = true := by simp; omega
              have q1 : ((q : Int) == (l : Int)) = false := by rw [beq_eq_false_iff_ne]; omega
              have j3 : (0 : Int) ≤ (q : Int) := by omega
              have j4 : (q : Int) < (l : Int) := by omega
              go_wp2_with fail
              go_quiet (fail)
              go_wp2_with fail
              have HO := Lib.hid (HOW.out.drewN nq)
              have hbz := below_drewN hbel nq
              have Py := PyW.out.below (below_drewN (Below.refl _ _) nq)
              have q0 : (wr.drewN nq).cell? ⟨bby, offy + q * 3, none⟩ = some (.int .i64 y.at_) := ey0
              have q1' : (wr.drewN nq).cell? ⟨bby, offy + q * 3 + 1, none⟩ = some (.int .i64 y.cut) := ey1
              have q2 : (wr.drewN nq).cell? ⟨bby, offy + q * 3 + 2, none⟩ = some (.slice Ay ny cy) := ey2
              clear HOW hbel PyW ey0 ey1 ey2
              generalize wr.drewN nq = Wz at *
              go_quiet (fail)
              have HO := Lib.hid (HO.out.drewN nq)
              have hbz := below_drewN hbz nq
              have Py := Py.below (below_drewN (Below.refl _ _) nq)
              have HG := Lib.hid (Mk.merge_right Hy.out (fun a ha => by rw [List.getElem?_eq_none (by rw [lx.out]; omega)] at ha; cases ha) hM.out)
              clear hM
              go_wp2_with fail
              refine (l7copy_any y Ay ny cy _ (by omega) Py).mono ?_
              rintro e W4 ⟨A4, c4, rfl, o4, b4⟩
              have O4 := Lib.hid o4
              have B4 := Lib.hid b4
              have s4 := b4.size
              have s5 := hbz.size
              have htop := HO.out.top
              have BZ := Lib.hid hbz
              clear o4 b4 hbz
              go_wp2_with (at_builtin; go_must (refine wpList_pushM _ rfl (.tmp 38) (.tmp 44) rfl w.heap.size hi A' K c' _ rfl ((HO.out.below B4.out).alloc _) ⟨y.at_, y.cut, y.put⟩ ⟨A4, ny, c4⟩ (W4.heap.size + 1) W4.heap.size rfl Iy.out.1 Iy.out.2 ((O4.out.alloc _).wide (by omega) (by simp) (by simp)) ((Blk.new W4 58 #[.int .i64 y.at_, .int .i64 y.cut, .slice A4 ny c4]).cell 0) ((Blk.new W4 58 #[.int .i64 y.at_, .int .i64 y.cut, .slice A4 ny c4]).cell 1) ((Blk.new W4 58 #[.int .i64 y.at_, .int .i64 y.cut, .slice A4 ny c4]).cell 2) (by omega) hhi ?_); intro A5 c5 w5 o5 g5; have b5 := below_cat ((BZ.out.trans (B4.out.mono s5)).alloc (by omega) (.cells #[.int .i64 y.at_, .int .i64 y.cut, .slice A4 ny c4] 58)) g5 (fun a ha => (HO.out.lo_le a ha).1); have B5 := Lib.hid b5; have O5 := Lib.hid o5; clear g5 o5 b5)
              go_roundw
              case rel => exact ⟨p, q + 1, K + 1, w5.heap.size, A5, c5, _, by omega, by omega, by omega, by go_num, by go_num, rfl, O5.out, HG, by have := B5.out.size; omega, B5.out⟩
              case measure => simp [intOf]; omega
            · obtain rfl : p = m := by omega
              obtain rfl : q = l := by omega
              have hend := Mk.merge_end (by rw [lx.out]; exact Nat.le_refl _) (by rw [ly.out]; exact Nat.le_refl _) hM.out
              rw [← hend] at HOW
              have hK20 : K ≤ 40 := by omega
              clear hend hM
              obtain ⟨v9, hv9⟩ : ∃ v, valid ws (Mk.merge xs ys) = v := ⟨_, rfl⟩
              have HV9 := Lib.hid hv9
              clear hv9
              go_wp2_with fail
              refine (svalid_is A A' n c K c' ws _ _ (h.below hbel) HOW.out.ints (by omega) HV9.out).mono ?_
              rintro e W5 ⟨rfl, hb5⟩
              have hO5 := Lib.hid (HOW.out.below hb5)
              have hb := hbel.trans (hb5.mono hbel.size)
              clear hb5
              cases v9 with
              | false =>
                have hr := Lib.hid (bothF_no (ws := ws) (xs := xs) (ys := ys) (by rw [V1.out, V2.out, HC.out, HV9.out]; rfl))
                have hE9 := own_emptyM W5 W5.heap.size (Nat.le_refl _)
                have b9 : Below w.heap.size w (W5.alloc (.cells #[] 58)) := hb.alloc hb.size _
                go_wp2_with fail
                go_ret2
                exact MrkPost.empty hr.out hE9 hb.size b9
              | true =>
                have hr := Lib.hid (bothF_yes V1.out V2.out HC.out HV9.out)
                go_wp2_with fail
                go_ret2
                exact MrkPost.some_ hr.out (hO5.out.wide (Nat.le_refl _) hO5.out.top (Nat.le_refl _)) hb
section
variable (A B C : Option Addr) (n c m d l e0 : Nat) (ws : List ByteArray) (xs ys : List M) (w : World) (h : PutIn w A n c ws) (k : MrkIn w B m d xs) (q : MrkIn w C l e0 ys)
include h k q
theorem sboth_yes (zs : List M) (hb : bothF ws xs ys = some zs) : Calls Try.prog 31 #[.slice A n c, .slice B m d, .slice C l e0] w (GetM w true zs) := (sboth_any A B C n c m d l e0 ws xs ys w h k q).mono fun e w' hp => hp.yes hb
theorem sboth_no (hb : bothF ws xs ys = none) : Calls Try.prog 31 #[.slice A n c, .slice B m d, .slice C l e0] w (GetM w false []) := (sboth_any A B C n c m d l e0 ws xs ys w h k q).mono fun e w' hp => hp.no hb
end
end Go.Proofs.Ytjhlcgjhdiheaaa
