/- MarksClash of the program: a mark's clash with another one, ContainsFunc with a mark's method. -/
import Derived.Test.YtjhlcgjhdiheaaaClash
namespace Go.Proofs.Ytjhlcgjhdiheaaa
open Go.RowKit
set_option linter.unusedVariables false
set_option linter.unusedSimpArgs false

/-- a world with blocks behind, of one with two -/
theorem grown_two (w : World) (o1 o2 : Obj) (q : Nat) (os : Array Obj) : ∃ p os', Go.Sort.grow (((w.alloc o1).alloc o2).drewN q) os = Go.Sort.grow (w.drewN p) os' :=
  ⟨q, #[o1, o2] ++ os, by
    show ({ w with heap := ((w.heap.push o1).push o2) ++ os, drawn := w.drawn + q } : World) = { w with heap := w.heap ++ (#[o1, o2] ++ os), drawn := w.drawn + q }
    congr 1
    rw [← Array.append_assoc]
    rfl⟩
def Num (x : M) : Prop := 0 ≤ x.at_ ∧ x.at_ ≤ 1000000 ∧ 0 ≤ x.cut ∧ x.cut ≤ 1000000
theorem Small.num {x : M} (h : Small x) : Num x := by unfold Small at h; unfold Num; omega
set_option maxRecDepth 10000 in
set_option maxHeartbeats 2000000 in
theorem clashes_any (x y : M) (A B : Option Addr) (n c m d : Nat) (w : World) (hn : n ≤ 9223372036854775807) (hm : m ≤ 9223372036854775807) (hx : Num x) (hy : Num y) (h : Strs w A n x.put) (k : Strs w B m y.put) :
    Calls Try.prog 96 #[mv x A n c, mv y B m d] w fun e w' => e = .returned (.bool (Mk.clash1 x y)) ∧ Below w.heap.size w w' := by
  have b2 : Below w.heap.size w ((w.alloc (.cells #[.int .i64 x.at_, .int .i64 x.cut, .slice A n c] 58)).alloc (.cells #[.int .i64 y.at_, .int .i64 y.cut, .slice B m d] 58)) :=
    ((Below.refl _ _).alloc (Nat.le_refl _) _).alloc (by simp) _
  have k1 : Blk ((w.alloc (.cells #[.int .i64 x.at_, .int .i64 x.cut, .slice A n c] 58)).alloc (.cells #[.int .i64 y.at_, .int .i64 y.cut, .slice B m d] 58)) w.heap.size 58 #[.int .i64 x.at_, .int .i64 x.cut, .slice A n c] := (Blk.new w 58 _).alloc _
  have k2 : Blk ((w.alloc (.cells #[.int .i64 x.at_, .int .i64 x.cut, .slice A n c] 58)).alloc (.cells #[.int .i64 y.at_, .int .i64 y.cut, .slice B m d] 58)) (w.heap.size + 1) 58 #[.int .i64 y.at_, .int .i64 y.cut, .slice B m d] := by
    have := Blk.new (w.alloc (.cells #[.int .i64 x.at_, .int .i64 x.cut, .slice A n c] 58)) 58 #[.int .i64 y.at_, .int .i64 y.cut, .slice B m d]
    simpa using this
  obtain ⟨u1, u2, u3, u4⟩ := hx
  obtain ⟨v1, v2, v3, v4⟩ := hy
  have hmix := mixed
  have h' := h.below b2
  have k' := k.below b2
  generalize hW : (w.alloc (.cells #[.int .i64 x.at_, .int .i64 x.cut, .slice A n c] 58)).alloc (.cells #[.int .i64 y.at_, .int .i64 y.cut, .slice B m d] 58) = Wx at b2 k1 k2 h' k'
  have HW := Lib.hid hW
  have E0 : ∀ r os, Sem.run Try.prog (loadCellsFrom ⟨w.heap.size, 0, none⟩ 0 3 #[]) (Go.Sort.grow (Wx.drewN r) os) = .ok #[.int .i64 x.at_, .int .i64 x.cut, .slice A n c] (Go.Sort.grow (Wx.drewN r) os) := fun r os => load3 (cell_grown k1.lt (k1.cell 0) r os) (cell_grown k1.lt (k1.cell 1) r os) (cell_grown k1.lt (k1.cell 2) r os)
  have G0 : ∀ r os, Sem.run Try.prog (loadCellsFrom ⟨w.heap.size + 1, 0, none⟩ 0 3 #[]) (Go.Sort.grow (Wx.drewN r) os) = .ok #[.int .i64 y.at_, .int .i64 y.cut, .slice B m d] (Go.Sort.grow (Wx.drewN r) os) := fun r os => load3 (cell_grown k2.lt (k2.cell 0) r os) (cell_grown k2.lt (k2.cell 1) r os) (cell_grown k2.lt (k2.cell 2) r os)
  have E1 : ∀ r os, (Go.Sort.grow (Wx.drewN r) os).cell? ⟨w.heap.size, 0, none⟩ = some (.int .i64 x.at_) := fun r os => cell_grown k1.lt (k1.cell 0) r os
  have E2 : ∀ r os, (Go.Sort.grow (Wx.drewN r) os).cell? ⟨w.heap.size, 1, none⟩ = some (.int .i64 x.cut) := fun r os => cell_grown k1.lt (k1.cell 1) r os
  have E3 : ∀ r os, (Go.Sort.grow (Wx.drewN r) os).cell? ⟨w.heap.size, 2, none⟩ = some (.slice A n c) := fun r os => cell_grown k1.lt (k1.cell 2) r os
  have G1 : ∀ r os, (Go.Sort.grow (Wx.drewN r) os).cell? ⟨w.heap.size + 1, 0, none⟩ = some (.int .i64 y.at_) := fun r os => cell_grown k2.lt (k2.cell 0) r os
  have G2 : ∀ r os, (Go.Sort.grow (Wx.drewN r) os).cell? ⟨w.heap.size + 1, 1, none⟩ = some (.int .i64 y.cut) := fun r os => cell_grown k2.lt (k2.cell 1) r os
  have G3 : ∀ r os, (Go.Sort.grow (Wx.drewN r) os).cell? ⟨w.heap.size + 1, 2, none⟩ = some (.slice B m d) := fun r os => cell_grown k2.lt (k2.cell 2) r os
  have SX := Lib.hid (fun r os => h'.below (below_grow (Below.refl _ _) (Nat.le_refl _) r os))
  have SY := Lib.hid (fun r os => k'.below (below_grow (Below.refl _ _) (Nat.le_refl _) r os))
  have HB := Lib.hid (fun r os => below_grow b2 b2.size r os)
  clear hW b2 k1 k2 h' k' h k
  cases hs : Mk.sameM x y with
  | true =>
    have hr := Lib.hid (show Mk.clash1 x y = false by unfold Mk.clash1; rw [hs]; rfl)
    go_enter Try.func96, Try.ntmps96
    go_wp2_with fail
    rw [HW.out]
    refine wp_region_quiet_grown (by assumption) (by kernel_rfl) ?_
    repeat (go_big_quiet_step (first | (go_at_call 81; refine Calls.grown_of ((isame_m x y A B n c m d _ hn hm (SX.out _ _) (SY.out _ _)).mono fun e w' h => ⟨h.1.trans (ret_bool hs), h.2⟩)) | (go_at_call 92; first | (refine Calls.grown_of ((end_any y B m d _ v1 v2 v3 v4).mono fun e w' h => ⟨h.1, grown_alloc h.2⟩)) | (refine Calls.grown_of ((end_any x A n c _ u1 u2 u3 u4).mono fun e w' h => ⟨h.1, grown_alloc h.2⟩)))))
    refine wpQuiet_nil ?_
    intro _ hw'
    obtain ⟨⟨nq, osq⟩, hw''⟩ := hw'
    subst hw''
    go_wp2_with fail
    go_ret
    exact ⟨ret_bool hr.out.symm, HB.out _ _⟩
  | false =>
    by_cases p1 : x.at_ ≤ y.at_ + y.cut
    · have p1' : decide (x.at_ ≤ y.at_ + y.cut) = true := decide_eq_true p1
      by_cases p2 : y.at_ ≤ x.at_ + x.cut
      · have p2' : decide (y.at_ ≤ x.at_ + x.cut) = true := decide_eq_true p2
        have hr := Lib.hid (show Mk.clash1 x y = true by rw [touch_same p1 p2, hs]; rfl)
        go_enter Try.func96, Try.ntmps96
        go_wp2_with fail
        rw [HW.out]
        refine wp_region_quiet_grown (by assumption) (by kernel_rfl) ?_
        repeat (go_big_quiet_step (first | (go_at_call 81; refine Calls.grown_of ((isame_m x y A B n c m d _ hn hm (SX.out _ _) (SY.out _ _)).mono fun e w' h => ⟨h.1.trans (ret_bool hs), h.2⟩)) | (go_at_call 92; first | (refine Calls.grown_of ((end_any y B m d _ v1 v2 v3 v4).mono fun e w' h => ⟨h.1, grown_alloc h.2⟩)) | (refine Calls.grown_of ((end_any x A n c _ u1 u2 u3 u4).mono fun e w' h => ⟨h.1, grown_alloc h.2⟩)))))
        refine wpQuiet_nil ?_
        intro _ hw'
        obtain ⟨⟨nq, osq⟩, hw''⟩ := hw'
        subst hw''
        go_wp2_with fail
        go_ret
        exact ⟨ret_bool hr.out.symm, HB.out _ _⟩
      · have p2' : decide (y.at_ ≤ x.at_ + x.cut) = false := decide_eq_false p2
        have hr := Lib.hid (no_touch2 p2)
        go_enter Try.func96, Try.ntmps96
        go_wp2_with fail
        rw [HW.out]
        refine wp_region_quiet_grown (by assumption) (by kernel_rfl) ?_
        repeat (go_big_quiet_step (first | (go_at_call 81; refine Calls.grown_of ((isame_m x y A B n c m d _ hn hm (SX.out _ _) (SY.out _ _)).mono fun e w' h => ⟨h.1.trans (ret_bool hs), h.2⟩)) | (go_at_call 92; first | (refine Calls.grown_of ((end_any y B m d _ v1 v2 v3 v4).mono fun e w' h => ⟨h.1, grown_alloc h.2⟩)) | (refine Calls.grown_of ((end_any x A n c _ u1 u2 u3 u4).mono fun e w' h => ⟨h.1, grown_alloc h.2⟩)))))
        refine wpQuiet_nil ?_
        intro _ hw'
        obtain ⟨⟨nq, osq⟩, hw''⟩ := hw'
        subst hw''
        go_wp2_with fail
        go_ret
        exact ⟨ret_bool hr.out.symm, HB.out _ _⟩
    · have p1' : decide (x.at_ ≤ y.at_ + y.cut) = false := decide_eq_false p1
      have hr := Lib.hid (no_touch1 p1)
      go_enter Try.func96, Try.ntmps96
      go_wp2_with fail
      rw [HW.out]
      refine wp_region_quiet_grown (by assumption) (by kernel_rfl) ?_
      repeat (go_big_quiet_step (first | (go_at_call 81; refine Calls.grown_of ((isame_m x y A B n c m d _ hn hm (SX.out _ _) (SY.out _ _)).mono fun e w' h => ⟨h.1.trans (ret_bool hs), h.2⟩)) | (go_at_call 92; first | (refine Calls.grown_of ((end_any y B m d _ v1 v2 v3 v4).mono fun e w' h => ⟨h.1, grown_alloc h.2⟩)) | (refine Calls.grown_of ((end_any x A n c _ u1 u2 u3 u4).mono fun e w' h => ⟨h.1, grown_alloc h.2⟩)))))
      refine wpQuiet_nil ?_
      intro _ hw'
      obtain ⟨⟨nq, osq⟩, hw''⟩ := hw'
      subst hw''
      go_wp2_with fail
      go_ret
      exact ⟨ret_bool hr.out.symm, HB.out _ _⟩

set_option maxHeartbeats 1000000 in
theorem index96_any (A : Option Addr) (n c : Nat) (xs : List M) (x : M) (A0 : Option Addr) (n0 c0 : Nat) (w : World) (hn : n ≤ 1000) (hx : Num x) (hys : ∀ y ∈ xs, Num y) (hn0 : n0 ≤ 9223372036854775807) (h0 : Strs w A0 n0 x.put) (h : Mrks w A n xs) :
    Calls Try.prog 106 #[.slice A n c, .func (.func 96) #[mv x A0 n0 c0] #[]] w fun e w' => (∃ r : Int, e = .returned (.int .i64 r) ∧ -1 ≤ r ∧ r ≤ 1000 ∧ Hid (xs.any (fun y => Mk.clash1 x y) = decide (0 ≤ r))) ∧ Below w.heap.size w w' := by
  have hlen := Lib.hid h.len
  go_enter Try.func106, Try.ntmps106
  go_wp2_with fail
  go_loopw [8] (fun i wr => ∃ j : Nat, j ≤ n ∧ i = .int .i64 j ∧ Hid ((xs.take j).any (fun y => Mk.clash1 x y) = false) ∧ Below w.heap.size w wr) (fun i _ => n - (intOf i).toNat)
  case atStart => exact ⟨0, Nat.zero_le _, rfl, Lib.hid (by simp), Below.refl _ _⟩
  case round =>
    obtain ⟨j, hj, rfl, hO, hbel⟩ := hrel
    by_cases hlt : j < n
    · obtain ⟨b, off, y, rfl, hy, x1, x2, e0, e1, A', n', c', e2, hq⟩ := (h.below hbel).at_ hlt
      have hY := Lib.hid hy
      have hqm := hq.max
      go_wp2_with fail
      refine (clashes_any x y A0 A' n0 c0 n' c' _ hn0 hqm hx (hys y (mem_at hY.out)) (h0.below hbel) hq.1).mono ?_
      rintro e w1 ⟨rfl, hb1⟩
      have hbel1 := Lib.hid (hbel.trans (hb1.mono hbel.size))
      clear hb1 hbel e0 e1 e2 hq hy
      cases hs : Mk.clash1 x y with
      | true =>
        have hN := Lib.hid (any_hit (f := fun y => Mk.clash1 x y) hY.out hs)
        go_wp2_with fail
        go_ret
        exact ⟨⟨_, rfl, by omega, by omega, Lib.hid (by rw [hN.out, decide_eq_true (by omega : (0 : Int) ≤ (j : Int))])⟩, hbel1.out⟩
      | false =>
        have hN := Lib.hid (any_step (f := fun y => Mk.clash1 x y) hY.out hO.out hs)
        go_wp2_with fail
        go_roundw
        case rel => exact ⟨j + 1, by omega, by go_num, hN, hbel1.out⟩
        case measure => simp [intOf]; omega
    · have hN := Lib.hid (any_all hlen.out hlt hO.out)
      go_wp2_with fail
      go_ret
      exact ⟨⟨-1, rfl, by omega, by omega, Lib.hid (by rw [hN.out]; rfl)⟩, hbel⟩
set_option maxHeartbeats 400000 in
theorem contains96_any (A : Option Addr) (n c : Nat) (xs : List M) (x : M) (A0 : Option Addr) (n0 c0 : Nat) (w : World) (hn : n ≤ 1000) (hx : Num x) (hys : ∀ y ∈ xs, Num y) (hn0 : n0 ≤ 9223372036854775807) (h0 : Strs w A0 n0 x.put) (h : Mrks w A n xs) :
    Calls Try.prog 80 #[.slice A n c, .func (.func 96) #[mv x A0 n0 c0] #[]] w fun e w' => e = .returned (.bool (xs.any (fun y => Mk.clash1 x y))) ∧ Below w.heap.size w w' := by
  go_enter Try.func80, Try.ntmps80
  go_wp2_with fail
  refine (index96_any A n c xs x A0 n0 c0 _ hn hx hys hn0 h0 h).mono ?_
  rintro e w1 ⟨⟨r, rfl, r1, r2, hr⟩, hb⟩
  go_wp2_with fail
  go_ret
  exact ⟨ret_bool hr.out.symm, hb⟩

theorem same_below {w w' : World} (h : ∃ q os', w' = Go.Sort.grow (w.drewN q) os') : Below w.heap.size w w' := by
  obtain ⟨q, os, rfl⟩ := h
  exact below_grow (Below.refl _ _) (Nat.le_refl _) q os

set_option maxHeartbeats 1000000 in
theorem index81_any (A : Option Addr) (n c : Nat) (xs : List M) (x : M) (A0 : Option Addr) (n0 c0 : Nat) (w : World) (hn : n ≤ 1000)  (hn0 : n0 ≤ 9223372036854775807) (h0 : Strs w A0 n0 x.put) (h : Mrks w A n xs) :
    Calls Try.prog 106 #[.slice A n c, .func (.func 81) #[mv x A0 n0 c0] #[]] w fun e w' => (∃ r : Int, e = .returned (.int .i64 r) ∧ -1 ≤ r ∧ r ≤ 1000 ∧ Hid (xs.any (fun y => Mk.sameM x y) = decide (0 ≤ r))) ∧ Below w.heap.size w w' := by
  have hlen := Lib.hid h.len
  go_enter Try.func106, Try.ntmps106
  go_wp2_with fail
  go_loopw [8] (fun i wr => ∃ j : Nat, j ≤ n ∧ i = .int .i64 j ∧ Hid ((xs.take j).any (fun y => Mk.sameM x y) = false) ∧ Below w.heap.size w wr) (fun i _ => n - (intOf i).toNat)
  case atStart => exact ⟨0, Nat.zero_le _, rfl, Lib.hid (by simp), Below.refl _ _⟩
  case round =>
    obtain ⟨j, hj, rfl, hO, hbel⟩ := hrel
    by_cases hlt : j < n
    · obtain ⟨b, off, y, rfl, hy, x1, x2, e0, e1, A', n', c', e2, hq⟩ := (h.below hbel).at_ hlt
      have hY := Lib.hid hy
      have hqm := hq.max
      go_wp2_with fail
      refine (isame_m x y A0 A' n0 c0 n' c' _ hn0 hqm  (h0.below hbel) hq.1).mono ?_
      rintro e w1 ⟨rfl, hb1⟩
      have hbel1 := Lib.hid (hbel.trans ((same_below hb1).mono hbel.size))
      clear hb1 hbel e0 e1 e2 hq hy
      cases hs : Mk.sameM x y with
      | true =>
        have hN := Lib.hid (any_hit (f := fun y => Mk.sameM x y) hY.out hs)
        go_wp2_with fail
        go_ret
        exact ⟨⟨_, rfl, by omega, by omega, Lib.hid (by rw [hN.out, decide_eq_true (by omega : (0 : Int) ≤ (j : Int))])⟩, hbel1.out⟩
      | false =>
        have hN := Lib.hid (any_step (f := fun y => Mk.sameM x y) hY.out hO.out hs)
        go_wp2_with fail
        go_roundw
        case rel => exact ⟨j + 1, by omega, by go_num, hN, hbel1.out⟩
        case measure => simp [intOf]; omega
    · have hN := Lib.hid (any_all hlen.out hlt hO.out)
      go_wp2_with fail
      go_ret
      exact ⟨⟨-1, rfl, by omega, by omega, Lib.hid (by rw [hN.out]; rfl)⟩, hbel⟩
set_option maxHeartbeats 400000 in
theorem contains81_any (A : Option Addr) (n c : Nat) (xs : List M) (x : M) (A0 : Option Addr) (n0 c0 : Nat) (w : World) (hn : n ≤ 1000)  (hn0 : n0 ≤ 9223372036854775807) (h0 : Strs w A0 n0 x.put) (h : Mrks w A n xs) :
    Calls Try.prog 80 #[.slice A n c, .func (.func 81) #[mv x A0 n0 c0] #[]] w fun e w' => e = .returned (.bool (xs.any (fun y => Mk.sameM x y))) ∧ Below w.heap.size w w' := by
  go_enter Try.func80, Try.ntmps80
  go_wp2_with fail
  refine (index81_any A n c xs x A0 n0 c0 _ hn  hn0 h0 h).mono ?_
  rintro e w1 ⟨⟨r, rfl, r1, r2, hr⟩, hb⟩
  go_wp2_with fail
  go_ret
  exact ⟨ret_bool hr.out.symm, hb⟩

set_option maxHeartbeats 1000000 in
theorem iclash_any (A B C : Option Addr) (n c m d l e : Nat) (ws : List ByteArray) (xs ys : List M) (w : World) (hn : n ≤ 9223372036854775807) (hm : m ≤ 9223372036854775807) (hl : l ≤ 9223372036854775807) (h : Strs w A n ws) (k : Mrks w B m xs) (q : Mrks w C l ys) :
    Calls Try.prog 56 #[.slice A n c, .slice B m d, .slice C l e] w fun e w' => e = .returned (.bool (clashI ws xs ys)) ∧ Below w.heap.size w w' := by
  have l2 := Lib.hid k.len
  have l3 := Lib.hid q.len
  cases h1 : valid ws xs with
  | false =>
    have hr := Lib.hid (show clashI ws xs ys = false by unfold clashI; rw [h1]; rfl)
    go_enter Try.func56, Try.ntmps56
    go_wp2_with fail
    refine (ivalidm_any A B n c m d ws xs _ hn hm h k).mono ?_
    rintro e W ⟨rfl, hb⟩
    rw [h1]
    go_wp2_with fail
    go_ret
    exact ⟨ret_bool hr.out.symm, hb⟩
  | true =>
    cases h2 : valid ws ys with
    | false =>
      have hr := Lib.hid (show clashI ws xs ys = false by unfold clashI; rw [h1, h2]; rfl)
      go_enter Try.func56, Try.ntmps56
      go_wp2_with fail
      refine (ivalidm_any A B n c m d ws xs _ hn hm h k).mono ?_
      rintro e W ⟨rfl, hb⟩
      rw [h1]
      go_wp2_with fail
      refine (ivalidm_any A C n c l e ws ys _ hn hl (h.below hb) (q.below hb)).mono ?_
      rintro e W2 ⟨rfl, hb2⟩
      rw [h2]
      have hb3 := hb.trans (hb2.mono hb.size)
      go_wp2_with fail
      go_ret
      exact ⟨ret_bool hr.out.symm, hb3⟩
    | true =>
      have hr := Lib.hid (show clashI ws xs ys = clash xs ys by unfold clashI; rw [h1, h2]; rfl)
      have v1 := Lib.hid (small_of h1)
      have v2 := Lib.hid (small_of h2)
      have hm20 : m ≤ 20 := by rw [← l2.out]; exact (Mk.valid_parts wok h1).2.1
      have hl20 : l ≤ 20 := by rw [← l3.out]; exact (Mk.valid_parts wok h2).2.1
      go_enter Try.func56, Try.ntmps56
      go_wp2_with fail
      refine (ivalidm_any A B n c m d ws xs _ hn hm h k).mono ?_
      rintro e W ⟨rfl, hb⟩
      rw [h1]
      go_wp2_with fail
      refine (ivalidm_any A C n c l e ws ys _ hn hl (h.below hb) (q.below hb)).mono ?_
      rintro e W2 ⟨rfl, hb2⟩
      rw [h2]
      have hb3 := hb.trans (hb2.mono hb.size)
      clear h1 h2
      go_wp2_with fail
      go_loopw [21] (fun i wr => ∃ p : Nat, p ≤ m ∧ i = .int .i64 p ∧ Hid ((xs.take p).any (fun x => ys.any fun y => Mk.clash1 x y) = false) ∧ Below w.heap.size w wr) (fun i _ => m - (intOf i).toNat)
      case atStart => exact ⟨0, Nat.zero_le _, rfl, Lib.hid (by simp), hb3⟩
      case round =>
        obtain ⟨p, hp, rfl, hO, hbel⟩ := hrel
        by_cases hlt : p < m
        · obtain ⟨b, off, x, rfl, hx, x1, x2, c0, c1, A', n', c', c2, hq⟩ := (k.below hbel).at_ hlt
          have hX := Lib.hid hx
          have hqm := hq.max
          have hbx : Below w.heap.size w (wr.alloc (.cells #[.int .i64 x.at_, .int .i64 x.cut, .slice A' n' c'] 58)) := hbel.alloc hbel.size _
          have hq' : Strs (wr.alloc (.cells #[.int .i64 x.at_, .int .i64 x.cut, .slice A' n' c'] 58)) A' n' x.put := hq.1.alloc _
          clear hx hq
          go_wp2_with fail
          refine (contains96_any C l e ys x A' n' c' _ (by omega) (v1.out x (mem_at hX.out)).num (fun y hy => (v2.out y hy).num) hqm hq' (q.below hbx)).mono ?_
          rintro e w1 ⟨rfl, hb4⟩
          have hbel1 := Lib.hid (hbx.trans (hb4.mono hbx.size))
          clear hb4 hbel hbx hq' c0 c1 c2
          cases hs : ys.any (fun y => Mk.clash1 x y) with
          | true =>
            have hN := Lib.hid (show clash xs ys = true from any_hit (f := fun x => ys.any fun y => Mk.clash1 x y) hX.out hs)
            go_wp2_with fail
            go_ret
            exact ⟨ret_bool (by rw [hr.out, hN.out]), hbel1.out⟩
          | false =>
            have hN := Lib.hid (any_step (f := fun x => ys.any fun y => Mk.clash1 x y) hX.out hO.out hs)
            go_wp2_with fail
            go_roundw
            case rel => exact ⟨p + 1, by omega, by go_num, hN, hbel1.out⟩
            case measure => simp [intOf]; omega
        · have hN : Hid (clash xs ys = false) := Lib.hid (any_all l2.out hlt hO.out)
          go_wp2_with fail
          go_ret
          exact ⟨ret_bool (by rw [hr.out, hN.out]), hbel⟩

end Go.Proofs.Ytjhlcgjhdiheaaa
