/- MarksClash of the reference. -/
import Derived.Test.YtjhlcgjhdiheaaaSame
namespace Go.Proofs.Ytjhlcgjhdiheaaa
open Go.RowKit
set_option linter.unusedVariables false
set_option linter.unusedSimpArgs false

/-- small numbers -/
def Small (x : M) : Prop := 0 ≤ x.at_ ∧ x.at_ ≤ 20 ∧ 0 ≤ x.cut ∧ x.cut ≤ 20 ∧ x.put.length ≤ 20
theorem small_of {ws : List ByteArray} {ms : List M} (h : valid ws ms = true) : ∀ x ∈ ms, Small x := fun x hx => by
  have := fit_of h hx
  unfold Small
  omega
theorem any_step {xs : List M} {k : Nat} {x : M} {f : M → Bool} (hx : xs[k]? = some x) (h : (xs.take k).any f = false) (h2 : f x = false) : (xs.take (k + 1)).any f = false := by
  rw [take_snoc hx, List.any_append, h]; simp [h2]
theorem any_hit {xs : List M} {k : Nat} {x : M} {f : M → Bool} (hx : xs[k]? = some x) (h2 : f x = true) : xs.any f = true := List.any_eq_true.2 ⟨x, mem_at hx, h2⟩
theorem any_all {xs : List M} {k n : Nat} {f : M → Bool} (hn : xs.length = n) (hk : ¬ k < n) (h : (xs.take k).any f = false) : xs.any f = false := by rwa [List.take_of_length_le (by omega)] at h
abbrev clash (xs ys : List M) : Bool := Mk.clashL xs ys
theorem no_touch1 {x y : M} (h : ¬ x.at_ ≤ y.at_ + y.cut) : Mk.clash1 x y = false := by unfold Mk.clash1 Mk.touch; rw [decide_eq_false h]; simp
theorem no_touch2 {x y : M} (h : ¬ y.at_ ≤ x.at_ + x.cut) : Mk.clash1 x y = false := by unfold Mk.clash1 Mk.touch; rw [decide_eq_false h]; simp
theorem touch_same {x y : M} (h1 : x.at_ ≤ y.at_ + y.cut) (h2 : y.at_ ≤ x.at_ + x.cut) : Mk.clash1 x y = !Mk.sameM x y := by unfold Mk.clash1 Mk.touch; rw [decide_eq_true h1, decide_eq_true h2]; simp

set_option maxHeartbeats 2000000 in
theorem l7clash_any (A B : Option Addr) (n c m d : Nat) (xs ys : List M) (w : World) (hn : n ≤ 20) (hm : m ≤ 20) (hxs : ∀ x ∈ xs, Small x) (hys : ∀ y ∈ ys, Small y) (h : Mrks w A n xs) (k : Mrks w B m ys) :
    Calls Try.prog 75 #[.slice A n c, .slice B m d] w fun e w' => e = .returned (.bool (clash xs ys)) ∧ Below w.heap.size w w' := by
  have hlen := Lib.hid h.len
  have hlen2 := Lib.hid k.len
  have hXS := Lib.hid hxs
  have hYS := Lib.hid hys
  clear hxs hys
  go_enter Try.func75, Try.ntmps75
  go_wp2_with fail
  go_loopw [5] (fun i wr => ∃ p : Nat, p ≤ n ∧ i = .int .i64 p ∧ Hid ((xs.take p).any (fun x => ys.any fun y => Mk.clash1 x y) = false) ∧ Below w.heap.size w wr) (fun i _ => n - (intOf i).toNat)
  case atStart => exact ⟨0, Nat.zero_le _, rfl, Lib.hid (by simp), Below.refl _ _⟩
  case round =>
    obtain ⟨p, hp, rfl, hO, hbel⟩ := hrel
    by_cases hlt : p < n
    · obtain ⟨b, off, x, rfl, hx, x1, x2, c0, c1, A', n', c', c2, hq⟩ := h.at_ hlt
      have hX := Lib.hid hx
      obtain ⟨s1, s2, s3, s4, s5⟩ := hXS.out x (mem_at hx)
      have l1 : n' ≤ 20 := by rw [← hq.len]; exact s5
      clear hx
      go_wp2_with fail
      go_loopw [6, 7] (fun i _ wr => ∃ q : Nat, q ≤ m ∧ i = .int .i64 q ∧ Hid ((ys.take q).any (fun y => Mk.clash1 x y) = false) ∧ Below w.heap.size w wr) (fun i _ _ => m - (intOf i).toNat)
      case atStart => exact ⟨0, Nat.zero_le _, rfl, Lib.hid (by simp), hbel⟩
      case round =>
        clear hbel
        obtain ⟨q, hqm, rfl, hI, hbel⟩ := hrel
        by_cases hlt2 : q < m
        · obtain ⟨b2, off2, y, rfl, hy, y1, y2, d0, d1, B', m', d', d2, hr⟩ := k.at_ hlt2
          have hY := Lib.hid hy
          obtain ⟨t1, t2, t3, t4, t5⟩ := hYS.out y (mem_at hy)
          have l2 : m' ≤ 20 := by rw [← hr.len]; exact t5
          clear hy
          have i1 : (0 : Int) ≤ (p : Int) := by omega
          have i2 : (p : Int) < (n : Int) := by omega
          have i3 : (0 : Int) ≤ (q : Int) := by omega
          have i4 : (q : Int) < (m : Int) := by omega
          have w1 : IntKind.i64.wrap (y.at_ + y.cut) = y.at_ + y.cut := IntWalk.i64_in _ (by omega)
          have w2 : IntKind.i64.wrap (x.at_ + x.cut) = x.at_ + x.cut := IntWalk.i64_in _ (by omega)
          have e0 := (hbel.cell (lt_of_cell c0)).trans c0
          have e1 := (hbel.cell (lt_of_cell c1)).trans c1
          have e2 := (hbel.cell (lt_of_cell c2)).trans c2
          have g0 := (hbel.cell (lt_of_cell d0)).trans d0
          have g1 := (hbel.cell (lt_of_cell d1)).trans d1
          have g2 := (hbel.cell (lt_of_cell d2)).trans d2
          have hxW := hq.1.below hbel
          have hyW := hr.1.below hbel
          by_cases p1 : x.at_ ≤ y.at_ + y.cut
          rotate_left
          · have hN := Lib.hid (any_step hY.out hI.out (no_touch1 p1))
            have p1' : decide (x.at_ ≤ y.at_ + y.cut) = false := decide_eq_false p1
            go_wp2_with fail
            go_quiet (fail)
            go_wp2_with fail
            go_quiet (fail)
            go_wp2_with fail
            go_roundw
            case rel => exact ⟨q + 1, by omega, by go_num, hN, below_drewN hbel _⟩
            case measure => simp [intOf]; omega
          by_cases p2 : y.at_ ≤ x.at_ + x.cut
          rotate_left
          · have hN := Lib.hid (any_step hY.out hI.out (no_touch2 p2))
            have p1' : decide (x.at_ ≤ y.at_ + y.cut) = true := decide_eq_true p1
            have p2' : decide (y.at_ ≤ x.at_ + x.cut) = false := decide_eq_false p2
            go_wp2_with fail
            go_quiet (fail)
            go_wp2_with fail
            go_quiet (fail)
            go_wp2_with fail
            go_roundw
            case rel => exact ⟨q + 1, by omega, by go_num, hN, below_drewN hbel _⟩
            case measure => simp [intOf]; omega
          have p1' : decide (x.at_ ≤ y.at_ + y.cut) = true := decide_eq_true p1
          have p2' : decide (y.at_ ≤ x.at_ + x.cut) = true := decide_eq_true p2
          have hcl := Lib.hid (touch_same p1 p2)
          go_wp2_with fail
          go_quiet (fail)
          go_wp2_with fail
          have hb2 : Below w.heap.size w (wr.drewN nq) := below_drewN hbel _
          have E0 : ∀ r os, Sem.run Try.prog (loadCellsFrom ⟨b, off + p * 3, none⟩ 0 3 #[]) (Go.Sort.grow ((wr.drewN nq).drewN r) os) = .ok #[.int .i64 x.at_, .int .i64 x.cut, .slice A' n' c'] (Go.Sort.grow ((wr.drewN nq).drewN r) os) := fun r os => load3 (cell_grown (w := wr.drewN nq) (lt_of_cell e0) e0 r os) (cell_grown (w := wr.drewN nq) (lt_of_cell e1) e1 r os) (cell_grown (w := wr.drewN nq) (lt_of_cell e2) e2 r os)
          have G0 : ∀ r os, Sem.run Try.prog (loadCellsFrom ⟨b2, off2 + q * 3, none⟩ 0 3 #[]) (Go.Sort.grow ((wr.drewN nq).drewN r) os) = .ok #[.int .i64 y.at_, .int .i64 y.cut, .slice B' m' d'] (Go.Sort.grow ((wr.drewN nq).drewN r) os) := fun r os => load3 (cell_grown (w := wr.drewN nq) (lt_of_cell g0) g0 r os) (cell_grown (w := wr.drewN nq) (lt_of_cell g1) g1 r os) (cell_grown (w := wr.drewN nq) (lt_of_cell g2) g2 r os)
          have E1 := fun r os => cell_grown (w := wr.drewN nq) (lt_of_cell e0) e0 r os
          have E2 := fun r os => cell_grown (w := wr.drewN nq) (lt_of_cell e1) e1 r os
          have E3 := fun r os => cell_grown (w := wr.drewN nq) (lt_of_cell e2) e2 r os
          have G1 := fun r os => cell_grown (w := wr.drewN nq) (lt_of_cell g0) g0 r os
          have G2 := fun r os => cell_grown (w := wr.drewN nq) (lt_of_cell g1) g1 r os
          have G3 := fun r os => cell_grown (w := wr.drewN nq) (lt_of_cell g2) g2 r os
          have SX := Lib.hid (fun r os => (show Strs (wr.drewN nq) A' n' x.put from hxW).below (below_grow (Below.refl _ _) (Nat.le_refl _) r os))
          have SY := Lib.hid (fun r os => (show Strs (wr.drewN nq) B' m' y.put from hyW).below (below_grow (Below.refl _ _) (Nat.le_refl _) r os))
          have HB := Lib.hid (fun r os => below_grow hb2 hb2.size r os)
          have hmix := mixed
          clear hxW hyW e0 e1 e2 g0 g1 g2 hbel hb2 hq hr c0 c1 c2 d0 d1 d2 w1 w2
          generalize wr.drewN nq = Wx at *
          cases hs : Mk.sameM x y with
          | true =>
            have hN := Lib.hid (any_step hY.out hI.out (by rw [hcl.out, hs]; rfl))
            refine wp_region_quiet_grown (by assumption) (by kernel_rfl) ?_
            repeat (go_big_quiet_step (first | (go_at_call 76; refine Calls.grown_of ((l7same_any x y A' B' n' c' m' d' _ (by omega) (by omega) (SX.out _ _) (SY.out _ _)).mono fun e w' h => ⟨h.1.trans (ret_bool hs), h.2⟩))))
            refine wpQuiet_nil ?_
            intro _ hw'
            obtain ⟨⟨nq, osq⟩, hw''⟩ := hw'
            subst hw''
            go_wp2_with fail
            go_roundw
            case rel => exact ⟨q + 1, by omega, by go_num, hN, HB.out _ _⟩
            case measure => simp [intOf]; omega
          | false =>
            have hN : Hid (clash xs ys = true) := Lib.hid (any_hit hX.out (any_hit hY.out (by rw [hcl.out, hs]; rfl)))
            refine wp_region_quiet_grown (by assumption) (by kernel_rfl) ?_
            repeat (go_big_quiet_step (first | (go_at_call 76; refine Calls.grown_of ((l7same_any x y A' B' n' c' m' d' _ (by omega) (by omega) (SX.out _ _) (SY.out _ _)).mono fun e w' h => ⟨h.1.trans (ret_bool hs), h.2⟩))))
            refine wpQuiet_nil ?_
            intro _ hw'
            obtain ⟨⟨nq, osq⟩, hw''⟩ := hw'
            subst hw''
            go_wp2_with fail
            go_ret
            exact ⟨ret_bool hN.out.symm, HB.out _ _⟩
        · have hI2 := any_all hlen2.out hlt2 hI.out
          have hN := Lib.hid (any_step (f := fun x => ys.any fun y => Mk.clash1 x y) hX.out hO.out hI2)
          clear hI2
          go_wp2_with fail
          first | exact ⟨⟨p + 1, by omega, by go_num, hN, hbel⟩, by simp [intOf]; omega⟩ | (go_roundw; (case rel => exact ⟨p + 1, by omega, by go_num, hN, hbel⟩); (case measure => simp [intOf]; omega))
    · have hN : Hid (clash xs ys = false) := Lib.hid (any_all hlen.out hlt hO.out)
      go_wp2_with fail
      go_ret
      exact ⟨ret_bool hN.out.symm, hbel⟩

def clashI (ws : List ByteArray) (xs ys : List M) : Bool := valid ws xs && valid ws ys && clash xs ys
set_option maxHeartbeats 400000 in
theorem sclash_any (A B C : Option Addr) (n c m d l e : Nat) (ws : List ByteArray) (xs ys : List M) (w : World) (hn : n ≤ 9223372036854775807) (hm : m ≤ 9223372036854775807) (hl : l ≤ 9223372036854775807) (h : Strs w A n ws) (k : Mrks w B m xs) (q : Mrks w C l ys) :
    Calls Try.prog 55 #[.slice A n c, .slice B m d, .slice C l e] w fun e w' => e = .returned (.bool (clashI ws xs ys)) ∧ Below w.heap.size w w' := by
  have l2 := Lib.hid k.len
  have l3 := Lib.hid q.len
  cases h1 : valid ws xs with
  | false =>
    have hr := Lib.hid (show clashI ws xs ys = false by unfold clashI; rw [h1]; rfl)
    go_enter Try.func55, Try.ntmps55
    go_wp2_with fail
    refine (svalidm_any A B n c m d ws xs _ hn hm h k).mono ?_
    rintro e W ⟨rfl, hb⟩
    rw [h1]
    go_wp2_with fail
    go_ret
    exact ⟨ret_bool hr.out.symm, hb⟩
  | true =>
    cases h2 : valid ws ys with
    | false =>
      have hr := Lib.hid (show clashI ws xs ys = false by unfold clashI; rw [h1, h2]; rfl)
      go_enter Try.func55, Try.ntmps55
      go_wp2_with fail
      refine (svalidm_any A B n c m d ws xs _ hn hm h k).mono ?_
      rintro e W ⟨rfl, hb⟩
      rw [h1]
      go_wp2_with fail
      refine (svalidm_any A C n c l e ws ys _ hn hl (h.below hb) (q.below hb)).mono ?_
      rintro e W2 ⟨rfl, hb2⟩
      rw [h2]
      have hb3 := hb.trans (hb2.mono hb.size)
      go_wp2_with fail
      go_ret
      exact ⟨ret_bool hr.out.symm, hb3⟩
    | true =>
      have hr := Lib.hid (show clashI ws xs ys = clash xs ys by unfold clashI; rw [h1, h2]; rfl)
      have v1 := Lib.hid h1
      have v2 := Lib.hid h2
      have hm20 : m ≤ 20 := by rw [← l2.out]; exact (Mk.valid_parts wok h1).2.1
      have hl20 : l ≤ 20 := by rw [← l3.out]; exact (Mk.valid_parts wok h2).2.1
      go_enter Try.func55, Try.ntmps55
      go_wp2_with fail
      refine (svalidm_any A B n c m d ws xs _ hn hm h k).mono ?_
      rintro e W ⟨rfl, hb⟩
      rw [h1]
      go_wp2_with fail
      refine (svalidm_any A C n c l e ws ys _ hn hl (h.below hb) (q.below hb)).mono ?_
      rintro e W2 ⟨rfl, hb2⟩
      rw [h2]
      have hb3 := hb.trans (hb2.mono hb.size)
      go_wp2_with fail
      refine (l7clash_any B C m d l e xs ys _ hm20 hl20 (small_of v1.out) (small_of v2.out) (k.below hb3) (q.below hb3)).mono ?_
      rintro e W3 ⟨rfl, hb4⟩
      have hb5 := hb3.trans (hb4.mono hb3.size)
      go_wp2_with fail
      go_ret
      exact ⟨ret_bool hr.out.symm, hb5⟩
end Go.Proofs.Ytjhlcgjhdiheaaa
