/- The statements' helpers for lists of marks, third part: compared. -/
import Derived.Test.YtjhlcgjhdiheaaaDoorH2
import Derived.Deep.RegionWith
import Derived.Test.YtjhlcgjhdiheaaaDoorPla
namespace Go.Proofs.YtjhlcgjhdiheaaaDoor
open Go.RowKit
set_option linter.unusedVariables false
set_option linter.unusedSimpArgs false

theorem same_no_at {x y : M} (h : x.at_ ≠ y.at_) : Mk.sameM x y = false := by simp [Mk.sameM, h]
theorem same_no_cut {x y : M} (h : x.cut ≠ y.cut) : Mk.sameM x y = false := by simp [Mk.sameM, h]
theorem same_put {x y : M} (h1 : x.at_ = y.at_) (h2 : x.cut = y.cut) : Mk.sameM x y = decide (x.put = y.put) := by simp [Mk.sameM, h1, h2]

set_option maxHeartbeats 400000 in
theorem eqmark_any (x y : M) (A B : Option Addr) (n c m d : Nat) (w : World) (hn : n ≤ 1048576) (hm : m ≤ 1048576) (h : Strs w A n x.put) (k : Strs w B m y.put) :
    Calls Tryd.prog 28 #[.agg #[.int .i64 x.at_, .int .i64 x.cut, .slice A n c], .agg #[.int .i64 y.at_, .int .i64 y.cut, .slice B m d]] w fun e w' => e = .returned (.bool (Mk.sameM x y)) ∧ Below w.heap.size w w' := by
  have b2 : Below w.heap.size w ((w.alloc (.cells #[.int .i64 x.at_, .int .i64 x.cut, .slice A n c] 46)).alloc (.cells #[.int .i64 y.at_, .int .i64 y.cut, .slice B m d] 46)) :=
    ((Below.refl _ _).alloc (Nat.le_refl _) _).alloc (by simp) _
  by_cases h1 : x.at_ = y.at_
  · by_cases h2 : x.cut = y.cut
    · have hs := Lib.hid (same_put h1 h2)
      have e1 : (x.at_ != y.at_) = false := by simp [h1]
      have e2 : (x.cut != y.cut) = false := by simp [h2]
      clear h1 h2
      go_enter Tryd.func28, Tryd.ntmps28
      go_wp2_with fail
      refine (eq_any A B n c m d x.put y.put _ hn hm (h.below b2) (k.below b2)).mono ?_
      rintro e w1 ⟨rfl, hb⟩
      have b3 := b2.trans (hb.mono (by simp; omega))
      cases hd : decide (x.put = y.put) with
      | true =>
        go_wp2
        go_ret
        exact ⟨ret_bool (by rw [hs.out, hd]), b3⟩
      | false =>
        go_wp2
        go_ret
        exact ⟨ret_bool (by rw [hs.out, hd]), b3⟩
    · have hs := Lib.hid (same_no_cut h2)
      have e1 : (x.at_ != y.at_) = false := by simp [h1]
      have e2 : (x.cut != y.cut) = true := by simp [h2]
      clear h1 h2
      go_enter Tryd.func28, Tryd.ntmps28
      go_wp2
      go_ret
      exact ⟨ret_bool (by rw [hs.out]), b2⟩
  · have hs := Lib.hid (same_no_at h1)
    have e1 : (x.at_ != y.at_) = true := by simp [h1]
    clear h1
    go_enter Tryd.func28, Tryd.ntmps28
    go_wp2
    go_ret
    exact ⟨ret_bool (by rw [hs.out]), b2⟩
/-- two lists of marks are equal -/
def eqMs (xs ys : List M) : Bool := decide (xs.length = ys.length) && (xs.zip ys).all fun p => Mk.sameM p.1 p.2
theorem eqMs_self (xs : List M) : eqMs xs xs = true := by
  unfold eqMs
  simp only [decide_true, Bool.true_and]
  rw [List.all_eq_true]
  intro p hp
  induction xs with
  | nil => simp at hp
  | cons x xs ih =>
    rw [List.zip_cons_cons] at hp
    rcases List.mem_cons.1 hp with rfl | h
    · exact Mk.sameM_self _
    · exact ih h
theorem eqMs_ne {xs ys : List M} (h : xs ≠ ys) : eqMs xs ys = false := by
  cases he : eqMs xs ys with
  | false => rfl
  | true =>
    exfalso
    unfold eqMs at he
    rw [Bool.and_eq_true, decide_eq_true_eq, List.all_eq_true] at he
    refine h (List.ext_getElem? fun i => ?_)
    rcases Nat.lt_or_ge i xs.length with hi | hi
    · have hj : i < ys.length := by omega
      have hz : (xs.zip ys)[i]? = some (xs[i], ys[i]) := by
        rw [List.getElem?_eq_getElem (by rw [List.length_zip]; omega)]; simp
      have := (Mk.sameM_iff _ _).1 (he.2 _ (mem_at hz))
      rw [List.getElem?_eq_getElem hi, List.getElem?_eq_getElem hj]
      exact congrArg some this
    · rw [List.getElem?_eq_none hi, List.getElem?_eq_none (by omega)]
theorem eqMs_iff (xs ys : List M) : eqMs xs ys = true ↔ xs = ys := by
  constructor
  · intro h
    apply Classical.byContradiction
    intro hn
    rw [eqMs_ne hn] at h
    cases h
  · rintro rfl; exact eqMs_self xs

set_option maxHeartbeats 1000000 in
theorem eqm_any (A B : Option Addr) (n c m d : Nat) (xs ys : List M) (w : World) (hn : n ≤ 1048576) (hm : m ≤ 1048576) (hB : ∀ x ∈ xs, x.put.length ≤ 1048576) (hD : ∀ y ∈ ys, y.put.length ≤ 1048576) (h : Mrks w A n xs) (k : Mrks w B m ys) :
    Calls Tryd.prog 15 #[.slice A n c, .slice B m d] w fun e w' => e = .returned (.bool (eqMs xs ys)) ∧ Below w.heap.size w w' := by
  have hlen := Lib.hid h.len
  have hlen2 := Lib.hid k.len
  by_cases hnm : n = m
  · subst hnm
    go_enter Tryd.func15, Tryd.ntmps15
    go_wp2
    go_loopw [5] (fun i wr => ∃ j : Nat, j ≤ n ∧ i = .int .i64 j ∧ Hid (xs.take j = ys.take j) ∧ Below w.heap.size w wr) (fun i _ => n - (intOf i).toNat)
    case atStart => exact ⟨0, Nat.zero_le _, rfl, Lib.hid rfl, Below.refl _ _⟩
    case round =>
      obtain ⟨j, hj, rfl, heq, hbel⟩ := hrel
      by_cases hlt : j < n
      · obtain ⟨b, off, x, rfl, hx, x1, x2, c0, c1, A', n', c', c2, hp⟩ := (h.below hbel).at_ hlt
        obtain ⟨b2, off2, y, rfl, hy, y1, y2, d0, d1, B', m', d', d2, hq⟩ := (k.below hbel).at_ hlt
        have hX := Lib.hid hx
        have hY := Lib.hid hy
        have l1 : n' ≤ 1048576 := by have := hB x (mem_at hx); have := hp.len; omega
        have l2 : m' ≤ 1048576 := by have := hD y (mem_at hy); have := hq.len; omega
        clear hx hy
        have i1 : (0 : Int) ≤ (j : Int) := by omega
        have i2 : (j : Int) < (n : Int) := by omega
        cases hs : Mk.sameM x y with
        | true =>
          have hE := Lib.hid ((Mk.sameM_iff x y).1 hs)
          go_wp2_with fail
          go_region_with (go_at_call 28; refine (eqmark_any x y A' B' n' c' m' d' wr.drew l1 l2 hp.1 hq.1).mono ?_; rintro e w1 ⟨rfl, hb1⟩)
          all_goals
            have hbel1 : Below w.heap.size w w1 := (below_drewN hbel 1).trans (hb1.mono hbel.size)
            clear hb1 hbel hp hq c0 c1 c2 d0 d1 d2
            go_wp2_with fail
            go_roundw
            case rel => exact ⟨j + 1, by omega, by go_num, Lib.hid (by rw [take_snoc hX.out, take_snoc hY.out, heq.out, hE.out]), hbel1⟩
            case measure => simp [intOf]; omega
        | false =>
          have hne : xs ≠ ys := by
            rintro rfl
            have := hX.out.symm.trans hY.out
            injection this with this
            rw [this, Mk.sameM_self] at hs
            cases hs
          have hN := Lib.hid (eqMs_ne hne)
          clear hne
          go_wp2_with fail
          go_region_with (go_at_call 28; refine (eqmark_any x y A' B' n' c' m' d' wr.drew l1 l2 hp.1 hq.1).mono ?_; rintro e w1 ⟨rfl, hb1⟩)
          all_goals
            have hbel1 : Below w.heap.size w w1 := (below_drewN hbel 1).trans (hb1.mono hbel.size)
            clear hb1 hbel hp hq c0 c1 c2 d0 d1 d2
            go_wp2_with fail
            go_ret
            exact ⟨ret_bool (by rw [hN.out]), hbel1⟩
      · have he : xs = ys := by
          have := heq.out
          rwa [List.take_of_length_le (by rw [hlen.out]; omega), List.take_of_length_le (by rw [hlen2.out]; omega)] at this
        have hN := Lib.hid ((eqMs_iff xs ys).2 he)
        clear he
        go_wp2
        go_ret
        exact ⟨ret_bool (by rw [hN.out]), hbel⟩
  · have hb : ((n : Int) != (m : Int)) = true := by simp; omega
    have hne : xs ≠ ys := by rintro rfl; exact hnm (hlen.out.symm.trans hlen2.out)
    have hN := Lib.hid (eqMs_ne hne)
    clear hne
    go_enter Tryd.func15, Tryd.ntmps15
    go_wp2
    go_ret
    exact ⟨ret_bool (by rw [hN.out]), Below.refl _ _⟩
end Go.Proofs.YtjhlcgjhdiheaaaDoor

