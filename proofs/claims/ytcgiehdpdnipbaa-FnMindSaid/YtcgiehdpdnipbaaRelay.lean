/- RelayLost and RelayTurn, of the program and of the reference: what they return. -/
import Derived.Test.YtcgiehdpdnipbaaMarkB
namespace Go.Proofs.Ytcgiehdpdnipbaa
open Go.RowKit
set_option linter.unusedVariables false

theorem Talk.relay_no {xs : List Int} {r h t : Int} (e : Talk.relayOk xs r h t = false) : Talk.relay xs r h t = -1 := by simp [Talk.relay, e]
theorem Talk.relay_yes {xs : List Int} {r h t : Int} (e : Talk.relayOk xs r h t = true) : Talk.relay xs r h t = Talk.lostF r h 0 (Talk.heard xs 0 t) + Talk.lostF r h 0 (Talk.heard xs 1 t) := by simp [Talk.relay, e]
theorem heard_ok {xs : List Int} {t : Int} (h1 : Talk.valid xs = true) (h2 : Talk.inB 1 30 t = true) (p : Int) (hp : p = 0 ∨ p = 1) : Talk.heardOk xs p t = true := by
  unfold Talk.heardOk; rw [h1, h2]
  rcases hp with rfl | rfl <;> rfl
theorem heard_list {xs : List Int} {p t : Int} (h : Talk.heardOk xs p t = true) : heardL xs p t = Talk.heard xs p t := by unfold heardL; rw [if_pos h]
theorem heard_lost {xs : List Int} {r h t : Int} (hok : Talk.ok xs r h = true) (p : Int) : Talk.lost (Talk.heard xs p t) r h = Talk.lostF r h 0 (Talk.heard xs p t) := by
  obtain ⟨hv, hr, hh⟩ := Talk.ok_parts hok
  exact Talk.lost_yes (Talk.ok_mk (Talk.hear_valid _ _ hv 0) hr hh)
theorem heard_bd {xs : List Int} {r h t : Int} (hok : Talk.ok xs r h = true) (p : Int) : 0 ≤ Talk.lostF r h 0 (Talk.heard xs p t) ∧ Talk.lostF r h 0 (Talk.heard xs p t) ≤ 300 := by
  obtain ⟨hv, hr, hh⟩ := Talk.ok_parts hok
  have hv' := Talk.hear_valid t.toNat p hv 0
  have h1 := Talk.lostF_nonneg r h (Talk.heard xs p t) 0
  have h2 := Talk.lostF_le_sum (r := r) (h := h) (by omega) hh.1 (Talk.valid_all hv')
  have h3 := (Talk.sum_bd (Talk.valid_all hv')).2
  have h4 := Talk.valid_len hv'
  unfold Talk.heard at *
  omega

set_option maxHeartbeats 400000 in
theorem srelay_any (A : Option Addr) (n c : Nat) (xs : List Int) (r h t : Int) (w : World) (hm : n ≤ 1048576) (hi : Ints w A n xs) :
    Calls Try.prog 57 #[.slice A n c, .int .i64 r, .int .i64 h, .int .i64 t] w (IntPost w (Talk.relay xs r h t)) := by
  have hlen := Lib.hid hi.len
  by_cases hH : Talk.valid xs = true ∧ Talk.inB 1 30 t = true
  · have h0 := heard_ok hH.1 hH.2 0 (.inl rfl)
    have h1 := heard_ok hH.1 hH.2 1 (.inr rfl)
    have hH2 := Lib.hid hH.2
    have l0 := Lib.hid (heard_list h0)
    have l1 := Lib.hid (heard_list h1)
    clear hH
    go_enter Try.func57, Try.ntmps57
    go_wp2_with fail
    refine (sheard_any A n c xs 0 t _ hm hi).mono ?_
    rw [h0, l0.out]
    rintro e w1 ⟨A1, n1, c1, rfl, o1, b1⟩
    go_wp2_with fail
    refine (sheard_any A n c xs 1 t _ hm (hi.below b1)).mono ?_
    rw [h1, l1.out]
    rintro e w2 ⟨A2, n2, c2, rfl, o2, b2⟩
    have b12 := Below.next b1 b2
    have hn1 : n1 ≤ 1048576 := by have := o1.len; unfold Talk.heard at this; rw [Talk.hear_len, hlen.out] at this; omega
    have hn2 : n2 ≤ 1048576 := by have := o2.len; unfold Talk.heard at this; rw [Talk.hear_len, hlen.out] at this; omega
    cases hok : Talk.ok xs r h with
    | false =>
      have hs := Lib.hid (Talk.relay_no (xs := xs) (r := r) (h := h) (t := t) (by unfold Talk.relayOk; rw [hok]; rfl))
      go_wp2_with (go_at_call 80; refine (ok_any A n c xs r h _ hm (hi.below b12)).mono ?_; rintro e w' ⟨rfl, rfl⟩)
      go_ret
      exact ⟨ret_int hs.out.symm, b12⟩
    | true =>
      have hs := Lib.hid (Talk.relay_yes (xs := xs) (r := r) (h := h) (t := t) (by unfold Talk.relayOk; rw [hok, hH2.out]; rfl))
      have e0 := Lib.hid (heard_lost (t := t) hok 0)
      have e1 := Lib.hid (heard_lost (t := t) hok 1)
      obtain ⟨m0, m1⟩ := heard_bd (t := t) hok 0
      obtain ⟨q0, q1⟩ := heard_bd (t := t) hok 1
      go_wp2_with (go_at_call 80; refine (ok_any A n c xs r h _ hm (hi.below b12)).mono ?_; rintro e w' ⟨rfl, rfl⟩)
      refine (slost_any A1 n1 c1 (Talk.heard xs 0 t) r h _ hn1 (o1.ints.below b2)).mono ?_
      rw [e0.out]
      rintro e w3 ⟨rfl, b3⟩
      go_wp2_with fail
      refine (slost_any A2 n2 c2 (Talk.heard xs 1 t) r h _ hn2 (o2.ints.below b3)).mono ?_
      rw [e1.out]
      rintro e w4 ⟨rfl, b4⟩
      go_wp2
      go_ret
      exact ⟨ret_int hs.out.symm, Below.next (Below.next b12 b3) b4⟩
  · have h0 : Talk.heardOk xs 0 t = false := heard_bad (by
      cases hv : Talk.valid xs with
      | false => exact .inl rfl
      | true => exact .inr (.inr (by simpa [hv] using hH)))
    have hs := Lib.hid (Talk.relay_no (xs := xs) (r := r) (h := h) (t := t) (by
      unfold Talk.relayOk Talk.ok
      cases hv : Talk.valid xs with
      | false => rfl
      | true => rw [show Talk.inB 1 30 t = false by simpa [hv] using hH]; simp))
    clear hH
    go_enter Try.func57, Try.ntmps57
    go_wp2_with fail
    refine (sheard_any A n c xs 0 t _ hm hi).mono ?_
    rw [h0]
    rintro e w1 ⟨A1, n1, c1, rfl, o1, b1⟩
    go_wp2_with fail
    refine (sheard_any A n c xs 1 t _ hm (hi.below b1)).mono ?_
    rintro e w2 ⟨A2, n2, c2, rfl, o2, b2⟩
    go_wp2
    go_ret
    exact ⟨ret_int hs.out.symm, Below.next b1 b2⟩

/-- what the first k writers lose -/
def relAcc (xs : List Int) (r h t : Int) : Nat → Int
  | 0 => 0
  | k + 1 => relAcc xs r h t k + Talk.lostF r h 0 (Talk.heard xs k t)

set_option maxHeartbeats 400000 in
theorem irelay_any (A : Option Addr) (n c : Nat) (xs : List Int) (r h t : Int) (w : World) (hm : n ≤ 1048576) (hi : Ints w A n xs) :
    Calls Try.prog 58 #[.slice A n c, .int .i64 r, .int .i64 h, .int .i64 t] w (IntPost w (Talk.relay xs r h t)) := by
  have hlen := Lib.hid hi.len
  cases hv : Talk.valid xs with
  | false =>
    have hs := Lib.hid (Talk.relay_no (xs := xs) (r := r) (h := h) (t := t) (by unfold Talk.relayOk Talk.ok; rw [hv]; simp))
    go_enter Try.func58, Try.ntmps58
    go_wp2_with (first | (go_at_call 72; refine (ivalid_any A n c xs _ (by omega) hi).mono ?_; rintro e w' ⟨rfl, rfl⟩) | (go_at_call 82; refine (rate_any _ _).mono ?_; rintro e w' ⟨rfl, rfl⟩) | (go_at_call 83; refine (hold_any _ _).mono ?_; rintro e w' ⟨rfl, rfl⟩) | (go_at_call 75; refine (turn_any _ _).mono ?_; rintro e w' ⟨rfl, rfl⟩))
    go_ret
    exact ⟨ret_int hs.out.symm, Below.refl _ _⟩
  | true =>
    cases hr : Talk.inB 1 9 r with
    | false =>
      have hs := Lib.hid (Talk.relay_no (xs := xs) (r := r) (h := h) (t := t) (by unfold Talk.relayOk Talk.ok; rw [hv, hr]; simp))
      go_enter Try.func58, Try.ntmps58
      go_wp2_with (first | (go_at_call 72; refine (ivalid_any A n c xs _ (by omega) hi).mono ?_; rintro e w' ⟨rfl, rfl⟩) | (go_at_call 82; refine (rate_any _ _).mono ?_; rintro e w' ⟨rfl, rfl⟩) | (go_at_call 83; refine (hold_any _ _).mono ?_; rintro e w' ⟨rfl, rfl⟩) | (go_at_call 75; refine (turn_any _ _).mono ?_; rintro e w' ⟨rfl, rfl⟩))
      go_ret
      exact ⟨ret_int hs.out.symm, Below.refl _ _⟩
    | true =>
      cases hh : Talk.inB 0 50 h with
      | false =>
        have hs := Lib.hid (Talk.relay_no (xs := xs) (r := r) (h := h) (t := t) (by unfold Talk.relayOk Talk.ok; rw [hv, hr, hh]; simp))
        go_enter Try.func58, Try.ntmps58
        go_wp2_with (first | (go_at_call 72; refine (ivalid_any A n c xs _ (by omega) hi).mono ?_; rintro e w' ⟨rfl, rfl⟩) | (go_at_call 82; refine (rate_any _ _).mono ?_; rintro e w' ⟨rfl, rfl⟩) | (go_at_call 83; refine (hold_any _ _).mono ?_; rintro e w' ⟨rfl, rfl⟩) | (go_at_call 75; refine (turn_any _ _).mono ?_; rintro e w' ⟨rfl, rfl⟩))
        go_ret
        exact ⟨ret_int hs.out.symm, Below.refl _ _⟩
      | true =>
        cases ht : Talk.inB 1 30 t with
        | false =>
          have hs := Lib.hid (Talk.relay_no (xs := xs) (r := r) (h := h) (t := t) (by unfold Talk.relayOk Talk.ok; rw [hv, hr, hh, ht]; simp))
          go_enter Try.func58, Try.ntmps58
          go_wp2_with (first | (go_at_call 72; refine (ivalid_any A n c xs _ (by omega) hi).mono ?_; rintro e w' ⟨rfl, rfl⟩) | (go_at_call 82; refine (rate_any _ _).mono ?_; rintro e w' ⟨rfl, rfl⟩) | (go_at_call 83; refine (hold_any _ _).mono ?_; rintro e w' ⟨rfl, rfl⟩) | (go_at_call 75; refine (turn_any _ _).mono ?_; rintro e w' ⟨rfl, rfl⟩))
          go_ret
          exact ⟨ret_int hs.out.symm, Below.refl _ _⟩
        | true =>
          have hok : Talk.ok xs r h = true := by unfold Talk.ok; rw [hv, hr, hh]; rfl
          have hs := Lib.hid (Talk.relay_yes (xs := xs) (r := r) (h := h) (t := t) (by unfold Talk.relayOk; rw [hok, ht]; rfl))
          have HOK := Lib.hid hok
          have HV := Lib.hid hv
          have HT := Lib.hid ht
          clear hok
          go_enter Try.func58, Try.ntmps58
          go_wp2_with (first | (go_at_call 72; refine (ivalid_any A n c xs _ (by omega) hi).mono ?_; rintro e w' ⟨rfl, rfl⟩) | (go_at_call 82; refine (rate_any _ _).mono ?_; rintro e w' ⟨rfl, rfl⟩) | (go_at_call 83; refine (hold_any _ _).mono ?_; rintro e w' ⟨rfl, rfl⟩) | (go_at_call 75; refine (turn_any _ _).mono ?_; rintro e w' ⟨rfl, rfl⟩))
          go_loopg [9, 10, 11, 12, 31] 2 (fun g l _ _ _ i wr => ∃ k : Nat, k ≤ 2 ∧ g = 2 - k ∧ i = .int .i64 k ∧ l = .int .i64 (relAcc xs r h t k) ∧ 0 ≤ relAcc xs r h t k ∧ relAcc xs r h t k ≤ 300 * k ∧ Below w.heap.size w wr)
          case atStart => exact ⟨0, by omega, rfl, rfl, rfl, Int.le_refl _, Int.le_refl _, Below.refl _ _⟩
          case round =>
            obtain ⟨k, hk, rfl, rfl, rfl, a0, a1, hb⟩ := hrel
            by_cases hlt : k < 2
            · have hp : (k : Int) = 0 ∨ (k : Int) = 1 := by omega
              have h0 := heard_ok HV.out HT.out (k : Int) hp
              have l0 := Lib.hid (heard_list h0)
              have e0 := Lib.hid (heard_lost (t := t) HOK.out (k : Int))
              obtain ⟨m0, m1⟩ := heard_bd (t := t) HOK.out (k : Int)
              have hn := Lib.hid (show relAcc xs r h t (k + 1) = relAcc xs r h t k + Talk.lostF r h 0 (Talk.heard xs k t) from rfl)
              clear hp
              go_wp2_with fail
              refine (iheard_any A n c xs (k : Int) t _ hm (hi.below hb)).mono ?_
              rw [h0, l0.out]
              rintro e w1 ⟨A1, n1, c1, rfl, o1, b1⟩
              have hn1 : n1 ≤ 1048576 := by have := o1.len; unfold Talk.heard at this; rw [Talk.hear_len, hlen.out] at this; omega
              go_wp2_with fail
              refine (ilost_any A1 n1 c1 (Talk.heard xs (k : Int) t) r h _ hn1 o1.ints).mono ?_
              rw [e0.out]
              rintro e w2 ⟨rfl, b2⟩
              go_wp2
              go_roundg (2 - (k + 1))
              case measure => omega
              case rel => exact ⟨k + 1, by omega, rfl, by go_num, by rw [hn.out], by rw [hn.out]; omega, by rw [hn.out]; omega, Below.next (Below.next hb b1) b2⟩
            · obtain rfl : k = 2 := by omega
              go_wp2
              go_ret
              exact ⟨ret_int (by rw [hs.out]; show 0 + Talk.lostF r h 0 (Talk.heard xs 0 t) + Talk.lostF r h 0 (Talk.heard xs 1 t) = _; omega), hb⟩

def turnV (xs : List Int) (r h : Int) : Int := if Talk.ok xs r h = true then Talk.best (Talk.relay xs r h) 30 else 0
theorem turnV_no {xs : List Int} {r h : Int} (e : Talk.ok xs r h = false) : turnV xs r h = 0 := by simp [turnV, e]
theorem turnV_yes {xs : List Int} {r h : Int} (e : Talk.ok xs r h = true) : turnV xs r h = Talk.best (Talk.relay xs r h) 30 := by simp [turnV, e]
def TurnPost (w : World) (xs : List Int) (r h : Int) (e : Ending) (w' : World) : Prop := e = .returned (.tuple #[.int .i64 (turnV xs r h), .bool (Talk.ok xs r h)]) ∧ Below w.heap.size w w'
theorem best_next (f : Int → Int) (k : Nat) : Talk.best f (k + 1) = if f ((k : Int) + 1) < f (Talk.best f k) then (k : Int) + 1 else Talk.best f k := rfl
theorem best_bd (f : Int → Int) (k : Nat) : 1 ≤ Talk.best f k ∧ Talk.best f k ≤ (k : Int) + 1 := by
  induction k with
  | zero => simp [Talk.best]
  | succ k ih =>
    rw [best_next]
    split
    · omega
    · omega

set_option maxHeartbeats 400000 in
theorem sturn_any (A : Option Addr) (n c : Nat) (xs : List Int) (r h : Int) (w : World) (hm : n ≤ 1048576) (hi : Ints w A n xs) :
    Calls Try.prog 66 #[.slice A n c, .int .i64 r, .int .i64 h] w (TurnPost w xs r h) := by
  cases hok : Talk.ok xs r h with
  | false =>
    have hs := Lib.hid (turnV_no hok)
    have hok' := Lib.hid hok
    go_enter Try.func66, Try.ntmps66
    go_wp2_with (go_at_call 80; refine (ok_any A n c xs r h _ hm hi).mono ?_; rintro e w' ⟨rfl, rfl⟩)
    go_ret2
    exact ⟨by rw [hs.out, hok'.out]; rfl, Below.refl _ _⟩
  | true =>
    have hs := Lib.hid (turnV_yes hok)
    have hok' := Lib.hid hok
    go_enter Try.func66, Try.ntmps66
    go_wp2_with (go_at_call 80; refine (ok_any A n c xs r h _ hm hi).mono ?_; rintro e w' ⟨rfl, rfl⟩)
    go_loopg [8, 9] 30 (fun g b i wr => ∃ k : Nat, k ≤ 30 ∧ g = 30 - k ∧ i = .int .i64 ((k : Int) + 1) ∧ b = .int .i64 (Talk.best (Talk.relay xs r h) k) ∧ Below w.heap.size w wr)
    case atStart => exact ⟨0, by omega, rfl, rfl, rfl, Below.refl _ _⟩
    case round =>
      obtain ⟨k, hk, rfl, rfl, rfl, hb⟩ := hrel
      by_cases hlt : k < 30
      · have hn := Lib.hid (best_next (Talk.relay xs r h) k)
        go_wp2_with fail
        refine (srelay_any A n c xs r h _ _ hm (hi.below hb)).mono ?_
        rintro e w1 ⟨rfl, b1⟩
        have hb1 := Below.next hb b1
        go_wp2_with fail
        refine (srelay_any A n c xs r h _ _ hm (hi.below hb1)).mono ?_
        rintro e w2 ⟨rfl, b2⟩
        have hb2 := Below.next hb1 b2
        by_cases hc : Talk.relay xs r h ((k : Int) + 1) < Talk.relay xs r h (Talk.best (Talk.relay xs r h) k)
        · have hc' := Lib.hid hc
          go_wp2
          go_roundg (30 - (k + 1))
          case measure => omega
          case rel => exact ⟨k + 1, by omega, rfl, by go_num, by rw [hn.out, if_pos hc'.out], hb2⟩
        · have hc' := Lib.hid hc
          go_wp2
          go_roundg (30 - (k + 1))
          case measure => omega
          case rel => exact ⟨k + 1, by omega, rfl, by go_num, by rw [hn.out, if_neg (Int.not_lt.2 hc'.out)], hb2⟩
      · obtain rfl : k = 30 := by omega
        go_wp2
        go_ret2
        exact ⟨by rw [hs.out, hok'.out]; rfl, hb⟩

set_option maxHeartbeats 400000 in
theorem iturn_any (A : Option Addr) (n c : Nat) (xs : List Int) (r h : Int) (w : World) (hm : n ≤ 1048576) (hi : Ints w A n xs) :
    Calls Try.prog 67 #[.slice A n c, .int .i64 r, .int .i64 h] w (TurnPost w xs r h) := by
  cases hv : Talk.valid xs with
  | false =>
    have hok := Lib.hid (show Talk.ok xs r h = false by unfold Talk.ok; rw [hv]; rfl)
    have hs := Lib.hid (turnV_no hok.out)
    go_enter Try.func67, Try.ntmps67
    go_wp2_with (first | (go_at_call 72; refine (ivalid_any A n c xs _ (by omega) hi).mono ?_; rintro e w' ⟨rfl, rfl⟩) | (go_at_call 82; refine (rate_any _ _).mono ?_; rintro e w' ⟨rfl, rfl⟩) | (go_at_call 83; refine (hold_any _ _).mono ?_; rintro e w' ⟨rfl, rfl⟩) | (go_at_call 75; refine (turn_any _ _).mono ?_; rintro e w' ⟨rfl, rfl⟩))
    go_ret2
    exact ⟨by rw [hs.out, hok.out]; rfl, Below.refl _ _⟩
  | true =>
    cases hr : Talk.inB 1 9 r with
    | false =>
      have hok := Lib.hid (show Talk.ok xs r h = false by unfold Talk.ok; rw [hv, hr]; rfl)
      have hs := Lib.hid (turnV_no hok.out)
      go_enter Try.func67, Try.ntmps67
      go_wp2_with (first | (go_at_call 72; refine (ivalid_any A n c xs _ (by omega) hi).mono ?_; rintro e w' ⟨rfl, rfl⟩) | (go_at_call 82; refine (rate_any _ _).mono ?_; rintro e w' ⟨rfl, rfl⟩) | (go_at_call 83; refine (hold_any _ _).mono ?_; rintro e w' ⟨rfl, rfl⟩) | (go_at_call 75; refine (turn_any _ _).mono ?_; rintro e w' ⟨rfl, rfl⟩))
      go_ret2
      exact ⟨by rw [hs.out, hok.out]; rfl, Below.refl _ _⟩
    | true =>
      cases hh : Talk.inB 0 50 h with
      | false =>
        have hok := Lib.hid (show Talk.ok xs r h = false by unfold Talk.ok; rw [hv, hr, hh]; rfl)
        have hs := Lib.hid (turnV_no hok.out)
        go_enter Try.func67, Try.ntmps67
        go_wp2_with (first | (go_at_call 72; refine (ivalid_any A n c xs _ (by omega) hi).mono ?_; rintro e w' ⟨rfl, rfl⟩) | (go_at_call 82; refine (rate_any _ _).mono ?_; rintro e w' ⟨rfl, rfl⟩) | (go_at_call 83; refine (hold_any _ _).mono ?_; rintro e w' ⟨rfl, rfl⟩) | (go_at_call 75; refine (turn_any _ _).mono ?_; rintro e w' ⟨rfl, rfl⟩))
        go_ret2
        exact ⟨by rw [hs.out, hok.out]; rfl, Below.refl _ _⟩
      | true =>
        have hok' := Lib.hid (show Talk.ok xs r h = true by unfold Talk.ok; rw [hv, hr, hh]; rfl)
        have hs := Lib.hid (turnV_yes hok'.out)
        have hst := Lib.hid (show Talk.best (Talk.relay xs r h) 1 = 1 by rw [best_next]; split <;> rfl)
        go_enter Try.func67, Try.ntmps67
        go_wp2_with (first | (go_at_call 72; refine (ivalid_any A n c xs _ (by omega) hi).mono ?_; rintro e w' ⟨rfl, rfl⟩) | (go_at_call 82; refine (rate_any _ _).mono ?_; rintro e w' ⟨rfl, rfl⟩) | (go_at_call 83; refine (hold_any _ _).mono ?_; rintro e w' ⟨rfl, rfl⟩) | (go_at_call 75; refine (turn_any _ _).mono ?_; rintro e w' ⟨rfl, rfl⟩))
        refine (irelay_any A n c xs r h _ _ hm hi).mono ?_
        rintro e w1 ⟨rfl, b1⟩
        go_wp2_with fail
        go_loopg [8, 9, 10, 11] 29 (fun g b l i _ wr => ∃ k : Nat, 1 ≤ k ∧ k ≤ 30 ∧ g = 30 - k ∧ i = .int .i64 ((k : Int) + 1) ∧ b = .int .i64 (Talk.best (Talk.relay xs r h) k) ∧ l = .int .i64 (Talk.relay xs r h (Talk.best (Talk.relay xs r h) k)) ∧ Below w.heap.size w wr)
        case atStart => exact ⟨1, by omega, by omega, rfl, rfl, by rw [hst.out], by rw [hst.out], b1⟩
        case round =>
          clear b1
          obtain ⟨k, hk1, hk, rfl, rfl, rfl, rfl, hb⟩ := hrel
          by_cases hlt : k < 30
          · have hn := Lib.hid (best_next (Talk.relay xs r h) k)
            go_wp2_with fail
            refine (irelay_any A n c xs r h _ _ hm (hi.below hb)).mono ?_
            rintro e w1 ⟨rfl, b1⟩
            have hb1 := Below.next hb b1
            by_cases hc : Talk.relay xs r h ((k : Int) + 1) < Talk.relay xs r h (Talk.best (Talk.relay xs r h) k)
            · have hc' := Lib.hid hc
              go_wp2
              go_roundg (30 - (k + 1))
              case measure => omega
              case rel => exact ⟨k + 1, by omega, by omega, rfl, by go_num, by rw [hn.out, if_pos hc'.out], by rw [hn.out, if_pos hc'.out], hb1⟩
            · have hc' := Lib.hid hc
              go_wp2
              go_roundg (30 - (k + 1))
              case measure => omega
              case rel => exact ⟨k + 1, by omega, by omega, rfl, by go_num, by rw [hn.out, if_neg (Int.not_lt.2 hc'.out)], by rw [hn.out, if_neg (Int.not_lt.2 hc'.out)], hb1⟩
          · obtain rfl : k = 30 := by omega
            go_wp2
            go_ret2
            exact ⟨by rw [hs.out, hok'.out]; rfl, hb⟩

end Go.Proofs.Ytcgiehdpdnipbaa
