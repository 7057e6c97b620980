/- The reference's TalkMind, TalkLost and TalkTail: what they return. -/
import Derived.Test.YtcgiehdpdnipbaaMind
namespace Go.Proofs.Ytcgiehdpdnipbaa
open Go.RowKit
set_option linter.unusedVariables false

def MindRel (w : World) (xs : List Int) (r h : Int) (k : Nat) (o m l : Value) (wr : World) : Prop :=
  ∃ A c, o = .slice A k c ∧ OwnI wr w.heap.size wr.heap.size A k c (Talk.minds r h 0 (xs.take k)) ∧ m = .int .i64 (Talk.endM r h 0 (xs.take k)) ∧ l = .int .i64 (Talk.lostF r h 0 (xs.take k)) ∧ Below w.heap.size w wr
theorem mind_next {w wr w1 : World} {xs : List Int} {r h x y l : Int} {k g c c' : Nat} {A : Option Addr} {o : Obj} (hx : xs[k]? = some x) (hy : Talk.nxt r h (Talk.endM r h 0 (xs.take k)) x = y) (hl : Talk.lostF r h 0 (xs.take k) + Talk.los r h (Talk.endM r h 0 (xs.take k)) x = l)
    (hb : Below w.heap.size w wr) (ho : OwnI wr w.heap.size wr.heap.size A k c (Talk.minds r h 0 (xs.take k))) (hg : (wr.alloc o).grownBy w1 (A.map (·.block))) (h1 : OwnI w1 w.heap.size w1.heap.size (some ⟨g, 0, none⟩) (k + 1) c' (Talk.minds r h 0 (xs.take k) ++ [y])) :
    MindRel w xs r h (k + 1) (.slice (some ⟨g, 0, none⟩) (k + 1) c') (.int .i64 y) (.int .i64 l) w1 := by
  refine ⟨_, c', rfl, ?_, ?_, ?_, ?_⟩
  · rw [take_snoc hx, Talk.minds_append]
    simp only [Talk.minds]
    rw [hy]
    exact h1
  · rw [take_snoc hx, Talk.endM_append]
    simp only [Talk.endM]
    rw [hy]
  · rw [take_snoc hx, Talk.lostF_append]
    simp only [Talk.lostF]
    rw [← hl, Int.add_zero]
  · refine (hb.alloc hb.size o).grown hg (by have := hb.size; simp; omega) (fun g' e => ?_)
    cases A with
    | none => cases e
    | some a => injection e with e; subst e; exact (ho.lo_le a rfl).1

def MindPost (w : World) (xs : List Int) (r h : Int) (e : Ending) (w' : World) : Prop :=
  ∃ A c, e = .returned (.tuple #[.slice A xs.length c, .int .i64 (Talk.lostF r h 0 xs)]) ∧ OwnI w' w.heap.size w'.heap.size A xs.length c (Talk.minds r h 0 xs) ∧ Below w.heap.size w w'

set_option maxHeartbeats 1000000 in
theorem wmind_any (A : Option Addr) (n c : Nat) (xs : List Int) (r h : Int) (w : World) (hi : Ints w A n xs) (hok : Talk.ok xs r h = true) :
    Calls Try.prog 81 #[.slice A n c, .int .i64 r, .int .i64 h] w (MindPost w xs r h) := by
  have hlen := Lib.hid hi.len
  obtain ⟨hv, hr, hh⟩ := Talk.ok_parts hok
  have hl := Talk.valid_len hv
  rw [hlen.out] at hl
  have hbd := Lib.hid (Talk.valid_all hv)
  obtain ⟨r0, r1⟩ := hr
  obtain ⟨h0, h1⟩ := hh
  have HS : Hid (MindRel w xs r h 0 (.slice (some ⟨w.heap.size, 0, none⟩) 0 0) (.int .i64 0) (.int .i64 0) (w.alloc (.cells #[] 3))) := by
    have he := own_empty w w.heap.size (Nat.le_refl _)
    exact ⟨_, 0, rfl, by simpa [Talk.minds] using he, rfl, rfl, (Below.refl _ _).alloc (Nat.le_refl _) _⟩
  clear hok hv
  go_enter Try.func81, Try.ntmps81
  go_wp2
  go_loopg [8, 9, 10, 11] n (fun g o m l i wr => ∃ k : Nat, k ≤ n ∧ g = n - k ∧ i = .int .i64 k ∧ MindRel w xs r h k o m l wr)
  case atStart => exact ⟨0, Nat.zero_le _, rfl, rfl, HS.out⟩
  case round =>
    clear HS
    obtain ⟨k, hk, rfl, rfl, A', c', rfl, ho, rfl, rfl, hb⟩ := hrel
    by_cases hlt : k < n
    · obtain ⟨b, off, x, rfl, hx, hx1, hx2, hc⟩ := (hi.below hb).at_ hlt
      have hX := Lib.hid hx
      have hxb := Talk.allIn_at hbd.out hx
      obtain ⟨x0, x1⟩ := hxb
      have hE := Talk.endM_bd (r := r) h0 (xs.take k) 0 (Int.le_refl 0) h0
      obtain ⟨m0, m1⟩ := hE
      have hL0 := Talk.lostF_nonneg r h (xs.take k) 0
      have hL1 := Talk.lostF_le_sum (r := r) (h := h) (by omega) h0 (Talk.allIn_take hbd.out k)
      have hL2 := (Talk.sum_bd (Talk.allIn_take hbd.out k)).2
      have hL3 : (xs.take k).length ≤ k := List.length_take_le _ _
      generalize hM : Talk.endM r h 0 (xs.take k) = m at *
      generalize hL : Talk.lostF r h 0 (xs.take k) = l at *
      generalize hA : Talk.minds r h 0 (xs.take k) = ls at *
      have HM := Lib.hid hM
      have HL := Lib.hid hL
      have HA := Lib.hid hA
      have hL4 : l ≤ 300 := by omega
      clear hx hM hL hA hL1 hL2 hL3
      by_cases c1 : m + x - r ≤ 0
      · go_wp2_with (at_builtin; go_must (refine wpList_push _ rfl (.tmp 37) (.tmp 39) rfl w.heap.size wr.heap.size A' k c' ls rfl (ho.alloc _) (0) wr.heap.size rfl ⟨by omega, by omega⟩ ?_ (by omega) (by have := hb.size; simp; omega) ?_); go_must (rotate_left; intro g c2 w1 ho1 hg1))
        rotate_left
        go_simp
        go_roundg (n - (k + 1))
        case measure => omega
        case rel => exact ⟨k + 1, by omega, rfl, by go_num, mind_next (y := 0) (l := l) hX.out (by rw [HM.out]; unfold Talk.nxt; omega) (by rw [HM.out, HL.out]; unfold Talk.los; omega) hb (by rw [HA.out]; exact ho) hg1 (by rw [HA.out]; exact ho1)⟩
      · by_cases c2 : m + x - r ≤ h
        · go_wp2_with (at_builtin; go_must (refine wpList_push _ rfl (.tmp 37) (.tmp 39) rfl w.heap.size wr.heap.size A' k c' ls rfl (ho.alloc _) (m + x - r) wr.heap.size rfl ⟨by omega, by omega⟩ ?_ (by omega) (by have := hb.size; simp; omega) ?_); go_must (rotate_left; intro g c2 w1 ho1 hg1))
          rotate_left
          go_simp
          go_roundg (n - (k + 1))
          case measure => omega
          case rel => exact ⟨k + 1, by omega, rfl, by go_num, mind_next (y := m + x - r) (l := l) hX.out (by rw [HM.out]; unfold Talk.nxt; omega) (by rw [HM.out, HL.out]; unfold Talk.los; omega) hb (by rw [HA.out]; exact ho) hg1 (by rw [HA.out]; exact ho1)⟩
        · go_wp2_with (at_builtin; go_must (refine wpList_push _ rfl (.tmp 37) (.tmp 39) rfl w.heap.size wr.heap.size A' k c' ls rfl (ho.alloc _) (h) wr.heap.size rfl ⟨by omega, by omega⟩ ?_ (by omega) (by have := hb.size; simp; omega) ?_); go_must (rotate_left; intro g c2 w1 ho1 hg1))
          rotate_left
          go_simp
          go_roundg (n - (k + 1))
          case measure => omega
          case rel => exact ⟨k + 1, by omega, rfl, by go_num, mind_next (y := h) (l := l + (m + x - r - h)) hX.out (by rw [HM.out]; unfold Talk.nxt; omega) (by rw [HM.out, HL.out]; unfold Talk.los; omega) hb (by rw [HA.out]; exact ho) hg1 (by rw [HA.out]; exact ho1)⟩
    · obtain rfl : k = n := by omega
      have he : xs.take k = xs := List.take_of_length_le (by rw [hlen.out]; omega)
      rw [he] at ho
      rw [he]
      clear he
      go_wp2
      go_ret2
      exact ⟨A', c', by rw [hlen.out]; rfl, by rw [hlen.out]; exact ho, hb⟩


set_option maxHeartbeats 400000 in
theorem slost_any (A : Option Addr) (n c : Nat) (xs : List Int) (r h : Int) (w : World) (hm : n ≤ 1048576) (hi : Ints w A n xs) :
    Calls Try.prog 45 #[.slice A n c, .int .i64 r, .int .i64 h] w (IntPost w (Talk.lost xs r h)) := by
  cases hok : Talk.ok xs r h with
  | false =>
    have hs := Lib.hid (Talk.lost_no hok)
    go_enter Try.func45, Try.ntmps45
    go_wp2_with (go_at_call 80; refine (ok_any A n c xs r h _ hm hi).mono ?_; rintro e w' ⟨rfl, rfl⟩)
    go_ret
    exact ⟨ret_int hs.out.symm, Below.refl _ _⟩
  | true =>
    have hs := Lib.hid (Talk.lost_yes hok)
    go_enter Try.func45, Try.ntmps45
    go_wp2_with (first | (go_at_call 80; refine (ok_any A n c xs r h _ hm hi).mono ?_; rintro e w' ⟨rfl, rfl⟩) | (go_at_call 81; refine (wmind_any A n c xs r h _ hi hok).mono ?_; rintro e w' ⟨A', c', rfl, ho, hb⟩))
    go_ret
    exact ⟨ret_int hs.out.symm, hb⟩

set_option maxHeartbeats 400000 in
theorem smind_any (A : Option Addr) (n c : Nat) (xs : List Int) (r h : Int) (w : World) (hm : n ≤ 1048576) (hi : Ints w A n xs) :
    Calls Try.prog 49 #[.slice A n c, .int .i64 r, .int .i64 h] w (ListPost w (Talk.ok xs r h) (Talk.mind xs r h)) := by
  cases hok : Talk.ok xs r h with
  | false =>
    have hs := Lib.hid (Talk.mind_no hok)
    go_enter Try.func49, Try.ntmps49
    go_wp2_with (go_at_call 80; refine (ok_any A n c xs r h _ hm hi).mono ?_; rintro e w' ⟨rfl, rfl⟩)
    go_ret2
    rw [hs.out]
    exact ListPost.empty_ w
  | true =>
    have hs := Lib.hid (Talk.mind_yes hok)
    go_enter Try.func49, Try.ntmps49
    go_wp2_with (first | (go_at_call 80; refine (ok_any A n c xs r h _ hm hi).mono ?_; rintro e w' ⟨rfl, rfl⟩) | (go_at_call 81; refine (wmind_any A n c xs r h _ hi hok).mono ?_; rintro e w' ⟨A', c', rfl, ho, hb⟩))
    go_ret2
    rw [hs.out]
    exact ⟨A', xs.length, c', rfl, ho, hb⟩

theorem Talk.minds_last (r h : Int) (xs : List Int) (hx : xs.length ≠ 0) : (Talk.minds r h 0 xs)[xs.length - 1]? = some (Talk.endM r h 0 xs) := by
  have h1 := Talk.endM_last r h xs (fun e => hx (by rw [e]; rfl)) 0
  rw [List.getLast?_eq_getElem?, Talk.minds_len] at h1
  exact h1

set_option maxHeartbeats 400000 in
theorem stail_any (A : Option Addr) (n c : Nat) (xs : List Int) (r h : Int) (w : World) (hm : n ≤ 1048576) (hi : Ints w A n xs) :
    Calls Try.prog 47 #[.slice A n c, .int .i64 r, .int .i64 h] w (IntPost w (Talk.tailS xs r h)) := by
  have hlen := Lib.hid hi.len
  cases hok : Talk.ok xs r h with
  | false =>
    have hs := Lib.hid (Talk.tail_no hok)
    go_enter Try.func47, Try.ntmps47
    go_wp2_with fail
    refine (smind_any A n c xs r h _ hm hi).mono ?_
    rw [hok]
    rintro e w' ⟨A', n', c', rfl, ho, hb⟩
    go_wp2
    go_ret
    exact ⟨ret_int hs.out.symm, hb⟩
  | true =>
    have hs := Lib.hid (Talk.tail_yes hok)
    have hmm := Lib.hid (Talk.mind_yes hok)
    obtain ⟨hv, hr, hh⟩ := Talk.ok_parts hok
    obtain ⟨r0, r1⟩ := hr
    obtain ⟨h0, h1⟩ := hh
    have hE := Talk.endM_bd (r := r) h0 xs 0 (Int.le_refl 0) h0
    obtain ⟨m0, m1⟩ := hE
    clear hv
    go_enter Try.func47, Try.ntmps47
    go_wp2_with fail
    refine (smind_any A n c xs r h _ hm hi).mono ?_
    rw [hok, hmm.out]
    rintro e w' ⟨A', n', c', rfl, ho, hb⟩
    obtain rfl : n' = n := by rw [← ho.len, Talk.minds_len, hlen.out]
    by_cases hz : n' = 0
    · have hz' : ((n' : Int) == 0) = true := by rw [hz]; rfl
      have hE0 : Talk.endM r h 0 xs = 0 := by
        have : xs = [] := List.eq_nil_of_length_eq_zero (hlen.out.trans hz)
        rw [this]; rfl
      have hfin : Hid ((Talk.endM r h 0 xs + r - 1) / r = 0) := by
        rw [hE0]
        exact Int.ediv_eq_zero_of_lt (by omega) (by omega)
      clear hz hE0
      go_wp2
      go_ret
      exact ⟨ret_int (hs.out.trans hfin.out).symm, hb⟩
    · have hz' : ((n' : Int) == 0) = false := by simp; omega
      obtain ⟨g, y, rfl, _, _, hy, _, _, hc2, _⟩ := ho.at_ (k := n' - 1) (by omega)
      have hl := Talk.minds_last r h xs (by rw [hlen.out]; exact hz)
      rw [hlen.out, hy] at hl
      obtain rfl : y = Talk.endM r h 0 xs := by injection hl
      have hk1 : ((n' : Int) - 1).toNat = n' - 1 := by omega
      clear hy
      go_wp2
      go_ret
      exact ⟨ret_int hs.out.symm, hb⟩

end Go.Proofs.Ytcgiehdpdnipbaa
