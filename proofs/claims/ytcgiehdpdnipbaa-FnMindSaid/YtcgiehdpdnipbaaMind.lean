/- TalkMind, TalkLost and TalkTail, of the program and of the reference: what they return. -/
import Derived.Test.YtcgiehdpdnipbaaListen
namespace Go.Proofs.Ytcgiehdpdnipbaa
open Go.RowKit
set_option linter.unusedVariables false

/-- a list in memory of the call's own, and a bool -/
def ListPost (w : World) (b : Bool) (xs : List Int) (e : Ending) (w' : World) : Prop :=
  ∃ A n c, e = .returned (.tuple #[.slice A n c, .bool b]) ∧ OwnI w' w.heap.size w'.heap.size A n c xs ∧ Below w.heap.size w w'
def IntPost (w : World) (x : Int) (e : Ending) (w' : World) : Prop := e = .returned (.int .i64 x) ∧ Below w.heap.size w w'
theorem Try.field0 (x y : Int) (A : Option Addr) (n c : Nat) (w : World) : (Instr.field 59 (.agg #[.int .i64 x, .int .i64 y, .slice A n c]) 0).run Try.prog w = .ok (.int .i64 x) w := by kernel_rfl
theorem Try.field1 (x y : Int) (A : Option Addr) (n c : Nat) (w : World) : (Instr.field 59 (.agg #[.int .i64 x, .int .i64 y, .slice A n c]) 1).run Try.prog w = .ok (.int .i64 y) w := by kernel_rfl
theorem Try.field2 (x y : Int) (A : Option Addr) (n c : Nat) (w : World) : (Instr.field 59 (.agg #[.int .i64 x, .int .i64 y, .slice A n c]) 2).run Try.prog w = .ok (.slice A n c) w := by kernel_rfl
theorem Talk.ok_of {xs : List Int} {r h : Int} {a b c : Bool} (h1 : Talk.valid xs = a) (h2 : Talk.inB 1 9 r = b) (h3 : Talk.inB 0 50 h = c) : Talk.ok xs r h = (a && b && c) := by
  unfold Talk.ok; rw [h1, h2, h3]
theorem Talk.mind_no {xs : List Int} {r h : Int} (e : Talk.ok xs r h = false) : Talk.mind xs r h = [] := by simp [Talk.mind, e]
theorem Talk.mind_yes {xs : List Int} {r h : Int} (e : Talk.ok xs r h = true) : Talk.mind xs r h = Talk.minds r h 0 xs := by simp [Talk.mind, e]
theorem Talk.tail_no {xs : List Int} {r h : Int} (e : Talk.ok xs r h = false) : Talk.tailS xs r h = -1 := by simp [Talk.tailS, e]
theorem Talk.tail_yes {xs : List Int} {r h : Int} (e : Talk.ok xs r h = true) : Talk.tailS xs r h = (Talk.endM r h 0 xs + r - 1) / r := by simp [Talk.tailS, e]
theorem ListPost.nil_ (w : World) : ListPost w false [] (.returned (.tuple #[.slice none 0 0, .bool false])) w := ⟨none, 0, 0, rfl, OwnI.nil w _ _ (Nat.le_refl _), Below.refl _ _⟩
theorem ListPost.empty_ (w : World) : ListPost w false [] (.returned (.tuple #[.slice (some ⟨w.heap.size, 0, none⟩) 0 0, .bool false])) (w.alloc (.cells #[] 3)) :=
  ⟨_, 0, 0, rfl, by have := own_empty w w.heap.size (Nat.le_refl _); simpa using this, (Below.refl _ _).alloc (Nat.le_refl _) _⟩

theorem ok_any (A : Option Addr) (n c : Nat) (xs : List Int) (r h : Int) (w : World) (hm : n ≤ 1048576) (hi : Ints w A n xs) :
    Calls Try.prog 80 #[.slice A n c, .int .i64 r, .int .i64 h] w fun e w' => e = .returned (.bool (Talk.ok xs r h)) ∧ w = w' := by
  cases hv : Talk.valid xs with
  | false =>
    have hok := Lib.hid (show Talk.ok xs r h = false by unfold Talk.ok; rw [hv]; rfl)
    go_enter Try.func80, Try.ntmps80
    go_wp2_with (first | (go_at_call 70; refine (svalid_any A n c xs _ (by omega) hi).mono ?_; rintro e w' ⟨rfl, rfl⟩) | (go_at_call 74; refine (in_any _ _ _ _).mono ?_; rintro e w' ⟨rfl, rfl⟩))
    go_ret
    exact ⟨ret_bool hok.out.symm, rfl⟩
  | true =>
    cases hr : Talk.inB 1 9 r with
    | false =>
      have hok := Lib.hid (show Talk.ok xs r h = false by unfold Talk.ok; rw [hv, hr]; rfl)
      go_enter Try.func80, Try.ntmps80
      go_wp2_with (first | (go_at_call 70; refine (svalid_any A n c xs _ (by omega) hi).mono ?_; rintro e w' ⟨rfl, rfl⟩) | (go_at_call 74; refine (in_any _ _ _ _).mono ?_; rintro e w' ⟨rfl, rfl⟩))
      go_ret
      exact ⟨ret_bool hok.out.symm, rfl⟩
    | true =>
      have hok := Lib.hid (show Talk.ok xs r h = Talk.inB 0 50 h by unfold Talk.ok; rw [hv, hr]; rfl)
      go_enter Try.func80, Try.ntmps80
      go_wp2_with (first | (go_at_call 70; refine (svalid_any A n c xs _ (by omega) hi).mono ?_; rintro e w' ⟨rfl, rfl⟩) | (go_at_call 74; refine (in_any _ _ _ _).mono ?_; rintro e w' ⟨rfl, rfl⟩))
      go_ret
      exact ⟨ret_bool hok.out.symm, rfl⟩

set_option maxHeartbeats 400000 in
theorem ilost_any (A : Option Addr) (n c : Nat) (xs : List Int) (r h : Int) (w : World) (hm : n ≤ 1048576) (hi : Ints w A n xs) :
    Calls Try.prog 46 #[.slice A n c, .int .i64 r, .int .i64 h] w (IntPost w (Talk.lost xs r h)) := by
  have hlen := Lib.hid hi.len
  cases hv : Talk.valid xs with
  | false =>
    have hok : Talk.ok xs r h = false := by unfold Talk.ok; rw [hv]; rfl
    have hs := Lib.hid (Talk.lost_no hok)
    have hok' := Lib.hid hok
    clear hok
    go_enter Try.func46, Try.ntmps46
    go_wp2_with (first | (go_at_call 72; refine (ivalid_any A n c xs _ (by omega) hi).mono ?_; rintro e w' ⟨rfl, rfl⟩) | (go_at_call 82; refine (rate_any _ _).mono ?_; rintro e w' ⟨rfl, rfl⟩) | (go_at_call 83; refine (hold_any _ _).mono ?_; rintro e w' ⟨rfl, rfl⟩))
    go_ret
    exact ⟨ret_int hs.out.symm, Below.refl _ _⟩
  | true =>
    cases hr : Talk.inB 1 9 r with
    | false =>
      have hok : Talk.ok xs r h = false := by unfold Talk.ok; rw [hv, hr]; rfl
      have hs := Lib.hid (Talk.lost_no hok)
      have hok' := Lib.hid hok
      clear hok
      go_enter Try.func46, Try.ntmps46
      go_wp2_with (first | (go_at_call 72; refine (ivalid_any A n c xs _ (by omega) hi).mono ?_; rintro e w' ⟨rfl, rfl⟩) | (go_at_call 82; refine (rate_any _ _).mono ?_; rintro e w' ⟨rfl, rfl⟩) | (go_at_call 83; refine (hold_any _ _).mono ?_; rintro e w' ⟨rfl, rfl⟩))
      go_ret
      exact ⟨ret_int hs.out.symm, Below.refl _ _⟩
    | true =>
      cases hh : Talk.inB 0 50 h with
      | false =>
        have hok : Talk.ok xs r h = false := by unfold Talk.ok; rw [hv, hr, hh]; rfl
        have hs := Lib.hid (Talk.lost_no hok)
        have hok' := Lib.hid hok
        clear hok
        go_enter Try.func46, Try.ntmps46
        go_wp2_with (first | (go_at_call 72; refine (ivalid_any A n c xs _ (by omega) hi).mono ?_; rintro e w' ⟨rfl, rfl⟩) | (go_at_call 82; refine (rate_any _ _).mono ?_; rintro e w' ⟨rfl, rfl⟩) | (go_at_call 83; refine (hold_any _ _).mono ?_; rintro e w' ⟨rfl, rfl⟩))
        go_ret
        exact ⟨ret_int hs.out.symm, Below.refl _ _⟩
      | true =>
        have hok : Talk.ok xs r h = true := by unfold Talk.ok; rw [hv, hr, hh]; rfl
        have hok' := Lib.hid hok
        have hb := Talk.inB_true hr
        have hb2 := Talk.inB_true hh
        obtain ⟨r0, r1⟩ := hb
        obtain ⟨h0, h1⟩ := hb2
        have hE := Talk.endM_bd (r := r) h0 xs 0 (Int.le_refl 0) h0
        obtain ⟨m0, m1⟩ := hE
        clear hok
        have hf0 := Try.field0
        have hf1 := Try.field1
        have hf2 := Try.field2
        go_enter Try.func46, Try.ntmps46
        go_wp2_with (first | (go_at_call 84; refine (listen_any A n c xs r h _ hi hok'.out).mono ?_; rintro e w' ⟨A', c', rfl, ho, hb⟩; unfold wrV) | (first | (go_at_call 72; refine (ivalid_any A n c xs _ (by omega) hi).mono ?_; rintro e w' ⟨rfl, rfl⟩) | (go_at_call 82; refine (rate_any _ _).mono ?_; rintro e w' ⟨rfl, rfl⟩) | (go_at_call 83; refine (hold_any _ _).mono ?_; rintro e w' ⟨rfl, rfl⟩)))
        go_ret
        exact ⟨ret_int (Talk.lost_yes hok'.out).symm, hb⟩

set_option maxHeartbeats 400000 in
theorem itail_any (A : Option Addr) (n c : Nat) (xs : List Int) (r h : Int) (w : World) (hm : n ≤ 1048576) (hi : Ints w A n xs) :
    Calls Try.prog 48 #[.slice A n c, .int .i64 r, .int .i64 h] w (IntPost w (Talk.tailS xs r h)) := by
  have hlen := Lib.hid hi.len
  cases hv : Talk.valid xs with
  | false =>
    have hok : Talk.ok xs r h = false := by unfold Talk.ok; rw [hv]; rfl
    have hs := Lib.hid (Talk.tail_no hok)
    have hok' := Lib.hid hok
    clear hok
    go_enter Try.func48, Try.ntmps48
    go_wp2_with (first | (go_at_call 72; refine (ivalid_any A n c xs _ (by omega) hi).mono ?_; rintro e w' ⟨rfl, rfl⟩) | (go_at_call 82; refine (rate_any _ _).mono ?_; rintro e w' ⟨rfl, rfl⟩) | (go_at_call 83; refine (hold_any _ _).mono ?_; rintro e w' ⟨rfl, rfl⟩))
    go_ret
    exact ⟨ret_int hs.out.symm, Below.refl _ _⟩
  | true =>
    cases hr : Talk.inB 1 9 r with
    | false =>
      have hok : Talk.ok xs r h = false := by unfold Talk.ok; rw [hv, hr]; rfl
      have hs := Lib.hid (Talk.tail_no hok)
      have hok' := Lib.hid hok
      clear hok
      go_enter Try.func48, Try.ntmps48
      go_wp2_with (first | (go_at_call 72; refine (ivalid_any A n c xs _ (by omega) hi).mono ?_; rintro e w' ⟨rfl, rfl⟩) | (go_at_call 82; refine (rate_any _ _).mono ?_; rintro e w' ⟨rfl, rfl⟩) | (go_at_call 83; refine (hold_any _ _).mono ?_; rintro e w' ⟨rfl, rfl⟩))
      go_ret
      exact ⟨ret_int hs.out.symm, Below.refl _ _⟩
    | true =>
      cases hh : Talk.inB 0 50 h with
      | false =>
        have hok : Talk.ok xs r h = false := by unfold Talk.ok; rw [hv, hr, hh]; rfl
        have hs := Lib.hid (Talk.tail_no hok)
        have hok' := Lib.hid hok
        clear hok
        go_enter Try.func48, Try.ntmps48
        go_wp2_with (first | (go_at_call 72; refine (ivalid_any A n c xs _ (by omega) hi).mono ?_; rintro e w' ⟨rfl, rfl⟩) | (go_at_call 82; refine (rate_any _ _).mono ?_; rintro e w' ⟨rfl, rfl⟩) | (go_at_call 83; refine (hold_any _ _).mono ?_; rintro e w' ⟨rfl, rfl⟩))
        go_ret
        exact ⟨ret_int hs.out.symm, Below.refl _ _⟩
      | true =>
        have hok : Talk.ok xs r h = true := by unfold Talk.ok; rw [hv, hr, hh]; rfl
        have hok' := Lib.hid hok
        have hb := Talk.inB_true hr
        have hb2 := Talk.inB_true hh
        obtain ⟨r0, r1⟩ := hb
        obtain ⟨h0, h1⟩ := hb2
        have hE := Talk.endM_bd (r := r) h0 xs 0 (Int.le_refl 0) h0
        obtain ⟨m0, m1⟩ := hE
        clear hok
        have hf0 := Try.field0
        have hf1 := Try.field1
        have hf2 := Try.field2
        go_enter Try.func48, Try.ntmps48
        go_wp2_with (first | (go_at_call 84; refine (listen_any A n c xs r h _ hi hok'.out).mono ?_; rintro e w' ⟨A', c', rfl, ho, hb⟩; unfold wrV) | (first | (go_at_call 72; refine (ivalid_any A n c xs _ (by omega) hi).mono ?_; rintro e w' ⟨rfl, rfl⟩) | (go_at_call 82; refine (rate_any _ _).mono ?_; rintro e w' ⟨rfl, rfl⟩) | (go_at_call 83; refine (hold_any _ _).mono ?_; rintro e w' ⟨rfl, rfl⟩)))
        go_ret
        exact ⟨ret_int (Talk.tail_yes hok'.out).symm, hb⟩

set_option maxHeartbeats 400000 in
theorem imind_any (A : Option Addr) (n c : Nat) (xs : List Int) (r h : Int) (w : World) (hm : n ≤ 1048576) (hi : Ints w A n xs) :
    Calls Try.prog 50 #[.slice A n c, .int .i64 r, .int .i64 h] w (ListPost w (Talk.ok xs r h) (Talk.mind xs r h)) := by
  have hlen := Lib.hid hi.len
  cases hv : Talk.valid xs with
  | false =>
    have hok : Talk.ok xs r h = false := by unfold Talk.ok; rw [hv]; rfl
    have hs := Lib.hid (Talk.mind_no hok)
    have hok' := Lib.hid hok
    clear hok
    go_enter Try.func50, Try.ntmps50
    go_wp2_with (first | (go_at_call 72; refine (ivalid_any A n c xs _ (by omega) hi).mono ?_; rintro e w' ⟨rfl, rfl⟩) | (go_at_call 82; refine (rate_any _ _).mono ?_; rintro e w' ⟨rfl, rfl⟩) | (go_at_call 83; refine (hold_any _ _).mono ?_; rintro e w' ⟨rfl, rfl⟩))
    go_ret2
    rw [hok'.out, hs.out]; exact ListPost.nil_ w
  | true =>
    cases hr : Talk.inB 1 9 r with
    | false =>
      have hok : Talk.ok xs r h = false := by unfold Talk.ok; rw [hv, hr]; rfl
      have hs := Lib.hid (Talk.mind_no hok)
      have hok' := Lib.hid hok
      clear hok
      go_enter Try.func50, Try.ntmps50
      go_wp2_with (first | (go_at_call 72; refine (ivalid_any A n c xs _ (by omega) hi).mono ?_; rintro e w' ⟨rfl, rfl⟩) | (go_at_call 82; refine (rate_any _ _).mono ?_; rintro e w' ⟨rfl, rfl⟩) | (go_at_call 83; refine (hold_any _ _).mono ?_; rintro e w' ⟨rfl, rfl⟩))
      go_ret2
      rw [hok'.out, hs.out]; exact ListPost.nil_ w
    | true =>
      cases hh : Talk.inB 0 50 h with
      | false =>
        have hok : Talk.ok xs r h = false := by unfold Talk.ok; rw [hv, hr, hh]; rfl
        have hs := Lib.hid (Talk.mind_no hok)
        have hok' := Lib.hid hok
        clear hok
        go_enter Try.func50, Try.ntmps50
        go_wp2_with (first | (go_at_call 72; refine (ivalid_any A n c xs _ (by omega) hi).mono ?_; rintro e w' ⟨rfl, rfl⟩) | (go_at_call 82; refine (rate_any _ _).mono ?_; rintro e w' ⟨rfl, rfl⟩) | (go_at_call 83; refine (hold_any _ _).mono ?_; rintro e w' ⟨rfl, rfl⟩))
        go_ret2
        rw [hok'.out, hs.out]; exact ListPost.nil_ w
      | true =>
        have hok : Talk.ok xs r h = true := by unfold Talk.ok; rw [hv, hr, hh]; rfl
        have hok' := Lib.hid hok
        have hb := Talk.inB_true hr
        have hb2 := Talk.inB_true hh
        obtain ⟨r0, r1⟩ := hb
        obtain ⟨h0, h1⟩ := hb2
        have hE := Talk.endM_bd (r := r) h0 xs 0 (Int.le_refl 0) h0
        obtain ⟨m0, m1⟩ := hE
        clear hok
        have hf0 := Try.field0
        have hf1 := Try.field1
        have hf2 := Try.field2
        go_enter Try.func50, Try.ntmps50
        go_wp2_with (first | (go_at_call 84; refine (listen_any A n c xs r h _ hi hok'.out).mono ?_; rintro e w' ⟨A', c', rfl, ho, hb⟩; unfold wrV) | (first | (go_at_call 72; refine (ivalid_any A n c xs _ (by omega) hi).mono ?_; rintro e w' ⟨rfl, rfl⟩) | (go_at_call 82; refine (rate_any _ _).mono ?_; rintro e w' ⟨rfl, rfl⟩) | (go_at_call 83; refine (hold_any _ _).mono ?_; rintro e w' ⟨rfl, rfl⟩)))
        go_ret2
        rw [hok'.out, Talk.mind_yes hok'.out]; exact ⟨A', xs.length, c', rfl, ho, hb⟩

end Go.Proofs.Ytcgiehdpdnipbaa
