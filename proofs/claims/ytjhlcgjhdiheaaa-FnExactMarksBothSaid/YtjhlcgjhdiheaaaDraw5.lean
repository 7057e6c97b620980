/- The drawing functions of the marks chapter, whole. -/
import Derived.Test.YtjhlcgjhdiheaaaDraw4
import Derived.Test.YtjhlcgjhdiheaaaDo
namespace Go.Proofs.Ytjhlcgjhdiheaaa
open Go.RowKit
set_option linter.unusedVariables false
set_option linter.unusedSimpArgs false

theorem RdB.below {w w' : World} {R : Nat} {K : Int} (h : RdB w R K) (hb : Below w.heap.size w w') : RdB w' R K := h.grown (only_of_below hb none) (fun _ e => by cases e)
def MarksPost (w : World) (R : Nat) (K : Int) (e : Ending) (w' : World) : Prop := ∃ A n c ws B m d ms, e = .returned (.tuple #[.slice A n c, .slice B m d]) ∧ n ≤ 8 ∧ m ≤ 10 ∧ PutIn w' A n c ws ∧ MrkIn w' B m d ms ∧ RdB w' R K ∧ w.grownBy w' (some R)
set_option maxHeartbeats 400000 in
theorem marksD_any (R : Nat) (K : Int) (w : World) (h : RdB w R K) (hK0 : 0 ≤ K) (hK : K ≤ 5000) : Calls Try.prog 97 #[.pointer (some ⟨R, 0, none⟩)] w (MarksPost w R (K + 1200)) := by
  go_enter Try.func97, Try.ntmps97
  go_wp2_with fail
  refine (speechD_any R 8 K _ h hK0 (by omega) (by omega)).mono ?_
  rintro e w1 ⟨A, n, c, rfl, hn, xs, ho, hr, hg⟩
  have hp := ho.putIn
  go_wp2_with fail
  refine (someD_any R n c (K + 30) A _ hr (by omega) (by omega) (by omega)).mono ?_
  rintro e w2 ⟨B, m, d, ms, rfl, hm, hM, hr2, hg2⟩
  have hp2 := hp.rd hr hg2
  go_wp2_with fail
  go_ret2
  exact ⟨A, n, c, xs, B, m, d, ms, rfl, hn, by omega, hp2, hM, hr2.mono (by omega), only_again hg hg2⟩
def TwoPost (w : World) (R : Nat) (K : Int) (e : Ending) (w' : World) : Prop := ∃ A n c xs B m d ys, e = .returned (.tuple #[.slice A n c, .slice B m d]) ∧ n ≤ 20 ∧ m ≤ 20 ∧ PutIn w' A n c xs ∧ PutIn w' B m d ys ∧ RdB w' R K ∧ w.grownBy w' (some R)
set_option maxHeartbeats 400000 in
theorem twoD_any (R : Nat) (K : Int) (w : World) (h : RdB w R K) (hK0 : 0 ≤ K) (hK : K ≤ 5000) : Calls Try.prog 94 #[.pointer (some ⟨R, 0, none⟩)] w (TwoPost w R (K + 1300)) := by
  go_enter Try.func94, Try.ntmps94
  go_wp2_with fail
  refine (marksD_any R K _ h hK0 hK).mono ?_
  rintro e w1 ⟨A, n, c, ws, B, m, d, ms, rfl, hn, hm, hp, hM, hr, hg⟩
  have hdl := doF_len ws ms
  go_wp2_with fail
  refine (sdo_any A B n c m d ws ms _ (by omega) (by omega) hp.2.1 hp.2.2.2 hp.1 hM.1).mono ?_
  rintro e w2 ⟨A2, n2, c2, rfl, ho, hb⟩
  have hp2 := hp.below hb
  have hr2 := hr.below hb
  have hg2 := only_below hg hb
  have hn2 : n2 ≤ 20 := by have := ho.len; omega
  cases hd : (doF ws ms).isSome with
  | false =>
    go_wp2_with fail
    refine (speechD_any R 8 (K + 1200) _ hr2 (by omega) (by omega) (by omega)).mono ?_
    rintro e w3 ⟨A3, n3, c3, rfl, hn3, xs, ho3, hr3, hg3⟩
    have hp3 := hp2.rd hr2 hg3
    go_wp2_with fail
    go_ret2
    exact ⟨A, n, c, ws, A3, n3, c3, xs, rfl, by omega, by omega, hp3, ho3.putIn, hr3.mono (by omega), only_again hg2 hg3⟩
  | true =>
    go_wp2_with fail
    refine (pickB R (K + 1200) 4 _ hr2 (by omega) (by omega) (by omega)).mono ?_
    rintro e w3 ⟨x, rfl, hx, hr3, hg3⟩
    have hp3 := hp2.rd hr2 hg3
    have ho3 := ho.putIn.rd hr2 hg3
    have hg4 := only_again hg2 hg3
    by_cases hx0 : (0 : Int) < (x : Int)
    · go_wp2_with fail
      go_ret2
      exact ⟨A, n, c, ws, A2, n2, c2, _, rfl, by omega, by omega, hp3, ho3, hr3.mono (by omega), hg4⟩
    · go_wp2_with fail
      refine (speechD_any R 8 (K + 1200 + 1) _ hr3 (by omega) (by omega) (by omega)).mono ?_
      rintro e w4 ⟨A4, n4, c4, rfl, hn4, xs, ho4, hr4, hg5⟩
      have hp4 := hp3.rd hr3 hg5
      go_wp2_with fail
      go_ret2
      exact ⟨A, n, c, ws, A4, n4, c4, xs, rfl, by omega, by omega, hp4, ho4.putIn, hr4.mono (by omega), only_again hg4 hg5⟩
def PairPost (w : World) (R : Nat) (K : Int) (e : Ending) (w' : World) : Prop := ∃ A n c ws B m d xs C l q ys, e = .returned (.tuple #[.slice A n c, .slice B m d, .slice C l q]) ∧ n ≤ 8 ∧ m ≤ 10 ∧ l ≤ 10 ∧ PutIn w' A n c ws ∧ MrkIn w' B m d xs ∧ MrkIn w' C l q ys ∧ RdB w' R K ∧ w.grownBy w' (some R)
theorem MrkIn.rest {w : World} {A : Option Addr} {n c k : Nat} {ms : List M} (h : MrkIn w A n c ms) (hk : k ≤ n) : MrkIn w (if c = k then A else A.map (·.add (k * 3))) (n - k) (c - k) (ms.drop k) := by
  obtain ⟨h1, h2, h3, h4⟩ := h
  refine ⟨?_, by omega, by omega, ?_⟩
  · rcases Nat.eq_zero_or_pos (n - k) with h0 | h0
    · rw [h0, List.drop_of_length_le (by rw [h1.len]; omega)]; exact Mrks.nil
    · rw [if_neg (by omega)]
      obtain ⟨b, off, e, _⟩ := h1.2 (by omega)
      subst e
      have := h1.cut (i := k) (k := n - k) (by omega)
      rw [List.take_of_length_le (by rw [List.length_drop, h1.len]; exact Nat.le_refl _)] at this
      rw [show (some (⟨b, off, none⟩ : Addr)).map (·.add (k * 3)) = some ⟨b, off + k * 3, none⟩ by
        unfold Addr.add
        simp only [Option.map_some]
        split
        · rename_i e; rw [e]; rfl
        · rfl]
      exact this
  · intro h
    split at h
    · omega
    · cases A with
      | none => have := h4 rfl; omega
      | some a => cases h
set_option maxHeartbeats 400000 in
theorem pairD_any (R : Nat) (K : Int) (w : World) (h : RdB w R K) (hK0 : 0 ≤ K) (hK : K ≤ 5000) : Calls Try.prog 101 #[.pointer (some ⟨R, 0, none⟩)] w (PairPost w R (K + 2500)) := by
  go_enter Try.func101, Try.ntmps101
  go_wp2_with fail
  refine (marksD_any R K _ h hK0 hK).mono ?_
  rintro e w1 ⟨A, n, c, ws, B, m, d, xs, rfl, hn, hm, hp, hM, hr, hg⟩
  go_wp2_with fail
  refine (someD_any R n c (K + 1200) A _ hr (by omega) (by omega) (by omega)).mono ?_
  rintro e w2 ⟨C, l, q, ys, rfl, hl, hY, hr2, hg2⟩
  have hp2 := hp.rd hr hg2
  have hM2 := hM.rd hr hg2
  have hg3 := only_again hg hg2
  clear hp hM hr hg hg2
  by_cases h1 : m ≤ 1
  · have hz : decide ((1 : Int) < (m : Int)) = false := by simp; omega
    go_wp2_with fail
    go_ret3
    exact ⟨A, n, c, ws, B, m, d, xs, C, l, q, ys, rfl, hn, hm, by omega, hp2, hM2, hY, hr2.mono (by omega), hg3⟩
  · have hz : decide ((1 : Int) < (m : Int)) = true := by simp; omega
    go_wp2_with fail
    refine (pickB R (K + 1200 + 1100) 2 _ hr2 (by omega) (by omega) (by omega)).mono ?_
    rintro e w3 ⟨x, rfl, hx, hr3, hg4⟩
    have hp3 := hp2.rd hr2 hg4
    have hM3 := hM2.rd hr2 hg4
    have hY3 := hY.rd hr2 hg4
    have hg5 := only_again hg3 hg4
    clear hp2 hM2 hY hr2 hg3 hg4
    cases hx0 : ((x : Int) == 0) with
    | false =>
      go_wp2_with fail
      go_ret3
      exact ⟨A, n, c, ws, B, m, d, xs, C, l, q, ys, rfl, hn, hm, by omega, hp3, hM3, hY3, hr3.mono (by omega), hg5⟩
    | true =>
      go_wp2_with fail
      refine (pickB R (K + 1200 + 1100 + 1) ((m : Int) - 1) _ hr3 (by omega) (by omega) (by omega)).mono ?_
      rintro e w4 ⟨y, rfl, hy, hr4, hg6⟩
      have hp4 := hp3.rd hr3 hg6
      have hM4 := hM3.rd hr3 hg6
      have hg7 := only_again hg5 hg6
      clear hp3 hM3 hY3 hr3 hg5 hg6
      have hr4' : RdB w4.drew R (K + 1200 + 1100 + 1 + 1) := hr4
      have hp4' : PutIn w4.drew A n c ws := hp4
      have hM4' : MrkIn w4.drew B m d xs := hM4
      have hg7' := only_drewN hg7 1
      have HT := Lib.hid (fun (W : World) (h : MrkIn W B m d xs) => h.take (k := 1 + y) (by omega))
      have HS := Lib.hid (fun (W : World) (h : MrkIn W B m d xs) (s : Nat) (hs : s ≤ m) => h.rest (k := s) hs)
      have k1 : ((1 : Int) + (y : Int)).toNat = 1 + y := by omega
      have hmd := hM4.2.1
      have hmd2 := hM4.2.2.1
      have K2 : ∀ z : Nat, (z : Int) < 2 → ((1 : Int) + (y : Int) - (z : Int)).toNat = 1 + y - z := fun z hz => by omega
      have K3 : ∀ z : Nat, (z : Int) < 2 → IntKind.i64.wrap ((1 : Int) + (y : Int) - (z : Int)) = (1 : Int) + (y : Int) - (z : Int) := fun z hz => IntWalk.i64_in _ (by omega)
      have DS : ∀ z : Nat, (z : Int) < 2 → ¬ d = 1 + y - z := fun z hz => by omega
      have hd0 : ¬ d = 0 := by omega
      have hd0' : ¬ 0 = d := by omega
      have hadd : B.map (·.add 0) = B := by cases B with | none => rfl | some a => simp [Addr.add]
      clear hp4 hM4 hr4 hg7
      go_wp2_with fail
      go_region_with (go_at_call 89; refine (pickB R (K + 1200 + 1100 + 1 + 1) 2 _ hr4' (by omega) (by omega) (by omega)).mono ?_; rintro e w5 ⟨z, rfl, hz5, hr5, hg8⟩; have hp5 := hp4'.rd hr4' hg8; have hM5 := hM4'.rd hr4' hg8; have hg9 := only_again hg7' hg8; have k2 := K2 z hz5; have k3 := K3 z hz5; have hds := DS z hz5; clear hg8)
      all_goals
        have hS5 := HS.out _ hM5 (1 + y - z) (by omega)
        rw [if_neg hds] at hS5
        have hT5 := HT.out _ hM5
        go_wp2_with fail
        go_ret3
        exact ⟨A, n, c, ws, B, 1 + y, d, _, _, _, _, _, rfl, hn, by omega, by omega, hp5, hT5, hS5, hr5.mono (by omega), hg9⟩
def WM (w : World) (e : Ending) (w' : World) : Prop := ∃ A n c ws B m d ms, e = .returned (.tuple #[.slice A n c, .slice B m d]) ∧ n ≤ 8 ∧ m ≤ 10 ∧ PutIn w' A n c ws ∧ MrkIn w' B m d ms ∧ Below w.heap.size w w'
def WMI (w : World) (e : Ending) (w' : World) : Prop := ∃ A n c ws B m d ms, ∃ i : Int, e = .returned (.tuple #[.slice A n c, .slice B m d, .int .i64 i]) ∧ n ≤ 8 ∧ m ≤ 10 ∧ -1 ≤ i ∧ i ≤ 31 ∧ PutIn w' A n c ws ∧ MrkIn w' B m d ms ∧ Below w.heap.size w w'
def WW (w : World) (e : Ending) (w' : World) : Prop := ∃ A n c xs B m d ys, e = .returned (.tuple #[.slice A n c, .slice B m d]) ∧ n ≤ 20 ∧ m ≤ 20 ∧ PutIn w' A n c xs ∧ PutIn w' B m d ys ∧ Below w.heap.size w w'
def WMM (w : World) (e : Ending) (w' : World) : Prop := ∃ A n c ws B m d xs C l q ys, e = .returned (.tuple #[.slice A n c, .slice B m d, .slice C l q]) ∧ n ≤ 8 ∧ m ≤ 10 ∧ l ≤ 10 ∧ PutIn w' A n c ws ∧ MrkIn w' B m d xs ∧ MrkIn w' C l q ys ∧ Below w.heap.size w w'

set_option maxHeartbeats 400000 in
theorem drawBack (A : Option Addr) (n c : Nat) (w : World) (h : Bytes w w.heap.size A n) (hn : n ≤ 1048576) (hnc : n ≤ c) :
    Calls Try.prog 57 #[.slice A n c] w (WM w) := by
  go_enter Try.func57, Try.ntmps57
  go_wp2_with fail
  refine (open_any A n c _ h hn hnc).mono ?_
  rintro e w1 ⟨rfl, hr, hb⟩
  go_wp2_with fail
  refine (marksD_any _ 0 _ hr (by omega) (by omega)).mono ?_
  rintro e w2 ⟨A2, n2, c2, ws, B, m, d, ms, rfl, hn2, hm, hp, hM, hr2, hg⟩
  have hb2 := below_only hb hg (fun g e => by injection e with e; omega)
  go_wp2_with fail
  go_ret2
  exact ⟨A2, n2, c2, ws, B, m, d, ms, rfl, hn2, hm, hp, hM, hb2⟩

set_option maxHeartbeats 400000 in
theorem drawSize (A : Option Addr) (n c : Nat) (w : World) (h : Bytes w w.heap.size A n) (hn : n ≤ 1048576) (hnc : n ≤ c) :
    Calls Try.prog 62 #[.slice A n c] w (WM w) := by
  go_enter Try.func62, Try.ntmps62
  go_wp2_with fail
  refine (open_any A n c _ h hn hnc).mono ?_
  rintro e w1 ⟨rfl, hr, hb⟩
  go_wp2_with fail
  refine (marksD_any _ 0 _ hr (by omega) (by omega)).mono ?_
  rintro e w2 ⟨A2, n2, c2, ws, B, m, d, ms, rfl, hn2, hm, hp, hM, hr2, hg⟩
  have hb2 := below_only hb hg (fun g e => by injection e with e; omega)
  go_wp2_with fail
  go_ret2
  exact ⟨A2, n2, c2, ws, B, m, d, ms, rfl, hn2, hm, hp, hM, hb2⟩

set_option maxHeartbeats 400000 in
theorem drawDo (A : Option Addr) (n c : Nat) (w : World) (h : Bytes w w.heap.size A n) (hn : n ≤ 1048576) (hnc : n ≤ c) :
    Calls Try.prog 65 #[.slice A n c] w (WM w) := by
  go_enter Try.func65, Try.ntmps65
  go_wp2_with fail
  refine (open_any A n c _ h hn hnc).mono ?_
  rintro e w1 ⟨rfl, hr, hb⟩
  go_wp2_with fail
  refine (marksD_any _ 0 _ hr (by omega) (by omega)).mono ?_
  rintro e w2 ⟨A2, n2, c2, ws, B, m, d, ms, rfl, hn2, hm, hp, hM, hr2, hg⟩
  have hb2 := below_only hb hg (fun g e => by injection e with e; omega)
  go_wp2_with fail
  go_ret2
  exact ⟨A2, n2, c2, ws, B, m, d, ms, rfl, hn2, hm, hp, hM, hb2⟩

set_option maxHeartbeats 400000 in
theorem drawValid (A : Option Addr) (n c : Nat) (w : World) (h : Bytes w w.heap.size A n) (hn : n ≤ 1048576) (hnc : n ≤ c) :
    Calls Try.prog 67 #[.slice A n c] w (WM w) := by
  go_enter Try.func67, Try.ntmps67
  go_wp2_with fail
  refine (open_any A n c _ h hn hnc).mono ?_
  rintro e w1 ⟨rfl, hr, hb⟩
  go_wp2_with fail
  refine (marksD_any _ 0 _ hr (by omega) (by omega)).mono ?_
  rintro e w2 ⟨A2, n2, c2, ws, B, m, d, ms, rfl, hn2, hm, hp, hM, hr2, hg⟩
  have hb2 := below_only hb hg (fun g e => by injection e with e; omega)
  go_wp2_with fail
  go_ret2
  exact ⟨A2, n2, c2, ws, B, m, d, ms, rfl, hn2, hm, hp, hM, hb2⟩

set_option maxHeartbeats 400000 in
theorem drawSame (A : Option Addr) (n c : Nat) (w : World) (h : Bytes w w.heap.size A n) (hn : n ≤ 1048576) (hnc : n ≤ c) :
    Calls Try.prog 51 #[.slice A n c] w (WW w) := by
  go_enter Try.func51, Try.ntmps51
  go_wp2_with fail
  refine (open_any A n c _ h hn hnc).mono ?_
  rintro e w1 ⟨rfl, hr, hb⟩
  go_wp2_with fail
  refine (twoD_any _ 0 _ hr (by omega) (by omega)).mono ?_
  rintro e w2 ⟨A2, n2, c2, ws, B, m, d, ms, rfl, hn2, hm, hp, hM, hr2, hg⟩
  have hb2 := below_only hb hg (fun g e => by injection e with e; omega)
  go_wp2_with fail
  go_ret2
  exact ⟨A2, n2, c2, ws, B, m, d, ms, rfl, hn2, hm, hp, hM, hb2⟩

set_option maxHeartbeats 400000 in
theorem drawFar (A : Option Addr) (n c : Nat) (w : World) (h : Bytes w w.heap.size A n) (hn : n ≤ 1048576) (hnc : n ≤ c) :
    Calls Try.prog 52 #[.slice A n c] w (WW w) := by
  go_enter Try.func52, Try.ntmps52
  go_wp2_with fail
  refine (open_any A n c _ h hn hnc).mono ?_
  rintro e w1 ⟨rfl, hr, hb⟩
  go_wp2_with fail
  refine (twoD_any _ 0 _ hr (by omega) (by omega)).mono ?_
  rintro e w2 ⟨A2, n2, c2, ws, B, m, d, ms, rfl, hn2, hm, hp, hM, hr2, hg⟩
  have hb2 := below_only hb hg (fun g e => by injection e with e; omega)
  go_wp2_with fail
  go_ret2
  exact ⟨A2, n2, c2, ws, B, m, d, ms, rfl, hn2, hm, hp, hM, hb2⟩

set_option maxHeartbeats 400000 in
theorem drawMake (A : Option Addr) (n c : Nat) (w : World) (h : Bytes w w.heap.size A n) (hn : n ≤ 1048576) (hnc : n ≤ c) :
    Calls Try.prog 66 #[.slice A n c] w (WW w) := by
  go_enter Try.func66, Try.ntmps66
  go_wp2_with fail
  refine (open_any A n c _ h hn hnc).mono ?_
  rintro e w1 ⟨rfl, hr, hb⟩
  go_wp2_with fail
  refine (twoD_any _ 0 _ hr (by omega) (by omega)).mono ?_
  rintro e w2 ⟨A2, n2, c2, ws, B, m, d, ms, rfl, hn2, hm, hp, hM, hr2, hg⟩
  have hb2 := below_only hb hg (fun g e => by injection e with e; omega)
  go_wp2_with fail
  go_ret2
  exact ⟨A2, n2, c2, ws, B, m, d, ms, rfl, hn2, hm, hp, hM, hb2⟩

set_option maxHeartbeats 400000 in
theorem drawClash (A : Option Addr) (n c : Nat) (w : World) (h : Bytes w w.heap.size A n) (hn : n ≤ 1048576) (hnc : n ≤ c) :
    Calls Try.prog 68 #[.slice A n c] w (WMM w) := by
  go_enter Try.func68, Try.ntmps68
  go_wp2_with fail
  refine (open_any A n c _ h hn hnc).mono ?_
  rintro e w1 ⟨rfl, hr, hb⟩
  go_wp2_with fail
  refine (pairD_any _ 0 _ hr (by omega) (by omega)).mono ?_
  rintro e w2 ⟨A2, n2, c2, ws, B, m, d, xs, C, l, q, ys, rfl, hn2, hm, hl, hp, hM, hL, hr2, hg⟩
  have hb2 := below_only hb hg (fun g e => by injection e with e; omega)
  go_wp2_with fail
  go_ret3
  exact ⟨A2, n2, c2, ws, B, m, d, xs, C, l, q, ys, rfl, hn2, hm, hl, hp, hM, hL, hb2⟩

set_option maxHeartbeats 400000 in
theorem drawBoth (A : Option Addr) (n c : Nat) (w : World) (h : Bytes w w.heap.size A n) (hn : n ≤ 1048576) (hnc : n ≤ c) :
    Calls Try.prog 69 #[.slice A n c] w (WMM w) := by
  go_enter Try.func69, Try.ntmps69
  go_wp2_with fail
  refine (open_any A n c _ h hn hnc).mono ?_
  rintro e w1 ⟨rfl, hr, hb⟩
  go_wp2_with fail
  refine (pairD_any _ 0 _ hr (by omega) (by omega)).mono ?_
  rintro e w2 ⟨A2, n2, c2, ws, B, m, d, xs, C, l, q, ys, rfl, hn2, hm, hl, hp, hM, hL, hr2, hg⟩
  have hb2 := below_only hb hg (fun g e => by injection e with e; omega)
  go_wp2_with fail
  go_ret3
  exact ⟨A2, n2, c2, ws, B, m, d, xs, C, l, q, ys, rfl, hn2, hm, hl, hp, hM, hL, hb2⟩

set_option maxHeartbeats 400000 in
theorem drawShift (A : Option Addr) (n c : Nat) (w : World) (h : Bytes w w.heap.size A n) (hn : n ≤ 1048576) (hnc : n ≤ c) :
    Calls Try.prog 61 #[.slice A n c] w (WMI w) := by
  go_enter Try.func61, Try.ntmps61
  go_wp2_with fail
  refine (open_any A n c _ h hn hnc).mono ?_
  rintro e w1 ⟨rfl, hr, hb⟩
  go_wp2_with fail
  refine (marksD_any _ 0 _ hr (by omega) (by omega)).mono ?_
  rintro e w2 ⟨A2, n2, c2, ws, B, m, d, ms, rfl, hn2, hm, hp, hM, hr2, hg⟩
  go_wp2_with fail
  refine (atD_any _ n2 (0 + 1200) _ hr2 (by omega) (by omega)).mono ?_
  rintro e w3 ⟨x, rfl, x0, x1, hr3, hg3⟩
  have hg := only_again hg hg3
  have hb2 := below_only hb hg (fun g e => by injection e with e; omega)
  have hp3 := hp.rd hr2 hg3
  have hM3 := hM.rd hr2 hg3
  go_wp2_with fail
  go_ret3
  exact ⟨A2, n2, c2, ws, B, m, d, ms, x, rfl, hn2, hm, x0, x1, hp3, hM3, hb2⟩

end Go.Proofs.Ytjhlcgjhdiheaaa
