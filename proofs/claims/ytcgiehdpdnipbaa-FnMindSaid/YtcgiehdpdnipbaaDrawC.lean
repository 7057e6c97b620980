/- The drawing functions of the talk chapter, whole: a talk and numbers in their ranges, in memory of the call's own; the laws' sameInts and sumOf. -/
import Derived.Test.YtcgiehdpdnipbaaDrawB
import Derived.Test.YtcgiehdpdnipbaaRelay
namespace Go.Proofs.Ytcgiehdpdnipbaa
open Go.RowKit
set_option linter.unusedVariables false

set_option maxHeartbeats 400000 in
theorem same_any (A B : Option Addr) (n c m d : Nat) (xs ys : List Int) (w : World) (hn : n ≤ 1048576) (hm : m ≤ 1048576) (h : Ints w A n xs) (k : Ints w B m ys) :
    Calls Try.prog 44 #[.slice A n c, .slice B m d] w fun e w' => e = .returned (.bool (decide (xs = ys))) ∧ Below w.heap.size w w' := by
  have hlen := Lib.hid h.len
  have hlen2 := Lib.hid k.len
  by_cases hnm : n = m
  · subst hnm
    go_enter Try.func44, Try.ntmps44
    go_wp2
    go_loopw [5] (fun i wr => ∃ j : Nat, j ≤ n ∧ i = .int .i64 j ∧ Hid (xs.take j = ys.take j) ∧ ∃ q, wr = w.drewN q) (fun i _ => n - (intOf i).toNat)
    case atStart => exact ⟨0, Nat.zero_le _, rfl, Lib.hid rfl, 0, rfl⟩
    case round =>
      obtain ⟨j, hj, rfl, heq, q, rfl⟩ := hrel
      by_cases hlt : j < n
      · obtain ⟨b, off, x, rfl, hx, hx1, hx2, hc⟩ := h.at_ hlt
        obtain ⟨b2, off2, y, rfl, hy, hy1, hy2, hc2⟩ := k.at_ hlt
        have hX := Lib.hid hx
        have hY := Lib.hid hy
        clear hx hy
        have i1 : (0 : Int) ≤ (j : Int) := by omega
        have i2 : (j : Int) < (n : Int) := by omega
        cases hb : (x != y) with
        | false =>
          go_wp2
          go_quiet (fail)
          go_wp2
          go_roundw
          case rel => exact ⟨j + 1, by omega, by go_num, Lib.hid (by rw [take_snoc hX.out, take_snoc hY.out, heq.out]; simp at hb; rw [hb]), _, rfl⟩
          case measure => simp [intOf]; omega
        | true =>
          go_wp2
          go_quiet (fail)
          go_wp2
          go_ret
          refine ⟨ret_bool ?_, below_drewN (below_drewN (Below.refl _ _) _) _⟩
          have hne : xs ≠ ys := by
            rintro rfl
            have := hX.out.symm.trans hY.out
            simp at this hb
            exact hb this
          simp [hne]
      · have he : xs = ys := by
          have := heq.out
          rwa [List.take_of_length_le (by rw [hlen.out]; omega), List.take_of_length_le (by rw [hlen2.out]; omega)] at this
        go_wp2
        go_ret
        exact ⟨ret_bool (by simp [he]), below_drewN (Below.refl _ _) _⟩
  · have hb : ((n : Int) != (m : Int)) = true := by simp; omega
    have hne : xs ≠ ys := by rintro rfl; exact hnm (hlen.out.symm.trans hlen2.out)
    go_enter Try.func44, Try.ntmps44
    go_wp2
    go_ret
    exact ⟨ret_bool (by simp [hne]), Below.refl _ _⟩


set_option maxHeartbeats 400000 in
theorem lsum_any (A : Option Addr) (n c : Nat) (xs : List Int) (w : World) (hm : n ≤ 1000) (h : Ints w A n xs) (hb : ∀ x ∈ xs, 0 ≤ x ∧ x ≤ 1000) :
    Calls Try.prog 61 #[.slice A n c] w fun e w' => e = .returned (.int .i64 (Talk.sum xs)) ∧ w = w' := by
  have hlen := Lib.hid h.len
  have HB := Lib.hid hb
  clear hb
  go_enter Try.func61, Try.ntmps61
  go_wp2
  go_loop [3, 4] (fun s i => ∃ k : Nat, k ≤ n ∧ i = .int .i64 k ∧ ∃ t : Int, 0 ≤ t ∧ t ≤ 1000 * k ∧ s = .int .i64 t ∧ Hid (t = Talk.sum (xs.take k))) (fun _ i => n - (intOf i).toNat)
  case atStart => exact ⟨0, Nat.zero_le _, rfl, 0, by omega, by omega, rfl, Lib.hid rfl⟩
  case round =>
    obtain ⟨k, hk, rfl, t, ht1, ht2, rfl, ht⟩ := hrel
    by_cases hlt : k < n
    · obtain ⟨b, off, x, rfl, hx, hx1, hx2, hc⟩ := h.at_ hlt
      have hX := Lib.hid hx
      have hr := HB.out x (mem_at hx)
      obtain ⟨hr1, hr2⟩ := hr
      clear hx
      go_wp2
      go_round
      case rel => exact ⟨k + 1, by omega, by go_num, t + x, by omega, by omega, rfl, Lib.hid (by rw [take_snoc hX.out, Talk.sum_append, ← ht.out]; simp [Talk.sum])⟩
      case measure => simp [intOf]; omega
    · have he : xs.take k = xs := List.take_of_length_le (by rw [hlen.out]; omega)
      rw [he] at ht
      go_wp2
      go_ret
      exact ⟨ret_int ht.out, rfl⟩


theorem drawn_out {w w1 w2 : World} {R n c : Nat} {K : Int} {A : Option Addr} (hb : Below w.heap.size w w1) (hd : Drawn w1 R K n A c w2) (hR : w.heap.size ≤ R) : ∃ xs, OwnI w2 w.heap.size w2.heap.size A n c xs ∧ Near xs ∧ Below w.heap.size w w2 := by
  obtain ⟨xs, ho, hn, _, hg⟩ := hd
  exact ⟨xs, ho.wide hb.size (Nat.le_refl _) (Nat.le_refl _), hn, below_only hb hg (fun g e => by injection e with e; omega)⟩

def WriterPost (w : World) (R : Nat) (K : Int) (e : Ending) (w' : World) : Prop :=
  ∃ A n c, ∃ r h : Int, e = .returned (.tuple #[.slice A n c, .int .i64 r, .int .i64 h]) ∧ n ≤ 31 ∧ 0 ≤ r ∧ r ≤ 10 ∧ -1 ≤ h ∧ h ≤ 51 ∧ Drawn w R K n A c w'
set_option maxHeartbeats 400000 in
theorem writerD_any (R : Nat) (K : Int) (w : World) (h : RdB w R K) (hK0 : 0 ≤ K) (hK : K ≤ 5000) :
    Calls Try.prog 85 #[.pointer (some ⟨R, 0, none⟩)] w (WriterPost w R (K + 104)) := by
  have hR := h.lt
  go_enter Try.func85, Try.ntmps85
  go_wp2_with fail
  refine (talkD_any R K _ h hK0 (by omega)).mono ?_
  rintro e w1 ⟨A, n, c, rfl, hn, hd1⟩
  go_wp2_with fail
  refine (rateD_any R (K + 100) _ hd1.rd (by omega)).mono ?_
  rintro e w2 ⟨r, rfl, r0, r1, hr2, hg2⟩
  have hd2 := hd1.pick hR hr2 hg2
  clear hd1 hr2 hg2
  go_wp2_with fail
  refine (holdD_any R (K + 100 + 2) _ hd2.rd (by omega)).mono ?_
  rintro e w3 ⟨q, rfl, q0, q1, hr3, hg3⟩
  have hd3 := hd2.pick hR hr3 hg3
  clear hd2 hr3 hg3
  go_wp2
  go_ret3
  exact ⟨A, n, c, r, q, rfl, hn, r0, r1, q0, q1, hd3.mono (by omega)⟩

/-- a talk in memory of the call's own -/
def OneTalk (w : World) (e : Ending) (w' : World) : Prop := ∃ A n c xs, e = .returned (.slice A n c) ∧ n ≤ 31 ∧ OwnI w' w.heap.size w'.heap.size A n c xs ∧ Below w.heap.size w w'
def TalkRH (w : World) (e : Ending) (w' : World) : Prop := ∃ A n c xs, ∃ r h : Int, e = .returned (.tuple #[.slice A n c, .int .i64 r, .int .i64 h]) ∧ n ≤ 31 ∧ 0 ≤ r ∧ r ≤ 10 ∧ -1 ≤ h ∧ h ≤ 51 ∧ OwnI w' w.heap.size w'.heap.size A n c xs ∧ Below w.heap.size w w'
def TalkNum (w : World) (e : Ending) (w' : World) : Prop := ∃ A n c xs, ∃ q : Int, e = .returned (.tuple #[.slice A n c, .int .i64 q]) ∧ n ≤ 31 ∧ -1 ≤ q ∧ q ≤ 51 ∧ OwnI w' w.heap.size w'.heap.size A n c xs ∧ Below w.heap.size w w'
def TalkPT (w : World) (e : Ending) (w' : World) : Prop := ∃ A n c xs, ∃ p t : Int, e = .returned (.tuple #[.slice A n c, .int .i64 p, .int .i64 t]) ∧ n ≤ 31 ∧ -2 ≤ p ∧ p ≤ 1 ∧ 0 ≤ t ∧ t ≤ 31 ∧ OwnI w' w.heap.size w'.heap.size A n c xs ∧ Below w.heap.size w w'
def TwoTalks (w : World) (e : Ending) (w' : World) : Prop := ∃ A n c xs B m d ys, e = .returned (.tuple #[.slice A n c, .slice B m d]) ∧ n ≤ 31 ∧ m ≤ 31 ∧ OwnI w' w.heap.size w'.heap.size A n c xs ∧ OwnI w' w.heap.size w'.heap.size B m d ys ∧ Below w.heap.size w w'
def TalkRHT (w : World) (e : Ending) (w' : World) : Prop := ∃ A n c xs, ∃ r h t : Int, e = .returned (.tuple #[.slice A n c, .int .i64 r, .int .i64 h, .int .i64 t]) ∧ n ≤ 31 ∧ 0 ≤ r ∧ r ≤ 10 ∧ -1 ≤ h ∧ h ≤ 51 ∧ 0 ≤ t ∧ t ≤ 31 ∧ OwnI w' w.heap.size w'.heap.size A n c xs ∧ Below w.heap.size w w'
theorem results_four {fn : Func} {t u v x : Tmp} (h : fn.results = #[.tmp t, .tmp u, .tmp v, .tmp x]) (tmps : Array Value) (P : Program) (w : World) :
    (results fn tmps).run P w = .ok (.tuple #[tmps.getD t undef, tmps.getD u undef, tmps.getD v undef, tmps.getD x undef]) w := by simp [results, h]

set_option maxHeartbeats 400000 in
theorem drawSpeed (A : Option Addr) (n c : Nat) (w : World) (h : Bytes w w.heap.size A n) (hn : n ≤ 1048576) (hnc : n ≤ c) :
    Calls Try.prog 42 #[.slice A n c] w (OneTalk w) := by
  go_enter Try.func42, Try.ntmps42
  go_wp2_with fail
  refine (open_any A n c _ h hn hnc).mono ?_
  rintro e w1 ⟨rfl, hr, hb⟩
  have hR := hr.lt
  go_wp2_with fail
  refine (talkD_any _ 0 _ hr (by omega) (by omega)).mono ?_
  rintro e w2 ⟨A2, n2, c2, rfl, hn2, hd2⟩
  obtain ⟨xs, ho, _, hb2⟩ := drawn_out hb hd2 (Nat.le_refl _)
  clear hd2
  go_wp2
  go_ret
  exact ⟨A2, n2, c2, xs, rfl, hn2, ho, hb2⟩

set_option maxHeartbeats 400000 in
theorem drawWords (A : Option Addr) (n c : Nat) (w : World) (h : Bytes w w.heap.size A n) (hn : n ≤ 1048576) (hnc : n ≤ c) :
    Calls Try.prog 55 #[.slice A n c] w (OneTalk w) := by
  go_enter Try.func55, Try.ntmps55
  go_wp2_with fail
  refine (open_any A n c _ h hn hnc).mono ?_
  rintro e w1 ⟨rfl, hr, hb⟩
  have hR := hr.lt
  go_wp2_with fail
  refine (talkD_any _ 0 _ hr (by omega) (by omega)).mono ?_
  rintro e w2 ⟨A2, n2, c2, rfl, hn2, hd2⟩
  obtain ⟨xs, ho, _, hb2⟩ := drawn_out hb hd2 (Nat.le_refl _)
  clear hd2
  go_wp2
  go_ret
  exact ⟨A2, n2, c2, xs, rfl, hn2, ho, hb2⟩

set_option maxHeartbeats 400000 in
theorem drawLost (A : Option Addr) (n c : Nat) (w : World) (h : Bytes w w.heap.size A n) (hn : n ≤ 1048576) (hnc : n ≤ c) :
    Calls Try.prog 56 #[.slice A n c] w (TalkRH w) := by
  go_enter Try.func56, Try.ntmps56
  go_wp2_with fail
  refine (open_any A n c _ h hn hnc).mono ?_
  rintro e w1 ⟨rfl, hr, hb⟩
  have hR := hr.lt
  go_wp2_with fail
  refine (writerD_any _ 0 _ hr (by omega) (by omega)).mono ?_
  rintro e w2 ⟨A2, n2, c2, r, q, rfl, hn2, r0, r1, q0, q1, hd2⟩
  obtain ⟨xs, ho, _, hb2⟩ := drawn_out hb hd2 (Nat.le_refl _)
  clear hd2
  go_wp2
  go_ret3
  exact ⟨A2, n2, c2, xs, r, q, rfl, hn2, r0, r1, q0, q1, ho, hb2⟩

set_option maxHeartbeats 400000 in
theorem drawMind (A : Option Addr) (n c : Nat) (w : World) (h : Bytes w w.heap.size A n) (hn : n ≤ 1048576) (hnc : n ≤ c) :
    Calls Try.prog 62 #[.slice A n c] w (TalkRH w) := by
  go_enter Try.func62, Try.ntmps62
  go_wp2_with fail
  refine (open_any A n c _ h hn hnc).mono ?_
  rintro e w1 ⟨rfl, hr, hb⟩
  have hR := hr.lt
  go_wp2_with fail
  refine (writerD_any _ 0 _ hr (by omega) (by omega)).mono ?_
  rintro e w2 ⟨A2, n2, c2, r, q, rfl, hn2, r0, r1, q0, q1, hd2⟩
  obtain ⟨xs, ho, _, hb2⟩ := drawn_out hb hd2 (Nat.le_refl _)
  clear hd2
  go_wp2
  go_ret3
  exact ⟨A2, n2, c2, xs, r, q, rfl, hn2, r0, r1, q0, q1, ho, hb2⟩

set_option maxHeartbeats 400000 in
theorem drawTail (A : Option Addr) (n c : Nat) (w : World) (h : Bytes w w.heap.size A n) (hn : n ≤ 1048576) (hnc : n ≤ c) :
    Calls Try.prog 65 #[.slice A n c] w (TalkRH w) := by
  go_enter Try.func65, Try.ntmps65
  go_wp2_with fail
  refine (open_any A n c _ h hn hnc).mono ?_
  rintro e w1 ⟨rfl, hr, hb⟩
  have hR := hr.lt
  go_wp2_with fail
  refine (writerD_any _ 0 _ hr (by omega) (by omega)).mono ?_
  rintro e w2 ⟨A2, n2, c2, r, q, rfl, hn2, r0, r1, q0, q1, hd2⟩
  obtain ⟨xs, ho, _, hb2⟩ := drawn_out hb hd2 (Nat.le_refl _)
  clear hd2
  go_wp2
  go_ret3
  exact ⟨A2, n2, c2, xs, r, q, rfl, hn2, r0, r1, q0, q1, ho, hb2⟩

set_option maxHeartbeats 400000 in
theorem drawTurn (A : Option Addr) (n c : Nat) (w : World) (h : Bytes w w.heap.size A n) (hn : n ≤ 1048576) (hnc : n ≤ c) :
    Calls Try.prog 69 #[.slice A n c] w (TalkRH w) := by
  go_enter Try.func69, Try.ntmps69
  go_wp2_with fail
  refine (open_any A n c _ h hn hnc).mono ?_
  rintro e w1 ⟨rfl, hr, hb⟩
  have hR := hr.lt
  go_wp2_with fail
  refine (writerD_any _ 0 _ hr (by omega) (by omega)).mono ?_
  rintro e w2 ⟨A2, n2, c2, r, q, rfl, hn2, r0, r1, q0, q1, hd2⟩
  obtain ⟨xs, ho, _, hb2⟩ := drawn_out hb hd2 (Nat.le_refl _)
  clear hd2
  go_wp2
  go_ret3
  exact ⟨A2, n2, c2, xs, r, q, rfl, hn2, r0, r1, q0, q1, ho, hb2⟩

set_option maxHeartbeats 400000 in
theorem drawRate (A : Option Addr) (n c : Nat) (w : World) (h : Bytes w w.heap.size A n) (hn : n ≤ 1048576) (hnc : n ≤ c) :
    Calls Try.prog 59 #[.slice A n c] w (TalkNum w) := by
  go_enter Try.func59, Try.ntmps59
  go_wp2_with fail
  refine (open_any A n c _ h hn hnc).mono ?_
  rintro e w1 ⟨rfl, hr, hb⟩
  have hR := hr.lt
  go_wp2_with fail
  refine (talkD_any _ 0 _ hr (by omega) (by omega)).mono ?_
  rintro e w2 ⟨A2, n2, c2, rfl, hn2, hd2⟩
  go_wp2_with fail
  refine (holdD_any _ (0 + 100) _ hd2.rd (by omega)).mono ?_
  rintro e w3 ⟨q, rfl, q0, q1, hr3, hg3⟩
  have hd3 := hd2.pick hR hr3 hg3
  obtain ⟨xs, ho, _, hb2⟩ := drawn_out hb hd3 (Nat.le_refl _)
  clear hd2 hd3 hr3 hg3
  go_wp2
  go_ret2
  exact ⟨A2, n2, c2, xs, q, rfl, hn2, by omega, by omega, ho, hb2⟩

set_option maxHeartbeats 400000 in
theorem drawHold (A : Option Addr) (n c : Nat) (w : World) (h : Bytes w w.heap.size A n) (hn : n ≤ 1048576) (hnc : n ≤ c) :
    Calls Try.prog 64 #[.slice A n c] w (TalkNum w) := by
  go_enter Try.func64, Try.ntmps64
  go_wp2_with fail
  refine (open_any A n c _ h hn hnc).mono ?_
  rintro e w1 ⟨rfl, hr, hb⟩
  have hR := hr.lt
  go_wp2_with fail
  refine (talkD_any _ 0 _ hr (by omega) (by omega)).mono ?_
  rintro e w2 ⟨A2, n2, c2, rfl, hn2, hd2⟩
  go_wp2_with fail
  refine (rateD_any _ (0 + 100) _ hd2.rd (by omega)).mono ?_
  rintro e w3 ⟨q, rfl, q0, q1, hr3, hg3⟩
  have hd3 := hd2.pick hR hr3 hg3
  obtain ⟨xs, ho, _, hb2⟩ := drawn_out hb hd3 (Nat.le_refl _)
  clear hd2 hd3 hr3 hg3
  go_wp2
  go_ret2
  exact ⟨A2, n2, c2, xs, q, rfl, hn2, by omega, by omega, ho, hb2⟩

set_option maxHeartbeats 400000 in
theorem drawPeak (A : Option Addr) (n c : Nat) (w : World) (h : Bytes w w.heap.size A n) (hn : n ≤ 1048576) (hnc : n ≤ c) :
    Calls Try.prog 60 #[.slice A n c] w (TalkNum w) := by
  go_enter Try.func60, Try.ntmps60
  go_wp2_with fail
  refine (open_any A n c _ h hn hnc).mono ?_
  rintro e w1 ⟨rfl, hr, hb⟩
  have hR := hr.lt
  go_wp2_with fail
  refine (talkD_any _ 0 _ hr (by omega) (by omega)).mono ?_
  rintro e w2 ⟨A2, n2, c2, rfl, hn2, hd2⟩
  go_wp2_with fail
  refine (atD_any _ n2 (0 + 100) _ hd2.rd (by omega) hn2).mono ?_
  rintro e w3 ⟨q, rfl, q0, q1, hr3, hg3⟩
  have hd3 := hd2.pick hR hr3 hg3
  obtain ⟨xs, ho, _, hb2⟩ := drawn_out hb hd3 (Nat.le_refl _)
  clear hd2 hd3 hr3 hg3
  go_wp2
  go_ret2
  exact ⟨A2, n2, c2, xs, 1 + q, rfl, hn2, by omega, by omega, ho, hb2⟩

set_option maxHeartbeats 400000 in
theorem drawHeard (A : Option Addr) (n c : Nat) (w : World) (h : Bytes w w.heap.size A n) (hn : n ≤ 1048576) (hnc : n ≤ c) :
    Calls Try.prog 43 #[.slice A n c] w (TalkPT w) := by
  go_enter Try.func43, Try.ntmps43
  go_wp2_with fail
  refine (open_any A n c _ h hn hnc).mono ?_
  rintro e w1 ⟨rfl, hr, hb⟩
  have hR := hr.lt
  go_wp2_with fail
  refine (talkD_any _ 0 _ hr (by omega) (by omega)).mono ?_
  rintro e w2 ⟨A2, n2, c2, rfl, hn2, hd2⟩
  go_wp2_with fail
  refine (pickB _ (0 + 100) 2 _ hd2.rd (by omega) (by omega) (by omega)).mono ?_
  rintro e w3 ⟨x, rfl, hx, hr3, hg3⟩
  have hd3 := hd2.pick hR hr3 hg3
  clear hd2 hr3 hg3
  go_wp2_with fail
  refine (pickB _ (0 + 100 + 1) 20 _ hd3.rd (by omega) (by omega) (by omega)).mono ?_
  rintro e w4 ⟨y, rfl, hy, hr4, hg4⟩
  have hd4 := hd3.pick hR hr4 hg4
  clear hd3 hr4 hg4
  go_wp2_with fail
  refine (turnD_any _ (0 + 100 + 1 + 1) _ hd4.rd (by omega)).mono ?_
  rintro e w5 ⟨t, rfl, t0, t1, hr5, hg5⟩
  have hd5 := hd4.pick hR hr5 hg5
  obtain ⟨xs, ho, _, hb2⟩ := drawn_out hb hd5 (Nat.le_refl _)
  clear hd4 hd5 hr5 hg5
  go_wp2
  go_ret3
  exact ⟨A2, n2, c2, xs, _, t, rfl, hn2, by omega, by omega, t0, t1, ho, hb2⟩

set_option maxHeartbeats 400000 in
theorem drawJoin (A : Option Addr) (n c : Nat) (w : World) (h : Bytes w w.heap.size A n) (hn : n ≤ 1048576) (hnc : n ≤ c) :
    Calls Try.prog 63 #[.slice A n c] w (TwoTalks w) := by
  go_enter Try.func63, Try.ntmps63
  go_wp2_with fail
  refine (open_any A n c _ h hn hnc).mono ?_
  rintro e w1 ⟨rfl, hr, hb⟩
  have hR := hr.lt
  go_wp2_with fail
  refine (talkD_any _ 0 _ hr (by omega) (by omega)).mono ?_
  rintro e w2 ⟨A2, n2, c2, rfl, hn2, hd2⟩
  have hd2' := hd2
  obtain ⟨xs, ho, _, hr2, hg2⟩ := hd2'
  have hb2 := below_only hb hg2 (fun g e => by injection e with e; omega)
  go_wp2_with fail
  refine (talkD_any _ (0 + 100) _ hd2.rd (by omega) (by omega)).mono ?_
  rintro e w3 ⟨A3, n3, c3, rfl, hn3, hd3⟩
  obtain ⟨ys, ho3, _, hb3⟩ := drawn_out (w := w) hb2 hd3 (Nat.le_refl _)
  obtain ⟨_, _, _, _, hg3⟩ := hd3
  have ho2 := (ho.far hg3 (fun g e => by injection e with e; omega)).wide (lo' := w.heap.size) (hi' := w3.heap.size) hb.size hg3.size (Nat.le_refl _)
  clear hd2 hg3 hg2 hr2
  go_wp2
  go_ret2
  exact ⟨A2, n2, c2, xs, A3, n3, c3, ys, rfl, hn2, hn3, ho2, ho3, hb3⟩

set_option maxHeartbeats 400000 in
theorem drawRelay (A : Option Addr) (n c : Nat) (w : World) (h : Bytes w w.heap.size A n) (hn : n ≤ 1048576) (hnc : n ≤ c) :
    Calls Try.prog 68 #[.slice A n c] w (TalkRHT w) := by
  go_enter Try.func68, Try.ntmps68
  go_wp2_with fail
  refine (open_any A n c _ h hn hnc).mono ?_
  rintro e w1 ⟨rfl, hr, hb⟩
  have hR := hr.lt
  go_wp2_with fail
  refine (writerD_any _ 0 _ hr (by omega) (by omega)).mono ?_
  rintro e w2 ⟨A2, n2, c2, r, q, rfl, hn2, r0, r1, q0, q1, hd2⟩
  go_wp2_with fail
  refine (turnD_any _ (0 + 104) _ hd2.rd (by omega)).mono ?_
  rintro e w3 ⟨t, rfl, t0, t1, hr3, hg3⟩
  have hd3 := hd2.pick hR hr3 hg3
  obtain ⟨xs, ho, _, hb2⟩ := drawn_out hb hd3 (Nat.le_refl _)
  clear hd2 hd3 hr3 hg3
  go_wp2
  refine bodyPost_ret (results_four rfl _ _ _) rfl ?_
  exact ⟨A2, n2, c2, xs, r, q, t, rfl, hn2, r0, r1, q0, q1, t0, t1, ho, hb2⟩

end Go.Proofs.Ytcgiehdpdnipbaa
