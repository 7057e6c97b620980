/- The small functions of the talk chapter and the laws' helpers, second part: lists that are copied, compared, marked; sums; ranges. -/
import Derived.Test.YtcgiehdpdnipbaaBase
namespace Go.Proofs.Ytcgiehdpdnipbaa
open Go.RowKit

theorem Try.infoInt : (Try.prog.info? 3).map (fun i => (i.zero, i.size, i.bytes)) = some (some (.int .i64 0), 1, 8) := by kernel_rfl

set_option maxHeartbeats 400000 in
theorem index_any (A : Option Addr) (n c : Nat) (xs : List Int) (w : World) (hm : n ≤ 9223372036854775807) (h : Ints w A n xs) :
    Calls Try.prog 94 #[.slice A n c, .func (.func 90) #[] #[]] w fun e w' => (∃ r : Int, e = .returned (.int .i64 r) ∧ Hid (0 ≤ r ↔ Talk.allIn xs = false)) ∧ w = w' := by
  have hlen := Lib.hid h.len
  go_enter Try.func94, Try.ntmps94
  go_wp2
  go_loop [8, 5] (fun i _ => ∃ k : Nat, k ≤ n ∧ i = .int .i64 k ∧ Hid (Talk.allIn (xs.take k) = true)) (fun i _ => n - (intOf i).toNat)
  case atStart => exact ⟨0, Nat.zero_le _, rfl, rfl⟩
  case round =>
    obtain ⟨k, hk, rfl, ha⟩ := hrel
    by_cases hlt : k < n
    · obtain ⟨b, off, x, rfl, hx, hx1, hx2, hc⟩ := h.at_ hlt
      have hX := Lib.hid hx
      clear hx
      cases hb : Talk.inB 0 9 x with
      | true =>
        go_wp2_with (go_at_call 90; refine (sec_any _ _).mono ?_; rintro e w' ⟨rfl, rfl⟩)
        go_round
        case rel => exact ⟨k + 1, by omega, by go_num, Lib.hid (by rw [take_snoc hX.out, Talk.allIn_append, ha.out]; simp [Talk.allIn, hb])⟩
        case measure => simp [intOf]; omega
      | false =>
        go_wp2_with (go_at_call 90; refine (sec_any _ _).mono ?_; rintro e w' ⟨rfl, rfl⟩)
        go_ret
        exact ⟨⟨_, rfl, Lib.hid ⟨fun _ => Talk.allIn_not hX.out hb, fun _ => by omega⟩⟩, rfl⟩
    · have he : xs.take k = xs := List.take_of_length_le (by rw [hlen.out]; omega)
      rw [he] at ha
      go_wp2
      go_ret
      exact ⟨⟨_, rfl, Lib.hid ⟨fun h => absurd h (by omega), fun h => by rw [ha.out] at h; cases h⟩⟩, rfl⟩

theorem contains_any (A : Option Addr) (n c : Nat) (xs : List Int) (w : World) (hm : n ≤ 9223372036854775807) (h : Ints w A n xs) :
    Calls Try.prog 89 #[.slice A n c, .func (.func 90) #[] #[]] w fun e w' => e = .returned (.bool (!Talk.allIn xs)) ∧ w = w' := by
  go_enter Try.func89, Try.ntmps89
  go_wp2_with fail
  refine (index_any A n c xs _ hm h).mono ?_
  rintro e w' ⟨⟨r, rfl, hr⟩, rfl⟩
  cases hb : Talk.allIn xs with
  | true =>
    have h1 : ¬ 0 ≤ r := fun h0 => by have := hr.out.1 h0; rw [hb] at this; cases this
    have HB := Lib.hid hb
    clear hr hb
    go_wp2
    go_ret
    exact ⟨ret_bool (by rw [HB.out]; first | rfl | (simp; done) | (simp; omega)), rfl⟩
  | false =>
    have h1 : 0 ≤ r := hr.out.2 hb
    have HB := Lib.hid hb
    clear hr hb
    go_wp2
    go_ret
    exact ⟨ret_bool (by rw [HB.out]; first | rfl | (simp; done) | (simp; omega)), rfl⟩

theorem ivalid_any (A : Option Addr) (n c : Nat) (xs : List Int) (w : World) (hm : n ≤ 9223372036854775807) (h : Ints w A n xs) :
    Calls Try.prog 72 #[.slice A n c] w fun e w' => e = .returned (.bool (Talk.valid xs)) ∧ w = w' := by
  have hlen := Lib.hid h.len
  by_cases h30 : n ≤ 30
  · go_enter Try.func72, Try.ntmps72
    go_wp2_with (go_at_call 89; refine (contains_any A n c xs _ hm h).mono ?_; rintro e w' ⟨rfl, rfl⟩)
    go_ret
    exact ⟨ret_bool (by simp [Talk.valid, hlen.out, h30]), rfl⟩
  · go_enter Try.func72, Try.ntmps72
    go_wp2_with fail
    go_ret
    exact ⟨ret_bool (by simp [Talk.valid, hlen.out, h30]), rfl⟩

theorem turn_any (t : Int) (w : World) : Calls Try.prog 75 #[.int .i64 t] w fun e w' => e = .returned (.bool (Talk.inB 1 30 t)) ∧ w = w' := by
  by_cases h1 : 1 ≤ t
  · go_enter Try.func75, Try.ntmps75
    go_wp2
    go_ret
    exact ⟨ret_bool (by simp [Talk.inB, h1]), rfl⟩
  · go_enter Try.func75, Try.ntmps75
    go_wp2
    go_ret
    exact ⟨ret_bool (by simp [Talk.inB]; omega), rfl⟩
theorem rate_any (t : Int) (w : World) : Calls Try.prog 82 #[.int .i64 t] w fun e w' => e = .returned (.bool (Talk.inB 1 9 t)) ∧ w = w' := by
  by_cases h1 : 1 ≤ t
  · go_enter Try.func82, Try.ntmps82
    go_wp2
    go_ret
    exact ⟨ret_bool (by simp [Talk.inB, h1]), rfl⟩
  · go_enter Try.func82, Try.ntmps82
    go_wp2
    go_ret
    exact ⟨ret_bool (by simp [Talk.inB]; omega), rfl⟩
theorem hold_any (t : Int) (w : World) : Calls Try.prog 83 #[.int .i64 t] w fun e w' => e = .returned (.bool (Talk.inB 0 50 t)) ∧ w = w' := by
  by_cases h1 : 0 ≤ t
  · go_enter Try.func83, Try.ntmps83
    go_wp2
    go_ret
    exact ⟨ret_bool (by simp [Talk.inB, h1]), rfl⟩
  · go_enter Try.func83, Try.ntmps83
    go_wp2
    go_ret
    exact ⟨ret_bool (by simp [Talk.inB]; omega), rfl⟩

set_option maxHeartbeats 400000 in
theorem isum_any (A : Option Addr) (n c : Nat) (xs : List Int) (w : World) (hm : n ≤ 1000) (h : Ints w A n xs) (hb : ∀ x ∈ xs, 0 ≤ x ∧ x ≤ 1000) :
    Calls Try.prog 73 #[.slice A n c] w fun e w' => e = .returned (.int .i64 (Talk.sum xs)) ∧ w = w' := by
  have hlen := Lib.hid h.len
  have HB := Lib.hid hb
  clear hb
  go_enter Try.func73, Try.ntmps73
  go_wp2
  go_loop [3, 5, 8] (fun s _ i => ∃ k : Nat, k ≤ n ∧ i = .int .i64 k ∧ ∃ t : Int, 0 ≤ t ∧ t ≤ 1000 * k ∧ s = .int .i64 t ∧ Hid (t = Talk.sum (xs.take k))) (fun _ _ i => n - (intOf i).toNat)
  case atStart => exact ⟨0, Nat.zero_le _, rfl, 0, by omega, by omega, rfl, Lib.hid rfl⟩
  case round =>
    obtain ⟨k, hk, rfl, t, ht1, ht2, rfl, ht⟩ := hrel
    by_cases hlt : k < n
    · obtain ⟨b, off, x, rfl, hx, hx1, hx2, hc⟩ := h.at_ hlt
      have hX := Lib.hid hx
      have hr := HB.out x (mem_at hx)
      obtain ⟨hr1, hr2⟩ := hr
      clear hx
      go_wp2
      go_round
      case rel => exact ⟨k + 1, by omega, by go_num, t + x, by omega, by omega, rfl, Lib.hid (by rw [take_snoc hX.out, Talk.sum_append, ← ht.out]; simp [Talk.sum])⟩
      case measure => simp [intOf]; omega
    · have he : xs.take k = xs := List.take_of_length_le (by rw [hlen.out]; omega)
      rw [he] at ht
      go_wp2
      go_ret
      exact ⟨ret_int ht.out, rfl⟩

set_option maxHeartbeats 400000 in
theorem ssum_any (A : Option Addr) (n c : Nat) (xs : List Int) (w : World) (hm : n ≤ 1000) (h : Ints w A n xs) (hb : ∀ x ∈ xs, 0 ≤ x ∧ x ≤ 1000) :
    Calls Try.prog 71 #[.slice A n c] w fun e w' => e = .returned (.int .i64 (Talk.sum xs)) ∧ w = w' := by
  have hlen := Lib.hid h.len
  have HB := Lib.hid hb
  clear hb
  go_enter Try.func71, Try.ntmps71
  go_wp2
  go_loop [3, 4] (fun s i => ∃ k : Nat, k ≤ n ∧ i = .int .i64 k ∧ ∃ t : Int, 0 ≤ t ∧ t ≤ 1000 * k ∧ s = .int .i64 t ∧ Hid (t = Talk.sum (xs.take k))) (fun _ i => n - (intOf i).toNat)
  case atStart => exact ⟨0, Nat.zero_le _, rfl, 0, by omega, by omega, rfl, Lib.hid rfl⟩
  case round =>
    obtain ⟨k, hk, rfl, t, ht1, ht2, rfl, ht⟩ := hrel
    by_cases hlt : k < n
    · obtain ⟨b, off, x, rfl, hx, hx1, hx2, hc⟩ := h.at_ hlt
      have hX := Lib.hid hx
      have hr := HB.out x (mem_at hx)
      obtain ⟨hr1, hr2⟩ := hr
      clear hx
      go_wp2
      go_round
      case rel => exact ⟨k + 1, by omega, by go_num, t + x, by omega, by omega, rfl, Lib.hid (by rw [take_snoc hX.out, Talk.sum_append, ← ht.out]; simp [Talk.sum])⟩
      case measure => simp [intOf]; omega
    · have he : xs.take k = xs := List.take_of_length_le (by rw [hlen.out]; omega)
      rw [he] at ht
      go_wp2
      go_ret
      exact ⟨ret_int ht.out, rfl⟩

theorem own_made (w1 : World) (lo n : Nat) (hm : w1.ownsRow lo 3 1 (.slice (some ⟨lo, 0, none⟩) n n) n (madeCells (Value.int .i64 0).cells (n * 1)).toList) :
    OwnI w1 lo (lo + 1) (some ⟨lo, 0, none⟩) n n (List.replicate n 0) := by
  have h1 := hm.lt lo rfl
  refine ⟨?_, ?_, by omega, fun a ha => by injection ha with ha; subst ha; exact Nat.lt_succ_self _⟩
  · have : (madeCells (Value.int .i64 0).cells (n * 1)).toList = (List.replicate n (0 : Int)).map (Value.int .i64) := by
      show (madeCells #[Value.int .i64 0] (n * 1)).toList = _
      rw [toList_madeCells_one]; simp
    rwa [this] at hm
  · intro x hx
    rw [List.eq_of_mem_replicate hx]
    exact ⟨by decide, by decide⟩

set_option maxHeartbeats 400000 in
theorem to_any (A : Option Addr) (n c : Nat) (xs : List Int) (w : World) (hm : n ≤ 1048576) (h : Ints w A n xs) :
    Calls Try.prog 29 #[.slice A n c] w fun e w' => ∃ A' c', e = .returned (.slice A' n c') ∧ OwnI w' w.heap.size w'.heap.size A' n c' xs ∧ Below w.heap.size w w' := by
  obtain ⟨i0, hi, hz0, hz1, hz2⟩ := info_parts Try.infoInt
  have hlen := Lib.hid h.len
  have hb8 : i0.bytes * n ≤ 281474976710656 := by rw [hz2]; omega
  have hml : n ≤ maxLen := by unfold maxLen; omega
  go_enter Try.func29, Try.ntmps29
  go_wp2_with (at_make; refine wpList_make_full _ rfl _ _ 22 rfl w.heap.size 3 i0 (.int .i64 0) 1 Try.underlying22 hi hz0 hz1 .i64 .i64 _ _ n rfl rfl rfl rfl hb8 hml (Nat.le_refl _) ?_; intro w1 hown hgrow)
  have ho := own_made w1 w.heap.size n hown
  have hb1 : Below w.heap.size w w1 := below_of_grown hgrow (Nat.le_refl _) (fun _ e => by cases e)
  clear hown hgrow hi hz0 hz1 hz2 hb8 hml
  go_loopw [4] (fun i wr => ∃ k : Nat, k ≤ n ∧ i = .int .i64 k ∧ OwnI wr w.heap.size (w.heap.size + 1) (some ⟨w.heap.size, 0, none⟩) n n (xs.take k ++ List.replicate (n - k) 0) ∧ Below w.heap.size w wr) (fun i _ => n - (intOf i).toNat)
  case atStart => exact ⟨0, Nat.zero_le _, rfl, by simpa using ho, hb1⟩
  case round =>
    obtain ⟨k, hk, rfl, hown, hbel⟩ := hrel
    by_cases hlt : k < n
    · obtain ⟨b, off, x, rfl, hx, hx1, hx2, hc⟩ := (h.below hbel).at_ hlt
      obtain ⟨g, y, hg, _, _, _, _, _, hc2, hf2⟩ := hown.at_ hlt
      obtain rfl : w.heap.size = g := by injection hg with hg; injection hg
      have hX := Lib.hid hx
      clear hx hg
      have hs := Lib.hid (hown.store (k := k) (x := x) ⟨hx1, hx2⟩)
      clear hown
      go_wp2
      go_roundw
      case rel => exact ⟨k + 1, by omega, by go_num, by rw [← copy_step hlen.out hlt hX.out]; exact hs.out, hbel.setCell (Nat.le_refl _) _⟩
      case measure => simp [intOf]; omega
    · have he : xs.take k ++ List.replicate (n - k) 0 = xs := by rw [List.take_of_length_le (by rw [hlen.out]; omega), show n - k = 0 by omega]; simp
      rw [he] at hown
      go_wp2
      go_ret
      exact ⟨_, _, rfl, hown.wide (Nat.le_refl _) (hown.2.2.1) (Nat.le_refl _), hbel⟩

set_option maxHeartbeats 400000 in
theorem eq_any (A B : Option Addr) (n c m d : Nat) (xs ys : List Int) (w : World) (hn : n ≤ 1048576) (hm : m ≤ 1048576) (h : Ints w A n xs) (k : Ints w B m ys) :
    Calls Try.prog 31 #[.slice A n c, .slice B m d] w fun e w' => e = .returned (.bool (decide (xs = ys))) ∧ Below w.heap.size w w' := by
  have hlen := Lib.hid h.len
  have hlen2 := Lib.hid k.len
  by_cases hnm : n = m
  · subst hnm
    go_enter Try.func31, Try.ntmps31
    go_wp2
    go_loopw [5] (fun i wr => ∃ j : Nat, j ≤ n ∧ i = .int .i64 j ∧ Hid (xs.take j = ys.take j) ∧ ∃ q, wr = w.drewN q) (fun i _ => n - (intOf i).toNat)
    case atStart => exact ⟨0, Nat.zero_le _, rfl, Lib.hid rfl, 0, rfl⟩
    case round =>
      obtain ⟨j, hj, rfl, heq, q, rfl⟩ := hrel
      by_cases hlt : j < n
      · obtain ⟨b, off, x, rfl, hx, hx1, hx2, hc⟩ := h.at_ hlt
        obtain ⟨b2, off2, y, rfl, hy, hy1, hy2, hc2⟩ := k.at_ hlt
        have hX := Lib.hid hx
        have hY := Lib.hid hy
        clear hx hy
        have i1 : (0 : Int) ≤ (j : Int) := by omega
        have i2 : (j : Int) < (n : Int) := by omega
        cases hb : (x != y) with
        | false =>
          go_wp2
          go_quiet (fail)
          go_wp2
          go_roundw
          case rel => exact ⟨j + 1, by omega, by go_num, Lib.hid (by rw [take_snoc hX.out, take_snoc hY.out, heq.out]; simp at hb; rw [hb]), _, rfl⟩
          case measure => simp [intOf]; omega
        | true =>
          go_wp2
          go_quiet (fail)
          go_wp2
          go_ret
          refine ⟨ret_bool ?_, below_drewN (below_drewN (Below.refl _ _) _) _⟩
          have hne : xs ≠ ys := by
            rintro rfl
            have := hX.out.symm.trans hY.out
            simp at this hb
            exact hb this
          simp [hne]
      · have he : xs = ys := by
          have := heq.out
          rwa [List.take_of_length_le (by rw [hlen.out]; omega), List.take_of_length_le (by rw [hlen2.out]; omega)] at this
        go_wp2
        go_ret
        exact ⟨ret_bool (by simp [he]), below_drewN (Below.refl _ _) _⟩
  · have hb : ((n : Int) != (m : Int)) = true := by simp; omega
    have hne : xs ≠ ys := by rintro rfl; exact hnm (hlen.out.symm.trans hlen2.out)
    go_enter Try.func31, Try.ntmps31
    go_wp2
    go_ret
    exact ⟨ret_bool (by simp [hne]), Below.refl _ _⟩

set_option maxHeartbeats 400000 in
theorem mark_any (A : Option Addr) (n c lo hi : Nat) (xs : List Int) (k : Int) (w : World) (hn : n ≤ 1048576) (k0 : 0 ≤ k) (k1 : k ≤ 1000000000) (h : OwnI w lo hi A n c xs) :
    Calls Try.prog 36 #[.slice A n c, .int .i64 k] w fun e w' => e = .returned (.int .i64 (k + n)) ∧ OwnI w' lo hi A n c (iota k n) ∧ w.grownBy w' (A.map (·.block)) := by
  have hlen := Lib.hid h.len
  go_enter Try.func36, Try.ntmps36
  go_wp2
  go_loopw [1, 5] (fun s i wr => ∃ j : Nat, j ≤ n ∧ i = .int .i64 j ∧ s = .int .i64 (k + j) ∧ OwnI wr lo hi A n c (iota k j ++ xs.drop j) ∧ w.grownBy wr (A.map (·.block))) (fun _ i _ => n - (intOf i).toNat)
  case atStart => exact ⟨0, Nat.zero_le _, rfl, by simp, by simpa [iota] using h, World.grownBy.refl _ _⟩
  case round =>
    obtain ⟨j, hj, rfl, rfl, hown, hg⟩ := hrel
    by_cases hlt : j < n
    · obtain ⟨g, y, rfl, _, _, hy, _, _, hc2, hf2⟩ := hown.at_ hlt
      clear hy
      have hs := Lib.hid (hown.store (k := j) (x := k + j) ⟨by omega, by omega⟩)
      have HG := Lib.hid hg
      clear hown hg
      go_wp2
      go_roundw
      case rel => exact ⟨j + 1, by omega, by go_num, by congr 1; omega, by rw [← mark_step k xs j n hlen.out hlt]; exact hs.out, grown_trans' HG.out (grown_setCell _ _ _ _)⟩
      case measure => simp [intOf]; omega
    · obtain rfl : j = n := by omega
      rw [List.drop_of_length_le (by rw [hlen.out]; omega), List.append_nil] at hown
      go_wp2
      go_ret
      exact ⟨rfl, hown, hg⟩

set_option maxHeartbeats 400000 in
theorem held_any (A : Option Addr) (n c : Nat) (k : Int) (w : World) (hn : n ≤ 1048576) (k0 : 0 ≤ k) (k1 : k ≤ 1000000000) (h : Ints w A n (iota k n)) :
    Calls Try.prog 37 #[.slice A n c, .int .i64 k] w fun e w' => e = .returned (.int .i64 (k + n)) ∧ w = w' := by
  go_enter Try.func37, Try.ntmps37
  go_wp2
  go_loop [1, 5] (fun s i => ∃ j : Nat, j ≤ n ∧ i = .int .i64 j ∧ s = .int .i64 (k + j)) (fun _ i => n - (intOf i).toNat)
  case atStart => exact ⟨0, Nat.zero_le _, rfl, by simp⟩
  case round =>
    obtain ⟨j, hj, rfl, rfl⟩ := hrel
    by_cases hlt : j < n
    · obtain ⟨b, off, x, rfl, hx, hx1, hx2, hc⟩ := h.at_ hlt
      rw [iota_at _ _ _ hlt] at hx
      obtain rfl : k + (j : Int) = x := by injection hx
      clear hx
      have hb : (k + (j : Int) != k + (j : Int)) = false := by simp
      go_wp2
      go_round
      case rel => exact ⟨j + 1, by omega, by go_num, by congr 1; omega⟩
      case measure => simp [intOf]; omega
    · obtain rfl : j = n := by omega
      go_wp2
      go_ret
      exact ⟨rfl, rfl⟩
end Go.Proofs.Ytcgiehdpdnipbaa
