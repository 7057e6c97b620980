/- The small functions of the marks chapter, second part: lists of words that are measured, copied, compared, marked. -/
import Derived.Test.YtjhalbmmlcbehaaBase
namespace Go.Proofs.Ytjhalbmmlcbehaa
open Go.RowKit
set_option linter.unusedVariables false
set_option linter.unusedSimpArgs false

theorem Try.infoStr : (Try.prog.info? 9).map (fun i => (i.zero, i.size, i.bytes)) = some (some (.string ⟨#[]⟩), 1, 16) := by kernel_rfl

theorem bytes_eq (x y : ByteArray) : (x.toList == y.toList) = decide (x = y) := by
  rw [ByteArray.toList_eq, ByteArray.toList_eq]
  by_cases h : x = y
  · subst h; simp
  · have : x.data.toList ≠ y.data.toList := fun e => h (ByteArray.ext (Array.toList_inj.1 e))
    simp [h]
    intro e
    exact this (by rw [e])
/-- what a measured list has: it is not long, and no word of it is -/
def SzPost (n : Nat) (xs : List ByteArray) (m : Int) (r : Int) : Prop := r < 0 ∨ (0 ≤ r ∧ r + n ≤ m ∧ ∀ x ∈ xs, (x.size : Int) ≤ m)

set_option maxHeartbeats 400000 in
theorem sz_any (A : Option Addr) (n c : Nat) (xs : List ByteArray) (m : Int) (w : World) (hn : n ≤ 9223372036854775807) (m0 : 0 ≤ m) (m1 : m ≤ 1048576) (h : Strs w A n xs) :
    Calls Try.prog 21 #[.slice A n c, .int .i64 m] w fun e w' => (∃ r : Int, e = .returned (.int .i64 r) ∧ Hid (SzPost n xs m r)) ∧ w = w' := by
  have hlen := Lib.hid h.len
  by_cases hnm : (n : Int) ≤ m
  rotate_left
  · go_enter Try.func21, Try.ntmps21
    go_wp2
    go_ret
    exact ⟨⟨_, rfl, Lib.hid (.inl (by omega))⟩, rfl⟩
  go_enter Try.func21, Try.ntmps21
  go_wp2
  go_loop [1, 5] (fun b i => ∃ k : Nat, k ≤ n ∧ i = .int .i64 k ∧ ∃ t : Int, 0 ≤ t ∧ t + n ≤ m ∧ b = .int .i64 t ∧ Hid (∀ x ∈ xs.take k, (x.size : Int) ≤ m)) (fun _ i => n - (intOf i).toNat)
  case atStart => exact ⟨0, Nat.zero_le _, rfl, m - n, by omega, by omega, rfl, Lib.hid (by simp)⟩
  case round =>
    obtain ⟨k, hk, rfl, t, t0, t1, rfl, ha⟩ := hrel
    by_cases hlt : k < n
    · obtain ⟨b, off, x, rfl, hx, hx1, hc⟩ := h.at_ hlt
      have hX := Lib.hid hx
      clear hx
      by_cases hb : (x.size : Int) ≤ t
      · have hl : Hid (∀ y ∈ xs.take (k + 1), (y.size : Int) ≤ m) := Lib.hid (by
          rw [take_snoc hX.out]
          intro y hy
          rcases List.mem_append.1 hy with h1 | h1
          · exact ha.out y h1
          · rw [List.mem_singleton] at h1; subst h1; omega)
        go_wp2
        go_round
        case rel => exact ⟨k + 1, by omega, by go_num, _, by omega, by omega, rfl, hl⟩
        case measure => simp [intOf]; omega
      · go_wp2
        go_ret
        exact ⟨⟨_, rfl, Lib.hid (.inl (by omega))⟩, rfl⟩
    · rw [List.take_of_length_le (by rw [hlen.out]; omega)] at ha
      go_wp2
      go_ret
      exact ⟨⟨_, rfl, Lib.hid (.inr ⟨t0, t1, ha.out⟩)⟩, rfl⟩

theorem own_madeS (w1 : World) (lo n : Nat) (hm : w1.ownsRow lo 9 1 (.slice (some ⟨lo, 0, none⟩) n n) n (madeCells (Value.string ⟨#[]⟩).cells (n * 1)).toList) :
    OwnS w1 lo (lo + 1) (some ⟨lo, 0, none⟩) n n (List.replicate n ⟨#[]⟩) := by
  have h1 := hm.lt lo rfl
  refine ⟨?_, ?_, by omega, fun a ha => by injection ha with ha; subst ha; exact Nat.lt_succ_self _⟩
  · have : (madeCells (Value.string ⟨#[]⟩).cells (n * 1)).toList = (List.replicate n (⟨#[]⟩ : ByteArray)).map (Value.string) := by
      show (madeCells #[Value.string ⟨#[]⟩] (n * 1)).toList = _
      rw [toList_madeCells_one]; simp
    rwa [this] at hm
  · intro x hx
    rw [List.eq_of_mem_replicate hx]
    show (0 : Nat) ≤ _
    omega
theorem copy_stepS {xs : List ByteArray} {n k : Nat} {x z : ByteArray} (hl : xs.length = n) (hk : k < n) (hx : xs[k]? = some x) : (xs.take k ++ List.replicate (n - k) z).set k x = xs.take (k + 1) ++ List.replicate (n - (k + 1)) z := by
  have h1 : (xs.take k).length = k := by rw [List.length_take]; omega
  obtain ⟨d, hd⟩ : ∃ d, n - k = d + 1 := ⟨n - k - 1, by omega⟩
  rw [hd, show n - (k + 1) = d by omega, List.replicate_succ, List.set_append, if_neg (by omega), h1, Nat.sub_self, List.set_cons_zero, take_snoc hx]
  simp

set_option maxHeartbeats 400000 in
theorem to_any (A : Option Addr) (n c : Nat) (xs : List ByteArray) (w : World) (hm : n ≤ 1048576) (h : Strs w A n xs) :
    Calls Try.prog 23 #[.slice A n c] w fun e w' => ∃ A' c', e = .returned (.slice A' n c') ∧ OwnS w' w.heap.size w'.heap.size A' n c' xs ∧ Below w.heap.size w w' := by
  obtain ⟨i0, hi, hz0, hz1, hz2⟩ := info_parts Try.infoStr
  have hlen := Lib.hid h.len
  have hb8 : i0.bytes * n ≤ 281474976710656 := by rw [hz2]; omega
  have hml : n ≤ maxLen := by unfold maxLen; omega
  go_enter Try.func23, Try.ntmps23
  go_wp2_with (at_make; refine wpList_make_full _ rfl _ _ 24 rfl w.heap.size 9 i0 (.string ⟨#[]⟩) 1 Try.underlying24 hi hz0 hz1 .i64 .i64 _ _ n rfl rfl rfl rfl hb8 hml (Nat.le_refl _) ?_; intro w1 hown hgrow)
  have ho := own_madeS w1 w.heap.size n hown
  have hb1 : Below w.heap.size w w1 := below_of_grown hgrow (Nat.le_refl _) (fun _ e => by cases e)
  clear hown hgrow hi hz0 hz1 hz2 hb8 hml
  go_loopw [4] (fun i wr => ∃ k : Nat, k ≤ n ∧ i = .int .i64 k ∧ OwnS wr w.heap.size (w.heap.size + 1) (some ⟨w.heap.size, 0, none⟩) n n (xs.take k ++ List.replicate (n - k) ⟨#[]⟩) ∧ Below w.heap.size w wr) (fun i _ => n - (intOf i).toNat)
  case atStart => exact ⟨0, Nat.zero_le _, rfl, by simpa using ho, hb1⟩
  case round =>
    obtain ⟨k, hk, rfl, hown, hbel⟩ := hrel
    by_cases hlt : k < n
    · obtain ⟨b, off, x, rfl, hx, hx1, hc⟩ := (h.below hbel).at_ hlt
      obtain ⟨g, y, hg, _, _, _, _, hc2, hf2⟩ := hown.at_ hlt
      obtain rfl : w.heap.size = g := by injection hg with hg; injection hg
      have hX := Lib.hid hx
      clear hx hg
      have hs := Lib.hid (hown.store (k := k) (x := x) hx1)
      clear hown
      go_wp2
      go_roundw
      case rel => exact ⟨k + 1, by omega, by go_num, by rw [← copy_stepS hlen.out hlt hX.out]; exact hs.out, hbel.setCell (Nat.le_refl _) _⟩
      case measure => simp [intOf]; omega
    · have he : xs.take k ++ List.replicate (n - k) ⟨#[]⟩ = xs := by rw [List.take_of_length_le (by rw [hlen.out]; omega), show n - k = 0 by omega]; simp
      rw [he] at hown
      go_wp2
      go_ret
      exact ⟨_, _, rfl, hown.wide (Nat.le_refl _) (hown.2.2.1) (Nat.le_refl _), hbel⟩

set_option maxHeartbeats 400000 in
theorem eq_any (A B : Option Addr) (n c m d : Nat) (xs ys : List ByteArray) (w : World) (hn : n ≤ 1048576) (hm : m ≤ 1048576) (h : Strs w A n xs) (k : Strs w B m ys) :
    Calls Try.prog 25 #[.slice A n c, .slice B m d] w fun e w' => e = .returned (.bool (decide (xs = ys))) ∧ Below w.heap.size w w' := by
  have hlen := Lib.hid h.len
  have hlen2 := Lib.hid k.len
  by_cases hnm : n = m
  · subst hnm
    go_enter Try.func25, Try.ntmps25
    go_wp2
    go_loopw [5] (fun i wr => ∃ j : Nat, j ≤ n ∧ i = .int .i64 j ∧ Hid (xs.take j = ys.take j) ∧ ∃ q, wr = w.drewN q) (fun i _ => n - (intOf i).toNat)
    case atStart => exact ⟨0, Nat.zero_le _, rfl, Lib.hid rfl, 0, rfl⟩
    case round =>
      obtain ⟨j, hj, rfl, heq, q, rfl⟩ := hrel
      by_cases hlt : j < n
      · obtain ⟨b, off, x, rfl, hx, hx1, hc⟩ := h.at_ hlt
        obtain ⟨b2, off2, y, rfl, hy, hy1, hc2⟩ := k.at_ hlt
        have hX := Lib.hid hx
        have hY := Lib.hid hy
        clear hx hy
        have i1 : (0 : Int) ≤ (j : Int) := by omega
        have i2 : (j : Int) < (n : Int) := by omega
        by_cases hxy : x = y
        · have hb : (x.toList == y.toList) = true := by rw [bytes_eq]; simp [hxy]
          have HX := Lib.hid hxy
          clear hxy
          go_wp2
          go_quiet (fail)
          go_wp2
          go_roundw
          case rel => exact ⟨j + 1, by omega, by go_num, Lib.hid (by rw [take_snoc hX.out, take_snoc hY.out, heq.out, HX.out]), _, rfl⟩
          case measure => simp [intOf]; omega
        · have hb : (x.toList == y.toList) = false := by rw [bytes_eq]; simp [hxy]
          have HX := Lib.hid hxy
          clear hxy
          go_wp2
          go_quiet (fail)
          go_wp2
          go_ret
          refine ⟨ret_bool ?_, below_drewN (below_drewN (Below.refl _ _) _) _⟩
          have hne : xs ≠ ys := by
            rintro rfl
            have := hX.out.symm.trans hY.out
            exact HX.out (by injection this)
          simp [hne]
      · have he : xs = ys := by
          have := heq.out
          rwa [List.take_of_length_le (by rw [hlen.out]; omega), List.take_of_length_le (by rw [hlen2.out]; omega)] at this
        go_wp2
        go_ret
        exact ⟨ret_bool (by simp [he]), below_drewN (Below.refl _ _) _⟩
  · have hb : ((n : Int) != (m : Int)) = true := by simp; omega
    have hne : xs ≠ ys := by rintro rfl; exact hnm (hlen.out.symm.trans hlen2.out)
    go_enter Try.func25, Try.ntmps25
    go_wp2
    go_ret
    exact ⟨ret_bool (by simp [hne]), Below.refl _ _⟩

end Go.Proofs.Ytjhalbmmlcbehaa

