/- The small functions of the marks chapter, third part: the texts that lists of words are marked with. -/
import Derived.Test.YtjhlcgjhdiheaaaBase2
import Derived.Laws.BytesArg
import Derived.Great.BuildSlice
import Derived.Deep.RegionWith
namespace Go.Proofs.Ytjhlcgjhdiheaaa
open Go.RowKit
set_option linter.unusedVariables false
set_option linter.unusedSimpArgs false

/-- the digits of n ahead of t -/
def digs (n : Nat) (t : ByteArray) : ByteArray := if h : n = 0 then t else digs (n / 10) (⟨#[(48 + n % 10).toUInt8]⟩ ++ t)
termination_by n
decreasing_by omega
def mtext (n : Nat) : ByteArray := if n = 0 then ⟨#[109, 48]⟩ else ⟨#[109]⟩ ++ digs n ⟨#[]⟩

theorem digs_step {k : Nat} (h : 0 < k) (s : ByteArray) : digs k s = digs (k / 10) (strOfNums [48 + (k : Int) % 10] ++ s) := by
  conv => lhs; unfold digs
  rw [dif_neg (by omega)]
  have h1 : (48 + (k : Int) % 10).toNat = 48 + k % 10 := by omega
  have h2 : strOfNums [48 + (k : Int) % 10] = ⟨#[(48 + k % 10).toUInt8]⟩ := by
    unfold strOfNums
    rw [List.map_cons, h1]
    rfl
  rw [h2]
theorem byte_text (w : World) (x : Int) : (convert 39 9 (.slice (some ⟨w.heap.size, 0, none⟩) 1 1)).run Try.prog (w.alloc (.cells #[.int .u8 x] 5)) = .ok (.string (strOfNums [x])) (w.alloc (.cells #[.int .u8 x] 5)) := by
  refine run_convert_bytes_arg _ 39 5 Try.underlying39 Try.underlying5 w.heap.size 0 1 1 [x] rfl ?_ 9 Try.underlying9
  intro i hi
  obtain rfl : i = 0 := by omega
  rw [(Blk.new w 5 #[.int .u8 x]).cell]
  rfl

set_option maxHeartbeats 400000 in
theorem mtext_any (n : Nat) (w : World) (hn : n ≤ 1000000000) :
    Calls Try.prog 86 #[.int .i64 n] w fun e w' => e = .returned (.string (mtext n)) ∧ Below w.heap.size w w' := by
  by_cases h0 : n = 0
  · subst h0
    go_enter Try.func86, Try.ntmps86
    go_wp2
    go_ret
    exact ⟨rfl, Below.refl _ _⟩
  have h1 : ¬ (n : Int) ≤ 0 := by omega
  go_enter Try.func86, Try.ntmps86
  go_wp2
  go_loopw [0, 3] (fun a t wr => ∃ k s, a = .int .i64 ((k : Nat) : Int) ∧ t = .string s ∧ k ≤ n ∧ s.size + k ≤ n ∧ Hid (digs k s = digs n ⟨#[]⟩) ∧ Below w.heap.size w wr) (fun a _ _ => (intOf a).toNat)
  case atStart => exact ⟨n, ⟨#[]⟩, rfl, rfl, Nat.le_refl _, by show 0 + n ≤ n; omega, Lib.hid rfl, Below.refl _ _⟩
  case round =>
    obtain ⟨k, s, rfl, rfl, hk, hs, hd, hbel⟩ := hrel
    by_cases hlt : 0 < k
    · have hcv := byte_text wr (48 + (k : Int) % 10)
      have hst := Lib.hid (digs_step hlt s)
      have hsz : (strOfNums [48 + (k : Int) % 10]).size = 1 := strOfNums_size _
      generalize strOfNums [48 + (k : Int) % 10] = S at *
      set_option maxRecDepth 4000 in
      go_wp2_with fail
      go_roundw
      case rel =>
        refine ⟨k / 10, _, by go_num, rfl, by omega, ?_, Lib.hid (hst.out.symm.trans hd.out), hbel.alloc (by have := hbel.size; omega) _⟩
        rw [ByteArray.size_append]; omega
      case measure => simp [intOf]; omega
    · obtain rfl : k = 0 := by omega
      have he := Lib.hid hd.out
      go_wp2_with fail
      go_ret
      refine ⟨ret_str ?_, hbel⟩
      have := he.out
      unfold mtext
      rw [if_neg h0, ← this]
      unfold digs
      rw [dif_pos rfl]

/-- n texts from k on -/
def mtexts (k n : Nat) : List ByteArray := (List.range n).map fun j => mtext (k + j)
theorem mtexts_len (k n : Nat) : (mtexts k n).length = n := by simp [mtexts]
theorem mtexts_at (k n j : Nat) (h : j < n) : (mtexts k n)[j]? = some (mtext (k + j)) := by
  simp [mtexts, h]
theorem mtexts_step (k : Nat) (xs : List ByteArray) (j n : Nat) (hl : xs.length = n) (hj : j < n) : (mtexts k j ++ xs.drop j).set j (mtext (k + j)) = mtexts k (j + 1) ++ xs.drop (j + 1) := by
  obtain ⟨x, hx⟩ : ∃ x, xs.drop j = x :: xs.drop (j + 1) := ⟨xs[j], List.drop_eq_getElem_cons (by omega)⟩
  rw [hx, List.set_append, if_neg (by rw [mtexts_len]; omega), mtexts_len, Nat.sub_self, List.set_cons_zero]
  simp [mtexts, List.range_succ]
theorem digs_size (n : Nat) : ∀ s : ByteArray, (digs n s).size ≤ s.size + n := by
  induction n using Nat.strongRecOn with
  | ind n ih =>
    intro s
    unfold digs
    split
    · omega
    · have := ih (n / 10) (by omega) (⟨#[(48 + n % 10).toUInt8]⟩ ++ s)
      rw [ByteArray.size_append] at this
      have h1 : (⟨#[(48 + n % 10).toUInt8]⟩ : ByteArray).size = 1 := rfl
      omega
theorem mtext_size (n : Nat) (h : n ≤ 1000000000) : (mtext n).size ≤ 9223372036854775807 := by
  unfold mtext
  split
  · exact (by decide : (2 : Nat) ≤ 9223372036854775807)
  · rw [ByteArray.size_append]
    have := digs_size n ⟨#[]⟩
    have h1 : (⟨#[109]⟩ : ByteArray).size = 1 := rfl
    have h2 : (⟨#[]⟩ : ByteArray).size = 0 := rfl
    omega

set_option maxHeartbeats 400000 in
theorem mark_any (A : Option Addr) (n c lo hi k : Nat) (xs : List ByteArray) (w : World) (hn : n ≤ 1048576) (k1 : k ≤ 500000000) (h : OwnS w lo hi A n c xs) :
    Calls Try.prog 35 #[.slice A n c, .int .i64 k] w fun e w' => e = .returned (.int .i64 ((k + n : Nat) : Int)) ∧ OwnS w' lo hi A n c (mtexts k n) ∧ w.grownBy w' (A.map (·.block)) := by
  have hlen := Lib.hid h.len
  go_enter Try.func35, Try.ntmps35
  go_wp2
  go_loopw [1, 5] (fun s i wr => ∃ j : Nat, j ≤ n ∧ i = .int .i64 j ∧ s = .int .i64 ((k + j : Nat) : Int) ∧ OwnS wr lo hi A n c (mtexts k j ++ xs.drop j) ∧ w.grownBy wr (A.map (·.block))) (fun _ i _ => n - (intOf i).toNat)
  case atStart => exact ⟨0, Nat.zero_le _, rfl, by simp, by simpa [mtexts] using h, World.grownBy.refl _ _⟩
  case round =>
    obtain ⟨j, hj, rfl, rfl, hown, hg⟩ := hrel
    by_cases hlt : j < n
    · go_wp2_with fail
      refine (mtext_any (k + j) wr (by omega)).mono ?_
      rintro e w1 ⟨rfl, hb1⟩
      have hown1 := hown.below hb1
      have hg1 := only_below hg hb1
      clear hown hg hb1
      obtain ⟨g, y, rfl, _, _, hy, _, hc2, hf2⟩ := hown1.at_ hlt
      clear hy
      have hs := Lib.hid (hown1.store (k := j) (x := mtext (k + j)) (mtext_size _ (by omega)))
      have HG := Lib.hid hg1
      clear hown1 hg1
      go_wp2_with fail
      go_roundw
      case rel => exact ⟨j + 1, by omega, by go_num, by congr 1, by rw [← mtexts_step k xs j n hlen.out hlt]; exact hs.out, grown_trans' HG.out (grown_setCell _ _ _ _)⟩
      case measure => simp [intOf]; omega
    · obtain rfl : j = n := by omega
      rw [List.drop_of_length_le (by rw [hlen.out]; omega), List.append_nil] at hown
      go_wp2
      go_ret
      exact ⟨rfl, hown, hg⟩
set_option maxHeartbeats 400000 in
theorem held_any (A : Option Addr) (n c k : Nat) (w : World) (hn : n ≤ 1048576) (k1 : k ≤ 500000000) (h : Strs w A n (mtexts k n)) :
    Calls Try.prog 40 #[.slice A n c, .int .i64 k] w fun e w' => e = .returned (.int .i64 ((k + n : Nat) : Int)) ∧ Below w.heap.size w w' := by
  go_enter Try.func40, Try.ntmps40
  go_wp2
  go_loopw [1, 5] (fun s i wr => ∃ j : Nat, j ≤ n ∧ i = .int .i64 j ∧ s = .int .i64 ((k + j : Nat) : Int) ∧ Below w.heap.size w wr) (fun _ i _ => n - (intOf i).toNat)
  case atStart => exact ⟨0, Nat.zero_le _, rfl, by simp, Below.refl _ _⟩
  case round =>
    obtain ⟨j, hj, rfl, rfl, hbel⟩ := hrel
    by_cases hlt : j < n
    · obtain ⟨b, off, x, rfl, hx, hx1, hc⟩ := (h.below hbel).at_ hlt
      rw [mtexts_at _ _ _ hlt] at hx
      obtain rfl : mtext (k + j) = x := by injection hx
      clear hx
      have hb : ((mtext (k + j)).toList == (mtext (k + j)).toList) = true := by rw [bytes_eq]; simp
      go_wp2_with fail
      go_region_with (go_at_call 86; refine (mtext_any (k + j) _ (by omega)).mono ?_; rintro e w1 ⟨rfl, hb1⟩; have hc1 := (hb1.cell (lt_of_cell hc)).trans hc)
      all_goals
        have hbel1 : Below w.heap.size w w1 := by
          have h2 : Below wr.heap.size wr w1 := (below_drewN (Below.refl wr.heap.size wr) 1).trans hb1
          exact hbel.trans (h2.mono hbel.size)
        clear hb1 hbel hc hc1
        go_wp2_with fail
        go_roundw
        case rel => exact ⟨j + 1, by omega, by go_num, by congr 1, hbel1⟩
        case measure => simp [intOf]; omega
    · obtain rfl : j = n := by omega
      go_wp2
      go_ret
      exact ⟨rfl, hbel⟩
end Go.Proofs.Ytjhlcgjhdiheaaa
