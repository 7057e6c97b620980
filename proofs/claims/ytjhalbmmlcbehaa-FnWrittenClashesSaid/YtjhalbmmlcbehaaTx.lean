/- Texts of strokes, outlines and written forms by the reference. -/
import Derived.Test.YtjhalbmmlcbehaaQb
namespace Go.Proofs.Ytjhalbmmlcbehaa
open Go.RowKit Wr
set_option linter.unusedVariables false
set_option linter.unusedSimpArgs false

/-- the letter of a size -/
def sizeB (z : Int) : UInt8 := if z = 1 then 115 else if z = 2 then 109 else 108
def strT (s : Stk) : ByteArray := strOfNums [48 + s.dir] ++ bS [sizeB s.size]
def outT : List Stk → ByteArray
  | [] => bS []
  | s :: l => strT s ++ outT l
theorem outT_snoc (s : Stk) : ∀ l, outT (l ++ [s]) = outT l ++ strT s
  | [] => by
    show strT s ++ bS [] = bS [] ++ strT s
    apply ByteArray.ext
    simp [ByteArray.data_append]
  | a :: l => by
    show strT a ++ outT (l ++ [s]) = strT a ++ outT l ++ strT s
    rw [outT_snoc s l, ByteArray.append_assoc]
theorem strT_size (s : Stk) : (strT s).size = 2 := by
  unfold strT
  rw [ByteArray.size_append, strOfNums_size, bS_size]
  rfl
theorem outT_size : ∀ l, (outT l).size = 2 * l.length
  | [] => rfl
  | s :: l => by
    show (strT s ++ outT l).size = _
    rw [ByteArray.size_append, strT_size, outT_size l, List.length_cons]
    omega
theorem strT_inj {s t : Stk} (hs : stkOk s = true) (ht : stkOk t = true) (h : strT s = strT t) : s = t := by
  obtain ⟨a1, a2, a3, a4⟩ := (stkOk_iff s).1 hs
  obtain ⟨b1, b2, b3, b4⟩ := (stkOk_iff t).1 ht
  have h1 := congrArg (fun b : ByteArray => b.data.toList) h
  unfold strT strOfNums at h1
  simp [ByteArray.data_append] at h1
  obtain ⟨e1, e2⟩ := h1
  have d : s.dir = t.dir := by
    have := congrArg UInt8.toNat e1
    simp at this
    omega
  have z : s.size = t.size := by
    unfold sizeB at e2
    have : s.size = 1 ∨ s.size = 2 ∨ s.size = 3 := by omega
    have : t.size = 1 ∨ t.size = 2 ∨ t.size = 3 := by omega
    rcases ‹s.size = 1 ∨ _› with h | h | h <;> rcases ‹t.size = 1 ∨ _› with h' | h' | h' <;> rw [h, h'] at e2 ⊢ <;> revert e2 <;> decide
  exact stk_of d z
theorem append_inj_left {a b c d : ByteArray} (h : a ++ b = c ++ d) (hs : a.size = c.size) : a = c ∧ b = d := by
  have h1 := congrArg (fun b : ByteArray => b.data.toList) h
  simp [ByteArray.data_append] at h1
  have := List.append_inj h1 (by simpa using hs)
  exact ⟨ByteArray.ext (Array.toList_inj.1 this.1), ByteArray.ext (Array.toList_inj.1 this.2)⟩
theorem outT_inj : ∀ {l m : List Stk}, (∀ s ∈ l, stkOk s = true) → (∀ s ∈ m, stkOk s = true) → outT l = outT m → l = m
  | [], [], _, _, _ => rfl
  | [], t :: m, _, _, h => by
    have := congrArg ByteArray.size h
    rw [outT_size, outT_size] at this
    simp at this
  | s :: l, [], _, _, h => by
    have := congrArg ByteArray.size h
    rw [outT_size, outT_size] at this
    simp at this
  | s :: l, t :: m, hl, hm, h => by
    obtain ⟨e1, e2⟩ := append_inj_left (show strT s ++ outT l = strT t ++ outT m from h) (by rw [strT_size, strT_size])
    rw [strT_inj (hl s (by simp)) (hm t (by simp)) e1, outT_inj (fun s hs => hl s (by simp [hs])) (fun s hs => hm s (by simp [hs])) e2]
theorem chain_all : ∀ {l : List Stk}, chainOk l = true → ∀ s ∈ l, stkOk s = true
  | [], _, s, hs => by cases hs
  | a :: l, h, s, hs => by
    rw [chain_cons] at h
    simp only [Bool.and_eq_true] at h
    rcases List.mem_cons.1 hs with rfl | h2
    · exact h.1.1
    · exact chain_all h.2 s h2
theorem out_all {l : List Stk} (h : outOk l = true) : ∀ s ∈ l, stkOk s = true := by
  unfold outOk at h
  simp only [Bool.and_eq_true] at h
  exact chain_all h.2
theorem out_len {l : List Stk} (h : outOk l = true) : l.length ≤ 8 := by
  unfold outOk at h
  simp only [Bool.and_eq_true, decide_eq_true_eq] at h
  exact h.1
/-- the mark of a position -/
def posB (p : Int) : UInt8 := if p = 0 then 94 else if p = 1 then 45 else 95
def formT (l : List Stk) (p : Int) : ByteArray := bS [posB p] ++ outT l
theorem formT_inj {l m : List Stk} {p q : Int} (hl : outOk l = true) (hm : outOk m = true) (p0 : 0 ≤ p) (p2 : p ≤ 2) (q0 : 0 ≤ q) (q2 : q ≤ 2) (h : formT l p = formT m q) : l = m ∧ p = q := by
  obtain ⟨e1, e2⟩ := append_inj_left (show bS [posB p] ++ outT l = bS [posB q] ++ outT m from h) (by rw [bS_size, bS_size]; rfl)
  refine ⟨outT_inj (out_all hl) (out_all hm) e2, ?_⟩
  have h1 := congrArg (fun b : ByteArray => b.data.toList) e1
  simp at h1
  unfold posB at h1
  have : p = 0 ∨ p = 1 ∨ p = 2 := by omega
  have : q = 0 ∨ q = 1 ∨ q = 2 := by omega
  rcases ‹p = 0 ∨ _› with rfl | rfl | rfl <;> rcases ‹q = 0 ∨ _› with rfl | rfl | rfl <;> first | rfl | (revert h1; decide)
theorem cut_size (z : Nat) (h1 : 1 ≤ z) (h3 : z ≤ 3) : (⟨#[115, 109, 108]⟩ : ByteArray).extract (z - 1) z = bS [sizeB z] := by
  have : z = 1 ∨ z = 2 ∨ z = 3 := by omega
  rcases this with rfl | rfl | rfl <;> decide
theorem cut_pos (p : Nat) (h : p ≤ 2) : (⟨#[94, 45, 95]⟩ : ByteArray).extract p (p + 1) = bS [posB p] := by
  have : p = 0 ∨ p = 1 ∨ p = 2 := by omega
  rcases this with rfl | rfl | rfl <;> decide
set_option maxRecDepth 8000 in
set_option maxHeartbeats 4000000 in
theorem strokeT_any (d z : Nat) (w : World) (h : stkOk ⟨d, z⟩ = true) : Calls Try.prog 75 #[kv ⟨d, z⟩] w fun e w' => e = .returned (.string (strT ⟨d, z⟩)) ∧ Below w.heap.size w w' := by
  obtain ⟨h1, h2, h3, h4⟩ := (stkOk_iff _).1 h
  dsimp only at h1 h2 h3 h4
  have hY := Blk.new w 75 #[.int .i64 (d : Int), .int .i64 (z : Int)]
  have hb0 : Below w.heap.size w (w.alloc (.cells #[.int .i64 (d : Int), .int .i64 (z : Int)] 75)) := (Below.refl _ _).alloc (Nat.le_refl _) _
  have HY := Lib.hid hY
  have HB0 := Lib.hid hb0
  have HK := Lib.hid h
  clear hY hb0 h
  go_enter Try.func75, Try.ntmps75
  go_wp2_with fail
  refine (sstroke_any ⟨d, z⟩ _).mono ?_
  rw [HK.out]
  rintro e w1 ⟨rfl, hb⟩
  have HB1 := Lib.hid (HB0.out.trans (hb.mono HB0.out.size))
  have hY1 := HY.out.below hb HY.out.lt
  have E0 : ∀ n os, (afterW w1 n os).cell? ⟨w.heap.size, 0, none⟩ = some (.int .i64 (d : Int)) := cell_after hY1.lt (hY1.cell 0)
  have E1 : ∀ n os, (afterW w1 n os).cell? ⟨w.heap.size, 1, none⟩ = some (.int .i64 (z : Int)) := cell_after hY1.lt (hY1.cell 1)
  have HC := Lib.hid (cut_size z (by omega) (by omega))
  obtain ⟨y, rfl⟩ : ∃ y, z = y + 1 := ⟨z - 1, by omega⟩
  have u1 : IntKind.i64.wrap (((y + 1 : Nat) : Int) - 1) = (y : Int) := by rw [show ((y + 1 : Nat) : Int) - 1 = (y : Int) by omega]; exact IntWalk.i64_in _ (by omega)
  have hmix := mixed
  have hd10 : d < 10 := by omega
  have hs1 : (strOfNums [48 + (d : Int)]).size = 1 := strOfNums_size _
  clear hb HB0 HY hY1
  go_wp2_with fail
  refine wp_region_after (by assumption) (by kernel_rfl) ?_
  repeat (go_big_quiet_step (first | (go_at_call 80; refine Calls.after_of (dec_one d _ hd10))))
  refine wpQuiet_nil ?_
  intro _ hw'
  obtain ⟨⟨nq, osq⟩, hw9⟩ := hw'
  subst hw9
  go_wp2_with fail
  go_ret
  refine ⟨ret_str ?_, HB1.out.trans ((below_after w1 nq osq).mono HB1.out.size)⟩
  have := HC.out
  rw [Nat.add_sub_cancel] at this
  rw [this]
  rfl
theorem strokeT_of (s : Stk) (w : World) (h : stkOk s = true) : Calls Try.prog 75 #[kv s] w fun e w' => e = .returned (.string (strT s)) ∧ Below w.heap.size w w' := by
  obtain ⟨d, z⟩ := s
  obtain ⟨h1, h2, h3, h4⟩ := (stkOk_iff _).1 h
  dsimp only at h1 h2 h3 h4
  obtain ⟨d, rfl⟩ := Int.eq_ofNat_of_zero_le h1
  obtain ⟨z, rfl⟩ := Int.eq_ofNat_of_zero_le (by omega : 0 ≤ z)
  exact strokeT_any d z w h
set_option maxRecDepth 8000 in
set_option maxHeartbeats 4000000 in
theorem outlineT_any (A : Option Addr) (n c : Nat) (l : List Stk) (w : World) (h : Stks w A n l) (hn : n ≤ 9223372036854775807) (hl : outOk l = true) :
    Calls Try.prog 52 #[.slice A n c] w fun e w' => e = .returned (.string (outT l)) ∧ Below w.heap.size w w' := by
  have hlen := Lib.hid h.len
  have HL := Lib.hid hl
  have hn8 : n ≤ 8 := by have := out_len hl; rw [hlen.out] at this; exact this
  have hall := Lib.hid (out_all hl)
  clear hl
  go_enter Try.func52, Try.ntmps52
  go_wp2_with fail
  go_loopw [3, 4] (fun ov iv wr => ∃ (k : Nat), k ≤ n ∧ iv = .int .i64 k ∧ ov = .string (outT (l.take k)) ∧ Below w.heap.size w wr) (fun _ iv _ => n - (intOf iv).toNat)
  case atStart => exact ⟨0, Nat.zero_le _, rfl, rfl, Below.refl _ _⟩
  case round =>
    obtain ⟨k, hk, rfl, rfl, hbel⟩ := hrel
    have hsz := outT_size (l.take k)
    have htl : (l.take k).length = k := by rw [List.length_take, hlen.out]; omega
    rw [htl] at hsz
    clear htl
    by_cases hlt : k < n
    · have k1 : (0 : Int) ≤ (k : Int) := by omega
      have k2 : (k : Int) < (n : Int) := by omega
      have HB := Lib.hid hbel
      clear hbel
      go_wp2_with fail
      refine (soutline_any A n c l _ (h.below HB.out) hn).mono ?_
      rw [HL.out]
      rintro e w1 ⟨rfl, hb⟩
      have HB1 := Lib.hid (HB.out.trans (hb.mono HB.out.size))
      clear HB hb
      obtain ⟨b, off, s, rfl, hs, c0, c1⟩ := Stks.at2 (j := k) (h.below HB1.out) hlt
      have HS := Lib.hid (hall.out s (mem_at hs))
      have hsn := Lib.hid (take_snoc hs)
      have hst := strT_size s
      clear hs
      go_wp2_with fail
      refine (strokeT_of s _ HS.out).mono ?_
      rintro e w2 ⟨rfl, hb⟩
      have HB2 := Lib.hid (HB1.out.trans (hb.mono HB1.out.size))
      clear HB1 hb c0 c1
      go_wp2_with fail
      go_roundw
      case rel => exact ⟨k + 1, by omega, by go_num, by rw [hsn.out, outT_snoc], HB2.out⟩
      case measure => simp [intOf]; omega
    · obtain rfl : k = n := by omega
      have he : Hid (outT (l.take k) = outT l) := Lib.hid (by rw [List.take_of_length_le (by rw [hlen.out]; exact Nat.le_refl _)])
      go_wp2_with fail
      go_ret
      exact ⟨ret_str he.out, hbel⟩
abbrev fv (A : Option Addr) (n c : Nat) (p : Int) : Value := .agg #[.slice A n c, .int .i64 p]
set_option maxRecDepth 8000 in
set_option maxHeartbeats 4000000 in
theorem swvalid_any (A : Option Addr) (n c : Nat) (l : List Stk) (p : Int) (w : World) (h : Stks w A n l) (hn : n ≤ 9223372036854775807) :
    Calls Try.prog 51 #[fv A n c p] w fun e w' => e = .returned (.bool (outOk l && (decide (0 ≤ p) && decide (p ≤ 2)))) ∧ Below w.heap.size w w' := by
  have hY := Blk.new w 30 #[.slice A n c, .int .i64 p]
  have hb0 : Below w.heap.size w (w.alloc (.cells #[.slice A n c, .int .i64 p] 30)) := (Below.refl _ _).alloc (Nat.le_refl _) _
  have HY := Lib.hid hY
  have HB0 := Lib.hid hb0
  clear hY hb0
  go_enter Try.func51, Try.ntmps51
  go_wp2_with fail
  refine (soutline_any A n c l _ (h.below HB0.out) hn).mono ?_
  rintro e w1 ⟨rfl, hb⟩
  have HB1 := Lib.hid (HB0.out.trans (hb.mono HB0.out.size))
  have hY1 := HY.out.below hb HY.out.lt
  have e0 := hY1.cell 0
  have e1 := hY1.cell 1
  clear hb HB0 HY hY1
  cases hl : outOk l with
  | false =>
    have HL := Lib.hid hl
    clear hl
    go_wp2_with fail
    go_ret
    exact ⟨ret_bool (by rw [HL.out]; rfl), HB1.out⟩
  | true =>
    have HL := Lib.hid hl
    clear hl
    go_wp2_with (go_at_call 74; refine (in_any _ _ _ _).mono ?_; rintro e w' ⟨rfl, rfl⟩)
    go_ret
    exact ⟨ret_bool (by rw [HL.out]; rfl), HB1.out⟩
set_option maxRecDepth 8000 in
set_option maxHeartbeats 4000000 in
theorem writtenT_nat (A : Option Addr) (n c : Nat) (l : List Stk) (p : Nat) (w : World) (h : KB w A n l) (hl : outOk l = true) (hp : p ≤ 2) :
    Calls Try.prog 31 #[fv A n c p] w fun e w' => e = .returned (.string (formT l p)) ∧ Below w.heap.size w w' := by
  have hn8 : n ≤ 8 := by have := out_len hl; rw [h.len] at this; exact this
  have hY := Blk.new w 30 #[.slice A n c, .int .i64 (p : Int)]
  have hb0 : Below w.heap.size w (w.alloc (.cells #[.slice A n c, .int .i64 (p : Int)] 30)) := (Below.refl _ _).alloc (Nat.le_refl _) _
  have HY := Lib.hid hY
  have HB0 := Lib.hid hb0
  have HL := Lib.hid hl
  have HV : Hid ((outOk l && (decide (0 ≤ (p : Int)) && decide ((p : Int) ≤ 2))) = true) := Lib.hid (by rw [hl, decide_eq_true (by omega : (0 : Int) ≤ (p : Int)), decide_eq_true (by omega : (p : Int) ≤ 2)]; rfl)
  clear hY hb0 hl
  go_enter Try.func31, Try.ntmps31
  go_wp2_with fail
  refine (swvalid_any A n c l p _ (h.1.below HB0.out) (by omega)).mono ?_
  rw [HV.out]
  rintro e w1 ⟨rfl, hb⟩
  have HB1 := Lib.hid (HB0.out.trans (hb.mono HB0.out.size))
  have hY1 := HY.out.below hb HY.out.lt
  have hk1 := Lib.hid (h.1.below HB1.out)
  have E0 : ∀ m os, (afterW w1 m os).cell? ⟨w.heap.size, 0, none⟩ = some (.slice A n c) := cell_after hY1.lt (hY1.cell 0)
  have E1 : ∀ m os, (afterW w1 m os).cell? ⟨w.heap.size, 1, none⟩ = some (.int .i64 (p : Int)) := cell_after hY1.lt (hY1.cell 1)
  have HC := Lib.hid (cut_pos p hp)
  have hts := outT_size l
  rw [h.len] at hts
  have hmix := mixed
  clear hb HB0 HY hY1
  go_wp2_with fail
  refine wp_region_after (by assumption) (by kernel_rfl) ?_
  repeat (go_big_quiet_step (first | (go_at_call 52; refine Calls.after_of (outlineT_any A n c l _ (hk1.out.below (below_after _ _ _)) (by omega) HL.out))))
  refine wpQuiet_nil ?_
  intro _ hw'
  obtain ⟨⟨nq, osq⟩, hw9⟩ := hw'
  subst hw9
  go_wp2_with fail
  go_ret
  refine ⟨ret_str ?_, HB1.out.trans ((below_after w1 nq osq).mono HB1.out.size)⟩
  rw [HC.out]
  rfl
end Go.Proofs.Ytjhalbmmlcbehaa
