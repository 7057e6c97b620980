/- Strokes and outlines by both programs. -/
import Derived.Test.YtjhalbmmlcbehaaGr
namespace Go.Proofs.Ytjhalbmmlcbehaa
open Go.RowKit Wr
set_option linter.unusedVariables false
set_option linter.unusedSimpArgs false

abbrev kv (s : Stk) : Value := .agg #[.int .i64 s.dir, .int .i64 s.size]
theorem stk_out {s : Stk} (h : OkK s) : (-9223372036854775808 ≤ s.dir ∧ s.dir ≤ 9223372036854775807) ∧ -9223372036854775808 ≤ s.size ∧ s.size ≤ 9223372036854775807 := h
set_option maxHeartbeats 400000 in
theorem istroke_any (s : Stk) (w : World) : Calls Try.prog 61 #[kv s] w fun e w' => e = .returned (.bool (stkOk s)) ∧ Below w.heap.size w w' := by
  obtain ⟨d, z⟩ := s
  have hb : Below w.heap.size w (w.alloc (.cells #[.int .i64 d, .int .i64 z] 75)) := (Below.refl _ _).alloc (Nat.le_refl _) _
  go_enter Try.func61, Try.ntmps61
  go_wp2
  all_goals
    go_ret
    refine ⟨ret_bool ?_, hb⟩
    simp [stkOk]
    omega
set_option maxHeartbeats 400000 in
theorem sstroke_any (s : Stk) (w : World) : Calls Try.prog 73 #[kv s] w fun e w' => e = .returned (.bool (stkOk s)) ∧ Below w.heap.size w w' := by
  obtain ⟨d, z⟩ := s
  have hb : Below w.heap.size w (w.alloc (.cells #[.int .i64 d, .int .i64 z] 75)) := (Below.refl _ _).alloc (Nat.le_refl _) _
  go_enter Try.func73, Try.ntmps73
  go_wp2
  all_goals
    go_ret
    refine ⟨ret_bool ?_, hb⟩
    simp [stkOk]
    omega
def penI (s : Stk) : Int := s.dir * 3 + s.size - 1
theorem pen_any (s : Stk) (w : World) (h : stkOk s = true) : Calls Try.prog 78 #[kv s] w fun e w' => e = .returned (.int .i64 (penI s)) ∧ Below w.heap.size w w' := by
  obtain ⟨d, z⟩ := s
  obtain ⟨h1, h2, h3, h4⟩ := (stkOk_iff _).1 h
  dsimp only at h1 h2 h3 h4
  have hb : Below w.heap.size w (w.alloc (.cells #[.int .i64 d, .int .i64 z] 75)) := (Below.refl _ _).alloc (Nat.le_refl _) _
  have u1 : IntKind.i64.wrap (d * 3) = d * 3 := IntWalk.i64_in _ (by omega)
  have u2 : IntKind.i64.wrap (d * 3 + z) = d * 3 + z := IntWalk.i64_in _ (by omega)
  have u3 : IntKind.i64.wrap (d * 3 + z - 1) = d * 3 + z - 1 := IntWalk.i64_in _ (by omega)
  go_enter Try.func78, Try.ntmps78
  go_wp2
  go_ret
  exact ⟨rfl, hb⟩
theorem lead_any (a b : Stk) (w : World) (ha : stkOk a = true) (hb : stkOk b = true) : Calls Try.prog 79 #[.int .i64 (penI a), .int .i64 (penI b)] w fun e w' => e = .returned (.bool (lead a b)) ∧ w' = w := by
  obtain ⟨d, z⟩ := a
  obtain ⟨d2, z2⟩ := b
  obtain ⟨h1, h2, h3, h4⟩ := (stkOk_iff _).1 ha
  obtain ⟨k1, k2, k3, k4⟩ := (stkOk_iff _).1 hb
  dsimp only at h1 h2 h3 h4 k1 k2 k3 k4
  unfold penI lead
  dsimp only
  have e1 : (d * 3 + z - 1) / 3 = d := by omega
  have e2 : (d2 * 3 + z2 - 1) / 3 = d2 := by omega
  go_enter Try.func79, Try.ntmps79
  go_wp2
  all_goals
    go_ret
    refine ⟨ret_bool ?_, rfl⟩
    rw [Bool.eq_iff_iff]
    simp
    omega
/-- what the chain's first stroke lies in -/
def Head (w : World) (v : Value) (l : List Stk) : Prop := match l with | [] => v = .pointer none | s :: _ => ∃ g, v = .pointer (some ⟨g, 0, none⟩) ∧ g < w.heap.size ∧ w.cell? ⟨g, 0, none⟩ = some (.int .i64 (penI s))
theorem Head.below {w w' : World} {v : Value} {l : List Stk} (h : Head w v l) (hb : Below w.heap.size w w') : Head w' v l := by
  cases l with
  | nil => exact h
  | cons s r =>
    obtain ⟨g, rfl, h1, h2⟩ := h
    exact ⟨g, rfl, Nat.lt_of_lt_of_le h1 hb.size, (hb.cell h1).trans h2⟩
set_option maxHeartbeats 1000000 in
theorem chain_any (A : Option Addr) (n c : Nat) (l : List Stk) (w : World) (h : Stks w A n l) (hn : n ≤ 9223372036854775807) :
    Calls Try.prog 64 #[.slice A n c] w fun e w' => (∃ v, e = .returned (.tuple #[v, .bool (outOk l)])) ∧ Below w.heap.size w w' := by
  have hlen := Lib.hid h.len
  by_cases h8 : n ≤ 8
  rotate_left
  · have hr : outOk l = false := by unfold outOk; rw [hlen.out, decide_eq_false h8]; rfl
    have HR := Lib.hid hr
    have h9 : (8 : Int) < (n : Int) := by omega
    clear hr h8
    go_enter Try.func64, Try.ntmps64
    go_wp2_with fail
    go_ret2
    exact ⟨⟨.pointer none, by rw [HR.out]; rfl⟩, Below.refl _ _⟩
  have hr := Lib.hid (show outOk l = chainOk l by unfold outOk; rw [hlen.out, decide_eq_true h8]; rfl)
  have h9 : ¬ (8 : Int) < (n : Int) := by omega
  go_enter Try.func64, Try.ntmps64
  go_wp2_with fail
  go_loopw [4, 5] (fun hv iv wr => ∃ k : Nat, k ≤ n ∧ iv = .int .i64 ((k : Int) - 1) ∧ Head wr hv (l.drop k) ∧ Hid (chainOk (l.drop k) = true) ∧ Below w.heap.size w wr) (fun _ iv _ => (intOf iv + 1).toNat)
  case atStart => exact ⟨n, Nat.le_refl _, rfl, by rw [List.drop_of_length_le (by rw [hlen.out]; exact Nat.le_refl _)]; rfl, Lib.hid (by rw [List.drop_of_length_le (by rw [hlen.out]; exact Nat.le_refl _)]; rfl), Below.refl _ _⟩
  case round =>
    obtain ⟨k, hk, rfl, hH, hC, hbel⟩ := hrel
    rcases Nat.eq_zero_or_pos k with h0 | h0
    · subst h0
      have HF := Lib.hid (show outOk l = true by rw [hr.out]; have := hC.out; rwa [List.drop_zero] at this)
      go_wp2_with fail
      go_ret2
      rw [HF.out]
      exact ⟨⟨_, rfl⟩, hbel⟩
    · obtain ⟨j, rfl⟩ : ∃ j, k = j + 1 := ⟨k - 1, by omega⟩
      obtain ⟨b, off, s, rfl, hs, c0, c1⟩ := Stks.at2 (j := j) (h.below hbel) (by omega)
      have hgo := Lib.hid (chain_drop hs)
      have HSS := Lib.hid (show l.drop j = s :: l.drop (j + 1) from by have h1 := (List.getElem?_eq_some_iff.1 hs); obtain ⟨h1, h2⟩ := h1; rw [List.drop_eq_getElem_cons h1, h2])
      have j1 : ((j + 1 : Nat) : Int) - 1 = (j : Int) := by omega
      have j2 : (0 : Int) ≤ (j : Int) := by omega
      have j3 : (j : Int) < (n : Int) := by omega
      clear hs
      rw [j1]
      go_wp2_with fail
      refine (istroke_any s _).mono ?_
      rintro e W1 ⟨rfl, b1⟩
      have hb1 := hbel.trans (b1.mono hbel.size)
      have d0 := (b1.cell (lt_of_cell c0)).trans c0
      have d1 := (b1.cell (lt_of_cell c1)).trans c1
      have hH1 := hH.below b1
      clear hH hbel c0 c1 b1
      cases hs : stkOk s with
      | false =>
        have HF := Lib.hid (show outOk l = false by rw [hr.out]; exact chain_drop_stop (k := j) (by rw [hgo.out, hs]; rfl))
        clear hs
        go_wp2_with fail
        go_ret2
        refine ⟨⟨.pointer none, ?_⟩, hb1⟩
        rw [HF.out]
        rfl
      | true =>
        have HS := Lib.hid hs
        clear hs
        go_wp2_with fail
        refine (pen_any s _ HS.out).mono ?_
        rintro e W2 ⟨rfl, b2⟩
        have hb2 := hb1.trans (b2.mono hb1.size)
        have hH2 := hH1.below b2
        clear hH1 hb1 b2 d0 d1
        cases hd : l.drop (j + 1) with
        | nil =>
          rw [hd] at hH2
          obtain rfl := hH2
          have hC2 : Hid (chainOk (l.drop j) = true) := Lib.hid (by rw [hgo.out, hd, HS.out]; rfl)
          have hX := Blk.new W2 125 #[.int .i64 (penI s), .pointer none]
          have hn2 : Head (W2.alloc (.cells #[.int .i64 (penI s), .pointer none] 125)) (.pointer (some ⟨W2.heap.size, 0, none⟩)) (s :: []) := ⟨_, rfl, hX.lt, hX.cell 0⟩
          have hb3 : Below w.heap.size w (W2.alloc (.cells #[.int .i64 (penI s), .pointer none] 125)) := hb2.alloc hb2.size _
          have HN := Lib.hid hn2
          have HD : Hid (l.drop j = s :: []) := Lib.hid (by have := HSS.out; rw [this, hd])
          clear hX hn2 hd hb2
          go_wp2_with fail
          go_roundw
          case rel => exact ⟨j, by omega, by go_num, by rw [HD.out]; exact HN.out, hC2, hb3⟩
          case measure => first | (simp [intOf]; done) | (simp [intOf]; omega)
        | cons t r =>
          rw [hd] at hH2
          obtain ⟨g, rfl, hg1, hg2⟩ := hH2
          have ht : stkOk t = true := by have := hC.out; rw [hd, chain_cons] at this; simp only [Bool.and_eq_true] at this; exact this.1.1
          have HT := Lib.hid ht
          clear ht
          go_wp2_with fail
          refine (lead_any s t _ HS.out HT.out).mono ?_
          rintro e W3 ⟨rfl, rfl⟩
          cases hl : lead s t with
          | false =>
            have HF := Lib.hid (show outOk l = false by rw [hr.out]; exact chain_drop_stop (k := j) (by rw [hgo.out, hd]; show (stkOk s && lead s t && _) = false; rw [hl]; simp))
            clear hl
            go_wp2_with fail
            go_ret2
            refine ⟨⟨.pointer none, ?_⟩, hb2⟩
            rw [HF.out]
            rfl
          | true =>
            have hC2 : Hid (chainOk (l.drop j) = true) := Lib.hid (by rw [hgo.out, hC.out, HS.out, hd]; show (true && lead s t && true) = true; rw [hl]; rfl)
            have hX := Blk.new W3 125 #[.int .i64 (penI s), .pointer (some ⟨g, 0, none⟩)]
            have hn2 : Head (W3.alloc (.cells #[.int .i64 (penI s), .pointer (some ⟨g, 0, none⟩)] 125)) (.pointer (some ⟨W3.heap.size, 0, none⟩)) (s :: t :: r) := ⟨_, rfl, hX.lt, hX.cell 0⟩
            have hb3 : Below w.heap.size w (W3.alloc (.cells #[.int .i64 (penI s), .pointer (some ⟨g, 0, none⟩)] 125)) := hb2.alloc hb2.size _
            have HN := Lib.hid hn2
            have HD : Hid (l.drop j = s :: t :: r) := Lib.hid (by have := HSS.out; rw [this, hd])
            clear hX hn2 hd hb2 hl
            go_wp2_with fail
            go_roundw
            case rel => exact ⟨j, by omega, by go_num, by rw [HD.out]; exact HN.out, hC2, hb3⟩
            case measure => first | (simp [intOf]; done) | (simp [intOf]; omega)
theorem ioutline_any (A : Option Addr) (n c : Nat) (l : List Stk) (w : World) (h : Stks w A n l) (hn : n ≤ 9223372036854775807) :
    Calls Try.prog 42 #[.slice A n c] w fun e w' => e = .returned (.bool (outOk l)) ∧ Below w.heap.size w w' := by
  go_enter Try.func42, Try.ntmps42
  go_wp2_with fail
  refine (chain_any A n c l _ h hn).mono ?_
  rintro e w' ⟨⟨v, rfl⟩, hb⟩
  go_wp2_with fail
  go_ret
  exact ⟨rfl, hb⟩
end Go.Proofs.Ytjhalbmmlcbehaa
