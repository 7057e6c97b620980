/- The table of least sizes: both programs make it. -/
import Derived.Test.YtjhlcgjhdiheaaaTable
namespace Go.Proofs.Ytjhlcgjhdiheaaa
open Go.RowKit
set_option linter.unusedVariables false
set_option linter.unusedSimpArgs false
theorem Tab2.drewN {w : World} {lo G n m i q g : Nat} {a b : List ByteArray} {R : Nat → Nat} {cs : Array Value} (h : Tab2 w lo G n m i q g a b R cs) (k : Nat) : Tab2 (w.drewN k) lo G n m i q g a b R cs := ⟨h.blk, h.size, h.lo, h.top, h.above, h.row, h.rows⟩

set_option maxRecDepth 8000 in
set_option maxHeartbeats 2000000 in
theorem itable_any (A B : Option Addr) (n c m d : Nat) (a b : List ByteArray) (w : World) (hn : n ≤ 20) (hm : m ≤ 20) (h : Strs w A n a) (k : Strs w B m b) :
    Calls Try.prog 73 #[.slice A n c, .slice B m d] w fun e w' => ∃ G R cs, e = .returned (.slice (some ⟨G, 0, none⟩) (n + 1 : Nat) (n + 1 : Nat)) ∧ Tab w' w.heap.size G n m 0 a b R cs ∧ Below w.heap.size w w' := by
  obtain ⟨i0, hi, hz0, hz1, hz2⟩ := info_parts Try.infoSl
  obtain ⟨i3, hi3, hz30, hz31, hz32⟩ := info_parts Try.infoInt
  have ha := Lib.hid h.len
  have hb := Lib.hid k.len
  have hb8 : i0.bytes * (n + 1) ≤ 281474976710656 := by rw [hz2]; omega
  have hml : n + 1 ≤ maxLen := by unfold maxLen; omega
  go_enter Try.func73, Try.ntmps73
  go_wp2_with (at_make; refine wpList_make_full _ rfl _ _ 66 rfl w.heap.size 65 i0 (.slice none 0 0) 1 Try.underlying66 hi hz0 hz1 .i64 .i64 _ _ (n + 1) rfl rfl (by go_num) (by go_num) hb8 hml (Nat.le_refl _) ?_; intro w1 hown hgrow)
  have ho := own_blk hown
  have hb1 : Below w.heap.size w w1 := below_of_grown hgrow (Nat.le_refl _) (fun _ e => by cases e)
  have hsz : (madeCells (Value.slice none 0 0).cells ((n + 1) * 1)).toList.toArray.size = n + 1 := by
    have := hown.1; simpa using this
  generalize (madeCells (Value.slice none 0 0).cells ((n + 1) * 1)).toList.toArray = cs0 at ho hsz
  have hT0 : Tab w1 w.heap.size w.heap.size n m (n + 1) a b (fun _ => 0) cs0 := ⟨ho, hsz, Nat.le_refl _, fun r h1 h2 => by omega⟩
  clear hown hgrow hi hz0 hz1 hz2 hb8 hml ho hsz
  have hb8 : i3.bytes * (m + 1) ≤ 281474976710656 := by rw [hz32]; omega
  have hml : m + 1 ≤ maxLen := by unfold maxLen; omega
  go_loopw [6] (fun i wr => ∃ p : Nat, p ≤ n + 1 ∧ i = .int .i64 ((p : Int) - 1) ∧ Below w.heap.size w wr ∧ ∃ R cs, Tab wr w.heap.size w.heap.size n m p a b R cs) (fun i _ => ((intOf i) + 1).toNat)
  case atStart => exact ⟨n + 1, Nat.le_refl _, by go_num, hb1, _, _, hT0⟩
  case round =>
    obtain ⟨p, hp, rfl, hbel, R, cs, hT⟩ := hrel
    by_cases hlt : 0 < p
    · obtain ⟨i, rfl⟩ : ∃ i, p = i + 1 := ⟨p - 1, by omega⟩
      have ei : ((i + 1 : Nat) : Int) - 1 = i := by omega
      rw [ei]
      have hTL := hT.blk.lt
      have hcG : ∃ v, cs[i]? = some v := ⟨cs[i]'(by rw [hT.size]; omega), Array.getElem?_eq_getElem _⟩
      obtain ⟨v0, hv0⟩ := hcG
      go_wp2_with (at_make; refine wpList_make_full _ rfl _ _ 65 rfl wr.heap.size 3 i3 (.int .i64 0) 1 Try.underlying65 hi3 hz30 hz31 .i64 .i64 _ _ (m + 1) rfl rfl (by go_num) (by go_num) hb8 hml (Nat.le_refl _) ?_; intro w2 hown hgrow; have hb2 : Below wr.heap.size wr w2 := below_of_grown hgrow (Nat.le_refl _) (fun _ e => by cases e); have hB2 := hT.blk.below hb2 hTL; have hc2 : w2.cell? ⟨w.heap.size, i, none⟩ = some v0 := (hB2.cell i).trans hv0; have hf2 := hB2.free i)
      have hr2 := own_blk hown
      rw [show (madeCells (Value.int .i64 0).cells ((m + 1) * 1)).toList.toArray = rowF (fun _ => 0) m from by
        rw [← rowF_zero m _ (fun _ _ => rfl)]
        show (madeCells #[Value.int .i64 0] ((m + 1) * 1)).toList.toArray = _
        rw [toList_madeCells_one, Nat.mul_one]] at hr2
      have hT2 := hT.open_ (g := wr.heap.size) (by omega) w2 hb2 (Nat.le_refl _) hr2
      have hbel2 : Below w.heap.size w (w2.setCell ⟨w.heap.size, i, none⟩ (.slice (some ⟨wr.heap.size, 0, none⟩) (m + 1 : Nat) (m + 1 : Nat))) := (hbel.trans (hb2.mono hbel.size)).setCell (Nat.le_refl _) _
      clear hown hgrow hb2 hB2 hc2 hf2 hr2 hv0 hT hbel
      generalize w2.setCell ⟨w.heap.size, i, none⟩ (.slice (some ⟨wr.heap.size, 0, none⟩) (m + 1 : Nat) (m + 1 : Nat)) = w3 at *
      generalize cs.setIfInBounds i (.slice (some ⟨wr.heap.size, 0, none⟩) (m + 1 : Nat) (m + 1 : Nat)) = cs2 at *
      generalize wr.heap.size = g at *
      go_loopw [7] (fun j ws => ∃ q : Nat, q ≤ m + 1 ∧ j = .int .i64 ((q : Int) - 1) ∧ Below w.heap.size w ws ∧ Tab2 ws w.heap.size w.heap.size n m i q g a b R cs2) (fun j _ => ((intOf j) + 1).toNat)
      case atStart => exact ⟨m + 1, Nat.le_refl _, by go_num, hbel2, hT2⟩
      case round =>
        clear hT2 hbel2
        obtain ⟨q, hq, rfl, hbel, hT⟩ := hrel
        by_cases hlq : 0 < q
        · obtain ⟨j, rfl⟩ : ∃ j, q = j + 1 := ⟨q - 1, by omega⟩
          have ej : ((j + 1 : Nat) : Int) - 1 = j := by omega
          rw [ej]
          have hc1 : wr.cell? ⟨w.heap.size, i, none⟩ = some (.slice (some ⟨g, 0, none⟩) (m + 1 : Nat) (m + 1 : Nat)) := (hT.blk.cell i).trans hT.top
          have hc2 := (hT.row.cell j).trans (rowF_cell _ m j (by omega))
          have hf2 := hT.row.free j
          have hgl := hT.above
          by_cases hin : i = n
          · have hV := V_last (j := j) ha.out hb.out (by omega)
            have hs := Lib.hid hT.store
            have hV2 : V a b i j = m - j := by rw [hin]; exact hV
            rw [hV2] at hs
            have e1 : ((i : Int) == (n : Int)) = true := by simp [hin]
            clear hT hV hV2 hin
            go_wp2_with fail
            go_roundw
            case rel => exact ⟨j, by omega, by go_num, hbel.setCell (Nat.le_of_lt hgl) _, hs.out⟩
            case measure => simp [intOf]
          · have hV := Lib.hid (V_side (i := i) ha.out hb.out (by omega))
            have e1 : ((i : Int) == (n : Int)) = false := by simp; omega
            have hilt : i < n := by omega
            clear hin
            by_cases hjm : j = m
            · have hs := Lib.hid hT.store
              have hV2 : V a b i j = n - i := by rw [hjm]; exact hV.out
              rw [hV2] at hs
              have e2 : ((j : Int) == (m : Int)) = true := by simp [hjm]
              clear hT hV2 hjm
              go_wp2_with fail
              go_roundw
              case rel => exact ⟨j, by omega, by go_num, hbel.setCell (Nat.le_of_lt hgl) _, hs.out⟩
              case measure => simp [intOf]
            · have e2 : ((j : Int) == (m : Int)) = false := by simp; omega
              have hjlt : j < m := by omega
              clear hjm
              obtain ⟨ba, oa, x, rfl, hx, hx1, hcx⟩ := (h.below hbel).at_ hilt
              obtain ⟨bb, ob, y, rfl, hy, hy1, hcy⟩ := (k.below hbel).at_ hjlt
              obtain ⟨r1, r2, r3, r4⟩ := hT.rows (i + 1) (by omega) (by omega)
              have hc3 : wr.cell? ⟨w.heap.size, i + 1, none⟩ = some (.slice (some ⟨R (i + 1), 0, none⟩) (m + 1 : Nat) (m + 1 : Nat)) := (hT.blk.cell (i + 1)).trans r1
              have i1 : (0 : Int) ≤ (i : Int) := by omega
              have i2 : (i : Int) < (n : Int) := by omega
              have j1 : (0 : Int) ≤ (j : Int) := by omega
              have j2 : (j : Int) < (m : Int) := by omega
              by_cases hxy : x = y
              · have hV2 := V_eq hx (by rw [hy, hxy])
                have hs : Hid (∀ z, Tab2 ((wr.drewN z).setCell ⟨g, j, none⟩ (.int .i64 (V a b (i + 1) (j + 1)))) w.heap.size w.heap.size n m i j g a b R cs2) := Lib.hid (fun z => by rw [← hV2]; exact (hT.drewN z).store)
                have hbe : (x.toList == y.toList) = true := by rw [bytes_eq]; simp [hxy]
                have hc4 := (r4.cell (j + 1)).trans (rowF_cell _ m (j + 1) (by omega))
                have hvb := V_bound (i := i + 1) (j := j + 1) ha.out hb.out
                clear hT hV2 hxy hx hy r1 r4 hV
                generalize V a b (i + 1) (j + 1) = v at *
                generalize R (i + 1) = g1 at *
                go_wp2_with fail
                go_quiet (fail)
                go_wp2_with fail
                go_region
                go_wp2_with fail
                exact ⟨⟨j, by omega, by go_num, (below_drewN hbel _).setCell (Nat.le_of_lt hgl) _, hs.out _⟩, by simp [intOf]⟩
              · have hV2 := V_ne hx hy hxy
                have hs : Hid (∀ z, Tab2 ((wr.drewN z).setCell ⟨g, j, none⟩ (.int .i64 (1 + min (V a b (i + 1) j) (V a b i (j + 1))))) w.heap.size w.heap.size n m i j g a b R cs2) := Lib.hid (fun z => by rw [← hV2]; exact (hT.drewN z).store)
                have hbe : (x.toList == y.toList) = false := by rw [bytes_eq]; simp [hxy]
                have hc4 := (r4.cell j).trans (rowF_cell _ m j (by omega))
                have hc5 := (hT.row.cell (j + 1)).trans (rowF_cell _ m (j + 1) (by omega))
                simp only [Nat.lt_irrefl, if_false] at hc5
                have hvb := V_bound (i := i + 1) (j := j) ha.out hb.out
                have hvc := V_bound (i := i) (j := j + 1) ha.out hb.out
                clear hT hV2 hxy hx hy r1 r4 hV
                generalize V a b (i + 1) j = v1 at *
                generalize V a b i (j + 1) = v2 at *
                generalize R (i + 1) = g1 at *
                rcases Int.lt_or_le v2 v1 with hlt2 | hle2
                · have hmn : min v1 v2 = v2 := by omega
                  rw [hmn] at hs
                  go_wp2_with fail
                  go_quiet (fail)
                  go_wp2_with fail
                  go_region
                  go_wp2_with fail
                  exact ⟨⟨j, by omega, by go_num, (below_drewN hbel _).setCell (Nat.le_of_lt hgl) _, hs.out _⟩, by simp [intOf]⟩
                · have hmn : min v1 v2 = v1 := by omega
                  rw [hmn] at hs
                  go_wp2_with fail
                  go_quiet (fail)
                  go_wp2_with fail
                  go_region
                  go_wp2_with fail
                  exact ⟨⟨j, by omega, by go_num, (below_drewN hbel _).setCell (Nat.le_of_lt hgl) _, hs.out _⟩, by simp [intOf]⟩
        · obtain rfl : q = 0 := by omega
          have hd := hT.done (by omega)
          go_wp2_with fail
          exact ⟨⟨i, by omega, rfl, hbel, _, _, hd⟩, by simp [intOf]⟩
    · obtain rfl : p = 0 := by omega
      go_wp2_with fail
      go_ret
      exact ⟨_, _, _, rfl, hT, hbel⟩

set_option maxRecDepth 8000 in
set_option maxHeartbeats 2000000 in
theorem stable_any (A B : Option Addr) (n c m d : Nat) (a b : List ByteArray) (w : World) (hn : n ≤ 20) (hm : m ≤ 20) (h : Strs w A n a) (k : Strs w B m b) :
    Calls Try.prog 71 #[.slice A n c, .slice B m d] w fun e w' => ∃ G R cs, e = .returned (.slice (some ⟨G, 0, none⟩) (n + 1 : Nat) (n + 1 : Nat)) ∧ Tab w' w.heap.size G n m 0 a b R cs ∧ Below w.heap.size w w' := by
  obtain ⟨i0, hi, hz0, hz1, hz2⟩ := info_parts Try.infoSl
  obtain ⟨i3, hi3, hz30, hz31, hz32⟩ := info_parts Try.infoInt
  have ha := Lib.hid h.len
  have hb := Lib.hid k.len
  have hb8 : i0.bytes * (n + 1) ≤ 281474976710656 := by rw [hz2]; omega
  have hml : n + 1 ≤ maxLen := by unfold maxLen; omega
  go_enter Try.func71, Try.ntmps71
  go_wp2_with (at_make; refine wpList_make_full _ rfl _ _ 66 rfl w.heap.size 65 i0 (.slice none 0 0) 1 Try.underlying66 hi hz0 hz1 .i64 .i64 _ _ (n + 1) rfl rfl (by go_num) (by go_num) hb8 hml (Nat.le_refl _) ?_; intro w1 hown hgrow)
  have ho := own_blk hown
  have hb1 : Below w.heap.size w w1 := below_of_grown hgrow (Nat.le_refl _) (fun _ e => by cases e)
  have hsz : (madeCells (Value.slice none 0 0).cells ((n + 1) * 1)).toList.toArray.size = n + 1 := by
    have := hown.1; simpa using this
  generalize (madeCells (Value.slice none 0 0).cells ((n + 1) * 1)).toList.toArray = cs0 at ho hsz
  have hT0 : Tab w1 w.heap.size w.heap.size n m (n + 1) a b (fun _ => 0) cs0 := ⟨ho, hsz, Nat.le_refl _, fun r h1 h2 => by omega⟩
  clear hown hgrow hi hz0 hz1 hz2 hb8 hml ho hsz
  have hb8 : i3.bytes * (m + 1) ≤ 281474976710656 := by rw [hz32]; omega
  have hml : m + 1 ≤ maxLen := by unfold maxLen; omega
  go_loopw [6] (fun i wr => ∃ p : Nat, p ≤ n + 1 ∧ i = .int .i64 ((p : Int) - 1) ∧ Below w.heap.size w wr ∧ ∃ R cs, Tab wr w.heap.size w.heap.size n m p a b R cs) (fun i _ => ((intOf i) + 1).toNat)
  case atStart => exact ⟨n + 1, Nat.le_refl _, by go_num, hb1, _, _, hT0⟩
  case round =>
    obtain ⟨p, hp, rfl, hbel, R, cs, hT⟩ := hrel
    by_cases hlt : 0 < p
    · obtain ⟨i, rfl⟩ : ∃ i, p = i + 1 := ⟨p - 1, by omega⟩
      have ei : ((i + 1 : Nat) : Int) - 1 = i := by omega
      rw [ei]
      have hTL := hT.blk.lt
      have hcG : ∃ v, cs[i]? = some v := ⟨cs[i]'(by rw [hT.size]; omega), Array.getElem?_eq_getElem _⟩
      obtain ⟨v0, hv0⟩ := hcG
      go_wp2_with (at_make; refine wpList_make_full _ rfl _ _ 65 rfl wr.heap.size 3 i3 (.int .i64 0) 1 Try.underlying65 hi3 hz30 hz31 .i64 .i64 _ _ (m + 1) rfl rfl (by go_num) (by go_num) hb8 hml (Nat.le_refl _) ?_; intro w2 hown hgrow; have hb2 : Below wr.heap.size wr w2 := below_of_grown hgrow (Nat.le_refl _) (fun _ e => by cases e); have hB2 := hT.blk.below hb2 hTL; have hc2 : w2.cell? ⟨w.heap.size, i, none⟩ = some v0 := (hB2.cell i).trans hv0; have hf2 := hB2.free i)
      have hr2 := own_blk hown
      rw [show (madeCells (Value.int .i64 0).cells ((m + 1) * 1)).toList.toArray = rowF (fun _ => 0) m from by
        rw [← rowF_zero m _ (fun _ _ => rfl)]
        show (madeCells #[Value.int .i64 0] ((m + 1) * 1)).toList.toArray = _
        rw [toList_madeCells_one, Nat.mul_one]] at hr2
      have hT2 := hT.open_ (g := wr.heap.size) (by omega) w2 hb2 (Nat.le_refl _) hr2
      have hbel2 : Below w.heap.size w (w2.setCell ⟨w.heap.size, i, none⟩ (.slice (some ⟨wr.heap.size, 0, none⟩) (m + 1 : Nat) (m + 1 : Nat))) := (hbel.trans (hb2.mono hbel.size)).setCell (Nat.le_refl _) _
      clear hown hgrow hb2 hB2 hc2 hf2 hr2 hv0 hT hbel
      generalize w2.setCell ⟨w.heap.size, i, none⟩ (.slice (some ⟨wr.heap.size, 0, none⟩) (m + 1 : Nat) (m + 1 : Nat)) = w3 at *
      generalize cs.setIfInBounds i (.slice (some ⟨wr.heap.size, 0, none⟩) (m + 1 : Nat) (m + 1 : Nat)) = cs2 at *
      generalize wr.heap.size = g at *
      go_loopw [7] (fun j ws => ∃ q : Nat, q ≤ m + 1 ∧ j = .int .i64 ((q : Int) - 1) ∧ Below w.heap.size w ws ∧ Tab2 ws w.heap.size w.heap.size n m i q g a b R cs2) (fun j _ => ((intOf j) + 1).toNat)
      case atStart => exact ⟨m + 1, Nat.le_refl _, by go_num, hbel2, hT2⟩
      case round =>
        clear hT2 hbel2
        obtain ⟨q, hq, rfl, hbel, hT⟩ := hrel
        by_cases hlq : 0 < q
        · obtain ⟨j, rfl⟩ : ∃ j, q = j + 1 := ⟨q - 1, by omega⟩
          have ej : ((j + 1 : Nat) : Int) - 1 = j := by omega
          rw [ej]
          have hc1 : wr.cell? ⟨w.heap.size, i, none⟩ = some (.slice (some ⟨g, 0, none⟩) (m + 1 : Nat) (m + 1 : Nat)) := (hT.blk.cell i).trans hT.top
          have hc2 := (hT.row.cell j).trans (rowF_cell _ m j (by omega))
          have hf2 := hT.row.free j
          have hgl := hT.above
          by_cases hin : i = n
          · have hV := V_last (j := j) ha.out hb.out (by omega)
            have hs := Lib.hid hT.store
            have hV2 : V a b i j = m - j := by rw [hin]; exact hV
            rw [hV2] at hs
            have e1 : ((i : Int) == (n : Int)) = true := by simp [hin]
            clear hT hV hV2 hin
            go_wp2_with fail
            go_roundw
            case rel => exact ⟨j, by omega, by go_num, hbel.setCell (Nat.le_of_lt hgl) _, hs.out⟩
            case measure => simp [intOf]
          · have hV := Lib.hid (V_side (i := i) ha.out hb.out (by omega))
            have e1 : ((i : Int) == (n : Int)) = false := by simp; omega
            have hilt : i < n := by omega
            clear hin
            by_cases hjm : j = m
            · have hs := Lib.hid hT.store
              have hV2 : V a b i j = n - i := by rw [hjm]; exact hV.out
              rw [hV2] at hs
              have e2 : ((j : Int) == (m : Int)) = true := by simp [hjm]
              clear hT hV2 hjm
              go_wp2_with fail
              go_roundw
              case rel => exact ⟨j, by omega, by go_num, hbel.setCell (Nat.le_of_lt hgl) _, hs.out⟩
              case measure => simp [intOf]
            · have e2 : ((j : Int) == (m : Int)) = false := by simp; omega
              have hjlt : j < m := by omega
              clear hjm
              obtain ⟨ba, oa, x, rfl, hx, hx1, hcx⟩ := (h.below hbel).at_ hilt
              obtain ⟨bb, ob, y, rfl, hy, hy1, hcy⟩ := (k.below hbel).at_ hjlt
              obtain ⟨r1, r2, r3, r4⟩ := hT.rows (i + 1) (by omega) (by omega)
              have hc3 : wr.cell? ⟨w.heap.size, i + 1, none⟩ = some (.slice (some ⟨R (i + 1), 0, none⟩) (m + 1 : Nat) (m + 1 : Nat)) := (hT.blk.cell (i + 1)).trans r1
              have i1 : (0 : Int) ≤ (i : Int) := by omega
              have i2 : (i : Int) < (n : Int) := by omega
              have j1 : (0 : Int) ≤ (j : Int) := by omega
              have j2 : (j : Int) < (m : Int) := by omega
              by_cases hxy : x = y
              · have hV2 := V_eq hx (by rw [hy, hxy])
                have hs : Hid (∀ z, Tab2 ((wr.drewN z).setCell ⟨g, j, none⟩ (.int .i64 (V a b (i + 1) (j + 1)))) w.heap.size w.heap.size n m i j g a b R cs2) := Lib.hid (fun z => by rw [← hV2]; exact (hT.drewN z).store)
                have hbe : (x.toList == y.toList) = true := by rw [bytes_eq]; simp [hxy]
                have hc4 := (r4.cell (j + 1)).trans (rowF_cell _ m (j + 1) (by omega))
                have hvb := V_bound (i := i + 1) (j := j + 1) ha.out hb.out
                clear hT hV2 hxy hx hy r1 r4 hV
                generalize V a b (i + 1) (j + 1) = v at *
                generalize R (i + 1) = g1 at *
                go_wp2_with fail
                go_quiet (fail)
                go_wp2_with fail
                go_region
                go_wp2_with fail
                exact ⟨⟨j, by omega, by go_num, (below_drewN hbel _).setCell (Nat.le_of_lt hgl) _, hs.out _⟩, by simp [intOf]⟩
              · have hV2 := V_ne hx hy hxy
                have hs : Hid (∀ z, Tab2 ((wr.drewN z).setCell ⟨g, j, none⟩ (.int .i64 (1 + min (V a b (i + 1) j) (V a b i (j + 1))))) w.heap.size w.heap.size n m i j g a b R cs2) := Lib.hid (fun z => by rw [← hV2]; exact (hT.drewN z).store)
                have hbe : (x.toList == y.toList) = false := by rw [bytes_eq]; simp [hxy]
                have hc4 := (r4.cell j).trans (rowF_cell _ m j (by omega))
                have hc5 := (hT.row.cell (j + 1)).trans (rowF_cell _ m (j + 1) (by omega))
                simp only [Nat.lt_irrefl, if_false] at hc5
                have hvb := V_bound (i := i + 1) (j := j) ha.out hb.out
                have hvc := V_bound (i := i) (j := j + 1) ha.out hb.out
                clear hT hV2 hxy hx hy r1 r4 hV
                generalize V a b (i + 1) j = v1 at *
                generalize V a b i (j + 1) = v2 at *
                generalize R (i + 1) = g1 at *
                rcases Int.lt_or_le v2 v1 with hlt2 | hle2
                · have hmn : min v1 v2 = v2 := by omega
                  rw [hmn] at hs
                  go_wp2_with fail
                  go_quiet (fail)
                  go_wp2_with fail
                  go_region
                  go_wp2_with fail
                  exact ⟨⟨j, by omega, by go_num, (below_drewN hbel _).setCell (Nat.le_of_lt hgl) _, hs.out _⟩, by simp [intOf]⟩
                · have hmn : min v1 v2 = v1 := by omega
                  rw [hmn] at hs
                  go_wp2_with fail
                  go_quiet (fail)
                  go_wp2_with fail
                  go_region
                  go_wp2_with fail
                  exact ⟨⟨j, by omega, by go_num, (below_drewN hbel _).setCell (Nat.le_of_lt hgl) _, hs.out _⟩, by simp [intOf]⟩
        · obtain rfl : q = 0 := by omega
          have hd := hT.done (by omega)
          go_wp2_with fail
          exact ⟨⟨i, by omega, rfl, hbel, _, _, hd⟩, by simp [intOf]⟩
    · obtain rfl : p = 0 := by omega
      go_wp2_with fail
      go_ret
      exact ⟨_, _, _, rfl, hT, hbel⟩
end Go.Proofs.Ytjhlcgjhdiheaaa
