/- The table of least sizes: what it holds, and that both programs make it. -/
import Derived.Test.YtjhlcgjhdiheaaaBase2
import Derived.Test.YtjhlcgjhdiheaaaPla
import Derived.BigRegion
import Derived.StillTailTactics
namespace Go.Proofs.Ytjhlcgjhdiheaaa
open Go.RowKit
set_option linter.unusedVariables false
set_option linter.unusedSimpArgs false

theorem Try.infoSl : (Try.prog.info? 65).map (fun i => (i.zero, i.size, i.bytes)) = some (some (.slice none 0 0), 1, 24) := by kernel_rfl
theorem Try.infoInt : (Try.prog.info? 3).map (fun i => (i.zero, i.size, i.bytes)) = some (some (.int .i64 0), 1, 8) := by kernel_rfl

/-- the least size behind i words of a and j words of b -/
def V (a b : List ByteArray) (i j : Nat) : Int := (Mk.far (a.drop i) (b.drop j) : Nat)
section
variable {a b : List ByteArray} {i j n m : Nat}
theorem V_bound (ha : a.length = n) (hb : b.length = m) : 0 ≤ V a b i j ∧ V a b i j ≤ n + m := by
  have := Mk.far_le (a.drop i) (b.drop j)
  simp only [List.length_drop] at this
  unfold V; omega
theorem V_last (ha : a.length = n) (hb : b.length = m) (hj : j ≤ m) : V a b n j = m - j := by
  unfold V
  rw [List.drop_of_length_le (by omega), Mk.far_nil, List.length_drop]; omega
theorem V_side (ha : a.length = n) (hb : b.length = m) (hi : i ≤ n) : V a b i m = n - i := by
  unfold V
  rw [List.drop_of_length_le (l := b) (by omega), Mk.far_nil', List.length_drop]; omega
theorem drop_at {a : List ByteArray} {i : Nat} {x : ByteArray} (h : a[i]? = some x) : a.drop i = x :: a.drop (i + 1) := by
  obtain ⟨hi, rfl⟩ := List.getElem?_eq_some_iff.1 h
  exact List.drop_eq_getElem_cons hi
theorem V_eq {x : ByteArray} (h1 : a[i]? = some x) (h2 : b[j]? = some x) : V a b i j = V a b (i + 1) (j + 1) := by
  unfold V
  rw [drop_at h1, drop_at h2, Mk.far_eq]
theorem V_ne {x y : ByteArray} (h1 : a[i]? = some x) (h2 : b[j]? = some y) (h : x ≠ y) : V a b i j = 1 + min (V a b (i + 1) j) (V a b i (j + 1)) := by
  unfold V
  rw [drop_at h1, drop_at h2, Mk.far_ne h]
  omega
end

/-- a row of ints by its places -/
def rowF (f : Nat → Int) (m : Nat) : Array Value := ((List.range (m + 1)).map fun j => Value.int .i64 (f j)).toArray
theorem rowF_cell (f : Nat → Int) (m k : Nat) (h : k ≤ m) : (rowF f m)[k]? = some (.int .i64 (f k)) := by
  simp [rowF, show k < m + 1 by omega]
theorem rowF_set (f g : Nat → Int) (m k : Nat) (v : Int) (h1 : g k = v) (h2 : ∀ j, j ≠ k → j ≤ m → g j = f j) : (rowF f m).setIfInBounds k (.int .i64 v) = rowF g m := by
  apply Array.ext_getElem?
  intro i
  rw [Array.getElem?_setIfInBounds]
  by_cases h5 : i ≤ m
  · by_cases e : k = i
    · subst e
      rw [if_pos rfl, if_pos (by simp [rowF]; omega), rowF_cell g m k h5, h1]
    · rw [if_neg e, rowF_cell f m i h5, rowF_cell g m i h5, h2 i (fun q => e (by omega)) h5]
  · have e1 : (rowF f m)[i]? = none := by simp [rowF]; omega
    have e2 : (rowF g m)[i]? = none := by simp [rowF]; omega
    rw [e1, e2]
    by_cases e : k = i
    · subst e
      rw [if_pos rfl, if_neg (by simp [rowF]; omega)]
    · rw [if_neg e]
theorem rowF_zero (m : Nat) (f : Nat → Int) (h : ∀ j, j ≤ m → f j = 0) : (List.replicate (m + 1) (Value.int .i64 0)).toArray = rowF f m := by
  apply Array.ext
  · simp [rowF]
  · intro i h3 h4
    simp only [rowF, List.getElem_toArray, List.getElem_map, List.getElem_range, List.getElem_replicate]
    rw [h i (by simp at h3; omega)]

/-- the rows from p on are made -/
structure Tab (w : World) (lo G n m p : Nat) (a b : List ByteArray) (R : Nat → Nat) (cs : Array Value) : Prop where
  blk : Blk w G 65 cs
  size : cs.size = n + 1
  lo : lo ≤ G
  rows : ∀ r, p ≤ r → r ≤ n → cs[r]? = some (.slice (some ⟨R r, 0, none⟩) (m + 1 : Nat) (m + 1 : Nat)) ∧ G < R r ∧ Blk w (R r) 3 (rowF (V a b r) m)
/-- the rows behind i are made, and row i from q on -/
structure Tab2 (w : World) (lo G n m i q g : Nat) (a b : List ByteArray) (R : Nat → Nat) (cs : Array Value) : Prop where
  blk : Blk w G 65 cs
  size : cs.size = n + 1
  lo : lo ≤ G
  top : cs[i]? = some (.slice (some ⟨g, 0, none⟩) (m + 1 : Nat) (m + 1 : Nat))
  above : G < g
  row : Blk w g 3 (rowF (fun j => if j < q then 0 else V a b i j) m)
  rows : ∀ r, i < r → r ≤ n → cs[r]? = some (.slice (some ⟨R r, 0, none⟩) (m + 1 : Nat) (m + 1 : Nat)) ∧ G < R r ∧ R r ≠ g ∧ Blk w (R r) 3 (rowF (V a b r) m)
section
variable {w : World} {lo G n m i q g p : Nat} {a b : List ByteArray} {R : Nat → Nat} {cs : Array Value}
theorem Tab2.draw (h : Tab2 w lo G n m i q g a b R cs) : Tab2 w.drew lo G n m i q g a b R cs := ⟨h.blk, h.size, h.lo, h.top, h.above, h.row, h.rows⟩
theorem Tab2.store {k : Nat} (h : Tab2 w lo G n m i (k + 1) g a b R cs) : Tab2 (w.setCell ⟨g, k, none⟩ (.int .i64 (V a b i k))) lo G n m i k g a b R cs := by
  have h1 := h.above
  refine ⟨h.blk.far (by simp; omega) _, h.size, h.lo, h.top, h.above, ?_, fun r h1 h2 => ?_⟩
  · have := h.row.put k (.int .i64 (V a b i k))
    rwa [rowF_set _ (fun j => if j < k then 0 else V a b i j) m k _ (by simp) (fun j h1 h2 => by
      by_cases h3 : j < k
      · simp [h3, show j < k + 1 by omega]
      · simp [h3, show ¬ j < k + 1 by omega])] at this
  · obtain ⟨e1, e2, e3, e4⟩ := h.rows r h1 h2
    exact ⟨e1, e2, e3, e4.far (by simpa using e3) _⟩
theorem Tab2.done (h : Tab2 w lo G n m i 0 g a b R cs) (hi : i ≤ n) : Tab w lo G n m i a b (fun r => if r = i then g else R r) cs := by
  refine ⟨h.blk, h.size, h.lo, fun r h1 h2 => ?_⟩
  by_cases e : r = i
  · subst e
    simp only [if_true]
    refine ⟨h.top, h.above, ?_⟩
    have := h.row
    simpa using this
  · simp only [if_neg e]
    obtain ⟨e1, e2, e3, e4⟩ := h.rows r (by omega) h2
    exact ⟨e1, e2, e4⟩
/-- a new row is laid into the table -/
theorem Tab.open_ (h : Tab w lo G n m (i + 1) a b R cs) (hi : i ≤ n) (w1 : World) (hb : Below w.heap.size w w1) (hg : w.heap.size ≤ g) (hr : Blk w1 g 3 (rowF (fun _ => 0) m)) :
    Tab2 (w1.setCell ⟨G, i, none⟩ (.slice (some ⟨g, 0, none⟩) (m + 1 : Nat) (m + 1 : Nat))) lo G n m i (m + 1) g a b R (cs.setIfInBounds i (.slice (some ⟨g, 0, none⟩) (m + 1 : Nat) (m + 1 : Nat))) := by
  have hG := h.blk.lt
  refine ⟨(h.blk.below hb hG).put i _, by simp [h.size], h.lo, ?_, by omega, ?_, fun r h1 h2 => ?_⟩
  · rw [Array.getElem?_setIfInBounds]; simp [h.size]; omega
  · have := hr.far (p := ⟨G, i, none⟩) (by simp; omega) (.slice (some ⟨g, 0, none⟩) (m + 1 : Nat) (m + 1 : Nat))
    have e : rowF (fun j => if j < m + 1 then 0 else V a b i j) m = rowF (fun _ => 0) m := by
      unfold rowF
      congr 1
      apply List.map_congr_left
      intro j hj
      rw [List.mem_range] at hj
      simp [hj]
    rwa [e]
  · obtain ⟨e1, e2, e3⟩ := h.rows r (by omega) h2
    have := e3.lt
    refine ⟨?_, e2, by omega, (e3.below hb this).far (by simp; omega) _⟩
    rw [Array.getElem?_setIfInBounds]
    rw [if_neg (by omega)]
    exact e1
end
theorem own_blk {w : World} {lo g n : Nat} {t : TypeId} {xs : List Value} (h : w.ownsRow lo t 1 (.slice (some ⟨g, 0, none⟩) n n) n xs) : Blk w g t xs.toArray := by
  rcases h.2 with ⟨e, _⟩ | ⟨g', cap, cur, hv, _, hh, _, _, hs, ht⟩
  · cases e
  · injection hv with e1 e2 e3
    injection e1 with e1
    injection e1 with e1
    subst e1 e3
    have : cur = xs.toArray := by
      rw [← ht, List.take_of_length_le (by simp; omega)]
    unfold Blk
    rw [← this]
    exact hh
end Go.Proofs.Ytjhlcgjhdiheaaa
