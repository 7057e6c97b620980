/- A row of marks of the call's own whose marks are sorted by their indexes: what the row's world is like behind that, and that the marks are the same ones, in order. -/
import Derived.Test.YtjhlcgjhdiheaaaUse
import Derived.Shelf.SlSortCmp.InsertionK
namespace Go.Proofs.Ytjhlcgjhdiheaaa
open Go.RowKit Go.Sort
set_option linter.unusedVariables false

/-- a mark of a modest index, and where its words lie -/
abbrev El := { e : M × SlV // 0 ≤ e.1.at_ ∧ e.1.at_ ≤ 1000000 }
instance inhEl : Inhabited El := ⟨⟨(⟨0, 0, []⟩, ⟨none, 0, 0⟩), by decide⟩⟩
def encEl (e : El) : List Value := [.int .i64 e.1.1.at_, .int .i64 e.1.1.cut, .slice e.1.2.a e.1.2.n e.1.2.c]
def cfEl (x y : El) : Int := x.1.1.at_ - y.1.1.at_
def msOf (d : Array El) : List M := d.toList.map fun e => e.1.1
def psOf (d : Array El) : List SlV := d.toList.map fun e => e.1.2
theorem ltEl_iff (x y : El) : ltOf cfEl x y = false ↔ y.1.1.at_ ≤ x.1.1.at_ := by
  unfold ltOf cfEl
  rw [decide_eq_false_iff_not]; omega
theorem ltEl_true (x y : El) : ltOf cfEl x y = true ↔ x.1.1.at_ < y.1.1.at_ := by
  unfold ltOf cfEl
  rw [decide_eq_true_iff]; omega
theorem swo_el : SWO (ltOf cfEl) := by
  refine ⟨fun x => (ltEl_iff _ _).2 (Int.le_refl _), fun x y z h1 h2 => ?_, fun x y z h1 h2 => ?_⟩
  · rw [ltEl_true] at *; omega
  · rw [ltEl_iff] at *; omega
theorem el_of : ∀ (ms : List M) (ps : List SlV), ps.length = ms.length → (∀ m ∈ ms, 0 ≤ m.at_ ∧ m.at_ ≤ 1000000) → ∃ es : List El, es.map (fun e => e.1.1) = ms ∧ es.map (fun e => e.1.2) = ps
  | [], [], _, _ => ⟨[], rfl, rfl⟩
  | [], _ :: _, h, _ => by simp at h
  | _ :: _, [], h, _ => by simp at h
  | m :: ms, p :: ps, h, hs => by
    obtain ⟨es, h1, h2⟩ := el_of ms ps (by simpa using h) (fun x hx => hs x (by simp [hx]))
    exact ⟨⟨(m, p), hs m (by simp)⟩ :: es, by simp [h1], by simp [h2]⟩
theorem flat_flatK (d : Array El) (t : Nat) (h : t < d.size * 3) : (flat (msOf d) (psOf d))[t]? = some (flatK encEl 3 d)[t]! := by
  obtain ⟨j, c, hc, rfl⟩ : ∃ j c, c < 3 ∧ t = j * 3 + c := ⟨t / 3, t % 3, by omega, by omega⟩
  have hj : j < d.size := by omega
  have q1 : (j * 3 + c) / 3 = j := by omega
  have q2 : (j * 3 + c) % 3 = c := by omega
  have e1 : (msOf d)[j]? = some d[j].1.1 := by simp [msOf, hj]
  have e2 : (psOf d)[j]? = some d[j].1.2 := by simp [psOf, hj]
  obtain ⟨f0, f1, f2⟩ := flat_get _ _ _ _ _ e1 e2
  rw [get_flatK _ _ _ _ h, q1, q2, getElem!_pos d j hj]
  match c, hc with
  | 0, _ => exact f0
  | 1, _ => exact f1
  | 2, _ => exact f2
section
variable {w : World} {lo hi n c g q : Nat} {d d' : Array El} {os : Array Obj}
theorem OwnMp.holds (h : OwnMp w lo hi (some ⟨g, 0, none⟩) n c (msOf d) (psOf d)) : HoldsK encEl 3 w g 0 d := by
  obtain ⟨p1, p2, h1, _⟩ := h
  have hn : d.size = n := by simpa [psOf] using p1
  intro j hj
  rw [size_flatK] at hj
  refine ⟨?_, h1.frozenAt _⟩
  rw [Nat.zero_add, h1.cellAt _ (by omega)]
  exact flat_flatK d j hj
theorem heap_sorted (F : Array Value) {cur : Array Value} {e : TypeId} (hb : w.heap[g]? = some (.cells cur e (0, 0))) :
    (grow (putRow id (Sort.ahead w q) g 0 F) os).heap[g]? = some (.cells (putCells id 0 F cur) e (0, 0)) := by
  have hl := (Array.getElem?_eq_some_iff.1 hb).1
  rw [heap_grow_old _ _ (by simpa [putRow, mapBlock, Sort.ahead] using hl)]
  simp [putRow, mapBlock, Sort.ahead, Array.getElem?_modify, hb, onCells]
theorem sorted_grown (hl : g < w.heap.size) : w.grownBy (sortWorldK encEl 3 w g 0 q d' os) (some g) := by
  refine ⟨rfl, rfl, rfl, ?_, fun k hk hne => ?_⟩
  · unfold sortWorldK
    rw [size_grow]
    simp [putRowK, putRow, mapBlock, Sort.ahead]
  · have hne : g ≠ k := fun e => hne (by rw [e])
    unfold sortWorldK
    rw [heap_grow_old _ _ (by simpa [putRowK, putRow, mapBlock, Sort.ahead] using hk)]
    simp [putRowK, putRow, mapBlock, Sort.ahead, Array.getElem?_modify, hne]
theorem apart_iff (ps : List SlV) : Apart ps ↔ ps.Pairwise fun p q => ∀ a b, p.a = some a → q.a = some b → a.block ≠ b.block := by
  rw [List.pairwise_iff_getElem]
  constructor
  · intro h i j hi hj hij a b ha hb
    exact h i j _ _ a b (by omega) (List.getElem?_eq_getElem hi) (List.getElem?_eq_getElem hj) ha hb
  · intro h i j p q a b hij hp hq ha hb
    obtain ⟨hi, rfl⟩ := List.getElem?_eq_some_iff.1 hp
    obtain ⟨hj, rfl⟩ := List.getElem?_eq_some_iff.1 hq
    rcases Nat.lt_or_gt_of_ne hij with e | e
    · exact h i j hi hj e a b ha hb
    · exact fun e' => h j i hj hi e b a hb ha e'.symm
theorem apart_perm {ps qs : List SlV} (h : Apart ps) (hp : ps.Perm qs) : Apart qs := by
  rw [apart_iff] at *
  refine (hp.pairwise_iff ?_).1 h
  intro x y hxy a b ha hb e
  exact hxy b a hb ha e.symm
theorem OwnMp.sorted (h : OwnMp w lo hi (some ⟨g, 0, none⟩) n c (msOf d) (psOf d)) (hp : d'.toList.Perm d.toList) :
    OwnMp (sortWorldK encEl 3 w g 0 q d' os) lo hi (some ⟨g, 0, none⟩) n c (msOf d') (psOf d') := by
  obtain ⟨p1, p2, h1, h2, h3, h4, h5⟩ := h
  have hn : d.size = n := by simpa [psOf] using p1
  have hn' : d'.size = n := by have := hp.length_eq; simp at this; omega
  have hl : g < w.heap.size := (h1.lt g rfl).2
  have hgr := sorted_grown (q := q) (d' := d') (os := os) hl
  refine ⟨by simp [psOf, hn'], by simp [msOf, hn'], ?_, fun j m p hm hq => ?_, apart_perm h3 ((hp.map _).symm), Nat.le_trans h4 hgr.size, h5⟩
  · refine ⟨by rw [flat_len _ _ (by simp [msOf, psOf])]; simp [msOf, hn'], ?_⟩
    rcases h1.2 with ⟨e, _⟩ | ⟨g', cap, cur, hv, hb, hh, hc1, hc2, hs, ht⟩
    · cases e
    · injection hv with e1 e2 e3
      injection e1 with e1
      injection e1 with e1
      subst e1 e3
      refine .inr ⟨g, c, _, rfl, hb, heap_sorted _ hh, hc1, hc2, by simp [putCells, hs], ?_⟩
      apply List.ext_getElem?
      intro t
      by_cases htn : t < n * 3
      · rw [List.getElem?_take_of_lt htn, Array.getElem?_toList, flat_flatK d' t (by omega)]
        have hmul : n * 3 ≤ c * 3 := Nat.mul_le_mul_right 3 hc1
        have hts : t < cur.size := by omega
        simp only [putCells, Array.getElem?_mapIdx, Array.getElem?_eq_getElem hts, Option.map_some, size_flatK, hn', Nat.zero_le, Nat.zero_add, true_and, htn, if_true, Nat.sub_zero, id]
      · rw [List.getElem?_take_eq_none (by omega), List.getElem?_eq_none (by rw [flat_len _ _ (by simp [msOf, psOf])]; simp [msOf, hn']; omega)]
  · simp only [msOf, psOf, List.getElem?_map, Option.map_eq_some_iff] at hm hq
    obtain ⟨e, he, rfl⟩ := hm
    obtain ⟨e', he', rfl⟩ := hq
    rw [he] at he'
    injection he' with he'
    subst he'
    have hmem : e ∈ d.toList := hp.mem_iff.1 (List.mem_of_getElem? he)
    obtain ⟨i, hi⟩ := List.mem_iff_getElem?.1 hmem
    obtain ⟨i1, i2, i3⟩ := h2 i e.1.1 e.1.2 (by simp [msOf, hi]) (by simp [psOf, hi])
    exact ⟨i1, i2, i3.keepRow h1 hgr⟩
end
theorem permIn_whole {d d' : Array El} (h : PermIn 0 d.size d d') : d'.toList.Perm d.toList := by
  obtain ⟨h1, _, h3⟩ := h
  have e1 : d.extract 0 d.size = d := by simp
  have e2 : d'.extract 0 d.size = d' := by rw [← h1]; simp
  rw [e1, e2] at h3
  exact h3
theorem sortedIn_ms {d : Array El} {n : Nat} (hn : d.size = n) (h : SortedIn (ltOf cfEl) 0 n d) : (msOf d).Pairwise fun a b => a.at_ ≤ b.at_ := by
  rw [List.pairwise_iff_getElem]
  intro i j hi hj hij
  have hi' : i < d.size := by simpa [msOf] using hi
  have hj' : j < d.size := by simpa [msOf] using hj
  have := h i j (Nat.zero_le _) hij (by omega)
  rw [ltEl_iff, getElem!_pos d i hi', getElem!_pos d j hj'] at this
  simpa [msOf] using this
end Go.Proofs.Ytjhlcgjhdiheaaa
