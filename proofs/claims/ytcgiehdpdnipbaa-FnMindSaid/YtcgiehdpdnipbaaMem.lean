/- Words for memory: a slice of ints that reads as a list; worlds that only grew. No program in sight. -/
import Derived.WalkKit
import Derived.WalkSpells
import Derived.Below
import Derived.Lib.Hide
import Derived.Deep.Draws
import Derived.Laws.OwnMore
import Derived.Deep.AppendLies
import Derived.OpenShut
namespace Go.Proofs.Ytcgiehdpdnipbaa
open Go.RowKit

def I64 (x : Int) : Prop := -9223372036854775808 ≤ x ∧ x ≤ 9223372036854775807

/-- The slice value '.slice A n c' reads as the list xs of ints. -/
def Ints (w : World) (A : Option Addr) (n : Nat) (xs : List Int) : Prop :=
  xs.length = n ∧ (∀ x ∈ xs, I64 x) ∧ (0 < n → ∃ b off, A = some ⟨b, off, none⟩ ∧ b < w.heap.size ∧ ∀ j x, xs[j]? = some x → w.cell? ⟨b, off + j, none⟩ = some (.int .i64 x))

section
variable {w w' : World} {A : Option Addr} {n : Nat} {xs : List Int}
theorem Ints.len (h : Ints w A n xs) : xs.length = n := h.1
theorem Ints.wf (h : Ints w A n xs) : ∀ x ∈ xs, I64 x := h.2.1
theorem Ints.nil : Ints w A 0 [] := ⟨rfl, by simp, fun h => absurd h (by omega)⟩
theorem Ints.at_ {k : Nat} (h : Ints w A n xs) (hk : k < n) :
    ∃ b off x, A = some ⟨b, off, none⟩ ∧ xs[k]? = some x ∧ -9223372036854775808 ≤ x ∧ x ≤ 9223372036854775807 ∧ w.cell? ⟨b, off + k, none⟩ = some (.int .i64 x) := by
  obtain ⟨b, off, e, _, hc⟩ := h.2.2 (by omega)
  have hl : k < xs.length := by have := h.1; omega
  have hx := h.2.1 xs[k] (List.getElem_mem hl)
  exact ⟨b, off, xs[k], e, List.getElem?_eq_getElem hl, hx.1, hx.2, hc k _ (List.getElem?_eq_getElem hl)⟩
theorem Ints.keep (h : Ints w A n xs) (hs : w.heap.size ≤ w'.heap.size) (hk : ∀ p : Addr, p.block < w.heap.size → w'.cell? p = w.cell? p) : Ints w' A n xs :=
  ⟨h.1, h.2.1, fun hn => by
    obtain ⟨b, off, e, hb, hc⟩ := h.2.2 hn
    exact ⟨b, off, e, by omega, fun j x hx => (hk _ hb).trans (hc j x hx)⟩⟩
theorem Ints.below (h : Ints w A n xs) (hb : Below w.heap.size w w') : Ints w' A n xs := h.keep hb.size fun _ hp => hb.cell hp
theorem Ints.drewN (h : Ints w A n xs) (k : Nat) : Ints (w.drewN k) A n xs := h
theorem Ints.alloc (h : Ints w A n xs) (o : Obj) : Ints (w.alloc o) A n xs := h.below ((Below.refl _ _).alloc (Nat.le_refl _) o)
end

theorem Below.next {a b c : World} (h : Below a.heap.size a b) (k : Below b.heap.size b c) : Below a.heap.size a c := h.trans (k.mono h.size)
theorem below_drewN {B : Nat} {a w : World} (h : Below B a w) (n : Nat) : Below B a (w.drewN n) := ⟨h.os, h.tape, h.output, h.size, h.block⟩
theorem ret_int {k : IntKind} {a b : Int} (h : a = b) : Ending.returned (.int k a) = .returned (.int k b) := by rw [h]
theorem ret_bool {a b : Bool} (h : a = b) : Ending.returned (.bool a) = .returned (.bool b) := by rw [h]
theorem take_snoc {α : Type} {xs : List α} {k : Nat} {x : α} (h : xs[k]? = some x) : xs.take (k + 1) = xs.take k ++ [x] := by
  rw [List.take_add_one, h]; rfl
theorem mem_at {α : Type} {xs : List α} {k : Nat} {x : α} (h : xs[k]? = some x) : x ∈ xs := List.mem_of_getElem? h

/-- What a walk is told of a slice of integers that came in. -/
def IsRow (k : IntKind) (w : World) (a : Option Addr) (len cap : Nat) (zs : List Int) : Prop :=
  (a = none ∧ len = 0 ∧ cap = 0 ∧ zs = []) ∨
  ∃ x, a = some x ∧ len ≤ cap ∧ cap ≤ maxLen ∧ zs.length = cap ∧ (∀ i, i < zs.length → w.cell? (x.add i) = some (.int k (zs.getD i 0))) ∧ ∀ n ∈ zs, (Lit.int k n).wf = true
theorem IsRow.len_le {k : IntKind} {w : World} {a : Option Addr} {len cap : Nat} {zs : List Int} (h : IsRow k w a len cap zs) : len ≤ 9223372036854775807 := by
  rcases h with ⟨_, rfl, _⟩ | ⟨x, _, h1, h2, _⟩
  · omega
  · unfold maxLen at h2; omega
theorem wf_i64_bd {x : Int} (h : (Lit.int .i64 x).wf = true) : I64 x := by
  have := bounds_i64 h
  exact ⟨by omega, by omega⟩
theorem lt_of_cell {w : World} {p : Addr} {v : Value} (h : w.cell? p = some v) : p.block < w.heap.size := by
  rcases Nat.lt_or_ge p.block w.heap.size with hlt | hge
  · exact hlt
  · simp [World.cell?, Array.getElem?_eq_none hge] at h
theorem IsRow.ints {w : World} {a : Option Addr} {len cap : Nat} {zs : List Int} (h : IsRow .i64 w a len cap zs) : Ints w a len (zs.take len) := by
  rcases h with ⟨rfl, rfl, _, rfl⟩ | ⟨x, rfl, h1, h2, h3, h4, h5⟩
  · exact Ints.nil
  · refine ⟨by rw [List.length_take]; omega, fun y hy => wf_i64_bd (h5 y (List.mem_of_mem_take hy)), fun hn => ?_⟩
    obtain ⟨b, off, spot⟩ := x
    have hc := h4 0 (by omega)
    have hspot : spot = none := by simpa [Addr.add] using World.cell?_spot hc
    subst hspot
    refine ⟨b, off, rfl, by have := lt_of_cell hc; simpa [Addr.add] using this, fun j y hj => ?_⟩
    have hjl : j < len := by
      have := (List.getElem?_eq_some_iff.1 hj).1
      rw [List.length_take] at this; omega
    have hz : zs[j]? = some y := by rwa [List.getElem?_take_of_lt hjl] at hj
    have := h4 j (by omega)
    rw [List.getD_eq_getElem?_getD, hz, Option.getD_some] at this
    rw [← this]
    congr 1
    unfold Addr.add
    split
    · rename_i h0; subst h0; rfl
    · rfl

/-- A row of ints of the call's own: its block lies from lo on and below hi, and may be written. -/
def OwnI (w : World) (lo hi : Nat) (A : Option Addr) (n c : Nat) (xs : List Int) : Prop :=
  w.ownsRow lo 3 1 (.slice A n c) n (xs.map (Value.int .i64)) ∧ (∀ x ∈ xs, I64 x) ∧ hi ≤ w.heap.size ∧ ∀ a, A = some a → a.block < hi

theorem add_none (g k : Nat) : (⟨g, 0, none⟩ : Addr).add k = ⟨g, k, none⟩ := by
  unfold Addr.add
  split
  · rename_i h; subst h; rfl
  · simp

section
variable {w w' : World} {lo hi n c : Nat} {A : Option Addr} {xs : List Int}
theorem OwnI.len (h : OwnI w lo hi A n c xs) : xs.length = n := by have := h.1.1; simpa using this
theorem OwnI.form (h : OwnI w lo hi A n c xs) (hn : 0 < n) : ∃ g, A = some ⟨g, 0, none⟩ ∧ lo ≤ g ∧ g < hi := by
  rcases h.1.2 with ⟨_, h0⟩ | ⟨g, cap, cur, hv, hb, _⟩
  · omega
  · have hA : A = some ⟨g, 0, none⟩ := by injection hv
    exact ⟨g, hA, hb, h.2.2.2 _ hA⟩
theorem OwnI.at_ {k : Nat} (h : OwnI w lo hi A n c xs) (hk : k < n) :
    ∃ g x, A = some ⟨g, 0, none⟩ ∧ lo ≤ g ∧ g < hi ∧ xs[k]? = some x ∧ -9223372036854775808 ≤ x ∧ x ≤ 9223372036854775807 ∧ w.cell? ⟨g, k, none⟩ = some (.int .i64 x) ∧ w.frozen? ⟨g, k, none⟩ = false := by
  obtain ⟨g, rfl, h1, h2⟩ := h.form (by omega)
  have hl : k < xs.length := by have := h.len; omega
  have hx := h.2.1 xs[k] (List.getElem_mem hl)
  refine ⟨g, xs[k], rfl, h1, h2, List.getElem?_eq_getElem hl, hx.1, hx.2, ?_, h.1.frozenAt k⟩
  rw [h.1.cellAt k (by omega)]
  simp [List.getElem?_eq_getElem hl]
theorem OwnI.ints (h : OwnI w lo hi A n c xs) : Ints w A n xs := by
  refine ⟨h.len, h.2.1, fun hn => ?_⟩
  obtain ⟨g, rfl, h1, h2⟩ := h.form hn
  have := h.2.2.1
  refine ⟨g, 0, rfl, by omega, fun j x hx => ?_⟩
  have hj : j < xs.length := (List.getElem?_eq_some_iff.1 hx).1
  have hl := h.len
  rw [Nat.zero_add, h.1.cellAt j (by omega)]
  simp [hx]
theorem OwnI.far {row : Option Nat} (h : OwnI w lo hi A n c xs) (hg : w.grownBy w' row) (hr : ∀ g, row = some g → g < lo ∨ hi ≤ g) : OwnI w' lo hi A n c xs := by
  refine ⟨?_, h.2.1, Nat.le_trans h.2.2.1 hg.size, h.2.2.2⟩
  rcases A with _ | a
  · exact h.1.kept hg (.inl rfl)
  · refine h.1.kept hg (.inr fun e => ?_)
    have h1 := h.1.lt a.block rfl
    have h2 := h.2.2.2 a rfl
    have := hr a.block (by rw [← e]; rfl)
    omega
theorem only_of_below {a w : World} (h : Below a.heap.size a w) (row : Option Nat) : a.grownBy w row := ⟨h.os, h.tape, h.output, h.size, fun i hi _ => h.block i hi⟩
theorem OwnI.below (h : OwnI w lo hi A n c xs) (hb : Below w.heap.size w w') : OwnI w' lo hi A n c xs := h.far (only_of_below hb none) (fun _ e => by cases e)
theorem OwnI.drewN (h : OwnI w lo hi A n c xs) (k : Nat) : OwnI (w.drewN k) lo hi A n c xs := h
theorem OwnI.wide {lo' hi' : Nat} (h : OwnI w lo hi A n c xs) (h1 : lo' ≤ lo) (h2 : hi ≤ hi') (h3 : hi' ≤ w.heap.size) : OwnI w lo' hi' A n c xs := by
  refine ⟨⟨h.1.1, ?_⟩, h.2.1, h3, fun a ha => by have := h.2.2.2 a ha; omega⟩
  rcases h.1.2 with e | ⟨g, cap, cur, hv, hb, r⟩
  · exact .inl e
  · exact .inr ⟨g, cap, cur, hv, by omega, r⟩
theorem OwnI.store {g k : Nat} {x : Int} (h : OwnI w lo hi (some ⟨g, 0, none⟩) n c xs) (hx : I64 x) :
    OwnI (w.setCell ⟨g, k, none⟩ (.int .i64 x)) lo hi (some ⟨g, 0, none⟩) n c (xs.set k x) := by
  refine ⟨?_, ?_, ?_, h.2.2.2⟩
  · have := (h.1.stored k (.int .i64 x)).1
    rwa [List.map_set]
  · intro y hy
    rcases List.mem_or_eq_of_mem_set hy with h1 | rfl
    · exact h.2.1 y h1
    · exact hx
  · simpa [World.setCell] using h.2.2.1
theorem OwnI.nil (w : World) (lo hi : Nat) (hh : hi ≤ w.heap.size) : OwnI w lo hi none 0 0 [] := ⟨World.ownsRow_nil _ _ _ _, by simp, hh, fun _ e => by cases e⟩
theorem grown_setCell (w : World) (g k : Nat) (u : Value) : w.grownBy (w.setCell ⟨g, k, none⟩ u) (some g) :=
  ⟨rfl, rfl, rfl, by simp [World.setCell], fun i _ hne => Below.heap_setCell w _ u i (fun e => hne (by rw [e]))⟩
theorem grown_trans' {a b c : World} {row : Option Nat} (h : a.grownBy b row) (k : b.grownBy c row) : a.grownBy c row :=
  ⟨k.os.trans h.os, k.tape.trans h.tape, k.output.trans h.output, Nat.le_trans h.size k.size, fun i hi hne => (k.block i (Nat.lt_of_lt_of_le hi h.size) hne).trans (h.block i hi hne)⟩
/-- a change of one block that lies from B on is nothing below B -/
theorem below_of_grown {B : Nat} {a b : World} {row : Option Nat} (hg : a.grownBy b row) (hB : B ≤ a.heap.size) (hr : ∀ g, row = some g → B ≤ g) : Below B a b := (Below.refl B a).grown hg hB hr
end

/-- n numbers from k on -/
def iota (k : Int) : Nat → List Int
  | 0 => []
  | n + 1 => k :: iota (k + 1) n
theorem iota_len (n : Nat) : ∀ k, (iota k n).length = n := by
  induction n with
  | zero => intro; rfl
  | succ n ih => intro k; simp [iota, ih]
theorem iota_at (n : Nat) : ∀ (k : Int) (j : Nat), j < n → (iota k n)[j]? = some (k + j) := by
  induction n with
  | zero => intro k j h; omega
  | succ n ih =>
    intro k j h
    cases j with
    | zero => simp [iota]
    | succ j => simp only [iota, List.getElem?_cons_succ]; rw [ih _ _ (by omega)]; congr 1; omega
theorem mark_step (k : Int) (xs : List Int) (j n : Nat) (hl : xs.length = n) (hj : j < n) :
    (iota k j ++ xs.drop j).set j (k + j) = iota k (j + 1) ++ xs.drop (j + 1) := by
  apply List.ext_getElem?
  intro i
  rw [List.getElem?_set]
  simp only [List.length_append, iota_len, List.length_drop]
  by_cases hi : j = i
  · subst hi
    rw [if_pos rfl, if_pos (by omega), List.getElem?_append_left (by rw [iota_len]; omega), iota_at _ _ _ (by omega)]
  · rw [if_neg hi]
    by_cases hlt : i < j
    · rw [List.getElem?_append_left (by rw [iota_len]; omega), List.getElem?_append_left (by rw [iota_len]; omega), iota_at _ _ _ (by omega), iota_at _ _ _ (by omega)]
    · rw [List.getElem?_append_right (by rw [iota_len]; omega), List.getElem?_append_right (by rw [iota_len]; omega), iota_len, iota_len, List.getElem?_drop, List.getElem?_drop]
      congr 1
      omega
theorem copy_step {xs : List Int} {j n : Nat} {x : Int} (hl : xs.length = n) (hj : j < n) (hx : xs[j]? = some x) :
    (xs.take j ++ List.replicate (n - j) 0).set j x = xs.take (j + 1) ++ List.replicate (n - (j + 1)) 0 := by
  have e1 : (xs.take j).length = j := by rw [List.length_take]; omega
  have e2 : n - j = (n - (j + 1)) + 1 := by omega
  rw [List.set_append_right _ _ (by omega), e1, Nat.sub_self, e2, List.replicate_succ, List.set_cons_zero, take_snoc hx, List.append_assoc]
  rfl
end Go.Proofs.Ytcgiehdpdnipbaa
