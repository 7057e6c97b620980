/- Words for memory in the marks seat: rows of ints and of strings that read as lists; worlds that only grew; blocks known whole. -/
import Derived.Test.YtjhalbmmlcbehaaProg
import Derived.WalkKit
import Derived.WalkSpells
import Derived.WalkLawsBesides
import Derived.Below
import Derived.Lib.Hide
import Derived.Deep.Draws
import Derived.Laws.OwnMore
import Derived.Laws.Rows
import Derived.Laws.AppendOwnNone
import Derived.Deep.AppendLies
import Derived.Deep.LoopGhost
import Derived.Deep.QuietTactic
import Derived.BigQuiet
import Derived.Outline
import Derived.OpenShut
import Derived.IntWalk
namespace Go.Proofs.Ytjhalbmmlcbehaa
open Go.RowKit
set_option linter.unusedVariables false

theorem Below.next {a b c : World} (h : Below a.heap.size a b) (k : Below b.heap.size b c) : Below a.heap.size a c := h.trans (k.mono h.size)
theorem below_drewN {B : Nat} {a w : World} (h : Below B a w) (n : Nat) : Below B a (w.drewN n) := ⟨h.os, h.tape, h.output, h.size, h.block⟩
theorem ret_str {a b : ByteArray} (h : a = b) : Ending.returned (.string a) = .returned (.string b) := by rw [h]
theorem ret_int {k : IntKind} {a b : Int} (h : a = b) : Ending.returned (.int k a) = .returned (.int k b) := by rw [h]
theorem ret_bool {a b : Bool} (h : a = b) : Ending.returned (.bool a) = .returned (.bool b) := by rw [h]
theorem take_snoc {α : Type} {xs : List α} {k : Nat} {x : α} (h : xs[k]? = some x) : xs.take (k + 1) = xs.take k ++ [x] := by
  rw [List.take_add_one, h]; rfl
theorem mem_at {α : Type} {xs : List α} {k : Nat} {x : α} (h : xs[k]? = some x) : x ∈ xs := List.mem_of_getElem? h

theorem lt_of_cell {w : World} {p : Addr} {v : Value} (h : w.cell? p = some v) : p.block < w.heap.size := by
  rcases Nat.lt_or_ge p.block w.heap.size with hlt | hge
  · exact hlt
  · simp [World.cell?, Array.getElem?_eq_none hge] at h
theorem add_none (g k : Nat) : (⟨g, 0, none⟩ : Addr).add k = ⟨g, k, none⟩ := by
  unfold Addr.add
  split
  · rename_i h; subst h; rfl
  · simp

theorem only_of_below {a w : World} (h : Below a.heap.size a w) (row : Option Nat) : a.grownBy w row := ⟨h.os, h.tape, h.output, h.size, fun i hi _ => h.block i hi⟩
theorem grown_setCell (w : World) (g k : Nat) (u : Value) : w.grownBy (w.setCell ⟨g, k, none⟩ u) (some g) :=
  ⟨rfl, rfl, rfl, by simp [World.setCell], fun i _ hne => Below.heap_setCell w _ u i (fun e => hne (by rw [e]))⟩
theorem grown_trans' {a b c : World} {row : Option Nat} (h : a.grownBy b row) (k : b.grownBy c row) : a.grownBy c row :=
  ⟨k.os.trans h.os, k.tape.trans h.tape, k.output.trans h.output, Nat.le_trans h.size k.size, fun i hi hne => (k.block i (Nat.lt_of_lt_of_le hi h.size) hne).trans (h.block i hi hne)⟩
/-- a change of one block that lies from B on is nothing below B -/
theorem below_of_grown {B : Nat} {a b : World} {row : Option Nat} (hg : a.grownBy b row) (hB : B ≤ a.heap.size) (hr : ∀ g, row = some g → B ≤ g) : Below B a b := (Below.refl B a).grown hg hB hr
/-- block g is just the cells cs of type t, none frozen -/
def Blk (w : World) (g : Nat) (t : TypeId) (cs : Array Value) : Prop := w.heap[g]? = some (.cells cs t (0, 0))
section
variable {w w' : World} {g : Nat} {t : TypeId} {cs : Array Value}
theorem Blk.lt (h : Blk w g t cs) : g < w.heap.size := by
  rcases Nat.lt_or_ge g w.heap.size with hlt | hge
  · exact hlt
  · unfold Blk at h; rw [Array.getElem?_eq_none hge] at h; cases h
theorem Blk.cell (h : Blk w g t cs) (i : Nat) : w.cell? ⟨g, i, none⟩ = cs[i]? := cell_of_row w g i cs t (0, 0) h
theorem Blk.free (h : Blk w g t cs) (i : Nat) : w.frozen? ⟨g, i, none⟩ = false := by
  unfold Blk at h
  simp [World.frozen?, h]
theorem Blk.new (w : World) (t : TypeId) (cs : Array Value) : Blk (w.alloc (.cells cs t)) w.heap.size t cs := heap_alloc_new w _
theorem Blk.alloc (h : Blk w g t cs) (o : Obj) : Blk (w.alloc o) g t cs := (Below.heap_alloc w o g h.lt).trans h
theorem Blk.put (h : Blk w g t cs) (i : Nat) (u : Value) : Blk (w.setCell ⟨g, i, none⟩ u) g t (cs.setIfInBounds i u) := by
  unfold Blk at h ⊢
  simp [World.setCell, Array.getElem?_modify, h]
theorem Blk.far (h : Blk w g t cs) {p : Addr} (hp : g ≠ p.block) (u : Value) : Blk (w.setCell p u) g t cs := (Below.heap_setCell w p u g hp).trans h
theorem Blk.below {B : Nat} (h : Blk w g t cs) (hb : Below B w w') (hg : g < B) : Blk w' g t cs := (hb.block g hg).trans h
theorem Blk.grown {row : Option Nat} (h : Blk w g t cs) (hb : w.grownBy w' row) (hg : some g ≠ row) : Blk w' g t cs := (hb.block g h.lt hg).trans h
theorem Blk.drewN (h : Blk w g t cs) (n : Nat) : Blk (w.drewN n) g t cs := h
end

theorem only_drewN {a w : World} {row : Option Nat} (h : a.grownBy w row) (n : Nat) : a.grownBy (w.drewN n) row := ⟨h.os, h.tape, h.output, h.size, h.block⟩
theorem only_then {a b c : World} {R : Option Nat} {row : Option Nat} (h : a.grownBy b R) (k : b.grownBy c row) (hr : ∀ g, row = some g → some g = R ∨ a.heap.size ≤ g) : a.grownBy c R :=
  ⟨k.os.trans h.os, k.tape.trans h.tape, k.output.trans h.output, Nat.le_trans h.size k.size, fun i hi hne => (k.block i (Nat.lt_of_lt_of_le hi h.size) (fun e => by
    rcases hr i e.symm with h1 | h1
    · exact hne h1
    · omega)).trans (h.block i hi hne)⟩
theorem only_alloc {a w : World} {row : Option Nat} (h : a.grownBy w row) (o : Obj) : a.grownBy (w.alloc o) row := only_then h (World.grownBy_alloc w o none) (fun _ e => by cases e)
theorem only_below {a b c : World} {R : Option Nat} (h : a.grownBy b R) (k : Below b.heap.size b c) : a.grownBy c R := only_then h (only_of_below k none) (fun _ e => by cases e)
theorem below_only {a b c : World} {R : Option Nat} (h : Below a.heap.size a b) (k : b.grownBy c R) (hR : ∀ g, R = some g → a.heap.size ≤ g) : Below a.heap.size a c :=
  (h.grown k h.size hR)

/-- only blocks in S have changed, and new ones are there -/
structure Chg (w w' : World) (S : Nat → Prop) : Prop where
  os : w'.os = w.os
  tape : w'.tape = w.tape
  output : w'.output = w.output
  size : w.heap.size ≤ w'.heap.size
  block : ∀ i, i < w.heap.size → ¬ S i → w'.heap[i]? = w.heap[i]?
theorem Chg.refl (w : World) (S : Nat → Prop) : Chg w w S := ⟨rfl, rfl, rfl, Nat.le_refl _, fun _ _ _ => rfl⟩
theorem Chg.trans {a b c : World} {S T : Nat → Prop} (h : Chg a b S) (k : Chg b c T) (hT : ∀ i, i < a.heap.size → T i → S i) : Chg a c S :=
  ⟨k.os.trans h.os, k.tape.trans h.tape, k.output.trans h.output, Nat.le_trans h.size k.size, fun i hi hne => (k.block i (Nat.lt_of_lt_of_le hi h.size) (fun e => hne (hT i hi e))).trans (h.block i hi hne)⟩
theorem Chg.of_grown {a b : World} {row : Option Nat} (h : a.grownBy b row) : Chg a b (fun i => some i = row) := ⟨h.os, h.tape, h.output, h.size, h.block⟩
theorem Chg.of_below {a b : World} (h : Below a.heap.size a b) (S : Nat → Prop) : Chg a b S := ⟨h.os, h.tape, h.output, h.size, fun i hi _ => h.block i hi⟩
theorem Chg.set_ {a b : World} {S : Nat → Prop} (h : Chg a b S) (g k : Nat) (u : Value) (hg : g < a.heap.size → S g) : Chg a (b.setCell ⟨g, k, none⟩ u) S :=
  h.trans (Chg.of_grown (grown_setCell b g k u)) (fun i hi e => by injection e with e; subst e; exact hg hi)
theorem Chg.alloc {a b : World} {S : Nat → Prop} (h : Chg a b S) (o : Obj) : Chg a (b.alloc o) S := h.trans (Chg.of_grown (World.grownBy_alloc b o none)) (fun i _ e => by cases e)
theorem Chg.below {a b : World} {S : Nat → Prop} {B : Nat} (h : Chg a b S) (hB : B ≤ a.heap.size) (hS : ∀ i, i < B → ¬ S i) : Below B a b := ⟨h.os, h.tape, h.output, h.size, fun i hi => h.block i (by omega) (hS i hi)⟩
theorem Blk.chg {w w' : World} {g : Nat} {t : TypeId} {cs : Array Value} {S : Nat → Prop} (h : Blk w g t cs) (k : Chg w w' S) (hS : ¬ S g) : Blk w' g t cs := (k.block g h.lt hS).trans h
theorem Blk.ne {w : World} {g g' : Nat} {t t' : TypeId} {cs cs' : Array Value} (h : Blk w g t cs) (h' : Blk w g' t' cs') (hne : t ≠ t') : g ≠ g' := by
  rintro rfl
  unfold Blk at h h'
  rw [h] at h'
  injection h' with h'
  injection h' with _ ht
  exact hne ht
theorem own_ne {w : World} {lo e size n g : Nat} {t : TypeId} {cs : Array Value} {A : Option Addr} {m c : Nat} {xs : List Value} (h : w.ownsRow lo e size (.slice A m c) n xs) (hb : Blk w g t cs) (ht : t ≠ e) : some g ≠ A.map (·.block) := by
  rcases h.2 with ⟨e0, _⟩ | ⟨g', cap, cur, hv, _, hg, _⟩
  · injection e0 with e0; subst e0; simp
  · injection hv with hv
    subst hv
    intro e0
    injection e0 with e0
    subst e0
    exact hb.ne (cs' := cur) hg ht rfl

def I64 (x : Int) : Prop := -9223372036854775808 ≤ x ∧ x ≤ 9223372036854775807

/-- The slice value '.slice A n c' reads as the list xs of ints. -/
def Ints (w : World) (A : Option Addr) (n : Nat) (xs : List Int) : Prop :=
  xs.length = n ∧ (∀ x ∈ xs, I64 x) ∧ (0 < n → ∃ b off, A = some ⟨b, off, none⟩ ∧ b < w.heap.size ∧ ∀ j x, xs[j]? = some x → w.cell? ⟨b, off + j, none⟩ = some (.int .i64 x))

section
variable {w w' : World} {A : Option Addr} {n : Nat} {xs : List Int}
theorem Ints.len (h : Ints w A n xs) : xs.length = n := h.1
theorem Ints.wf (h : Ints w A n xs) : ∀ x ∈ xs, I64 x := h.2.1
theorem Ints.nil : Ints w A 0 [] := ⟨rfl, by simp, fun h => absurd h (by omega)⟩
theorem Ints.at_ {k : Nat} (h : Ints w A n xs) (hk : k < n) :
    ∃ b off x, A = some ⟨b, off, none⟩ ∧ xs[k]? = some x ∧ -9223372036854775808 ≤ x ∧ x ≤ 9223372036854775807 ∧ w.cell? ⟨b, off + k, none⟩ = some (.int .i64 x) := by
  obtain ⟨b, off, e, _, hc⟩ := h.2.2 (by omega)
  have hl : k < xs.length := by have := h.1; omega
  have hx := h.2.1 xs[k] (List.getElem_mem hl)
  exact ⟨b, off, xs[k], e, List.getElem?_eq_getElem hl, hx.1, hx.2, hc k _ (List.getElem?_eq_getElem hl)⟩
theorem Ints.keep (h : Ints w A n xs) (hs : w.heap.size ≤ w'.heap.size) (hk : ∀ p : Addr, p.block < w.heap.size → w'.cell? p = w.cell? p) : Ints w' A n xs :=
  ⟨h.1, h.2.1, fun hn => by
    obtain ⟨b, off, e, hb, hc⟩ := h.2.2 hn
    exact ⟨b, off, e, by omega, fun j x hx => (hk _ hb).trans (hc j x hx)⟩⟩
theorem Ints.below (h : Ints w A n xs) (hb : Below w.heap.size w w') : Ints w' A n xs := h.keep hb.size fun _ hp => hb.cell hp
theorem Ints.drewN (h : Ints w A n xs) (k : Nat) : Ints (w.drewN k) A n xs := h
theorem Ints.alloc (h : Ints w A n xs) (o : Obj) : Ints (w.alloc o) A n xs := h.below ((Below.refl _ _).alloc (Nat.le_refl _) o)
end

/-- A row of ints of the call's own: its block lies from lo on and below hi, and may be written. -/
def OwnI (w : World) (lo hi : Nat) (A : Option Addr) (n c : Nat) (xs : List Int) : Prop :=
  w.ownsRow lo 3 1 (.slice A n c) n (xs.map (Value.int .i64)) ∧ (∀ x ∈ xs, I64 x) ∧ hi ≤ w.heap.size ∧ ∀ a, A = some a → a.block < hi

section
variable {w w' : World} {lo hi n c : Nat} {A : Option Addr} {xs : List Int}
theorem OwnI.len (h : OwnI w lo hi A n c xs) : xs.length = n := by have := h.1.1; simpa using this
theorem OwnI.form (h : OwnI w lo hi A n c xs) (hn : 0 < n) : ∃ g, A = some ⟨g, 0, none⟩ ∧ lo ≤ g ∧ g < hi := by
  rcases h.1.2 with ⟨_, h0⟩ | ⟨g, cap, cur, hv, hb, _⟩
  · omega
  · have hA : A = some ⟨g, 0, none⟩ := by injection hv
    exact ⟨g, hA, hb, h.2.2.2 _ hA⟩
theorem OwnI.at_ {k : Nat} (h : OwnI w lo hi A n c xs) (hk : k < n) :
    ∃ g x, A = some ⟨g, 0, none⟩ ∧ lo ≤ g ∧ g < hi ∧ xs[k]? = some x ∧ -9223372036854775808 ≤ x ∧ x ≤ 9223372036854775807 ∧ w.cell? ⟨g, k, none⟩ = some (.int .i64 x) ∧ w.frozen? ⟨g, k, none⟩ = false := by
  obtain ⟨g, rfl, h1, h2⟩ := h.form (by omega)
  have hl : k < xs.length := by have := h.len; omega
  have hx := h.2.1 xs[k] (List.getElem_mem hl)
  refine ⟨g, xs[k], rfl, h1, h2, List.getElem?_eq_getElem hl, hx.1, hx.2, ?_, h.1.frozenAt k⟩
  rw [h.1.cellAt k (by omega)]
  simp [List.getElem?_eq_getElem hl]
theorem OwnI.ints (h : OwnI w lo hi A n c xs) : Ints w A n xs := by
  refine ⟨h.len, h.2.1, fun hn => ?_⟩
  obtain ⟨g, rfl, h1, h2⟩ := h.form hn
  have := h.2.2.1
  refine ⟨g, 0, rfl, by omega, fun j x hx => ?_⟩
  have hj : j < xs.length := (List.getElem?_eq_some_iff.1 hx).1
  have hl := h.len
  rw [Nat.zero_add, h.1.cellAt j (by omega)]
  simp [hx]
theorem OwnI.far {row : Option Nat} (h : OwnI w lo hi A n c xs) (hg : w.grownBy w' row) (hr : ∀ g, row = some g → g < lo ∨ hi ≤ g) : OwnI w' lo hi A n c xs := by
  refine ⟨?_, h.2.1, Nat.le_trans h.2.2.1 hg.size, h.2.2.2⟩
  rcases A with _ | a
  · exact h.1.kept hg (.inl rfl)
  · refine h.1.kept hg (.inr fun e => ?_)
    have h1 := h.1.lt a.block rfl
    have h2 := h.2.2.2 a rfl
    have := hr a.block (by rw [← e]; rfl)
    omega
theorem OwnI.below (h : OwnI w lo hi A n c xs) (hb : Below w.heap.size w w') : OwnI w' lo hi A n c xs := h.far (only_of_below hb none) (fun _ e => by cases e)
theorem OwnI.drewN (h : OwnI w lo hi A n c xs) (k : Nat) : OwnI (w.drewN k) lo hi A n c xs := h
theorem OwnI.wide {lo' hi' : Nat} (h : OwnI w lo hi A n c xs) (h1 : lo' ≤ lo) (h2 : hi ≤ hi') (h3 : hi' ≤ w.heap.size) : OwnI w lo' hi' A n c xs := by
  refine ⟨⟨h.1.1, ?_⟩, h.2.1, h3, fun a ha => by have := h.2.2.2 a ha; omega⟩
  rcases h.1.2 with e | ⟨g, cap, cur, hv, hb, r⟩
  · exact .inl e
  · exact .inr ⟨g, cap, cur, hv, by omega, r⟩
theorem OwnI.store {g k : Nat} {x : Int} (h : OwnI w lo hi (some ⟨g, 0, none⟩) n c xs) (hx : I64 x) :
    OwnI (w.setCell ⟨g, k, none⟩ (.int .i64 x)) lo hi (some ⟨g, 0, none⟩) n c (xs.set k x) := by
  refine ⟨?_, ?_, ?_, h.2.2.2⟩
  · have := (h.1.stored k (.int .i64 x)).1
    rwa [List.map_set]
  · intro y hy
    rcases List.mem_or_eq_of_mem_set hy with h1 | rfl
    · exact h.2.1 y h1
    · exact hx
  · simpa [World.setCell] using h.2.2.1
theorem OwnI.nil (w : World) (lo hi : Nat) (hh : hi ≤ w.heap.size) : OwnI w lo hi none 0 0 [] := ⟨World.ownsRow_nil _ _ _ _, by simp, hh, fun _ e => by cases e⟩
end

theorem Ints.grown {w w' : World} {A : Option Addr} {n : Nat} {xs : List Int} {row : Option Nat} (h : Ints w A n xs) (hg : w.grownBy w' row) (hr : ∀ a, A = some a → some a.block ≠ row) : Ints w' A n xs :=
  ⟨h.1, h.2.1, fun hn => by
    obtain ⟨b, off, e, hb, hc⟩ := h.2.2 hn
    have := hg.size
    exact ⟨b, off, e, by omega, fun j x hx => (World.cell?_of_block (hg.block b hb (hr _ e))).trans (hc j x hx)⟩⟩

theorem OwnI.lo_le {w : World} {lo hi n c : Nat} {A : Option Addr} {xs : List Int} (h : OwnI w lo hi A n c xs) : ∀ a, A = some a → lo ≤ a.block ∧ a.block < hi := fun a ha => by
  subst ha
  exact ⟨(h.1.lt a.block rfl).1, h.2.2.2 a rfl⟩
theorem OwnI.cap_le {w : World} {lo hi n c : Nat} {A : Option Addr} {xs : List Int} (h : OwnI w lo hi A n c xs) : n ≤ c := by
  rcases h.1.2 with ⟨e, h0⟩ | ⟨g, cap, cur, hv, _, _, hc, _⟩
  · omega
  · injection hv with _ _ e; omega
/-- an empty row in a block of its own -/
theorem own_empty (w : World) (lo : Nat) (hlo : lo ≤ w.heap.size) : OwnI (w.alloc (.cells #[] 3)) lo (w.heap.size + 1) (some ⟨w.heap.size, 0, none⟩) 0 0 [] :=
  ⟨⟨rfl, .inr ⟨w.heap.size, 0, #[], rfl, hlo, heap_alloc_new w _, Nat.le_refl _, by unfold maxLen; omega, rfl, rfl⟩⟩, by simp, by simp, fun a ha => by injection ha with ha; subst ha; exact Nat.lt_succ_self _⟩

theorem OwnI.alloc {w : World} {lo hi n c : Nat} {A : Option Addr} {xs : List Int} (h : OwnI w lo hi A n c xs) (o : Obj) : OwnI (w.alloc o) lo hi A n c xs := h.far (World.grownBy_alloc w o none) (fun _ e => by cases e)
theorem OwnI.ne_blk {w : World} {lo hi n c S : Nat} {t : TypeId} {cs : Array Value} {A : Option Addr} {xs : List Int} (h : OwnI w lo hi A n c xs) (hb : Blk w S t cs) (ht : t ≠ 3) : some S ≠ A.map (·.block) := by
  rcases h.1.2 with ⟨e, _⟩ | ⟨g, cap, cur, hv, _, hg, _⟩
  · injection e with e; subst e; simp
  · injection hv with hv
    subst hv
    intro e
    injection e with e
    subst e
    unfold Blk at hb
    rw [hb] at hg
    injection hg with hg
    injection hg with _ ht'
    exact ht ht'
theorem OwnI.set_far {w : World} {lo hi n c : Nat} {A : Option Addr} {xs : List Int} (h : OwnI w lo hi A n c xs) (S k : Nat) (hne : some S ≠ A.map (·.block)) (u : Value) : OwnI (w.setCell ⟨S, k, none⟩ u) lo hi A n c xs := by
  refine ⟨?_, h.2.1, by simpa [World.setCell] using h.2.2.1, h.2.2.2⟩
  refine h.1.kept (grown_setCell w S k u) ?_
  cases A with
  | none => exact .inl rfl
  | some a => exact .inr fun e => hne e.symm

theorem own_value {w : World} {lo n : Nat} {v : Value} {xs : List Int} (h : w.ownsRow lo 3 1 v n (xs.map (Value.int .i64))) (hw : ∀ x ∈ xs, I64 x) : ∃ A c, v = .slice A n c ∧ OwnI w lo w.heap.size A n c xs := by
  rcases h.2 with ⟨rfl, rfl⟩ | ⟨g, cap, cur, rfl, _⟩
  · exact ⟨none, 0, rfl, h, hw, Nat.le_refl _, fun _ e => by cases e⟩
  · exact ⟨_, cap, rfl, h, hw, Nat.le_refl _, fun a ha => (h.lt a.block (by injection ha with ha; subst ha; rfl)).2⟩

theorem below_cat {w w1 w2 : World} {A : Option Addr} (hb : Below w.heap.size w w1) (hg : w1.grownBy w2 (A.map (·.block))) (hA : ∀ a, A = some a → w.heap.size ≤ a.block) : Below w.heap.size w w2 := by
  refine hb.grown hg hb.size (fun g e => ?_)
  cases A with
  | none => cases e
  | some a =>
    have e : a.block = g := by injection e
    have := hA a rfl
    omega
theorem OwnI.cap0 {w : World} {lo hi n c : Nat} {A : Option Addr} {xs : List Int} (h : OwnI w lo hi A n c xs) : A = none → c = 0 := by
  rintro rfl
  rcases h.1.2 with ⟨e, _⟩ | ⟨g, cap, cur, hv, _⟩
  · injection e
  · injection hv with hv; cases hv

theorem Ints.cut {w : World} {b off n i k : Nat} {xs : List Int} (h : Ints w (some ⟨b, off, none⟩) n xs) (hk : i + k ≤ n) : Ints w (some ⟨b, off + i, none⟩) k ((xs.drop i).take k) := by
  refine ⟨by rw [List.length_take, List.length_drop, h.len]; omega, fun x hx => h.wf x (List.mem_of_mem_drop (List.mem_of_mem_take hx)), fun hn => ?_⟩
  obtain ⟨b', off', e, hb, hc⟩ := h.2.2 (by omega)
  injection e with e
  injection e with e1 e2
  subst e1 e2
  refine ⟨b, off + i, rfl, hb, fun j x hx => ?_⟩
  have hj : j < k := by
    have := (List.getElem?_eq_some_iff.1 hx).1
    rw [List.length_take] at this; omega
  rw [List.getElem?_take_of_lt hj, List.getElem?_drop] at hx
  rw [Nat.add_assoc]
  exact hc _ x hx
theorem Ints.take {w : World} {A : Option Addr} {n k : Nat} {xs : List Int} (h : Ints w A n xs) (hk : k ≤ n) : Ints w A k (xs.take k) := by
  refine ⟨by rw [List.length_take, h.len]; omega, fun x hx => h.wf x (List.mem_of_mem_take hx), fun hn => ?_⟩
  obtain ⟨b, off, e, hb, hc⟩ := h.2.2 (by omega)
  refine ⟨b, off, e, hb, fun j x hx => hc j x ?_⟩
  have hj : j < k := by
    have := (List.getElem?_eq_some_iff.1 hx).1
    rw [List.length_take] at this; omega
  rwa [List.getElem?_take_of_lt hj] at hx
theorem OwnI.root {w : World} {lo hi n c : Nat} {A : Option Addr} {xs : List Int} (h : OwnI w lo hi A n c xs) : (A = none ∧ c = 0) ∨ ∃ g, A = some ⟨g, 0, none⟩ := by
  rcases h.1.2 with ⟨e, _⟩ | ⟨g, cap, cur, hv, _⟩
  · injection e with e1 _ e3; exact .inl ⟨e1, e3⟩
  · injection hv with hv; exact .inr ⟨g, hv⟩
theorem Ints.rest {w : World} {A : Option Addr} {n k c : Nat} {xs : List Int} (h : Ints w A n xs) (hk : k ≤ n) (hc : n ≤ c) (hr : (A = none ∧ c = 0) ∨ ∃ g, A = some ⟨g, 0, none⟩) : Ints w (if c = k then A else A.map (·.add k)) (n - k) (xs.drop k) := by
  refine ⟨by rw [List.length_drop, h.len], fun x hx => h.wf x (List.mem_of_mem_drop hx), fun hn => ?_⟩
  rw [if_neg (by omega)]
  obtain ⟨b, off, e, hb, hcell⟩ := h.2.2 (by omega)
  subst e
  rcases hr with ⟨e, _⟩ | ⟨g, e⟩
  · cases e
  · injection e with e
    injection e with e1 e2
    subst e1 e2
    refine ⟨b, k, by simp [add_none], hb, fun j x hx => ?_⟩
    rw [List.getElem?_drop] at hx
    have := hcell _ x hx
    rwa [Nat.zero_add] at this
theorem OwnI.mark_far {w w' : World} {lo hi n c lo2 hi2 n2 c2 : Nat} {A A2 : Option Addr} {xs ys : List Int} (h : OwnI w lo hi A n c xs) (hg : w.grownBy w' (A2.map (·.block))) (h2 : OwnI w lo2 hi2 A2 n2 c2 ys) (hd : hi ≤ lo2 ∨ hi2 ≤ lo) : OwnI w' lo hi A n c xs := by
  refine h.far hg (fun g e => ?_)
  cases A2 with
  | none => cases e
  | some a =>
    have e : a.block = g := by injection e
    have := h2.lo_le a rfl
    omega
theorem below_mark {w w1 w2 : World} {lo hi n c : Nat} {A : Option Addr} {xs : List Int} (hb : Below w.heap.size w w1) (hg : w1.grownBy w2 (A.map (·.block))) (ho : OwnI w1 lo hi A n c xs) (hlo : w.heap.size ≤ lo) : Below w.heap.size w w2 := by
  refine hb.grown hg hb.size (fun g e => ?_)
  cases A with
  | none => cases e
  | some a =>
    have e : a.block = g := by injection e
    have := ho.lo_le a rfl
    omega
theorem OwnI.cap_max {w : World} {lo hi n c : Nat} {A : Option Addr} {xs : List Int} (h : OwnI w lo hi A n c xs) : c ≤ 9223372036854775807 := by
  rcases h.1.2 with ⟨e, h0⟩ | ⟨g, cap, cur, hv, _, _, _, hm, _⟩
  · injection e with _ _ e; omega
  · injection hv with _ _ e; subst e; unfold maxLen at hm; omega

/-! rows of strings -/
def Sz (x : ByteArray) : Prop := x.size ≤ 9223372036854775807
/-- The slice value '.slice A n c' reads as the list xs of ints. -/
def Strs (w : World) (A : Option Addr) (n : Nat) (xs : List ByteArray) : Prop :=
  xs.length = n ∧ (∀ x ∈ xs, Sz x) ∧ (0 < n → ∃ b off, A = some ⟨b, off, none⟩ ∧ b < w.heap.size ∧ ∀ j x, xs[j]? = some x → w.cell? ⟨b, off + j, none⟩ = some (.string x))

section
variable {w w' : World} {A : Option Addr} {n : Nat} {xs : List ByteArray}
theorem Strs.len (h : Strs w A n xs) : xs.length = n := h.1
theorem Strs.wf (h : Strs w A n xs) : ∀ x ∈ xs, Sz x := h.2.1
theorem Strs.nil : Strs w A 0 [] := ⟨rfl, by simp, fun h => absurd h (by omega)⟩
theorem Strs.at_ {k : Nat} (h : Strs w A n xs) (hk : k < n) :
    ∃ b off x, A = some ⟨b, off, none⟩ ∧ xs[k]? = some x ∧ x.size ≤ 9223372036854775807 ∧ w.cell? ⟨b, off + k, none⟩ = some (.string x) := by
  obtain ⟨b, off, e, _, hc⟩ := h.2.2 (by omega)
  have hl : k < xs.length := by have := h.1; omega
  have hx := h.2.1 xs[k] (List.getElem_mem hl)
  exact ⟨b, off, xs[k], e, List.getElem?_eq_getElem hl, hx, hc k _ (List.getElem?_eq_getElem hl)⟩
theorem Strs.keep (h : Strs w A n xs) (hs : w.heap.size ≤ w'.heap.size) (hk : ∀ p : Addr, p.block < w.heap.size → w'.cell? p = w.cell? p) : Strs w' A n xs :=
  ⟨h.1, h.2.1, fun hn => by
    obtain ⟨b, off, e, hb, hc⟩ := h.2.2 hn
    exact ⟨b, off, e, by omega, fun j x hx => (hk _ hb).trans (hc j x hx)⟩⟩
theorem Strs.below (h : Strs w A n xs) (hb : Below w.heap.size w w') : Strs w' A n xs := h.keep hb.size fun _ hp => hb.cell hp
theorem Strs.drewN (h : Strs w A n xs) (k : Nat) : Strs (w.drewN k) A n xs := h
theorem Strs.alloc (h : Strs w A n xs) (o : Obj) : Strs (w.alloc o) A n xs := h.below ((Below.refl _ _).alloc (Nat.le_refl _) o)
end

/-- A row of ints of the call's own: its block lies from lo on and below hi, and may be written. -/
def OwnS (w : World) (lo hi : Nat) (A : Option Addr) (n c : Nat) (xs : List ByteArray) : Prop :=
  w.ownsRow lo 9 1 (.slice A n c) n (xs.map (Value.string)) ∧ (∀ x ∈ xs, Sz x) ∧ hi ≤ w.heap.size ∧ ∀ a, A = some a → a.block < hi

section
variable {w w' : World} {lo hi n c : Nat} {A : Option Addr} {xs : List ByteArray}
theorem OwnS.len (h : OwnS w lo hi A n c xs) : xs.length = n := by have := h.1.1; simpa using this
theorem OwnS.form (h : OwnS w lo hi A n c xs) (hn : 0 < n) : ∃ g, A = some ⟨g, 0, none⟩ ∧ lo ≤ g ∧ g < hi := by
  rcases h.1.2 with ⟨_, h0⟩ | ⟨g, cap, cur, hv, hb, _⟩
  · omega
  · have hA : A = some ⟨g, 0, none⟩ := by injection hv
    exact ⟨g, hA, hb, h.2.2.2 _ hA⟩
theorem OwnS.at_ {k : Nat} (h : OwnS w lo hi A n c xs) (hk : k < n) :
    ∃ g x, A = some ⟨g, 0, none⟩ ∧ lo ≤ g ∧ g < hi ∧ xs[k]? = some x ∧ x.size ≤ 9223372036854775807 ∧ w.cell? ⟨g, k, none⟩ = some (.string x) ∧ w.frozen? ⟨g, k, none⟩ = false := by
  obtain ⟨g, rfl, h1, h2⟩ := h.form (by omega)
  have hl : k < xs.length := by have := h.len; omega
  have hx := h.2.1 xs[k] (List.getElem_mem hl)
  refine ⟨g, xs[k], rfl, h1, h2, List.getElem?_eq_getElem hl, hx, ?_, h.1.frozenAt k⟩
  rw [h.1.cellAt k (by omega)]
  simp [List.getElem?_eq_getElem hl]
theorem OwnS.ints (h : OwnS w lo hi A n c xs) : Strs w A n xs := by
  refine ⟨h.len, h.2.1, fun hn => ?_⟩
  obtain ⟨g, rfl, h1, h2⟩ := h.form hn
  have := h.2.2.1
  refine ⟨g, 0, rfl, by omega, fun j x hx => ?_⟩
  have hj : j < xs.length := (List.getElem?_eq_some_iff.1 hx).1
  have hl := h.len
  rw [Nat.zero_add, h.1.cellAt j (by omega)]
  simp [hx]
theorem OwnS.far {row : Option Nat} (h : OwnS w lo hi A n c xs) (hg : w.grownBy w' row) (hr : ∀ g, row = some g → g < lo ∨ hi ≤ g) : OwnS w' lo hi A n c xs := by
  refine ⟨?_, h.2.1, Nat.le_trans h.2.2.1 hg.size, h.2.2.2⟩
  rcases A with _ | a
  · exact h.1.kept hg (.inl rfl)
  · refine h.1.kept hg (.inr fun e => ?_)
    have h1 := h.1.lt a.block rfl
    have h2 := h.2.2.2 a rfl
    have := hr a.block (by rw [← e]; rfl)
    omega
theorem OwnS.below (h : OwnS w lo hi A n c xs) (hb : Below w.heap.size w w') : OwnS w' lo hi A n c xs := h.far (only_of_below hb none) (fun _ e => by cases e)
theorem OwnS.drewN (h : OwnS w lo hi A n c xs) (k : Nat) : OwnS (w.drewN k) lo hi A n c xs := h
theorem OwnS.wide {lo' hi' : Nat} (h : OwnS w lo hi A n c xs) (h1 : lo' ≤ lo) (h2 : hi ≤ hi') (h3 : hi' ≤ w.heap.size) : OwnS w lo' hi' A n c xs := by
  refine ⟨⟨h.1.1, ?_⟩, h.2.1, h3, fun a ha => by have := h.2.2.2 a ha; omega⟩
  rcases h.1.2 with e | ⟨g, cap, cur, hv, hb, r⟩
  · exact .inl e
  · exact .inr ⟨g, cap, cur, hv, by omega, r⟩
theorem OwnS.store {g k : Nat} {x : ByteArray} (h : OwnS w lo hi (some ⟨g, 0, none⟩) n c xs) (hx : Sz x) :
    OwnS (w.setCell ⟨g, k, none⟩ (.string x)) lo hi (some ⟨g, 0, none⟩) n c (xs.set k x) := by
  refine ⟨?_, ?_, ?_, h.2.2.2⟩
  · have := (h.1.stored k (.string x)).1
    rwa [List.map_set]
  · intro y hy
    rcases List.mem_or_eq_of_mem_set hy with h1 | rfl
    · exact h.2.1 y h1
    · exact hx
  · simpa [World.setCell] using h.2.2.1
theorem OwnS.nil (w : World) (lo hi : Nat) (hh : hi ≤ w.heap.size) : OwnS w lo hi none 0 0 [] := ⟨World.ownsRow_nil _ _ _ _, by simp, hh, fun _ e => by cases e⟩
end

theorem Strs.grown {w w' : World} {A : Option Addr} {n : Nat} {xs : List ByteArray} {row : Option Nat} (h : Strs w A n xs) (hg : w.grownBy w' row) (hr : ∀ a, A = some a → some a.block ≠ row) : Strs w' A n xs :=
  ⟨h.1, h.2.1, fun hn => by
    obtain ⟨b, off, e, hb, hc⟩ := h.2.2 hn
    have := hg.size
    exact ⟨b, off, e, by omega, fun j x hx => (World.cell?_of_block (hg.block b hb (hr _ e))).trans (hc j x hx)⟩⟩

theorem OwnS.lo_le {w : World} {lo hi n c : Nat} {A : Option Addr} {xs : List ByteArray} (h : OwnS w lo hi A n c xs) : ∀ a, A = some a → lo ≤ a.block ∧ a.block < hi := fun a ha => by
  subst ha
  exact ⟨(h.1.lt a.block rfl).1, h.2.2.2 a rfl⟩
theorem OwnS.cap_le {w : World} {lo hi n c : Nat} {A : Option Addr} {xs : List ByteArray} (h : OwnS w lo hi A n c xs) : n ≤ c := by
  rcases h.1.2 with ⟨e, h0⟩ | ⟨g, cap, cur, hv, _, _, hc, _⟩
  · omega
  · injection hv with _ _ e; omega
/-- an empty row in a block of its own -/
theorem own_emptyS (w : World) (lo : Nat) (hlo : lo ≤ w.heap.size) : OwnS (w.alloc (.cells #[] 9)) lo (w.heap.size + 1) (some ⟨w.heap.size, 0, none⟩) 0 0 [] :=
  ⟨⟨rfl, .inr ⟨w.heap.size, 0, #[], rfl, hlo, heap_alloc_new w _, Nat.le_refl _, by unfold maxLen; omega, rfl, rfl⟩⟩, by simp, by simp, fun a ha => by injection ha with ha; subst ha; exact Nat.lt_succ_self _⟩

theorem OwnS.alloc {w : World} {lo hi n c : Nat} {A : Option Addr} {xs : List ByteArray} (h : OwnS w lo hi A n c xs) (o : Obj) : OwnS (w.alloc o) lo hi A n c xs := h.far (World.grownBy_alloc w o none) (fun _ e => by cases e)
theorem OwnS.ne_blk {w : World} {lo hi n c S : Nat} {t : TypeId} {cs : Array Value} {A : Option Addr} {xs : List ByteArray} (h : OwnS w lo hi A n c xs) (hb : Blk w S t cs) (ht : t ≠ 9) : some S ≠ A.map (·.block) := by
  rcases h.1.2 with ⟨e, _⟩ | ⟨g, cap, cur, hv, _, hg, _⟩
  · injection e with e; subst e; simp
  · injection hv with hv
    subst hv
    intro e
    injection e with e
    subst e
    unfold Blk at hb
    rw [hb] at hg
    injection hg with hg
    injection hg with _ ht'
    exact ht ht'
theorem OwnS.set_far {w : World} {lo hi n c : Nat} {A : Option Addr} {xs : List ByteArray} (h : OwnS w lo hi A n c xs) (S k : Nat) (hne : some S ≠ A.map (·.block)) (u : Value) : OwnS (w.setCell ⟨S, k, none⟩ u) lo hi A n c xs := by
  refine ⟨?_, h.2.1, by simpa [World.setCell] using h.2.2.1, h.2.2.2⟩
  refine h.1.kept (grown_setCell w S k u) ?_
  cases A with
  | none => exact .inl rfl
  | some a => exact .inr fun e => hne e.symm

theorem own_valueS {w : World} {lo n : Nat} {v : Value} {xs : List ByteArray} (h : w.ownsRow lo 9 1 v n (xs.map (Value.string))) (hw : ∀ x ∈ xs, Sz x) : ∃ A c, v = .slice A n c ∧ OwnS w lo w.heap.size A n c xs := by
  rcases h.2 with ⟨rfl, rfl⟩ | ⟨g, cap, cur, rfl, _⟩
  · exact ⟨none, 0, rfl, h, hw, Nat.le_refl _, fun _ e => by cases e⟩
  · exact ⟨_, cap, rfl, h, hw, Nat.le_refl _, fun a ha => (h.lt a.block (by injection ha with ha; subst ha; rfl)).2⟩

theorem OwnS.cap0 {w : World} {lo hi n c : Nat} {A : Option Addr} {xs : List ByteArray} (h : OwnS w lo hi A n c xs) : A = none → c = 0 := by
  rintro rfl
  rcases h.1.2 with ⟨e, _⟩ | ⟨g, cap, cur, hv, _⟩
  · injection e
  · injection hv with hv; cases hv

theorem Strs.cut {w : World} {b off n i k : Nat} {xs : List ByteArray} (h : Strs w (some ⟨b, off, none⟩) n xs) (hk : i + k ≤ n) : Strs w (some ⟨b, off + i, none⟩) k ((xs.drop i).take k) := by
  refine ⟨by rw [List.length_take, List.length_drop, h.len]; omega, fun x hx => h.wf x (List.mem_of_mem_drop (List.mem_of_mem_take hx)), fun hn => ?_⟩
  obtain ⟨b', off', e, hb, hc⟩ := h.2.2 (by omega)
  injection e with e
  injection e with e1 e2
  subst e1 e2
  refine ⟨b, off + i, rfl, hb, fun j x hx => ?_⟩
  have hj : j < k := by
    have := (List.getElem?_eq_some_iff.1 hx).1
    rw [List.length_take] at this; omega
  rw [List.getElem?_take_of_lt hj, List.getElem?_drop] at hx
  rw [Nat.add_assoc]
  exact hc _ x hx
theorem Strs.take {w : World} {A : Option Addr} {n k : Nat} {xs : List ByteArray} (h : Strs w A n xs) (hk : k ≤ n) : Strs w A k (xs.take k) := by
  refine ⟨by rw [List.length_take, h.len]; omega, fun x hx => h.wf x (List.mem_of_mem_take hx), fun hn => ?_⟩
  obtain ⟨b, off, e, hb, hc⟩ := h.2.2 (by omega)
  refine ⟨b, off, e, hb, fun j x hx => hc j x ?_⟩
  have hj : j < k := by
    have := (List.getElem?_eq_some_iff.1 hx).1
    rw [List.length_take] at this; omega
  rwa [List.getElem?_take_of_lt hj] at hx
theorem OwnS.root {w : World} {lo hi n c : Nat} {A : Option Addr} {xs : List ByteArray} (h : OwnS w lo hi A n c xs) : (A = none ∧ c = 0) ∨ ∃ g, A = some ⟨g, 0, none⟩ := by
  rcases h.1.2 with ⟨e, _⟩ | ⟨g, cap, cur, hv, _⟩
  · injection e with e1 _ e3; exact .inl ⟨e1, e3⟩
  · injection hv with hv; exact .inr ⟨g, hv⟩
theorem Strs.rest {w : World} {A : Option Addr} {n k c : Nat} {xs : List ByteArray} (h : Strs w A n xs) (hk : k ≤ n) (hc : n ≤ c) (hr : (A = none ∧ c = 0) ∨ ∃ g, A = some ⟨g, 0, none⟩) : Strs w (if c = k then A else A.map (·.add k)) (n - k) (xs.drop k) := by
  refine ⟨by rw [List.length_drop, h.len], fun x hx => h.wf x (List.mem_of_mem_drop hx), fun hn => ?_⟩
  rw [if_neg (by omega)]
  obtain ⟨b, off, e, hb, hcell⟩ := h.2.2 (by omega)
  subst e
  rcases hr with ⟨e, _⟩ | ⟨g, e⟩
  · cases e
  · injection e with e
    injection e with e1 e2
    subst e1 e2
    refine ⟨b, k, by simp [add_none], hb, fun j x hx => ?_⟩
    rw [List.getElem?_drop] at hx
    have := hcell _ x hx
    rwa [Nat.zero_add] at this
theorem OwnS.mark_far {w w' : World} {lo hi n c lo2 hi2 n2 c2 : Nat} {A A2 : Option Addr} {xs ys : List ByteArray} (h : OwnS w lo hi A n c xs) (hg : w.grownBy w' (A2.map (·.block))) (h2 : OwnS w lo2 hi2 A2 n2 c2 ys) (hd : hi ≤ lo2 ∨ hi2 ≤ lo) : OwnS w' lo hi A n c xs := by
  refine h.far hg (fun g e => ?_)
  cases A2 with
  | none => cases e
  | some a =>
    have e : a.block = g := by injection e
    have := h2.lo_le a rfl
    omega
theorem OwnS.cap_max {w : World} {lo hi n c : Nat} {A : Option Addr} {xs : List ByteArray} (h : OwnS w lo hi A n c xs) : c ≤ 9223372036854775807 := by
  rcases h.1.2 with ⟨e, h0⟩ | ⟨g, cap, cur, hv, _, _, _, hm, _⟩
  · injection e with _ _ e; omega
  · injection hv with _ _ e; subst e; unfold maxLen at hm; omega
theorem below_markS {w w1 w2 : World} {lo hi n c : Nat} {A : Option Addr} {xs : List ByteArray} (hb : Below w.heap.size w w1) (hg : w1.grownBy w2 (A.map (·.block))) (ho : OwnS w1 lo hi A n c xs) (hlo : w.heap.size ≤ lo) : Below w.heap.size w w2 := by
  refine hb.grown hg hb.size (fun g e => ?_)
  cases A with
  | none => cases e
  | some a =>
    have e : a.block = g := by injection e
    have := ho.lo_le a rfl
    omega
end Go.Proofs.Ytjhalbmmlcbehaa

